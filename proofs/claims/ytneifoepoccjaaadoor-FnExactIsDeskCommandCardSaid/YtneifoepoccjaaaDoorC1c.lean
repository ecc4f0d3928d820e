/-
  What each function gives when it is called: the contracts, each with the walk through its code. Written by a program of ours.
-/
import Derived.Test.YtneifoepoccjaaaDoorC10
import Derived.Test.YtneifoepoccjaaaDoorC1a
import Derived.Test.YtneifoepoccjaaaDoorC1b
namespace Go.Proofs.YtneifoepoccjaaaDoor
open Go Go.Proofs Go.Shelf
set_option maxHeartbeats 16000000
theorem c_spec_l01Numbers (words : List (List UInt8)) (a_words : Option Addr) (c_words : Nat) {r : List Int × Bool} (h : spec_l01Numbers words = some r) : CallOK Tryd.prog 89 [.slice a_words (List.length words) c_words] [] [gTab 3 pow10C, gNum 0, gErr 1, gErr 2] [SL false 9 strS a_words c_words words] (fun v outs ros => ∃ (a0 : Option Addr), ∃ (c0 : Nat), v = .tuple #[.slice a0 (List.length r.1) c0, .bool r.2] ∧ outs = [SL false 2 (intS .i64) a0 c0 r.1] ∧ ros = []) := by
  refine fn_ok Tryd.func89 rfl Tryd.ntmps89 rfl (fun c hF0 => ?_)
  unfold spec_l01Numbers at h
  refine g_seq ?_
  refine g_region ?_
  refine gl_batch 2 [(3, .bool false), (2, .slice none 0 0)] rfl ?_
  refine gl_nil ?_
  refine gx_seq ?_
  refine g_seq ?_
  refine g_region ?_
  refine gl_lit (m := 1) (d := 8) (T := 2) (enc := fun x => [.int .i64 x]) (hn := fun _ => rfl) false ([] : List Int) rfl rfl (fun _ => rfl) nofun (Nat.le_of_ble_eq_true rfl) (fun w => by kernel_rfl) ?_
  intro a_v1 c_v2
  refine gl_batch 1 [(4, .slice a_v1 (List.length ([] : List Int)) c_v2)] rfl ?_
  refine gl_nil ?_
  refine gx_seq ?_
  refine g_seq ?_
  refine g_seq ?_
  refine g_region ?_
  refine gl_batch 1 [(5, .int .i64 0)] rfl ?_
  refine gl_nil ?_
  refine gx_seq ?_
  refine g_block ?_
  obtain ⟨o3, ho3, h⟩ := bindS h
  refine g_loop (spec_l01Numbers_L1 words) (fun (ss_ : (List Int) × Int) a w => ∃ (a_ss__r0 : Option Addr), ∃ (c_ss__r0 : Nat), Env a 30 [(0, .slice a_words (List.length words) c_words), (4, .slice a_ss__r0 (List.length ss_.1) c_ss__r0), (5, .int .i64 ss_.2)] ∧ St c w [SL false 2 (intS .i64) a_ss__r0 c_ss__r0 ss_.1] [gTab 3 pow10C, gNum 0, gErr 1, gErr 2] [SL false 9 strS a_words c_words words] []) (Sum.elim (fun (ss_ : Unit) e a w => e = .ret ∧ Env a 30 [(2, .slice none 0 0), (3, .bool false)] ∧ St c w [] [gTab 3 pow10C, gNum 0, gErr 1, gErr 2] [SL false 9 strS a_words c_words words] []) (fun (ss_ : (List Int)) e a w => e = (.exit 0) ∧ ∃ (a_ss__r0 : Option Addr), ∃ (c_ss__r0 : Nat), Env a 30 [(4, .slice a_ss__r0 (List.length ss_) c_ss__r0)] ∧ St c w [SL false 2 (intS .i64) a_ss__r0 c_ss__r0 ss_] [gTab 3 pow10C, gNum 0, gErr 1, gErr 2] [SL false 9 strS a_words c_words words] []) : (Sum Unit (List Int)) → Exit → Act → World → Prop) ho3 ?_ ?_ ?_
  · exact fun a w hE hS => ⟨a_v1, c_v2, hE.sub ⟨rfl, rfl, rfl, trivial⟩, (hS.take 1).facts _ _ [] (consItem (mem_at 0 rfl) (consItem (mem_at 1 rfl) (consItem (mem_at 2 rfl) (consItem (mem_at 3 rfl) noItem)))) (consItem (mem_at 0 rfl) noItem) noItem⟩
  · intro s4 o5 h a w hA
    obtain ⟨a_s4_r0, c_s4_r0, hE, hS⟩ := hA
    unfold spec_l01Numbers_L1 at h
    refine g_enter hE hS ?_
    refine g_seq ?_
    refine g_seq ?_
    refine g_region ?_
    refine gl_batch 2 [(10, .slice a_words (List.length words) c_words), (9, .int .i64 s4.2)] rfl ?_
    refine gl_len rfl Fs71 rfl rfl ?_
    refine gl_batch 1 [(12, .bool (decide (s4.2 < (List.length words : Int))))] rfl ?_
    refine gl_nil ?_
    refine gx_seq ?_
    refine g_cond (b := decide (s4.2 < (List.length words : Int))) rfl (fun hc => ?_) (fun hc => ?_)
    · replace h := condT hc h
      refine g_skip ?_
      refine gx_seq ?_
      refine g_seq ?_
      refine g_block ?_
      refine g_seq ?_
      refine g_region ?_
      refine gl_batch 2 [(17, .int .i64 s4.2), (16, .slice a_words (List.length words) c_words)] rfl ?_
      obtain ⟨x6, hx6, h⟩ := bindS h
      refine gl_idxOn (k := .i64) (mem_at 0 rfl) rfl rfl Fs71 Fz9 hx6 rfl rfl ?_
      intro p7
      refine gl_ld1 0 hasAT (mem_at 1 rfl) rfl rfl Fo9 rfl rfl rfl ?_
      obtain ⟨o8, ho8, h⟩ := bindS h
      refine gl_call rfl rfl (fun w => by kernel_rfl) (c_spec_l01Signed x6 ho8) (consItem (mem_at 0 rfl) (consItem (mem_at 1 rfl) (consItem (mem_at 2 rfl) (consItem (mem_at 3 rfl) noItem)))) noItem ?_
      rintro v outs ros ⟨rfl, rfl, rfl⟩
      refine ⟨_, rfl, ?_⟩
      refine gl_batch 5 [(7, .bool o8.2), (6, .int .i64 o8.1), (22, .bool o8.2), (21, .int .i64 o8.1), (15, .tuple #[.int .i64 o8.1, .bool o8.2])] rfl ?_
      refine gl_nil ?_
      refine gx_seq ?_
      refine g_seq ?_
      refine g_seq ?_
      refine g_region ?_
      refine gl_batch 2 [(24, .bool (!o8.2)), (23, .bool o8.2)] rfl ?_
      refine gl_nil ?_
      refine gx_seq ?_
      refine g_cond (b := !o8.2) rfl (fun hc => ?_) (fun hc => ?_)
      · replace h := condT hc h
        refine g_seq ?_
        refine g_region ?_
        refine gl_batch 2 [(3, .bool false), (2, .slice none 0 0)] rfl ?_
        refine gl_nil ?_
        refine gx_seq ?_
        refine g_ret ?_
        refine gx_seq_ret ?_
        refine gx_blk_ret ?_
        refine gx_seq_ret ?_
        obtain rfl := Option.some.inj h
        exact gx_of (fun a w hE hS => lp_out nofun (inL ⟨rfl, hE.sub ⟨rfl, rfl, trivial⟩, (hS.take 0).facts _ _ [] (consItem (mem_at 0 rfl) (consItem (mem_at 1 rfl) (consItem (mem_at 2 rfl) (consItem (mem_at 3 rfl) noItem)))) (consItem (mem_at 1 rfl) noItem) noItem⟩))
      · replace h := condF hc h
        refine g_skip ?_
        refine gx_seq ?_
        refine g_region ?_
        refine gl_batch 2 [(26, .int .i64 o8.1), (25, .slice a_s4_r0 (List.length s4.1) c_s4_r0)] rfl ?_
        refine gl_lit (m := 1) (d := 27) (T := 2) (enc := fun x => [.int .i64 x]) (hn := fun _ => rfl) false [o8.1] rfl rfl (fun _ => rfl) nofun (Nat.le_of_ble_eq_true rfl) (fun w => by kernel_rfl) ?_
        intro a_v9 c_v10
        refine gl_pick 1 rfl ?_
        obtain ⟨z11, hz11, h⟩ := bindS h
        refine gl_appn (mem_at 1 rfl) rfl rfl Fs82 Fi2 rfl rfl (fun _ => rfl) hz11 rfl rfl ?_
        intro a_v12 c_v13
        refine gl_batch 1 [(4, .slice a_v12 (List.length z11) c_v13)] rfl ?_
        refine gl_nil ?_
        refine gx_blk ?_
        refine gx_seq ?_
        refine g_region ?_
        refine gl_batch 3 [(5, .int .i64 (IntKind.i64.wrap (s4.2 + 1))), (14, .int .i64 (IntKind.i64.wrap (s4.2 + 1))), (13, .int .i64 s4.2)] rfl ?_
        refine gl_nil ?_
        obtain rfl := Option.some.inj h
        exact gx_of (fun a w hE hS => lp_in ⟨a_v12, c_v13, hE.sub ⟨rfl, rfl, rfl, trivial⟩, (hS.take 1).facts _ _ [] (consItem (mem_at 0 rfl) (consItem (mem_at 1 rfl) (consItem (mem_at 2 rfl) (consItem (mem_at 3 rfl) noItem)))) (consItem (mem_at 1 rfl) noItem) noItem⟩)
    · replace h := condF hc h
      refine g_exit ?_
      refine gx_seq_exit ?_
      obtain rfl := Option.some.inj h
      exact gx_of (fun a w hE hS => lp_out nofun (inR ⟨rfl, a_s4_r0, c_s4_r0, hE.sub ⟨rfl, trivial⟩, (hS.take 1).facts _ _ [] (consItem (mem_at 0 rfl) (consItem (mem_at 1 rfl) (consItem (mem_at 2 rfl) (consItem (mem_at 3 rfl) noItem)))) (consItem (mem_at 0 rfl) noItem) noItem⟩))
  · intro e a w hm
    rcases o3 with s14 | s15
    · replace h := elimL h
      obtain ⟨rfl, hE, hS⟩ := hm
      refine gx_to hE hS ?_
      refine gx_blk_ret ?_
      refine gx_seq_ret ?_
      obtain rfl := Option.some.inj h
      exact gx_fin rfl [.slice none 0 0, .bool false] _ _ [] ⟨_, _, rfl, rfl, _, _, rfl, rfl, rfl⟩ rfl ⟨none, 0, rfl, rfl, rfl⟩ (fun w hS => ((hS.nil false 2 (intS .i64)).take 1).facts [] [] [] noItem noItem noItem) (Or.inl rfl)
    · replace h := elimR h
      obtain ⟨rfl, a_s15_r0, c_s15_r0, hE, hS⟩ := hm
      refine gx_to hE hS ?_
      refine gx_blk_hit ?_
      refine gx_seq ?_
      refine g_seq ?_
      refine g_region ?_
      refine gl_batch 3 [(3, .bool true), (2, .slice a_s15_r0 (List.length s15) c_s15_r0), (29, .slice a_s15_r0 (List.length s15) c_s15_r0)] rfl ?_
      refine gl_nil ?_
      refine gx_seq ?_
      refine g_ret ?_
      obtain rfl := Option.some.inj h
      exact gx_fin rfl [.slice a_s15_r0 (List.length s15) c_s15_r0, .bool true] _ _ [] ⟨_, _, rfl, rfl, _, _, rfl, rfl, rfl⟩ rfl ⟨a_s15_r0, c_s15_r0, rfl, rfl, rfl⟩ (fun w hS => (hS.take 1).facts [] [] [] noItem noItem noItem) (Or.inl rfl)

theorem c_slices_ContainsFunc_Firing_isWritable_c1 (s : List Firing) (a_s : Option Addr) (c_s : Nat) {r : Bool} (h : slices_ContainsFunc_Firing_isWritable_c1 s = some r) : CallOK Tryd.prog 84 [.slice a_s (List.length s) c_s, .func (.func 85) #[] #[]] [] [gTab 3 pow10C, gNum 0, gErr 1, gErr 2] [SL false 47 FiringS a_s c_s s] (fun v outs ros => v = .bool r ∧ outs = [] ∧ ros = []) := by
  refine fn_ok Tryd.func84 rfl Tryd.ntmps84 rfl (fun c hF0 => ?_)
  unfold slices_ContainsFunc_Firing_isWritable_c1 at h
  refine g_seq ?_
  refine g_region ?_
  refine gl_batch 1 [(4, .bool false)] rfl ?_
  refine gl_nil ?_
  refine gx_seq ?_
  refine g_seq ?_
  refine g_region ?_
  refine gl_batch 2 [(6, .func (.func 85) #[] #[]), (5, .slice a_s (List.length s) c_s)] rfl ?_
  obtain ⟨o1, ho1, h⟩ := bindS h
  refine gl_call rfl rfl (fun w => by kernel_rfl) (c_slices_IndexFunc_Firing_isWritable_c1 s a_s c_s ho1) (consItem (mem_at 0 rfl) (consItem (mem_at 1 rfl) (consItem (mem_at 2 rfl) (consItem (mem_at 3 rfl) noItem)))) (consItem (mem_at 0 rfl) noItem) ?_
  rintro v outs ros ⟨rfl, rfl, rfl⟩
  refine ⟨_, rfl, ?_⟩
  refine gl_batch 2 [(4, .bool (decide (o1 ≥ 0))), (8, .bool (decide (o1 ≥ 0)))] rfl ?_
  refine gl_nil ?_
  refine gx_seq ?_
  refine g_ret ?_
  obtain rfl := Option.some.inj h
  exact gx_fin rfl [.bool (decide (o1 ≥ 0))] _ _ [] ⟨_, _, rfl, rfl, rfl⟩ rfl ⟨rfl, rfl, rfl⟩ (fun w hS => (hS.take 0).facts [] [] [] noItem noItem noItem) (Or.inl rfl)

theorem c_spec_ChainAfter (run : List Firing) (a_run : Option Addr) (c_run : Nat) {r : Int × Int} (h : spec_ChainAfter run = some r) : CallOK Tryd.prog 62 [.slice a_run (List.length run) c_run] [] [gTab 3 pow10C, gNum 0, gErr 1, gErr 2] [SL false 47 FiringS a_run c_run run] (fun v outs ros => v = .tuple #[.int .i64 r.1, .int .i64 r.2] ∧ outs = [] ∧ ros = []) := by
  refine fn_ok Tryd.func62 rfl Tryd.ntmps62 rfl (fun c hF0 => ?_)
  unfold spec_ChainAfter at h
  refine g_seq ?_
  refine g_region ?_
  refine gl_batch 2 [(3, .int .i64 0), (2, .int .i64 0)] rfl ?_
  refine gl_nil ?_
  refine gx_seq ?_
  refine g_seq ?_
  refine g_seq ?_
  refine g_region ?_
  refine gl_batch 1 [(6, .slice a_run (List.length run) c_run)] rfl ?_
  obtain ⟨o1, ho1, h⟩ := bindS h
  refine gl_call rfl rfl (fun w => by kernel_rfl) (c_spec_l28All run a_run c_run ho1) (consItem (mem_at 0 rfl) (consItem (mem_at 1 rfl) (consItem (mem_at 2 rfl) (consItem (mem_at 3 rfl) noItem)))) (consItem (mem_at 0 rfl) noItem) ?_
  rintro v outs ros ⟨rfl, rfl, rfl⟩
  refine ⟨_, rfl, ?_⟩
  refine gl_batch 1 [(8, .bool (!o1))] rfl ?_
  refine gl_nil ?_
  refine gx_seq ?_
  refine g_cond (b := !o1) rfl (fun hc => ?_) (fun hc => ?_)
  · replace h := condT hc h
    refine g_seq ?_
    refine g_region ?_
    refine gl_batch 2 [(3, .int .i64 2), (2, .int .i64 0)] rfl ?_
    refine gl_nil ?_
    refine gx_seq ?_
    refine g_ret ?_
    refine gx_seq_ret ?_
    obtain rfl := Option.some.inj h
    exact gx_fin rfl [.int .i64 0, .int .i64 2] _ _ [] ⟨_, _, rfl, rfl, _, _, rfl, rfl, rfl⟩ rfl ⟨rfl, rfl, rfl⟩ (fun w hS => (hS.take 0).facts [] [] [] noItem noItem noItem) (Or.inl rfl)
  · replace h := condF hc h
    refine g_skip ?_
    refine gx_seq ?_
    refine g_seq ?_
    refine g_region ?_
    refine gl_batch 1 [(4, .int .i64 1)] rfl ?_
    refine gl_nil ?_
    refine gx_seq ?_
    refine g_seq ?_
    refine g_seq ?_
    refine g_region ?_
    refine gl_batch 1 [(5, .int .i64 0)] rfl ?_
    refine gl_nil ?_
    refine gx_seq ?_
    refine g_block ?_
    obtain ⟨o2, ho2, h⟩ := bindS h
    refine g_loop (spec_ChainAfter_L1 run) (fun (ss_ : Int × Int) a w => Env a 22 [(0, .slice a_run (List.length run) c_run), (4, .int .i64 ss_.1), (5, .int .i64 ss_.2)] ∧ St c w [] [gTab 3 pow10C, gNum 0, gErr 1, gErr 2] [SL false 47 FiringS a_run c_run run] []) ((fun (ss_ : Int) e a w => e = (.exit 0) ∧ Env a 22 [(4, .int .i64 ss_)] ∧ St c w [] [gTab 3 pow10C, gNum 0, gErr 1, gErr 2] [SL false 47 FiringS a_run c_run run] []) : (Int) → Exit → Act → World → Prop) ho2 ?_ ?_ ?_
    · exact fun a w hE hS => ⟨hE.sub ⟨rfl, rfl, rfl, trivial⟩, (hS.take 0).facts _ _ [] (consItem (mem_at 0 rfl) (consItem (mem_at 1 rfl) (consItem (mem_at 2 rfl) (consItem (mem_at 3 rfl) noItem)))) (consItem (mem_at 0 rfl) noItem) noItem⟩
    · intro s3 o4 h a w hA
      obtain ⟨hE, hS⟩ := hA
      unfold spec_ChainAfter_L1 at h
      refine g_enter hE hS ?_
      refine g_seq ?_
      refine g_seq ?_
      refine g_region ?_
      refine gl_batch 2 [(10, .slice a_run (List.length run) c_run), (9, .int .i64 s3.2)] rfl ?_
      refine gl_len rfl Fs26 rfl rfl ?_
      refine gl_batch 1 [(12, .bool (decide (s3.2 < (List.length run : Int))))] rfl ?_
      refine gl_nil ?_
      refine gx_seq ?_
      refine g_cond (b := decide (s3.2 < (List.length run : Int))) rfl (fun hc => ?_) (fun hc => ?_)
      · replace h := condT hc h
        refine g_skip ?_
        refine gx_seq ?_
        refine g_seq ?_
        refine g_block ?_
        refine g_region ?_
        refine gl_batch 3 [(17, .int .i64 s3.2), (16, .slice a_run (List.length run) c_run), (15, .int .i64 s3.1)] rfl ?_
        obtain ⟨x5, hx5, h⟩ := bindS h
        refine gl_idxOn (k := .i64) (mem_at 0 rfl) rfl rfl Fs26 Fz47 hx5 rfl rfl ?_
        intro p6
        refine gl_ldA (vs := [.int .i64 x5.Event, .int .i64 x5.Number, .int .i64 x5.Time]) 0 hasAT (mem_at 0 rfl) rfl rfl Fm47 Fz47 rfl rfl rfl ?_
        refine gl_call rfl rfl (fun w => by kernel_rfl) (c_spec_l28Next s3.1 x5 rfl) (consItem (mem_at 0 rfl) (consItem (mem_at 1 rfl) (consItem (mem_at 2 rfl) (consItem (mem_at 3 rfl) noItem)))) noItem ?_
        rintro v outs ros ⟨rfl, rfl, rfl⟩
        refine ⟨_, rfl, ?_⟩
        refine gl_batch 1 [(4, .int .i64 (spec_l28Next s3.1 x5))] rfl ?_
        refine gl_nil ?_
        refine gx_blk ?_
        refine gx_seq ?_
        refine g_region ?_
        refine gl_batch 3 [(5, .int .i64 (IntKind.i64.wrap (s3.2 + 1))), (14, .int .i64 (IntKind.i64.wrap (s3.2 + 1))), (13, .int .i64 s3.2)] rfl ?_
        refine gl_nil ?_
        obtain rfl := Option.some.inj h
        exact gx_of (fun a w hE hS => lp_in ⟨hE.sub ⟨rfl, rfl, rfl, trivial⟩, (hS.take 0).facts _ _ [] (consItem (mem_at 0 rfl) (consItem (mem_at 1 rfl) (consItem (mem_at 2 rfl) (consItem (mem_at 3 rfl) noItem)))) (consItem (mem_at 1 rfl) noItem) noItem⟩)
      · replace h := condF hc h
        refine g_exit ?_
        refine gx_seq_exit ?_
        obtain rfl := Option.some.inj h
        exact gx_of (fun a w hE hS => lp_out nofun (⟨rfl, hE.sub ⟨rfl, trivial⟩, (hS.take 0).facts _ _ [] (consItem (mem_at 0 rfl) (consItem (mem_at 1 rfl) (consItem (mem_at 2 rfl) (consItem (mem_at 3 rfl) noItem)))) (consItem (mem_at 0 rfl) noItem) noItem⟩))
    · intro e a w hm
      obtain ⟨rfl, hE, hS⟩ := hm
      refine gx_to hE hS ?_
      refine gx_blk_hit ?_
      refine gx_seq ?_
      refine g_seq ?_
      refine g_region ?_
      refine gl_batch 3 [(3, .int .i64 0), (2, .int .i64 o2), (21, .int .i64 o2)] rfl ?_
      refine gl_nil ?_
      refine gx_seq ?_
      refine g_ret ?_
      obtain rfl := Option.some.inj h
      exact gx_fin rfl [.int .i64 o2, .int .i64 0] _ _ [] ⟨_, _, rfl, rfl, _, _, rfl, rfl, rfl⟩ rfl ⟨rfl, rfl, rfl⟩ (fun w hS => (hS.take 0).facts [] [] [] noItem noItem noItem) (Or.inl rfl)

theorem c_impl_traceText (run : List Firing) (a_run : Option Addr) (c_run : Nat) {r : List UInt8 × Int} (h : impl_traceText run = some r) : CallOK Tryd.prog 46 [.slice a_run (List.length run) c_run] [] [gTab 3 pow10C, gNum 0, gErr 1, gErr 2] [SL false 47 FiringS a_run c_run run] (fun v outs ros => v = .tuple #[str r.1, .int .i64 r.2] ∧ outs = [] ∧ ros = []) := by
  refine fn_ok Tryd.func46 rfl Tryd.ntmps46 rfl (fun c hF0 => ?_)
  unfold impl_traceText at h
  refine g_seq ?_
  refine g_region ?_
  refine gl_batch 2 [(3, .int .i64 0), (2, str [])] rfl ?_
  refine gl_nil ?_
  refine gx_seq ?_
  refine g_seq ?_
  refine g_region ?_
  refine gl_new (d := 4) (T := 109) [.pointer none, .slice none 0 0] rfl rfl (fun _ => rfl) (fun w => by kernel_rfl) ?_
  intro b1
  refine gl_st (fun w hS => St.newB (T := 109) (eT := 5) hS) ?_
  refine gl_nil ?_
  refine gx_seq ?_
  refine g_seq ?_
  refine g_region ?_
  refine gl_batch 1 [(5, .int .i64 1)] rfl ?_
  refine gl_nil ?_
  refine gx_seq ?_
  refine g_seq ?_
  refine g_seq ?_
  refine g_region ?_
  refine gl_batch 1 [(10, .slice a_run (List.length run) c_run)] rfl ?_
  refine gl_len rfl Fs26 rfl rfl ?_
  refine gl_batch 1 [(12, .int .i64 0)] rfl ?_
  refine gl_nil ?_
  refine gx_seq ?_
  refine g_block ?_
  obtain ⟨o2, ho2, h⟩ := bindS h
  refine g_loop (impl_traceText_L1 run) (fun (ss_ : (List UInt8) × Int × Int) a w => Env a 28 [(4, .pointer (some ⟨b1, 0, none⟩)), (5, .int .i64 ss_.2.1), (10, .slice a_run (List.length run) c_run), (11, .int .i64 (List.length run : Int)), (12, .int .i64 ss_.2.2)] ∧ St c w [BLD 109 5 b1 ss_.1] [gTab 3 pow10C, gNum 0, gErr 1, gErr 2] [SL false 47 FiringS a_run c_run run] []) ((fun (ss_ : (List UInt8) × Int) e a w => e = (.exit 0) ∧ Env a 28 [(4, .pointer (some ⟨b1, 0, none⟩)), (5, .int .i64 ss_.2)] ∧ St c w [BLD 109 5 b1 ss_.1] [gTab 3 pow10C, gNum 0, gErr 1, gErr 2] [SL false 47 FiringS a_run c_run run] []) : ((List UInt8) × Int) → Exit → Act → World → Prop) ho2 ?_ ?_ ?_
  · exact fun a w hE hS => ⟨hE.sub ⟨rfl, rfl, rfl, rfl, rfl, trivial⟩, (hS.take 1).facts _ _ [] (consItem (mem_at 0 rfl) (consItem (mem_at 1 rfl) (consItem (mem_at 2 rfl) (consItem (mem_at 3 rfl) noItem)))) (consItem (mem_at 0 rfl) noItem) noItem⟩
  · intro s3 o4 h a w hA
    obtain ⟨hE, hS⟩ := hA
    unfold impl_traceText_L1 at h
    refine g_enter hE hS ?_
    refine g_seq ?_
    refine g_region ?_
    refine gl_batch 1 [(13, .bool (decide (s3.2.2 < (List.length run : Int))))] rfl ?_
    refine gl_nil ?_
    refine gx_seq ?_
    refine g_seq ?_
    refine g_cond (b := decide (s3.2.2 < (List.length run : Int))) rfl (fun hc => ?_) (fun hc => ?_)
    · replace h := condT hc h
      refine g_skip ?_
      refine gx_seq ?_
      refine g_seq ?_
      refine g_block ?_
      refine g_seq ?_
      refine g_region ?_
      obtain ⟨x5, hx5, h⟩ := bindS h
      refine gl_idxOn (k := .i64) (mem_at 0 rfl) rfl rfl Fs26 Fz47 hx5 rfl rfl ?_
      intro p6
      refine gl_ldA (vs := [.int .i64 x5.Event, .int .i64 x5.Number, .int .i64 x5.Time]) 0 hasAT (mem_at 1 rfl) rfl rfl Fm47 Fz47 rfl rfl rfl ?_
      refine gl_new (d := 7) (T := 47) [.int .i64 0, .int .i64 0, .int .i64 0] rfl rfl (fun _ => rfl) (fun w => by kernel_rfl) ?_
      intro b7
      refine gl_stB (cells' := [.int .i64 x5.Event, .int .i64 x5.Number, .int .i64 x5.Time]) 0 [.int .i64 x5.Event, .int .i64 x5.Number, .int .i64 x5.Time] rfl rfl rfl Fz47 rfl rfl rfl rfl ?_
      refine gl_nil ?_
      refine gx_seq ?_
      refine g_seq ?_
      refine g_region ?_
      refine gl_ldA (vs := [.int .i64 x5.Event, .int .i64 x5.Number, .int .i64 x5.Time]) 0 hasBK (mem_at 0 rfl) rfl rfl Fm47 Fz47 rfl rfl rfl ?_
      refine gl_batch 1 [(18, .int .i64 s3.2.1)] rfl ?_
      obtain ⟨o8, ho8, h⟩ := bindS h
      refine gl_call rfl rfl (fun w => by kernel_rfl) (c_impl_traceLine x5 s3.2.1 ho8) (consItem (mem_at 0 rfl) (consItem (mem_at 1 rfl) (consItem (mem_at 2 rfl) (consItem (mem_at 3 rfl) noItem)))) noItem ?_
      rintro v outs ros ⟨rfl, rfl, rfl⟩
      refine ⟨_, rfl, ?_⟩
      refine gl_batch 5 [(9, .int .i64 o8.2), (8, str o8.1), (21, .int .i64 o8.2), (20, str o8.1), (16, .tuple #[str o8.1, .int .i64 o8.2])] rfl ?_
      refine gl_nil ?_
      refine gx_seq ?_
      refine g_seq ?_
      refine g_region ?_
      refine gl_batch 1 [(22, str o8.1)] rfl ?_
      obtain ⟨o9, ho9, h⟩ := bindS h
      refine gl_pick 1 rfl ?_
      refine gl_callIn rfl rfl (fun w => by kernel_rfl) (c_strings_Builder_WriteString s3.1 o8.1 b1 ho9) (consItem (mem_at 0 rfl) (consItem (mem_at 1 rfl) (consItem (mem_at 2 rfl) (consItem (mem_at 3 rfl) noItem)))) noItem ?_
      rintro v outs ros ⟨rfl, rfl, rfl⟩
      refine ⟨_, rfl, ?_⟩
      refine gl_nil ?_
      refine gx_seq ?_
      refine g_region ?_
      refine gl_batch 2 [(5, .int .i64 o8.2), (24, .int .i64 o8.2)] rfl ?_
      refine gl_nil ?_
      refine gx_blk ?_
      refine gx_seq ?_
      refine g_region ?_
      refine gl_batch 2 [(12, .int .i64 (IntKind.i64.wrap (s3.2.2 + 1))), (25, .int .i64 (IntKind.i64.wrap (s3.2.2 + 1)))] rfl ?_
      refine gl_nil ?_
      obtain rfl := Option.some.inj h
      exact gx_of (fun a w hE hS => lp_in ⟨hE.sub ⟨rfl, rfl, rfl, rfl, rfl, trivial⟩, (hS.take 1).facts _ _ [] (consItem (mem_at 0 rfl) (consItem (mem_at 1 rfl) (consItem (mem_at 2 rfl) (consItem (mem_at 3 rfl) noItem)))) (consItem (mem_at 1 rfl) noItem) noItem⟩)
    · replace h := condF hc h
      refine g_exit ?_
      refine gx_seq_exit ?_
      obtain rfl := Option.some.inj h
      exact gx_of (fun a w hE hS => lp_out nofun (⟨rfl, hE.sub ⟨rfl, rfl, trivial⟩, (hS.take 1).facts _ _ [] (consItem (mem_at 0 rfl) (consItem (mem_at 1 rfl) (consItem (mem_at 2 rfl) (consItem (mem_at 3 rfl) noItem)))) (consItem (mem_at 0 rfl) noItem) noItem⟩))
  · intro e a w hm
    obtain ⟨rfl, hE, hS⟩ := hm
    refine gx_to hE hS ?_
    refine gx_blk_hit ?_
    refine gx_seq ?_
    refine g_seq ?_
    refine g_region ?_
    refine gl_callIn rfl rfl (fun w => by kernel_rfl) (c_strings_Builder_String o2.1 b1 rfl) (consItem (mem_at 0 rfl) (consItem (mem_at 1 rfl) (consItem (mem_at 2 rfl) (consItem (mem_at 3 rfl) noItem)))) noItem ?_
    rintro v outs ros ⟨rfl, rfl, rfl⟩
    refine ⟨_, rfl, ?_⟩
    refine gl_batch 3 [(3, .int .i64 o2.2), (2, str (strings_Builder_String o2.1)), (27, .int .i64 o2.2)] rfl ?_
    refine gl_nil ?_
    refine gx_seq ?_
    refine g_ret ?_
    obtain rfl := Option.some.inj h
    exact gx_fin rfl [str (strings_Builder_String o2.1), .int .i64 o2.2] _ _ [] ⟨_, _, rfl, rfl, _, _, rfl, rfl, rfl⟩ rfl ⟨rfl, rfl, rfl⟩ (fun w hS => (hS.take 0).facts [] [] [] noItem noItem noItem) (Or.inl rfl)

theorem c_impl_readCommand (line : List UInt8)  {r : List UInt8 × List Int × Bool} (h : impl_readCommand line = some r) : CallOK Tryd.prog 58 [str line] [] [gTab 3 pow10C, gNum 0, gErr 1, gErr 2] [] (fun v outs ros => ∃ (a0 : Option Addr), ∃ (c0 : Nat), v = .tuple #[str r.1, .slice a0 (List.length r.2.1) c0, .bool r.2.2] ∧ outs = [SL false 2 (intS .i64) a0 c0 r.2.1] ∧ ros = []) := by
  refine fn_ok Tryd.func58 rfl Tryd.ntmps58 rfl (fun c hF0 => ?_)
  unfold impl_readCommand at h
  refine g_seq ?_
  refine g_region ?_
  refine gl_batch 3 [(4, .bool false), (3, .slice none 0 0), (2, str [])] rfl ?_
  refine gl_nil ?_
  refine gx_seq ?_
  refine g_seq ?_
  refine g_region ?_
  refine gl_batch 1 [(16, str line)] rfl ?_
  obtain ⟨o1, ho1, h⟩ := bindS h
  refine gl_call rfl rfl (fun w => by kernel_rfl) (c_strings_Cut line ([32] : List UInt8) ho1) (consItem (mem_at 0 rfl) (consItem (mem_at 1 rfl) (consItem (mem_at 2 rfl) (consItem (mem_at 3 rfl) noItem)))) noItem ?_
  rintro v outs ros ⟨rfl, rfl, rfl⟩
  refine ⟨_, rfl, ?_⟩
  refine gl_batch 7 [(7, .bool o1.2.2), (6, str o1.2.1), (5, str o1.1), (20, .bool o1.2.2), (19, str o1.2.1), (18, str o1.1), (15, .tuple #[str o1.1, str o1.2.1, .bool o1.2.2])] rfl ?_
  refine gl_nil ?_
  refine gx_seq ?_
  refine g_seq ?_
  refine g_region ?_
  refine gl_batch 1 [(21, str o1.1)] rfl ?_
  refine gl_call rfl rfl (fun w => by kernel_rfl) (c_impl_commandForm o1.1 rfl) (consItem (mem_at 0 rfl) (consItem (mem_at 1 rfl) (consItem (mem_at 2 rfl) (consItem (mem_at 3 rfl) noItem)))) noItem ?_
  rintro v outs ros ⟨rfl, rfl, rfl⟩
  refine ⟨_, rfl, ?_⟩
  refine gl_batch 1 [(8, .int .i64 (impl_commandForm o1.1))] rfl ?_
  refine gl_nil ?_
  refine gx_seq ?_
  refine g_block ?_
  refine g_seq ?_
  refine g_region ?_
  refine gl_batch 3 [(54, .bool ((impl_commandForm o1.1) == (-2))), (56, .bool ((impl_commandForm o1.1) == (-2))), (55, .int .i64 (impl_commandForm o1.1))] rfl ?_
  refine gl_nil ?_
  refine gx_seq ?_
  refine g_cond (b := (impl_commandForm o1.1) == (-2)) rfl (fun hc => ?_) (fun hc => ?_)
  · replace h := condT hc h
    refine g_seq ?_
    refine g_region ?_
    refine gl_batch 3 [(4, .bool false), (3, .slice none 0 0), (2, str [])] rfl ?_
    refine gl_nil ?_
    refine gx_seq ?_
    refine g_ret ?_
    refine gx_blk_ret ?_
    obtain rfl := Option.some.inj h
    exact gx_fin rfl [str [], .slice none 0 0, .bool false] _ _ [] ⟨_, _, rfl, rfl, _, _, rfl, rfl, _, _, rfl, rfl, rfl⟩ rfl ⟨none, 0, rfl, rfl, rfl⟩ (fun w hS => ((hS.nil false 2 (intS .i64)).take 1).facts [] [] [] noItem noItem noItem) (Or.inl rfl)
  · replace h := condF hc h
    refine g_seq ?_
    refine g_region ?_
    refine gl_batch 3 [(57, .bool ((impl_commandForm o1.1) == (-1))), (59, .bool ((impl_commandForm o1.1) == (-1))), (58, .int .i64 (impl_commandForm o1.1))] rfl ?_
    refine gl_nil ?_
    refine gx_seq ?_
    refine g_cond (b := (impl_commandForm o1.1) == (-1)) rfl (fun hc => ?_) (fun hc => ?_)
    · replace h := condT hc h
      refine g_seq ?_
      refine g_region ?_
      refine gl_batch 5 [(4, .bool o1.2.2), (3, .slice none 0 0), (2, str o1.2.1), (61, .bool o1.2.2), (60, str o1.2.1)] rfl ?_
      refine gl_nil ?_
      refine gx_seq ?_
      refine g_ret ?_
      refine gx_blk_ret ?_
      obtain rfl := Option.some.inj h
      exact gx_fin rfl [str o1.2.1, .slice none 0 0, .bool o1.2.2] _ _ [] ⟨_, _, rfl, rfl, _, _, rfl, rfl, _, _, rfl, rfl, rfl⟩ rfl ⟨none, 0, rfl, rfl, rfl⟩ (fun w hS => ((hS.nil false 2 (intS .i64)).take 1).facts [] [] [] noItem noItem noItem) (Or.inl rfl)
    · replace h := condF hc h
      refine g_seq ?_
      refine g_region ?_
      refine gl_batch 3 [(65, .bool ((impl_commandForm o1.1) == 0)), (64, .bool ((impl_commandForm o1.1) == 0)), (63, .int .i64 (impl_commandForm o1.1))] rfl ?_
      refine gl_join (EE := [(68, .bool (((impl_commandForm o1.1) == 0) || (!o1.2.2))), (6, str o1.2.1), (7, .bool o1.2.2), (8, .int .i64 (impl_commandForm o1.1))]) (RR := []) (XX := [gTab 3 pow10C, gNum 0, gErr 1, gErr 2]) (OO := []) (VV := []) 3 ?_ ?_
      · skip
        refine gl_case 65 rfl (fun hc => ?_) (fun hc => ?_)
        · skip
          refine gl_batch 3 [(68, .bool true), (67, undef), (66, undef)] rfl ?_
          refine gl_nil ?_
          exact gx_mid ⟨congrArg (fun z => some (Value.bool z)) (or_t hc).symm, rfl, rfl, rfl, trivial⟩ (fun w hS => hS)
        · skip
          refine gl_batch 3 [(68, .bool (!o1.2.2)), (67, .bool (!o1.2.2)), (66, .bool o1.2.2)] rfl ?_
          refine gl_nil ?_
          exact gx_mid ⟨congrArg (fun z => some (Value.bool z)) (or_f hc).symm, rfl, rfl, rfl, trivial⟩ (fun w hS => hS)
      · skip
        refine gl_batch 1 [(62, .bool (((impl_commandForm o1.1) == 0) || (!o1.2.2)))] rfl ?_
        refine gl_nil ?_
        refine gx_seq ?_
        refine g_cond (b := ((impl_commandForm o1.1) == 0) || (!o1.2.2)) rfl (fun hc => ?_) (fun hc => ?_)
        · replace h := condT hc h
          refine g_seq ?_
          refine g_region ?_
          refine gl_batch 3 [(71, .bool ((impl_commandForm o1.1) == 0)), (70, .bool ((impl_commandForm o1.1) == 0)), (69, .int .i64 (impl_commandForm o1.1))] rfl ?_
          refine gl_join (EE := [(74, .bool (((impl_commandForm o1.1) == 0) && (!o1.2.2)))]) (RR := []) (XX := [gTab 3 pow10C, gNum 0, gErr 1, gErr 2]) (OO := []) (VV := []) 3 ?_ ?_
          · skip
            refine gl_case 71 rfl (fun hc => ?_) (fun hc => ?_)
            · skip
              refine gl_batch 3 [(74, .bool (!o1.2.2)), (73, .bool (!o1.2.2)), (72, .bool o1.2.2)] rfl ?_
              refine gl_nil ?_
              exact gx_mid ⟨congrArg (fun z => some (Value.bool z)) (and_t hc).symm, trivial⟩ (fun w hS => hS)
            · skip
              refine gl_batch 3 [(74, .bool false), (73, undef), (72, undef)] rfl ?_
              refine gl_nil ?_
              exact gx_mid ⟨congrArg (fun z => some (Value.bool z)) (and_f hc).symm, trivial⟩ (fun w hS => hS)
          · skip
            refine gl_batch 3 [(4, .bool (((impl_commandForm o1.1) == 0) && (!o1.2.2))), (3, .slice none 0 0), (2, str [])] rfl ?_
            refine gl_nil ?_
            refine gx_seq ?_
            refine g_ret ?_
            refine gx_blk_ret ?_
            obtain rfl := Option.some.inj h
            exact gx_fin rfl [str [], .slice none 0 0, .bool (((impl_commandForm o1.1) == 0) && (!o1.2.2))] _ _ [] ⟨_, _, rfl, rfl, _, _, rfl, rfl, _, _, rfl, rfl, rfl⟩ rfl ⟨none, 0, rfl, rfl, rfl⟩ (fun w hS => ((hS.nil false 2 (intS .i64)).take 1).facts [] [] [] noItem noItem noItem) (Or.inl rfl)
        · replace h := condF hc h
          refine g_seq ?_
          refine g_region ?_
          refine gl_batch 1 [(23, str o1.2.1)] rfl ?_
          obtain ⟨o2, ho2, h⟩ := bindS h
          refine gl_call rfl rfl (fun w => by kernel_rfl) (c_strings_Split o1.2.1 ([32] : List UInt8) ho2) (consItem (mem_at 0 rfl) (consItem (mem_at 1 rfl) (consItem (mem_at 2 rfl) (consItem (mem_at 3 rfl) noItem)))) noItem ?_
          rintro v outs ros ⟨a_v3, c_v4, rfl, rfl, rfl⟩
          refine ⟨_, rfl, ?_⟩
          refine gl_batch 1 [(9, .slice a_v3 (List.length o2) c_v4)] rfl ?_
          refine gl_nil ?_
          refine gx_seq ?_
          refine g_seq ?_
          refine g_region ?_
          refine gl_batch 1 [(10, .slice none 0 0)] rfl ?_
          refine gl_nil ?_
          refine gx_seq ?_
          refine g_seq ?_
          refine g_seq ?_
          refine g_region ?_
          refine gl_batch 1 [(25, .slice a_v3 (List.length o2) c_v4)] rfl ?_
          refine gl_len rfl Fs71 rfl rfl ?_
          refine gl_batch 1 [(27, .int .i64 0)] rfl ?_
          refine gl_nil ?_
          refine gx_seq ?_
          refine g_block ?_
          obtain ⟨o5, ho5, h⟩ := bindS h
          refine g_loop (impl_readCommand_L1 o2) (fun (ss_ : (List Int) × Int) a w => ∃ (a_ss__r1 : Option Addr), ∃ (c_ss__r1 : Nat), Env a 75 [(8, .int .i64 (impl_commandForm o1.1)), (9, .slice a_v3 (List.length o2) c_v4), (10, .slice a_ss__r1 (List.length ss_.1) c_ss__r1), (25, .slice a_v3 (List.length o2) c_v4), (26, .int .i64 (List.length o2 : Int)), (27, .int .i64 ss_.2)] ∧ St c w [SL false 9 strS a_v3 c_v4 o2, SL false 2 (intS .i64) a_ss__r1 c_ss__r1 ss_.1] [gTab 3 pow10C, gNum 0, gErr 1, gErr 2] [] []) (Sum.elim (fun (ss_ : Unit) e a w => e = .ret ∧ Env a 75 [(2, str []), (3, .slice none 0 0), (4, .bool false)] ∧ St c w [] [gTab 3 pow10C, gNum 0, gErr 1, gErr 2] [] []) (fun (ss_ : (List Int)) e a w => e = (.exit 1) ∧ ∃ (a_ss__r1 : Option Addr), ∃ (c_ss__r1 : Nat), Env a 75 [(8, .int .i64 (impl_commandForm o1.1)), (9, .slice a_v3 (List.length o2) c_v4), (10, .slice a_ss__r1 (List.length ss_) c_ss__r1)] ∧ St c w [SL false 9 strS a_v3 c_v4 o2, SL false 2 (intS .i64) a_ss__r1 c_ss__r1 ss_] [gTab 3 pow10C, gNum 0, gErr 1, gErr 2] [] []) : (Sum Unit (List Int)) → Exit → Act → World → Prop) ho5 ?_ ?_ ?_
          · exact fun a w hE hS => ⟨none, 0, hE.sub ⟨rfl, rfl, rfl, rfl, rfl, rfl, trivial⟩, ((((hS.nil false 2 (intS .i64)).pick 0 rfl).pick 1 rfl).take 2).facts _ _ [] (consItem (mem_at 0 rfl) (consItem (mem_at 1 rfl) (consItem (mem_at 2 rfl) (consItem (mem_at 3 rfl) noItem)))) noItem noItem⟩
          · intro s6 o7 h a w hA
            obtain ⟨a_s6_r1, c_s6_r1, hE, hS⟩ := hA
            unfold impl_readCommand_L1 at h
            refine g_enter hE hS ?_
            refine g_seq ?_
            refine g_region ?_
            refine gl_batch 1 [(28, .bool (decide (s6.2 < (List.length o2 : Int))))] rfl ?_
            refine gl_nil ?_
            refine gx_seq ?_
            refine g_seq ?_
            refine g_cond (b := decide (s6.2 < (List.length o2 : Int))) rfl (fun hc => ?_) (fun hc => ?_)
            · replace h := condT hc h
              refine g_skip ?_
              refine gx_seq ?_
              refine g_seq ?_
              refine g_block ?_
              refine g_seq ?_
              refine g_region ?_
              obtain ⟨x8, hx8, h⟩ := bindS h
              refine gl_idxVn (k := .i64) (mem_at 0 rfl) rfl rfl Fs71 Fz9 hx8 rfl rfl ?_
              intro p9 hp9
              refine gl_ld1 0 hasAT (mem_at 2 rfl) rfl rfl Fo9 rfl rfl rfl ?_
              refine gl_batch 1 [(12, str x8)] rfl ?_
              refine gl_nil ?_
              refine gx_seq ?_
              refine g_seq ?_
              refine g_region ?_
              refine gl_batch 1 [(32, str x8)] rfl ?_
              obtain ⟨o10, ho10, h⟩ := bindS h
              refine gl_call rfl rfl (fun w => by kernel_rfl) (c_impl_readNumber x8 ho10) (consItem (mem_at 0 rfl) (consItem (mem_at 1 rfl) (consItem (mem_at 2 rfl) (consItem (mem_at 3 rfl) noItem)))) noItem ?_
              rintro v outs ros ⟨rfl, rfl, rfl⟩
              refine ⟨_, rfl, ?_⟩
              refine gl_batch 5 [(14, .bool o10.2), (13, .int .i64 o10.1), (35, .bool o10.2), (34, .int .i64 o10.1), (31, .tuple #[.int .i64 o10.1, .bool o10.2])] rfl ?_
              refine gl_nil ?_
              refine gx_seq ?_
              refine g_seq ?_
              refine g_seq ?_
              refine g_region ?_
              refine gl_batch 3 [(38, .bool (!o10.2)), (37, .bool (!o10.2)), (36, .bool o10.2)] rfl ?_
              obtain ⟨q11, hq11, h⟩ := bindS h
              refine gl_join (EE := [(43, .bool q11), (8, .int .i64 (impl_commandForm o1.1)), (9, .slice a_v3 (List.length o2) c_v4), (10, .slice a_s6_r1 (List.length s6.1) c_s6_r1), (13, .int .i64 o10.1), (25, .slice a_v3 (List.length o2) c_v4), (26, .int .i64 (List.length o2 : Int)), (27, .int .i64 s6.2)]) (RR := [SL false 9 strS a_v3 c_v4 o2, SL false 2 (intS .i64) a_s6_r1 c_s6_r1 s6.1]) (XX := [gTab 3 pow10C, gNum 0, gErr 1, gErr 2]) (OO := []) (VV := [AT strS p9 x8]) 5 ?_ ?_
              · replace h := hq11
                refine gl_case 38 rfl (fun hc => ?_) (fun hc => ?_)
                · replace h := condT hc h
                  refine gl_batch 5 [(43, .bool true), (42, undef), (41, undef), (40, undef), (39, undef)] rfl ?_
                  refine gl_nil ?_
                  obtain rfl := Option.some.inj h
                  exact gx_mid ⟨rfl, rfl, rfl, rfl, rfl, rfl, rfl, rfl, trivial⟩ (fun w hS => hS)
                · replace h := condF hc h
                  refine gl_batch 1 [(39, str x8)] rfl ?_
                  obtain ⟨o12, ho12, h⟩ := bindS h
                  refine gl_call rfl rfl (fun w => by kernel_rfl) (c_strings_TrimPrefix x8 ([45] : List UInt8) ho12) (consItem (mem_at 0 rfl) (consItem (mem_at 1 rfl) (consItem (mem_at 2 rfl) (consItem (mem_at 3 rfl) noItem)))) noItem ?_
                  rintro v outs ros ⟨rfl, rfl, rfl⟩
                  refine ⟨_, rfl, ?_⟩
                  refine gl_slen (s := o12) rfl Ft9 rfl rfl ?_
                  refine gl_batch 2 [(43, .bool (decide ((List.length o12 : Int) > 10))), (42, .bool (decide ((List.length o12 : Int) > 10)))] rfl ?_
                  refine gl_nil ?_
                  obtain rfl := Option.some.inj h
                  exact gx_mid ⟨rfl, rfl, rfl, rfl, rfl, rfl, rfl, rfl, trivial⟩ (fun w hS => hS)
              · skip
                refine gl_nil ?_
                refine gx_seq ?_
                refine g_cond (b := q11) rfl (fun hc => ?_) (fun hc => ?_)
                · replace h := condT hc h
                  refine g_seq ?_
                  refine g_region ?_
                  refine gl_batch 3 [(4, .bool false), (3, .slice none 0 0), (2, str [])] rfl ?_
                  refine gl_nil ?_
                  refine gx_seq ?_
                  refine g_ret ?_
                  refine gx_seq_ret ?_
                  refine gx_blk_ret ?_
                  refine gx_seq_ret ?_
                  obtain rfl := Option.some.inj h
                  exact gx_of (fun a w hE hS => lp_out nofun (inL ⟨rfl, hE.sub ⟨rfl, rfl, rfl, trivial⟩, (hS.take 0).facts _ _ [] (consItem (mem_at 0 rfl) (consItem (mem_at 1 rfl) (consItem (mem_at 2 rfl) (consItem (mem_at 3 rfl) noItem)))) noItem noItem⟩))
                · replace h := condF hc h
                  refine g_skip ?_
                  refine gx_seq ?_
                  refine g_region ?_
                  refine gl_batch 2 [(45, .int .i64 o10.1), (44, .slice a_s6_r1 (List.length s6.1) c_s6_r1)] rfl ?_
                  refine gl_lit (m := 1) (d := 46) (T := 2) (enc := fun x => [.int .i64 x]) (hn := fun _ => rfl) false [o10.1] rfl rfl (fun _ => rfl) nofun (Nat.le_of_ble_eq_true rfl) (fun w => by kernel_rfl) ?_
                  intro a_v13 c_v14
                  refine gl_pick 2 rfl ?_
                  obtain ⟨z15, hz15, h⟩ := bindS h
                  refine gl_appn (mem_at 1 rfl) rfl rfl Fs82 Fi2 rfl rfl (fun _ => rfl) hz15 rfl rfl ?_
                  intro a_v16 c_v17
                  refine gl_batch 1 [(10, .slice a_v16 (List.length z15) c_v17)] rfl ?_
                  refine gl_nil ?_
                  refine gx_blk ?_
                  refine gx_seq ?_
                  refine g_region ?_
                  refine gl_batch 2 [(27, .int .i64 (IntKind.i64.wrap (s6.2 + 1))), (48, .int .i64 (IntKind.i64.wrap (s6.2 + 1)))] rfl ?_
                  refine gl_nil ?_
                  obtain rfl := Option.some.inj h
                  exact gx_of (fun a w hE hS => lp_in ⟨a_v16, c_v17, hE.sub ⟨rfl, rfl, rfl, rfl, rfl, rfl, trivial⟩, (((hS.pick 0 rfl).pick 2 rfl).take 2).facts _ _ [] (consItem (mem_at 0 rfl) (consItem (mem_at 1 rfl) (consItem (mem_at 2 rfl) (consItem (mem_at 3 rfl) noItem)))) noItem noItem⟩)
            · replace h := condF hc h
              refine g_exit ?_
              refine gx_seq_exit ?_
              obtain rfl := Option.some.inj h
              exact gx_of (fun a w hE hS => lp_out nofun (inR ⟨rfl, a_s6_r1, c_s6_r1, hE.sub ⟨rfl, rfl, rfl, trivial⟩, (hS.take 2).facts _ _ [] (consItem (mem_at 0 rfl) (consItem (mem_at 1 rfl) (consItem (mem_at 2 rfl) (consItem (mem_at 3 rfl) noItem)))) noItem noItem⟩))
          · intro e a w hm
            rcases o5 with s18 | s19
            · replace h := elimL h
              obtain ⟨rfl, hE, hS⟩ := hm
              refine gx_to hE hS ?_
              refine gx_blk_ret ?_
              refine gx_seq_ret ?_
              refine gx_blk_ret ?_
              obtain rfl := Option.some.inj h
              exact gx_fin rfl [str [], .slice none 0 0, .bool false] _ _ [] ⟨_, _, rfl, rfl, _, _, rfl, rfl, _, _, rfl, rfl, rfl⟩ rfl ⟨none, 0, rfl, rfl, rfl⟩ (fun w hS => ((hS.nil false 2 (intS .i64)).take 1).facts [] [] [] noItem noItem noItem) (Or.inl rfl)
            · replace h := elimR h
              obtain ⟨rfl, a_s19_r1, c_s19_r1, hE, hS⟩ := hm
              refine gx_to hE hS ?_
              refine gx_blk_hit ?_
              refine gx_seq ?_
              refine g_seq ?_
              refine g_region ?_
              refine gl_batch 2 [(50, .slice a_v3 (List.length o2) c_v4), (49, .slice a_s19_r1 (List.length s19) c_s19_r1)] rfl ?_
              refine gl_len rfl Fs71 rfl rfl ?_
              refine gl_batch 5 [(4, .bool ((List.length o2 : Int) == (impl_commandForm o1.1))), (3, .slice a_s19_r1 (List.length s19) c_s19_r1), (2, str []), (53, .bool ((List.length o2 : Int) == (impl_commandForm o1.1))), (52, .int .i64 (impl_commandForm o1.1))] rfl ?_
              refine gl_nil ?_
              refine gx_seq ?_
              refine g_ret ?_
              refine gx_blk_ret ?_
              obtain rfl := Option.some.inj h
              exact gx_fin rfl [str [], .slice a_s19_r1 (List.length s19) c_s19_r1, .bool ((List.length o2 : Int) == (impl_commandForm o1.1))] _ _ [] ⟨_, _, rfl, rfl, _, _, rfl, rfl, _, _, rfl, rfl, rfl⟩ rfl ⟨a_s19_r1, c_s19_r1, rfl, rfl, rfl⟩ (fun w hS => ((hS.pick 1 rfl).take 1).facts [] [] [] noItem noItem noItem) (Or.inl rfl)

end Go.Proofs.YtneifoepoccjaaaDoor
