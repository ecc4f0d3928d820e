/-
  What each function gives when it is called: the contracts, each with the walk through its code. Written by a program of ours.
-/
import Derived.Test.YtneifoepoccjaaaDoorC30
import Derived.Test.YtneifoepoccjaaaDoorC3a
namespace Go.Proofs.YtneifoepoccjaaaDoor
open Go Go.Proofs Go.Shelf
set_option maxHeartbeats 16000000
theorem c_spec_l01Numbers (words : List (List UInt8)) (a_words : Option Addr) (c_words : Nat) {r : List Int × Bool} (h : spec_l01Numbers words = some r) : CallOK Tryd.prog 89 [.slice a_words (List.length words) c_words] [] [gTab 3 pow10C, gNum 0, gErr 1, gErr 2] [SL false 9 strS a_words c_words words] (fun v outs ros => ∃ (a0 : Option Addr), ∃ (c0 : Nat), v = .tuple #[.slice a0 (List.length r.1) c0, .bool r.2] ∧ outs = [SL false 2 (intS .i64) a0 c0 r.1] ∧ ros = []) := by
  refine fn_ok Tryd.func89 rfl Tryd.ntmps89 rfl (fun c hF0 => ?_)
  unfold spec_l01Numbers at h
  refine g_sr ?_
  refine gl_batch 2 [(3, .bool false), (2, .slice none 0 0)] rfl ?_
  refine gl_nx ?_
  refine gl_lit (m := 1) (d := 8) (T := 2) (enc := fun x => [.int .i64 x]) (hn := fun _ => rfl) false ([] : List Int) rfl rfl (fun _ => rfl) nofun (Nat.le_of_ble_eq_true rfl) (fun w => by kernel_rfl) ?_
  intro a_v1 c_v2
  refine gl_batch 1 [(4, .slice a_v1 (List.length ([] : List Int)) c_v2)] rfl ?_
  refine gl_ns ?_
  refine g_seq ?_
  refine g_sr ?_
  refine gl_batch 1 [(5, .int .i64 0)] rfl ?_
  refine gl_ns ?_
  refine g_block ?_
  obtain ⟨o3, ho3, h⟩ := bindS h
  refine g_loop (spec_l01Numbers_L1 words) (fun (ss_ : (List Int) × Int) a w => ∃ (a_ss__r0 : Option Addr), ∃ (c_ss__r0 : Nat), Env a 30 [(0, .slice a_words (List.length words) c_words), (4, .slice a_ss__r0 (List.length ss_.1) c_ss__r0), (5, .int .i64 ss_.2)] ∧ St c w [SL false 2 (intS .i64) a_ss__r0 c_ss__r0 ss_.1] [gTab 3 pow10C, gNum 0, gErr 1, gErr 2] [SL false 9 strS a_words c_words words] []) (Sum.elim (fun (ss_ : Unit) e a w => e = .ret ∧ Env a 30 [(2, .slice none 0 0), (3, .bool false)] ∧ St c w [] [gTab 3 pow10C, gNum 0, gErr 1, gErr 2] [SL false 9 strS a_words c_words words] []) (fun (ss_ : (List Int)) e a w => e = (.exit 0) ∧ ∃ (a_ss__r0 : Option Addr), ∃ (c_ss__r0 : Nat), Env a 30 [(4, .slice a_ss__r0 (List.length ss_) c_ss__r0)] ∧ St c w [SL false 2 (intS .i64) a_ss__r0 c_ss__r0 ss_] [gTab 3 pow10C, gNum 0, gErr 1, gErr 2] [SL false 9 strS a_words c_words words] []) : (Sum Unit (List Int)) → Exit → Act → World → Prop) ho3 ?_ ?_ ?_
  · exact fun a w hE hS => ⟨a_v1, c_v2, hE.sub ⟨rfl, rfl, rfl, trivial⟩, (hS.take 1).facts _ _ [] (consItem (mem_at 0 rfl) (consItem (mem_at 1 rfl) (consItem (mem_at 2 rfl) (consItem (mem_at 3 rfl) noItem)))) (consItem (mem_at 0 rfl) noItem) noItem⟩
  · intro s4 o5 h a w hA
    obtain ⟨a_s4_r0, c_s4_r0, hE, hS⟩ := hA
    unfold spec_l01Numbers_L1 at h
    refine g_enter hE hS ?_
    refine g_seq ?_
    refine g_sr ?_
    refine gl_batch 2 [(10, .slice a_words (List.length words) c_words), (9, .int .i64 s4.2)] rfl ?_
    refine gl_len rfl Fs71 rfl rfl ?_
    refine gl_batch 1 [(12, .bool (decide (s4.2 < (List.length words : Int))))] rfl ?_
    refine gl_ns ?_
    refine g_cond (b := decide (s4.2 < (List.length words : Int))) rfl (fun hc => ?_) (fun hc => ?_)
    · replace h := condT hc h
      refine g_skip ?_
      refine gx_seq ?_
      refine g_seq ?_
      refine g_block ?_
      refine g_sr ?_
      refine gl_batch 2 [(17, .int .i64 s4.2), (16, .slice a_words (List.length words) c_words)] rfl ?_
      obtain ⟨x6, hx6, h⟩ := bindS h
      refine gl_idxOn (k := .i64) (mem_at 0 rfl) rfl rfl Fs71 Fz9 hx6 rfl rfl ?_
      intro p7
      refine gl_ld1 0 hasAT (mem_at 1 rfl) rfl rfl Fo9 rfl rfl rfl ?_
      obtain ⟨o8, ho8, h⟩ := bindS h
      refine gl_call rfl rfl (fun w => by kernel_rfl) (c_spec_l01Signed x6 ho8) (consItem (mem_at 0 rfl) (consItem (mem_at 1 rfl) (consItem (mem_at 2 rfl) (consItem (mem_at 3 rfl) noItem)))) noItem ?_
      rintro v outs ros ⟨rfl, rfl, rfl⟩
      refine ⟨_, rfl, ?_⟩
      refine gl_batch 5 [(7, .bool o8.2), (6, .int .i64 o8.1), (22, .bool o8.2), (21, .int .i64 o8.1), (15, .tuple #[.int .i64 o8.1, .bool o8.2])] rfl ?_
      refine gl_ns ?_
      refine g_seq ?_
      refine g_sr ?_
      refine gl_batch 2 [(24, .bool (!o8.2)), (23, .bool o8.2)] rfl ?_
      refine gl_ns ?_
      refine g_cond (b := !o8.2) rfl (fun hc => ?_) (fun hc => ?_)
      · replace h := condT hc h
        refine g_sr ?_
        refine gl_batch 2 [(3, .bool false), (2, .slice none 0 0)] rfl ?_
        refine gl_ns ?_
        refine g_ret ?_
        refine gx_seq_ret ?_
        refine gx_blk_ret ?_
        refine gx_seq_ret ?_
        obtain rfl := Option.some.inj h
        exact gx_of (fun a w hE hS => lp_out nofun (inL ⟨rfl, hE.sub ⟨rfl, rfl, trivial⟩, (hS.take 0).facts _ _ [] (consItem (mem_at 0 rfl) (consItem (mem_at 1 rfl) (consItem (mem_at 2 rfl) (consItem (mem_at 3 rfl) noItem)))) (consItem (mem_at 1 rfl) noItem) noItem⟩))
      · replace h := condF hc h
        refine g_skip ?_
        refine gx_seq ?_
        refine g_region ?_
        refine gl_batch 2 [(26, .int .i64 o8.1), (25, .slice a_s4_r0 (List.length s4.1) c_s4_r0)] rfl ?_
        refine gl_lit (m := 1) (d := 27) (T := 2) (enc := fun x => [.int .i64 x]) (hn := fun _ => rfl) false [o8.1] rfl rfl (fun _ => rfl) nofun (Nat.le_of_ble_eq_true rfl) (fun w => by kernel_rfl) ?_
        intro a_v9 c_v10
        refine gl_pick 1 rfl ?_
        obtain ⟨z11, hz11, h⟩ := bindS h
        refine gl_appn (mem_at 1 rfl) rfl rfl Fs82 Fi2 rfl rfl (fun _ => rfl) hz11 rfl rfl ?_
        intro a_v12 c_v13
        refine gl_batch 1 [(4, .slice a_v12 (List.length z11) c_v13)] rfl ?_
        refine gl_nil ?_
        refine gx_blk ?_
        refine gx_seq ?_
        refine g_region ?_
        refine gl_batch 3 [(5, .int .i64 (IntKind.i64.wrap (s4.2 + 1))), (14, .int .i64 (IntKind.i64.wrap (s4.2 + 1))), (13, .int .i64 s4.2)] rfl ?_
        refine gl_nil ?_
        obtain rfl := Option.some.inj h
        exact gx_of (fun a w hE hS => lp_in ⟨a_v12, c_v13, hE.sub ⟨rfl, rfl, rfl, trivial⟩, (hS.take 1).facts _ _ [] (consItem (mem_at 0 rfl) (consItem (mem_at 1 rfl) (consItem (mem_at 2 rfl) (consItem (mem_at 3 rfl) noItem)))) (consItem (mem_at 1 rfl) noItem) noItem⟩)
    · replace h := condF hc h
      refine g_exit ?_
      refine gx_seq_exit ?_
      obtain rfl := Option.some.inj h
      exact gx_of (fun a w hE hS => lp_out nofun (inR ⟨rfl, a_s4_r0, c_s4_r0, hE.sub ⟨rfl, trivial⟩, (hS.take 1).facts _ _ [] (consItem (mem_at 0 rfl) (consItem (mem_at 1 rfl) (consItem (mem_at 2 rfl) (consItem (mem_at 3 rfl) noItem)))) (consItem (mem_at 0 rfl) noItem) noItem⟩))
  · intro e a w hm
    rcases o3 with s14 | s15
    · replace h := elimL h
      obtain ⟨rfl, hE, hS⟩ := hm
      refine gx_to hE hS ?_
      refine gx_blk_ret ?_
      refine gx_seq_ret ?_
      obtain rfl := Option.some.inj h
      exact gx_fin rfl [.slice none 0 0, .bool false] _ _ [] ⟨_, _, rfl, rfl, _, _, rfl, rfl, rfl⟩ rfl ⟨none, 0, rfl, rfl, rfl⟩ (fun w hS => ((hS.nil false 2 (intS .i64)).take 1).facts [] [] [] noItem noItem noItem) (Or.inl rfl)
    · replace h := elimR h
      obtain ⟨rfl, a_s15_r0, c_s15_r0, hE, hS⟩ := hm
      refine gx_to hE hS ?_
      refine gx_blk_hit ?_
      refine gx_seq ?_
      refine g_sr ?_
      refine gl_batch 3 [(3, .bool true), (2, .slice a_s15_r0 (List.length s15) c_s15_r0), (29, .slice a_s15_r0 (List.length s15) c_s15_r0)] rfl ?_
      refine gl_ns ?_
      refine g_ret ?_
      obtain rfl := Option.some.inj h
      exact gx_fin rfl [.slice a_s15_r0 (List.length s15) c_s15_r0, .bool true] _ _ [] ⟨_, _, rfl, rfl, _, _, rfl, rfl, rfl⟩ rfl ⟨a_s15_r0, c_s15_r0, rfl, rfl, rfl⟩ (fun w hS => (hS.take 1).facts [] [] [] noItem noItem noItem) (Or.inl rfl)

theorem c_spec_l11Read (s : List UInt8)  {r : Place × Bool} (h : spec_l11Read s = some r) : CallOK Tryd.prog 51 [str s] [] [gTab 3 pow10C, gNum 0, gErr 1, gErr 2] [] (fun v outs ros => v = .tuple #[.agg #[.int .i64 r.1.From, .int .i64 r.1.To, .int .i64 r.1.Delay, .int .i64 r.1.Tokens], .bool r.2] ∧ outs = [] ∧ ros = []) := by
  refine fn_ok Tryd.func51 rfl Tryd.ntmps51 rfl (fun c hF0 => ?_)
  unfold spec_l11Read at h
  refine g_sr ?_
  refine gl_new (d := 2) (T := 31) [.int .i64 0, .int .i64 0, .int .i64 0, .int .i64 0] rfl rfl (fun _ => rfl) (fun w => by kernel_rfl) ?_
  intro b1
  refine gl_batch 1 [(3, .bool false)] rfl ?_
  refine gl_nx ?_
  refine gl_batch 1 [(8, str s)] rfl ?_
  obtain ⟨o2, ho2, h⟩ := bindS h
  refine gl_call rfl rfl (fun w => by kernel_rfl) (c_spec_l01Split s 62 ho2) (consItem (mem_at 0 rfl) (consItem (mem_at 1 rfl) (consItem (mem_at 2 rfl) (consItem (mem_at 3 rfl) noItem)))) noItem ?_
  rintro v outs ros ⟨a_v3, c_v4, rfl, rfl, rfl⟩
  refine ⟨_, rfl, ?_⟩
  refine gl_batch 1 [(4, .slice a_v3 (List.length o2) c_v4)] rfl ?_
  refine gl_ns ?_
  refine g_seq ?_
  refine g_sr ?_
  refine gl_batch 1 [(10, .slice a_v3 (List.length o2) c_v4)] rfl ?_
  refine gl_len rfl Fs71 rfl rfl ?_
  refine gl_batch 1 [(12, .bool ((List.length o2 : Int) != 2))] rfl ?_
  refine gl_ns ?_
  refine g_cond (b := (List.length o2 : Int) != 2) rfl (fun hc => ?_) (fun hc => ?_)
  · replace h := condT hc h
    refine g_sr ?_
    refine gl_run (v := .agg #[.int .i64 0, .int .i64 0, .int .i64 0, .int .i64 0]) rfl rfl rfl (fun w => by kernel_rfl) ?_
    refine gl_pick 1 rfl ?_
    refine gl_stB (cells' := [.int .i64 0, .int .i64 0, .int .i64 0, .int .i64 0]) 0 [.int .i64 0, .int .i64 0, .int .i64 0, .int .i64 0] rfl rfl rfl Fz31 rfl rfl rfl rfl ?_
    refine gl_batch 1 [(3, .bool false)] rfl ?_
    refine gl_ns ?_
    refine g_ret ?_
    refine gx_seq_ret ?_
    obtain rfl := Option.some.inj h
    exact gx_fin rfl [.agg #[.int .i64 0, .int .i64 0, .int .i64 0, .int .i64 0], .bool false] _ _ [] ⟨_, _, rfl, ⟨_, _, _, rfl, mem_at 0 rfl, hasBK, Or.inl ⟨Fm31, Fz31, rfl⟩⟩, _, _, rfl, rfl, rfl⟩ rfl ⟨rfl, rfl, rfl⟩ (fun w hS => (hS.take 0).facts [] [] [] noItem noItem noItem) (Or.inl rfl)
  · replace h := condF hc h
    refine g_skip ?_
    refine gx_seq ?_
    refine g_sr ?_
    refine gl_batch 1 [(14, .slice a_v3 (List.length o2) c_v4)] rfl ?_
    obtain ⟨x5, hx5, h⟩ := bindS h
    refine gl_idxVn (k := .i64) (mem_at 0 rfl) rfl rfl Fs71 Fz9 hx5 rfl rfl ?_
    intro p6 hp6
    refine gl_ld1 0 hasAT (mem_at 2 rfl) rfl rfl Fo9 rfl rfl rfl ?_
    obtain ⟨o7, ho7, h⟩ := bindS h
    refine gl_call rfl rfl (fun w => by kernel_rfl) (c_spec_l01Split x5 58 ho7) (consItem (mem_at 0 rfl) (consItem (mem_at 1 rfl) (consItem (mem_at 2 rfl) (consItem (mem_at 3 rfl) noItem)))) noItem ?_
    rintro v outs ros ⟨a_v8, c_v9, rfl, rfl, rfl⟩
    refine ⟨_, rfl, ?_⟩
    refine gl_batch 1 [(5, .slice a_v8 (List.length o7) c_v9)] rfl ?_
    refine gl_ns ?_
    refine g_seq ?_
    refine g_sr ?_
    refine gl_batch 1 [(18, .slice a_v8 (List.length o7) c_v9)] rfl ?_
    refine gl_len rfl Fs71 rfl rfl ?_
    refine gl_batch 1 [(20, .bool ((List.length o7 : Int) != 2))] rfl ?_
    refine gl_ns ?_
    refine g_cond (b := (List.length o7 : Int) != 2) rfl (fun hc => ?_) (fun hc => ?_)
    · replace h := condT hc h
      refine g_sr ?_
      refine gl_run (v := .agg #[.int .i64 0, .int .i64 0, .int .i64 0, .int .i64 0]) rfl rfl rfl (fun w => by kernel_rfl) ?_
      refine gl_pick 2 rfl ?_
      refine gl_stB (cells' := [.int .i64 0, .int .i64 0, .int .i64 0, .int .i64 0]) 0 [.int .i64 0, .int .i64 0, .int .i64 0, .int .i64 0] rfl rfl rfl Fz31 rfl rfl rfl rfl ?_
      refine gl_batch 1 [(3, .bool false)] rfl ?_
      refine gl_ns ?_
      refine g_ret ?_
      refine gx_seq_ret ?_
      obtain rfl := Option.some.inj h
      exact gx_fin rfl [.agg #[.int .i64 0, .int .i64 0, .int .i64 0, .int .i64 0], .bool false] _ _ [] ⟨_, _, rfl, ⟨_, _, _, rfl, mem_at 0 rfl, hasBK, Or.inl ⟨Fm31, Fz31, rfl⟩⟩, _, _, rfl, rfl, rfl⟩ rfl ⟨rfl, rfl, rfl⟩ (fun w hS => (hS.take 0).facts [] [] [] noItem noItem noItem) (Or.inl rfl)
    · replace h := condF hc h
      refine g_skip ?_
      refine gx_seq ?_
      refine g_seq ?_
      obtain ⟨x10, hx10, h⟩ := bindS h
      refine g_elemn (mem_at 1 rfl) hx10 ?_
      intro p11 hp11
      obtain ⟨x12, hx12, h⟩ := bindS h
      refine g_elemn (mem_at 0 rfl) hx12 ?_
      intro p13 hp13
      obtain ⟨x16, hx16, h⟩ := bindS h
      refine g_elemn (mem_at 0 rfl) hx16 ?_
      intro p17 hp17
      obtain ⟨o18, ho18, h⟩ := bindS h
      obtain ⟨z21, hz21, h⟩ := bindS h
      obtain ⟨o24, ho24, h⟩ := bindS h
      refine g_state (E' := [(2, .pointer (some ⟨b1, 0, none⟩)), (4, .slice a_v3 (List.length o2) c_v4), (5, .slice a_v8 (List.length o7) c_v9)]) (Rs' := [] ++ [SL false 9 strS a_v8 c_v9 o7, SL false 9 strS a_v3 c_v4 o2, BK 31 b1 [.int .i64 0, .int .i64 0, .int .i64 0, .int .i64 0]]) (Xs' := [gTab 3 pow10C, gNum 0, gErr 1, gErr 2]) (Os' := []) (Vs' := []) ⟨rfl, rfl, rfl, trivial⟩ (fun w hS => (hS.take 3).facts _ _ _ (consItem (mem_at 0 rfl) (consItem (mem_at 1 rfl) (consItem (mem_at 2 rfl) (consItem (mem_at 3 rfl) noItem)))) noItem noItem) ?_
      refine g_drawM (Rs := [SL false 9 strS a_v8 c_v9 o7, SL false 9 strS a_v3 c_v4 o2, BK 31 b1 [.int .i64 0, .int .i64 0, .int .i64 0, .int .i64 0]]) 18 [[], [0], [1], [], [3], [4], [2, 5], [], [7], [8], [9], [6, 10], [6, 11], [12], [12, 13], [12, 13], [12, 14], [15]] [[4], [], [], [5], [], [], [], [5], [], [], [], [], [], [], [], [], [], []] [.slice a_v3 (List.length o2) c_v4, .pointer (some p11), str x10, .slice a_v8 (List.length o7) c_v9, .pointer (some p13), str x12, undef, .slice a_v8 (List.length o7) c_v9, .pointer (some p17), str x16, undef, undef, undef, undef, undef, .bool o24.2, undef, .bool o24.2] [(6, ⟨[6], fun vals => ∃ (a_v14 : Option Addr), ∃ (c_v15 : Nat), vals 6 = .slice a_v14 (List.length [x10, x12]) c_v15, fun _ => [], fun _ => []⟩), (10, ⟨[10], fun vals => ∃ (a_v19 : Option Addr), ∃ (c_v20 : Nat), vals 10 = .slice a_v19 (List.length o18) c_v20, fun vals => [SL false 9 strS (slA (vals 10)) (slC (vals 10)) o18], fun _ => []⟩), (11, ⟨[11], fun vals => ∃ (a_v22 : Option Addr), ∃ (c_v23 : Nat), vals 11 = .slice a_v22 (List.length z21) c_v23, fun _ => [], fun _ => []⟩), (12, ⟨[12], fun vals => ∃ (a_v25 : Option Addr), ∃ (c_v26 : Nat), vals 12 = .tuple #[.slice a_v25 (List.length o24.1) c_v26, .bool o24.2], fun _ => [], fun _ => []⟩), (13, ⟨[12, 13], fun vals => vals 13 = .tuple #[.slice (slA (nthV (vals 12) 0)) (List.length o24.1) (slC (nthV (vals 12) 0)), .bool o24.2], fun _ => [], fun _ => []⟩), (14, ⟨[12, 14], fun vals => vals 14 = .slice (slA (nthV (vals 12) 0)) (List.length o24.1) (slC (nthV (vals 12) 0)), fun _ => [], fun _ => []⟩), (16, ⟨[12, 16], fun vals => vals 16 = .slice (slA (nthV (vals 12) 0)) (List.length o24.1) (slC (nthV (vals 12) 0)), fun _ => [], fun _ => []⟩)] [6, 11, 12] (fun k vals => match k with | 0 => [] | 1 => [SL false 9 strS (slA (vals 6)) (slC (vals 6)) [x10, x12]] | 2 => [SL false 9 strS (slA (vals 11)) (slC (vals 11)) z21] | _ => [SL false 9 strS (slA (vals 11)) (slC (vals 11)) z21, SL false 2 (intS .i64) (slA (nthV (vals 12) 0)) (slC (nthV (vals 12) 0)) o24.1]) mixed rfl rfl ⟨⟨⟨⟨⟨⟨⟨⟨⟨⟨⟨⟨⟨⟨⟨⟨⟨⟨trivial, ?_⟩, ?_⟩, ?_⟩, ?_⟩, ?_⟩, ?_⟩, ?_⟩, ?_⟩, ?_⟩, ?_⟩, ?_⟩, ?_⟩, ?_⟩, ?_⟩, ?_⟩, ?_⟩, ?_⟩, ?_⟩ ?_
      · exact obl_pure rfl rfl rfl rfl rfl rfl rfl rfl
      · refine obl_in rfl rfl rfl rfl (fun R' O' => ?_)
        refine gl_idxVn (k := .i64) (memV (mem_at 1 rfl)) rfl rfl Fs71 Fz9 hx10 rfl rfl ?_
        intro p_ hp_
        obtain rfl : p11 = p_ := Option.some.inj (hp11.symm.trans hp_)
        exact gl_dp rfl rfl rfl
      · refine obl_in rfl rfl rfl rfl (fun R' O' => ?_)
        refine gl_elemVn (memV (mem_at 1 rfl)) hx10 hp11 ?_
        refine gl_ld1 0 hasAT (memV (mem_at 0 rfl)) rfl rfl Fo9 rfl rfl rfl ?_
        exact gl_dp rfl rfl rfl
      · exact obl_pure rfl rfl rfl rfl rfl rfl rfl rfl
      · refine obl_in rfl rfl rfl rfl (fun R' O' => ?_)
        refine gl_idxVn (k := .i64) (memV (mem_at 0 rfl)) rfl rfl Fs71 Fz9 hx12 rfl rfl ?_
        intro p_ hp_
        obtain rfl : p13 = p_ := Option.some.inj (hp13.symm.trans hp_)
        exact gl_dp rfl rfl rfl
      · refine obl_in rfl rfl rfl rfl (fun R' O' => ?_)
        refine gl_elemVn (memV (mem_at 0 rfl)) hx12 hp13 ?_
        refine gl_ld1 0 hasAT (memV (mem_at 0 rfl)) rfl rfl Fo9 rfl rfl rfl ?_
        exact gl_dp rfl rfl rfl
      · intro vals E' R' O' hD hR
        have h2 : vals 2 = str x10 := hD 2 (memN 0 rfl)
        have h5 : vals 5 = str x12 := hD 5 (memN 1 rfl)
        refine gl_convV (E2 := (25, str x10) :: (28, str x12) :: ([] ++ E')) (V2 := [] ++ [SL false 9 strS a_v8 c_v9 o7, SL false 9 strS a_v3 c_v4 o2, BK 31 b1 [.int .i64 0, .int .i64 0, .int .i64 0, .int .i64 0]]) (by show (25, vals 2) :: (28, vals 5) :: ([] ++ E') = _; rw [h2, h5]) (by show [] ++ [SL false 9 strS a_v8 c_v9 o7, SL false 9 strS a_v3 c_v4 o2, BK 31 b1 [.int .i64 0, .int .i64 0, .int .i64 0, .int .i64 0]] = _; rfl) ?_
        refine gl_lit (m := 1) (d := 29) (T := 9) (enc := fun x => [str x]) (hn := fun _ => rfl) false [x10, x12] rfl rfl (fun _ => rfl) nofun (Nat.le_of_ble_eq_true rfl) (fun w => by kernel_rfl) ?_
        intro a_v14 c_v15
        refine gl_nil ?_
        exact gx_fp (.slice a_v14 (List.length [x10, x12]) c_v15) rfl rfl rfl ⟨a_v14, c_v15, rfl⟩ (fun _ h => h.sub (fun _ h => h) (st_oo (A := [])) (fun o ho => by cases ho))
      · exact obl_pure rfl rfl rfl rfl rfl rfl rfl rfl
      · refine obl_in rfl rfl rfl rfl (fun R' O' => ?_)
        refine gl_idxVn (k := .i64) (memV (mem_at 0 rfl)) rfl rfl Fs71 Fz9 hx16 rfl rfl ?_
        intro p_ hp_
        obtain rfl : p17 = p_ := Option.some.inj (hp17.symm.trans hp_)
        exact gl_dp rfl rfl rfl
      · refine obl_in rfl rfl rfl rfl (fun R' O' => ?_)
        refine gl_elemVn (memV (mem_at 0 rfl)) hx16 hp17 ?_
        refine gl_ld1 0 hasAT (memV (mem_at 0 rfl)) rfl rfl Fo9 rfl rfl rfl ?_
        exact gl_dp rfl rfl rfl
      · intro vals E' R' O' hD
        have h9 : vals 9 = str x16 := hD 9 (memN 0 rfl)
        refine gl_convV (E2 := (32, str x16) :: ([] ++ E')) (V2 := [] ++ ([SL false 9 strS a_v8 c_v9 o7, SL false 9 strS a_v3 c_v4 o2, BK 31 b1 [.int .i64 0, .int .i64 0, .int .i64 0, .int .i64 0]] ++ [])) (by show (32, vals 9) :: ([] ++ E') = _; rw [h9]) (by show [] ++ ([SL false 9 strS a_v8 c_v9 o7, SL false 9 strS a_v3 c_v4 o2, BK 31 b1 [.int .i64 0, .int .i64 0, .int .i64 0, .int .i64 0]] ++ []) = _; rfl) ?_
        refine gl_call rfl rfl (fun w => by kernel_rfl) (c_spec_l01Split x16 42 ho18) (consItem (mem_at 0 rfl) (consItem (mem_at 1 rfl) (consItem (mem_at 2 rfl) (consItem (mem_at 3 rfl) noItem)))) noItem ?_
        rintro v outs ros ⟨a_v19, c_v20, rfl, rfl, rfl⟩
        refine ⟨_, rfl, ?_⟩
        refine gl_nil ?_
        exact gx_fp (.slice a_v19 (List.length o18) c_v20) rfl rfl rfl ⟨a_v19, c_v20, rfl⟩ (fun _ h => h.sub (fun _ h => h) (st_oo (A := [])) (fun o ho => by cases ho))
      · intro vals E' R' O' hD hR
        obtain ⟨a_v14, c_v15, h6⟩ : ∃ (a_v14 : Option Addr), ∃ (c_v15 : Nat), vals 6 = .slice a_v14 (List.length [x10, x12]) c_v15 := hD 6 (memN 0 rfl)
        obtain ⟨a_v19, c_v20, h10⟩ : ∃ (a_v19 : Option Addr), ∃ (c_v20 : Nat), vals 10 = .slice a_v19 (List.length o18) c_v20 := hD 10 (memN 1 rfl)
        replace hR : ∀ it, it ∈ [SL false 9 strS a_v19 c_v20 o18] ++ [SL false 9 strS a_v8 c_v9 o7, SL false 9 strS a_v3 c_v4 o2, BK 31 b1 [.int .i64 0, .int .i64 0, .int .i64 0, .int .i64 0]] → it ∈ R' := fun it hit => hR it (by show it ∈ [SL false 9 strS (slA (vals 10)) (slC (vals 10)) o18] ++ [SL false 9 strS a_v8 c_v9 o7, SL false 9 strS a_v3 c_v4 o2, BK 31 b1 [.int .i64 0, .int .i64 0, .int .i64 0, .int .i64 0]]; rw [h10]; exact hit)
        refine gl_convV (E2 := (29, .slice a_v14 (List.length [x10, x12]) c_v15) :: (33, .slice a_v19 (List.length o18) c_v20) :: ([] ++ E')) (V2 := [SL false 9 strS a_v19 c_v20 o18] ++ [SL false 9 strS a_v8 c_v9 o7, SL false 9 strS a_v3 c_v4 o2, BK 31 b1 [.int .i64 0, .int .i64 0, .int .i64 0, .int .i64 0]]) (by show (29, vals 6) :: (33, vals 10) :: ([] ++ E') = _; rw [h6, h10]) (by show [SL false 9 strS (slA (vals 10)) (slC (vals 10)) o18] ++ [SL false 9 strS a_v8 c_v9 o7, SL false 9 strS a_v3 c_v4 o2, BK 31 b1 [.int .i64 0, .int .i64 0, .int .i64 0, .int .i64 0]] = _; rw [h10] <;> rfl) ?_
        refine gl_convR (R2 := [SL false 9 strS a_v14 c_v15 [x10, x12]] ++ R') (by show [SL false 9 strS (slA (vals 6)) (slC (vals 6)) [x10, x12]] ++ R' = _; rw [h6] <;> rfl) ?_
        refine gl_appn (memV (mem_at 0 rfl)) rfl rfl Fs71 Fi9 rfl rfl (fun _ => rfl) hz21 rfl rfl ?_
        intro a_v22 c_v23
        refine gl_nil ?_
        exact gx_fp (.slice a_v22 (List.length z21) c_v23) rfl rfl rfl ⟨a_v22, c_v23, rfl⟩ (fun _ h => h.sub (fun _ h => h) (st_oo (A := [])) (fun o ho => by cases ho))
      · intro vals E' R' O' hD hR
        obtain ⟨a_v14, c_v15, h6⟩ : ∃ (a_v14 : Option Addr), ∃ (c_v15 : Nat), vals 6 = .slice a_v14 (List.length [x10, x12]) c_v15 := hD 6 (memN 0 rfl)
        obtain ⟨a_v22, c_v23, h11⟩ : ∃ (a_v22 : Option Addr), ∃ (c_v23 : Nat), vals 11 = .slice a_v22 (List.length z21) c_v23 := hD 11 (memN 1 rfl)
        refine gl_convV (E2 := (29, .slice a_v14 (List.length [x10, x12]) c_v15) :: (34, .slice a_v22 (List.length z21) c_v23) :: ([] ++ E')) (V2 := [] ++ [SL false 9 strS a_v8 c_v9 o7, SL false 9 strS a_v3 c_v4 o2, BK 31 b1 [.int .i64 0, .int .i64 0, .int .i64 0, .int .i64 0]]) (by show (29, vals 6) :: (34, vals 11) :: ([] ++ E') = _; rw [h6, h11]) (by show [] ++ [SL false 9 strS a_v8 c_v9 o7, SL false 9 strS a_v3 c_v4 o2, BK 31 b1 [.int .i64 0, .int .i64 0, .int .i64 0, .int .i64 0]] = _; rfl) ?_
        refine gl_convR (R2 := [SL false 9 strS a_v22 c_v23 z21] ++ R') (by show [SL false 9 strS (slA (vals 11)) (slC (vals 11)) z21] ++ R' = _; rw [h11] <;> rfl) ?_
        refine gl_call rfl rfl (fun w => by kernel_rfl) (c_spec_l01Numbers z21 a_v22 c_v23 ho24) (consItem (mem_at 0 rfl) (consItem (mem_at 1 rfl) (consItem (mem_at 2 rfl) (consItem (mem_at 3 rfl) noItem)))) (consItem (mem_at 0 rfl) noItem) ?_
        rintro v outs ros ⟨a_v25, c_v26, rfl, rfl, rfl⟩
        refine ⟨_, rfl, ?_⟩
        refine gl_pick 1 rfl ?_
        refine gl_nil ?_
        refine gx_fp (.tuple #[.slice a_v25 (List.length o24.1) c_v26, .bool o24.2]) rfl rfl rfl ⟨a_v25, c_v26, rfl⟩ ?_
        show ∀ w, St c w ([SL false 9 strS a_v22 c_v23 z21, SL false 2 (intS .i64) a_v25 c_v26 o24.1] ++ R') _ _ _ → St c w ([SL false 9 strS (slA (vals 11)) (slC (vals 11)) z21, SL false 2 (intS .i64) a_v25 c_v26 o24.1] ++ ([] ++ R')) _ _ _
        rw [h11]
        exact fun _ h => h.sub (fun _ h => h) (st_oo (A := [])) (fun o ho => by cases ho)
      · intro vals E' R' O' hD
        obtain ⟨a_v25, c_v26, h12⟩ : ∃ (a_v25 : Option Addr), ∃ (c_v26 : Nat), vals 12 = .tuple #[.slice a_v25 (List.length o24.1) c_v26, .bool o24.2] := hD 12 (memN 0 rfl)
        refine gl_convV (E2 := (35, .tuple #[.slice a_v25 (List.length o24.1) c_v26, .bool o24.2]) :: ([] ++ E')) (V2 := [] ++ ([SL false 9 strS a_v8 c_v9 o7, SL false 9 strS a_v3 c_v4 o2, BK 31 b1 [.int .i64 0, .int .i64 0, .int .i64 0, .int .i64 0]] ++ [])) (by show (35, vals 12) :: ([] ++ E') = _; rw [h12]) (by show [] ++ ([SL false 9 strS a_v8 c_v9 o7, SL false 9 strS a_v3 c_v4 o2, BK 31 b1 [.int .i64 0, .int .i64 0, .int .i64 0, .int .i64 0]] ++ []) = _; rfl) ?_
        refine gl_batch 1 [(22, .tuple #[.slice a_v25 (List.length o24.1) c_v26, .bool o24.2])] rfl ?_
        refine gl_nil ?_
        exact gx_fp (.tuple #[.slice a_v25 (List.length o24.1) c_v26, .bool o24.2]) rfl rfl rfl (by show (.tuple #[.slice a_v25 (List.length o24.1) c_v26, .bool o24.2] : Value) = .tuple #[.slice (slA (nthV (vals 12) 0)) (List.length o24.1) (slC (nthV (vals 12) 0)), .bool o24.2]; rw [h12] <;> rfl) (fun _ h => h.sub (fun _ h => h) (st_oo (A := [])) (fun o ho => by cases ho))
      · intro vals E' R' O' hD
        obtain ⟨a_v25, c_v26, h12⟩ : ∃ (a_v25 : Option Addr), ∃ (c_v26 : Nat), vals 12 = .tuple #[.slice a_v25 (List.length o24.1) c_v26, .bool o24.2] := hD 12 (memN 0 rfl)
        have h13 : vals 13 = .tuple #[.slice (slA (nthV (vals 12) 0)) (List.length o24.1) (slC (nthV (vals 12) 0)), .bool o24.2] := hD 13 (memN 1 rfl)
        replace h13 : vals 13 = .tuple #[.slice a_v25 (List.length o24.1) c_v26, .bool o24.2] := by rw [h13, h12] <;> rfl
        refine gl_convV (E2 := (35, .tuple #[.slice a_v25 (List.length o24.1) c_v26, .bool o24.2]) :: (22, .tuple #[.slice a_v25 (List.length o24.1) c_v26, .bool o24.2]) :: ([] ++ E')) (V2 := [] ++ ([SL false 9 strS a_v8 c_v9 o7, SL false 9 strS a_v3 c_v4 o2, BK 31 b1 [.int .i64 0, .int .i64 0, .int .i64 0, .int .i64 0]] ++ [])) (by show (35, vals 12) :: (22, vals 13) :: ([] ++ E') = _; rw [h12, h13]) (by show [] ++ ([SL false 9 strS a_v8 c_v9 o7, SL false 9 strS a_v3 c_v4 o2, BK 31 b1 [.int .i64 0, .int .i64 0, .int .i64 0, .int .i64 0]] ++ []) = _; rfl) ?_
        refine gl_batch 1 [(36, .slice a_v25 (List.length o24.1) c_v26)] rfl ?_
        refine gl_nil ?_
        exact gx_fp (.slice a_v25 (List.length o24.1) c_v26) rfl rfl rfl (by show (.slice a_v25 (List.length o24.1) c_v26 : Value) = .slice (slA (nthV (vals 12) 0)) (List.length o24.1) (slC (nthV (vals 12) 0)); rw [h12] <;> rfl) (fun _ h => h.sub (fun _ h => h) (st_oo (A := [])) (fun o ho => by cases ho))
      · intro vals E' R' O' hD
        obtain ⟨a_v25, c_v26, h12⟩ : ∃ (a_v25 : Option Addr), ∃ (c_v26 : Nat), vals 12 = .tuple #[.slice a_v25 (List.length o24.1) c_v26, .bool o24.2] := hD 12 (memN 0 rfl)
        have h13 : vals 13 = .tuple #[.slice (slA (nthV (vals 12) 0)) (List.length o24.1) (slC (nthV (vals 12) 0)), .bool o24.2] := hD 13 (memN 1 rfl)
        replace h13 : vals 13 = .tuple #[.slice a_v25 (List.length o24.1) c_v26, .bool o24.2] := by rw [h13, h12] <;> rfl
        refine gl_convV (E2 := (35, .tuple #[.slice a_v25 (List.length o24.1) c_v26, .bool o24.2]) :: (22, .tuple #[.slice a_v25 (List.length o24.1) c_v26, .bool o24.2]) :: ([] ++ E')) (V2 := [] ++ ([SL false 9 strS a_v8 c_v9 o7, SL false 9 strS a_v3 c_v4 o2, BK 31 b1 [.int .i64 0, .int .i64 0, .int .i64 0, .int .i64 0]] ++ [])) (by show (35, vals 12) :: (22, vals 13) :: ([] ++ E') = _; rw [h12, h13]) (by show [] ++ ([SL false 9 strS a_v8 c_v9 o7, SL false 9 strS a_v3 c_v4 o2, BK 31 b1 [.int .i64 0, .int .i64 0, .int .i64 0, .int .i64 0]] ++ []) = _; rfl) ?_
        refine gl_batch 1 [(37, .bool o24.2)] rfl ?_
        refine gl_nil ?_
        exact gx_fp (.bool o24.2) rfl rfl rfl rfl (fun _ h => h.sub (fun _ h => h) (st_oo (A := [])) (fun o ho => by cases ho))
      · intro vals E' R' O' hD
        obtain ⟨a_v25, c_v26, h12⟩ : ∃ (a_v25 : Option Addr), ∃ (c_v26 : Nat), vals 12 = .tuple #[.slice a_v25 (List.length o24.1) c_v26, .bool o24.2] := hD 12 (memN 0 rfl)
        have h14 : vals 14 = .slice (slA (nthV (vals 12) 0)) (List.length o24.1) (slC (nthV (vals 12) 0)) := hD 14 (memN 1 rfl)
        replace h14 : vals 14 = .slice a_v25 (List.length o24.1) c_v26 := by rw [h14, h12] <;> rfl
        refine gl_convV (E2 := (35, .tuple #[.slice a_v25 (List.length o24.1) c_v26, .bool o24.2]) :: (36, .slice a_v25 (List.length o24.1) c_v26) :: ([] ++ E')) (V2 := [] ++ ([SL false 9 strS a_v8 c_v9 o7, SL false 9 strS a_v3 c_v4 o2, BK 31 b1 [.int .i64 0, .int .i64 0, .int .i64 0, .int .i64 0]] ++ [])) (by show (35, vals 12) :: (36, vals 14) :: ([] ++ E') = _; rw [h12, h14]) (by show [] ++ ([SL false 9 strS a_v8 c_v9 o7, SL false 9 strS a_v3 c_v4 o2, BK 31 b1 [.int .i64 0, .int .i64 0, .int .i64 0, .int .i64 0]] ++ []) = _; rfl) ?_
        refine gl_batch 1 [(6, .slice a_v25 (List.length o24.1) c_v26)] rfl ?_
        refine gl_nil ?_
        exact gx_fp (.slice a_v25 (List.length o24.1) c_v26) rfl rfl rfl (by show (.slice a_v25 (List.length o24.1) c_v26 : Value) = .slice (slA (nthV (vals 12) 0)) (List.length o24.1) (slC (nthV (vals 12) 0)); rw [h12] <;> rfl) (fun _ h => h.sub (fun _ h => h) (st_oo (A := [])) (fun o ho => by cases ho))
      · exact obl_pure rfl rfl rfl rfl rfl rfl rfl rfl
      · intro vals hv
        obtain ⟨⟨⟨⟨⟨⟨⟨⟨⟨⟨⟨⟨⟨⟨⟨⟨⟨⟨_, h0⟩, h1⟩, h2⟩, h3⟩, h4⟩, h5⟩, h6⟩, h7⟩, h8⟩, h9⟩, h10⟩, h11⟩, h12⟩, h13⟩, h14⟩, h15⟩, h16⟩, h17⟩ := hv
        have h0 : vals 0 = .slice a_v3 (List.length o2) c_v4 := h0
        have h1 : vals 1 = .pointer (some p11) := h1
        have h2 : vals 2 = str x10 := h2
        have h3 : vals 3 = .slice a_v8 (List.length o7) c_v9 := h3
        have h4 : vals 4 = .pointer (some p13) := h4
        have h5 : vals 5 = str x12 := h5
        obtain ⟨a_v14, c_v15, h6⟩ : ∃ (a_v14 : Option Addr), ∃ (c_v15 : Nat), vals 6 = .slice a_v14 (List.length [x10, x12]) c_v15 := h6
        have h7 : vals 7 = .slice a_v8 (List.length o7) c_v9 := h7
        have h8 : vals 8 = .pointer (some p17) := h8
        have h9 : vals 9 = str x16 := h9
        obtain ⟨a_v19, c_v20, h10⟩ : ∃ (a_v19 : Option Addr), ∃ (c_v20 : Nat), vals 10 = .slice a_v19 (List.length o18) c_v20 := h10
        obtain ⟨a_v22, c_v23, h11⟩ : ∃ (a_v22 : Option Addr), ∃ (c_v23 : Nat), vals 11 = .slice a_v22 (List.length z21) c_v23 := h11
        obtain ⟨a_v25, c_v26, h12⟩ : ∃ (a_v25 : Option Addr), ∃ (c_v26 : Nat), vals 12 = .tuple #[.slice a_v25 (List.length o24.1) c_v26, .bool o24.2] := h12
        have h13 : vals 13 = .tuple #[.slice (slA (nthV (vals 12) 0)) (List.length o24.1) (slC (nthV (vals 12) 0)), .bool o24.2] := h13
        replace h13 : vals 13 = .tuple #[.slice a_v25 (List.length o24.1) c_v26, .bool o24.2] := by rw [h13, h12] <;> rfl
        have h14 : vals 14 = .slice (slA (nthV (vals 12) 0)) (List.length o24.1) (slC (nthV (vals 12) 0)) := h14
        replace h14 : vals 14 = .slice a_v25 (List.length o24.1) c_v26 := by rw [h14, h12] <;> rfl
        have h15 : vals 15 = .bool o24.2 := h15
        have h16 : vals 16 = .slice (slA (nthV (vals 12) 0)) (List.length o24.1) (slC (nthV (vals 12) 0)) := h16
        replace h16 : vals 16 = .slice a_v25 (List.length o24.1) c_v26 := by rw [h16, h12] <;> rfl
        have h17 : vals 17 = .bool o24.2 := h17
        refine gl_conv (E2 := (23, .slice a_v3 (List.length o2) c_v4) :: (24, .pointer (some p11)) :: (25, str x10) :: (26, .slice a_v8 (List.length o7) c_v9) :: (27, .pointer (some p13)) :: (28, str x12) :: (29, .slice a_v14 (List.length [x10, x12]) c_v15) :: (30, .slice a_v8 (List.length o7) c_v9) :: (31, .pointer (some p17)) :: (32, str x16) :: (33, .slice a_v19 (List.length o18) c_v20) :: (34, .slice a_v22 (List.length z21) c_v23) :: (35, .tuple #[.slice a_v25 (List.length o24.1) c_v26, .bool o24.2]) :: (22, .tuple #[.slice a_v25 (List.length o24.1) c_v26, .bool o24.2]) :: (36, .slice a_v25 (List.length o24.1) c_v26) :: (37, .bool o24.2) :: (6, .slice a_v25 (List.length o24.1) c_v26) :: (7, .bool o24.2) :: [(2, .pointer (some ⟨b1, 0, none⟩)), (4, .slice a_v3 (List.length o2) c_v4), (5, .slice a_v8 (List.length o7) c_v9)]) (R2 := [SL false 9 strS a_v22 c_v23 z21, SL false 2 (intS .i64) a_v25 c_v26 o24.1] ++ ([SL false 9 strS a_v19 c_v20 o18] ++ [SL false 9 strS a_v8 c_v9 o7, SL false 9 strS a_v3 c_v4 o2, BK 31 b1 [.int .i64 0, .int .i64 0, .int .i64 0, .int .i64 0]])) (O2 := [] ++ []) (by show (23, vals 0) :: (24, vals 1) :: (25, vals 2) :: (26, vals 3) :: (27, vals 4) :: (28, vals 5) :: (29, vals 6) :: (30, vals 7) :: (31, vals 8) :: (32, vals 9) :: (33, vals 10) :: (34, vals 11) :: (35, vals 12) :: (22, vals 13) :: (36, vals 14) :: (37, vals 15) :: (6, vals 16) :: (7, vals 17) :: [(2, .pointer (some ⟨b1, 0, none⟩)), (4, .slice a_v3 (List.length o2) c_v4), (5, .slice a_v8 (List.length o7) c_v9)] = _; rw [h0, h1, h2, h3, h4, h5, h6, h7, h8, h9, h10, h11, h12, h13, h14, h15, h16, h17]) (by show [SL false 9 strS (slA (vals 11)) (slC (vals 11)) z21, SL false 2 (intS .i64) (slA (nthV (vals 12) 0)) (slC (nthV (vals 12) 0)) o24.1] ++ ([SL false 9 strS (slA (vals 10)) (slC (vals 10)) o18] ++ [SL false 9 strS a_v8 c_v9 o7, SL false 9 strS a_v3 c_v4 o2, BK 31 b1 [.int .i64 0, .int .i64 0, .int .i64 0, .int .i64 0]]) = _; rw [h10, h11, h12] <;> rfl) rfl ?_
        refine gl_ns ?_
        refine g_seq ?_
        refine g_sr ?_
        refine gl_batch 3 [(40, .bool (!o24.2)), (39, .bool (!o24.2)), (38, .bool o24.2)] rfl ?_
        refine gl_join (EE := [(44, .bool ((!o24.2) || ((List.length o24.1 : Int) != 4))), (2, .pointer (some ⟨b1, 0, none⟩)), (6, .slice a_v25 (List.length o24.1) c_v26)]) (RR := [SL false 9 strS a_v22 c_v23 z21, SL false 2 (intS .i64) a_v25 c_v26 o24.1, SL false 9 strS a_v19 c_v20 o18, SL false 9 strS a_v8 c_v9 o7, SL false 9 strS a_v3 c_v4 o2, BK 31 b1 [.int .i64 0, .int .i64 0, .int .i64 0, .int .i64 0]]) (XX := [gTab 3 pow10C, gNum 0, gErr 1, gErr 2]) (OO := []) (VV := []) 4 ?_ ?_
        · skip
          refine gl_case 40 rfl (fun hc => ?_) (fun hc => ?_)
          · skip
            refine gl_batch 4 [(44, .bool true), (43, undef), (42, undef), (41, undef)] rfl ?_
            refine gl_nil ?_
            exact gx_mid ⟨congrArg (fun z => some (Value.bool z)) (or_t hc).symm, rfl, rfl, trivial⟩ (fun w hS => hS)
          · skip
            refine gl_batch 1 [(41, .slice a_v25 (List.length o24.1) c_v26)] rfl ?_
            refine gl_len rfl Fs82 rfl rfl ?_
            refine gl_batch 2 [(44, .bool ((List.length o24.1 : Int) != 4)), (43, .bool ((List.length o24.1 : Int) != 4))] rfl ?_
            refine gl_nil ?_
            exact gx_mid ⟨congrArg (fun z => some (Value.bool z)) (or_f hc).symm, rfl, rfl, trivial⟩ (fun w hS => hS)
        · skip
          refine gl_ns ?_
          refine g_cond (b := (!o24.2) || ((List.length o24.1 : Int) != 4)) rfl (fun hc => ?_) (fun hc => ?_)
          · replace h := condT hc h
            refine g_sr ?_
            refine gl_run (v := .agg #[.int .i64 0, .int .i64 0, .int .i64 0, .int .i64 0]) rfl rfl rfl (fun w => by kernel_rfl) ?_
            refine gl_pick 5 rfl ?_
            refine gl_stB (cells' := [.int .i64 0, .int .i64 0, .int .i64 0, .int .i64 0]) 0 [.int .i64 0, .int .i64 0, .int .i64 0, .int .i64 0] rfl rfl rfl Fz31 rfl rfl rfl rfl ?_
            refine gl_batch 1 [(3, .bool false)] rfl ?_
            refine gl_ns ?_
            refine g_ret ?_
            refine gx_seq_ret ?_
            obtain rfl := Option.some.inj h
            exact gx_fin rfl [.agg #[.int .i64 0, .int .i64 0, .int .i64 0, .int .i64 0], .bool false] _ _ [] ⟨_, _, rfl, ⟨_, _, _, rfl, mem_at 0 rfl, hasBK, Or.inl ⟨Fm31, Fz31, rfl⟩⟩, _, _, rfl, rfl, rfl⟩ rfl ⟨rfl, rfl, rfl⟩ (fun w hS => (hS.take 0).facts [] [] [] noItem noItem noItem) (Or.inl rfl)
          · replace h := condF hc h
            refine g_skip ?_
            refine gx_seq ?_
            refine g_seq ?_
            obtain ⟨x27, hx27, h⟩ := bindS h
            refine g_elemn (mem_at 1 rfl) hx27 ?_
            intro p28 hp28
            obtain ⟨x29, hx29, h⟩ := bindS h
            refine g_elemn (mem_at 1 rfl) hx29 ?_
            intro p30 hp30
            obtain ⟨x31, hx31, h⟩ := bindS h
            refine g_elemn (mem_at 1 rfl) hx31 ?_
            intro p32 hp32
            obtain ⟨x33, hx33, h⟩ := bindS h
            refine g_elemn (mem_at 1 rfl) hx33 ?_
            intro p34 hp34
            refine g_drawD 12 [[], [0], [0, 1], [], [3], [3, 4], [], [6], [6, 7], [], [9], [9, 10]] [[6], [], [], [6], [], [], [6], [], [], [6], [], []] [.slice a_v25 (List.length o24.1) c_v26, .pointer (some p28), .int .i64 x27, .slice a_v25 (List.length o24.1) c_v26, .pointer (some p30), .int .i64 x29, .slice a_v25 (List.length o24.1) c_v26, .pointer (some p32), .int .i64 x31, .slice a_v25 (List.length o24.1) c_v26, .pointer (some p34), .int .i64 x33] mixed rfl rfl ⟨⟨⟨⟨⟨⟨⟨⟨⟨⟨⟨⟨trivial, ?_⟩, ?_⟩, ?_⟩, ?_⟩, ?_⟩, ?_⟩, ?_⟩, ?_⟩, ?_⟩, ?_⟩, ?_⟩, ?_⟩ ?_
            · exact obl_pure rfl rfl rfl rfl rfl rfl rfl rfl
            · refine obl_in rfl rfl rfl rfl (fun R' O' => ?_)
              refine gl_idxVn (k := .i64) (memV (mem_at 1 rfl)) rfl rfl Fs82 Fz2 hx27 rfl rfl ?_
              intro p_ hp_
              obtain rfl : p28 = p_ := Option.some.inj (hp28.symm.trans hp_)
              exact gl_dp rfl rfl rfl
            · refine obl_in rfl rfl rfl rfl (fun R' O' => ?_)
              refine gl_elemVn (memV (mem_at 1 rfl)) hx27 hp28 ?_
              refine gl_ld1 0 hasAT (memV (mem_at 0 rfl)) rfl rfl Fo2 rfl rfl rfl ?_
              exact gl_dp rfl rfl rfl
            · exact obl_pure rfl rfl rfl rfl rfl rfl rfl rfl
            · refine obl_in rfl rfl rfl rfl (fun R' O' => ?_)
              refine gl_idxVn (k := .i64) (memV (mem_at 1 rfl)) rfl rfl Fs82 Fz2 hx29 rfl rfl ?_
              intro p_ hp_
              obtain rfl : p30 = p_ := Option.some.inj (hp30.symm.trans hp_)
              exact gl_dp rfl rfl rfl
            · refine obl_in rfl rfl rfl rfl (fun R' O' => ?_)
              refine gl_elemVn (memV (mem_at 1 rfl)) hx29 hp30 ?_
              refine gl_ld1 0 hasAT (memV (mem_at 0 rfl)) rfl rfl Fo2 rfl rfl rfl ?_
              exact gl_dp rfl rfl rfl
            · exact obl_pure rfl rfl rfl rfl rfl rfl rfl rfl
            · refine obl_in rfl rfl rfl rfl (fun R' O' => ?_)
              refine gl_idxVn (k := .i64) (memV (mem_at 1 rfl)) rfl rfl Fs82 Fz2 hx31 rfl rfl ?_
              intro p_ hp_
              obtain rfl : p32 = p_ := Option.some.inj (hp32.symm.trans hp_)
              exact gl_dp rfl rfl rfl
            · refine obl_in rfl rfl rfl rfl (fun R' O' => ?_)
              refine gl_elemVn (memV (mem_at 1 rfl)) hx31 hp32 ?_
              refine gl_ld1 0 hasAT (memV (mem_at 0 rfl)) rfl rfl Fo2 rfl rfl rfl ?_
              exact gl_dp rfl rfl rfl
            · exact obl_pure rfl rfl rfl rfl rfl rfl rfl rfl
            · refine obl_in rfl rfl rfl rfl (fun R' O' => ?_)
              refine gl_idxVn (k := .i64) (memV (mem_at 1 rfl)) rfl rfl Fs82 Fz2 hx33 rfl rfl ?_
              intro p_ hp_
              obtain rfl : p34 = p_ := Option.some.inj (hp34.symm.trans hp_)
              exact gl_dp rfl rfl rfl
            · refine obl_in rfl rfl rfl rfl (fun R' O' => ?_)
              refine gl_elemVn (memV (mem_at 1 rfl)) hx33 hp34 ?_
              refine gl_ld1 0 hasAT (memV (mem_at 0 rfl)) rfl rfl Fo2 rfl rfl rfl ?_
              exact gl_dp rfl rfl rfl
            · skip
              refine gl_run (v := .agg #[.int .i64 x27, .int .i64 x29, .int .i64 x31, .int .i64 x33]) rfl rfl rfl (fun w => by kernel_rfl) ?_
              refine gl_pick 5 rfl ?_
              refine gl_stB (cells' := [.int .i64 x27, .int .i64 x29, .int .i64 x31, .int .i64 x33]) 0 [.int .i64 x27, .int .i64 x29, .int .i64 x31, .int .i64 x33] rfl rfl rfl Fz31 rfl rfl rfl rfl ?_
              refine gl_batch 1 [(3, .bool true)] rfl ?_
              refine gl_ns ?_
              refine g_ret ?_
              obtain rfl := Option.some.inj h
              exact gx_fin rfl [.agg #[.int .i64 x27, .int .i64 x29, .int .i64 x31, .int .i64 x33], .bool true] _ _ [] ⟨_, _, rfl, ⟨_, _, _, rfl, mem_at 0 rfl, hasBK, Or.inl ⟨Fm31, Fz31, rfl⟩⟩, _, _, rfl, rfl, rfl⟩ rfl ⟨rfl, rfl, rfl⟩ (fun w hS => (hS.take 0).facts [] [] [] noItem noItem noItem) (Or.inl rfl)

theorem c_spec_ReadEdit (s : List UInt8)  {r : Edit × Bool} (h : spec_ReadEdit s = some r) : CallOK Tryd.prog 15 [str s] [] [gTab 3 pow10C, gNum 0, gErr 1, gErr 2] [] (fun v outs ros => v = .tuple #[.agg #[.int .i64 r.1.Kind, .int .i64 r.1.Index, .int .i64 r.1.Place.From, .int .i64 r.1.Place.To, .int .i64 r.1.Place.Delay, .int .i64 r.1.Place.Tokens], .bool r.2] ∧ outs = [] ∧ ros = []) := by
  refine fn_ok Tryd.func15 rfl Tryd.ntmps15 rfl (fun c hF0 => ?_)
  unfold spec_ReadEdit at h
  refine g_sr ?_
  refine gl_new (d := 2) (T := 33) [.int .i64 0, .int .i64 0, .int .i64 0, .int .i64 0, .int .i64 0, .int .i64 0] rfl rfl (fun _ => rfl) (fun w => by kernel_rfl) ?_
  intro b1
  refine gl_batch 1 [(3, .bool false)] rfl ?_
  refine gl_ns ?_
  refine g_seq ?_
  refine g_sr ?_
  refine gl_batch 1 [(11, str s)] rfl ?_
  refine gl_seq (s := s) (u := ([] : List UInt8)) rfl rfl rfl rfl ?_
  refine gl_ns ?_
  refine g_cond (b := s == ([] : List UInt8)) rfl (fun hc => ?_) (fun hc => ?_)
  · replace h := condT hc h
    refine g_sr ?_
    refine gl_run (v := .agg #[.int .i64 0, .int .i64 0, .int .i64 0, .int .i64 0, .int .i64 0, .int .i64 0]) rfl rfl rfl (fun w => by kernel_rfl) ?_
    refine gl_stB (cells' := [.int .i64 0, .int .i64 0, .int .i64 0, .int .i64 0, .int .i64 0, .int .i64 0]) 0 [.int .i64 0, .int .i64 0, .int .i64 0, .int .i64 0, .int .i64 0, .int .i64 0] rfl rfl rfl Fz33 rfl rfl rfl rfl ?_
    refine gl_batch 1 [(3, .bool false)] rfl ?_
    refine gl_ns ?_
    refine g_ret ?_
    refine gx_seq_ret ?_
    obtain rfl := Option.some.inj h
    exact gx_fin rfl [.agg #[.int .i64 0, .int .i64 0, .int .i64 0, .int .i64 0, .int .i64 0, .int .i64 0], .bool false] _ _ [] ⟨_, _, rfl, ⟨_, _, _, rfl, mem_at 0 rfl, hasBK, Or.inl ⟨Fm33, Fz33, rfl⟩⟩, _, _, rfl, rfl, rfl⟩ rfl ⟨rfl, rfl, rfl⟩ (fun w hS => (hS.take 0).facts [] [] [] noItem noItem noItem) (Or.inl rfl)
  · replace h := condF hc h
    refine g_skip ?_
    refine gx_seq ?_
    refine g_sr ?_
    refine gl_batch 1 [(14, str s)] rfl ?_
    obtain ⟨z2, hz2, h⟩ := bindS h
    refine gl_ssub (i := 1) (j := (List.length s : Int)) (k := .i64) (k2 := .i64) rfl rfl rfl Ft9 hz2 rfl rfl ?_
    obtain ⟨o3, ho3, h⟩ := bindS h
    refine gl_call rfl rfl (fun w => by kernel_rfl) (c_spec_l01Split z2 32 ho3) (consItem (mem_at 0 rfl) (consItem (mem_at 1 rfl) (consItem (mem_at 2 rfl) (consItem (mem_at 3 rfl) noItem)))) noItem ?_
    rintro v outs ros ⟨a_v4, c_v5, rfl, rfl, rfl⟩
    refine ⟨_, rfl, ?_⟩
    refine gl_batch 1 [(4, .slice a_v4 (List.length o3) c_v5)] rfl ?_
    refine gl_nx ?_
    refine gl_batch 1 [(18, .slice a_v4 (List.length o3) c_v5)] rfl ?_
    obtain ⟨x6, hx6, h⟩ := bindS h
    refine gl_idxVn (k := .i64) (mem_at 0 rfl) rfl rfl Fs71 Fz9 hx6 rfl rfl ?_
    intro p7 hp7
    refine gl_ld1 0 hasAT (mem_at 2 rfl) rfl rfl Fo9 rfl rfl rfl ?_
    obtain ⟨o8, ho8, h⟩ := bindS h
    refine gl_call rfl rfl (fun w => by kernel_rfl) (c_spec_l01Digits x6 ho8) (consItem (mem_at 0 rfl) (consItem (mem_at 1 rfl) (consItem (mem_at 2 rfl) (consItem (mem_at 3 rfl) noItem)))) noItem ?_
    rintro v outs ros ⟨rfl, rfl, rfl⟩
    refine ⟨_, rfl, ?_⟩
    refine gl_batch 5 [(6, .bool o8.2), (5, .int .i64 o8.1), (23, .bool o8.2), (22, .int .i64 o8.1), (17, .tuple #[.int .i64 o8.1, .bool o8.2])] rfl ?_
    refine gl_nx ?_
    refine gl_batch 1 [(24, .int .i64 o8.1)] rfl ?_
    refine gl_run (v := .agg #[.int .i64 0, .int .i64 o8.1, .int .i64 0, .int .i64 0, .int .i64 0, .int .i64 0]) rfl rfl rfl (fun w => by kernel_rfl) ?_
    refine gl_new (d := 7) (T := 33) [.int .i64 0, .int .i64 0, .int .i64 0, .int .i64 0, .int .i64 0, .int .i64 0] rfl rfl (fun _ => rfl) (fun w => by kernel_rfl) ?_
    intro b9
    refine gl_stB (cells' := [.int .i64 0, .int .i64 o8.1, .int .i64 0, .int .i64 0, .int .i64 0, .int .i64 0]) 0 [.int .i64 0, .int .i64 o8.1, .int .i64 0, .int .i64 0, .int .i64 0, .int .i64 0] rfl rfl rfl Fz33 rfl rfl rfl rfl ?_
    refine gl_ns ?_
    refine g_seq ?_
    refine g_sr ?_
    refine gl_batch 1 [(8, .int .i64 1)] rfl ?_
    refine gl_ns ?_
    refine g_block ?_
    obtain ⟨o10, ho10, h⟩ := bindS h
    refine g_loop (spec_ReadEdit_L1 s) (fun (ss_ : Int × Int) a w => Env a 63 [(0, str s), (2, .pointer (some ⟨b1, 0, none⟩)), (4, .slice a_v4 (List.length o3) c_v5), (6, .bool o8.2), (7, .pointer (some ⟨b9, 0, none⟩)), (8, .int .i64 ss_.2)] ∧ St c w [BK 33 b1 [.int .i64 0, .int .i64 0, .int .i64 0, .int .i64 0, .int .i64 0, .int .i64 0], SL false 9 strS a_v4 c_v5 o3, BK 33 b9 [.int .i64 ss_.1, .int .i64 o8.1, .int .i64 0, .int .i64 0, .int .i64 0, .int .i64 0]] [gTab 3 pow10C, gNum 0, gErr 1, gErr 2] [] []) ((fun (ss_ : Int) e a w => e = (.exit 0) ∧ Env a 63 [(0, str s), (2, .pointer (some ⟨b1, 0, none⟩)), (4, .slice a_v4 (List.length o3) c_v5), (6, .bool o8.2), (7, .pointer (some ⟨b9, 0, none⟩))] ∧ St c w [BK 33 b1 [.int .i64 0, .int .i64 0, .int .i64 0, .int .i64 0, .int .i64 0, .int .i64 0], SL false 9 strS a_v4 c_v5 o3, BK 33 b9 [.int .i64 ss_, .int .i64 o8.1, .int .i64 0, .int .i64 0, .int .i64 0, .int .i64 0]] [gTab 3 pow10C, gNum 0, gErr 1, gErr 2] [] []) : (Int) → Exit → Act → World → Prop) ho10 ?_ ?_ ?_
    · exact fun a w hE hS => ⟨hE.sub ⟨rfl, rfl, rfl, rfl, rfl, rfl, trivial⟩, ((((hS.pick 0 rfl).pick 1 rfl).pick 2 rfl).take 3).facts _ _ [] (consItem (mem_at 0 rfl) (consItem (mem_at 1 rfl) (consItem (mem_at 2 rfl) (consItem (mem_at 3 rfl) noItem)))) noItem noItem⟩
    · intro s11 o12 h a w hA
      obtain ⟨hE, hS⟩ := hA
      unfold spec_ReadEdit_L1 at h
      refine g_enter hE hS ?_
      refine g_seq ?_
      refine g_sr ?_
      refine gl_batch 2 [(27, .bool (decide (s11.2 ≤ 3))), (26, .int .i64 s11.2)] rfl ?_
      refine gl_ns ?_
      refine g_cond (b := decide (s11.2 ≤ 3)) rfl (fun hc => ?_) (fun hc => ?_)
      · replace h := condT hc h
        refine g_skip ?_
        refine gx_seq ?_
        obtain ⟨o13, ho13, h⟩ := bindS h
        refine g_mid (M := ((fun ss_ e a w => e = .normal ∧ Env a 63 [(0, str s), (2, .pointer (some ⟨b1, 0, none⟩)), (4, .slice a_v4 (List.length o3) c_v5), (6, .bool o8.2), (7, .pointer (some ⟨b9, 0, none⟩)), (8, .int .i64 s11.2)] ∧ St c w [BK 33 b1 [.int .i64 0, .int .i64 0, .int .i64 0, .int .i64 0, .int .i64 0, .int .i64 0], SL false 9 strS a_v4 c_v5 o3, BK 33 b9 [.int .i64 ss_, .int .i64 o8.1, .int .i64 0, .int .i64 0, .int .i64 0, .int .i64 0]] [gTab 3 pow10C, gNum 0, gErr 1, gErr 2] [] []) : (Int) → Exit → Act → World → Prop) o13) ?_ ?_
        · replace h := ho13
          refine g_block ?_
          refine g_seq ?_
          obtain ⟨z14, hz14, h⟩ := bindS h
          obtain ⟨o15, ho15, h⟩ := bindS h
          refine g_drawD 4 [[], [0], [], [2]] [[0], [], [8], []] [str s, str z14, .int .i64 s11.2, str o15] mixed rfl rfl ⟨⟨⟨⟨trivial, ?_⟩, ?_⟩, ?_⟩, ?_⟩ ?_
          · exact obl_pure rfl rfl rfl rfl rfl rfl rfl rfl
          · refine obl_in rfl rfl rfl rfl (fun R' O' => ?_)
            refine gl_ssub (i := 0) (j := 1) (k := .i64) (k2 := .i64) rfl rfl rfl Ft9 hz14 rfl rfl ?_
            exact gl_dp rfl rfl rfl
          · exact obl_pure rfl rfl rfl rfl rfl rfl rfl rfl
          · refine obl_in rfl rfl rfl rfl (fun R' O' => ?_)
            refine gl_call rfl rfl (fun w => by kernel_rfl) (c_spec_l29Sign s11.2 ho15) (consItem (mem_at 0 rfl) (consItem (mem_at 1 rfl) (consItem (mem_at 2 rfl) (consItem (mem_at 3 rfl) noItem)))) noItem ?_
            rintro v outs ros ⟨rfl, rfl, rfl⟩
            refine ⟨_, rfl, ?_⟩
            exact gl_dp rfl rfl rfl
          · skip
            refine gl_seq (s := z14) (u := o15) rfl rfl rfl rfl ?_
            refine gl_ns ?_
            refine g_cond (b := z14 == o15) rfl (fun hc => ?_) (fun hc => ?_)
            · replace h := condT hc h
              refine g_region ?_
              refine gl_batch 1 [(35, .int .i64 s11.2)] rfl ?_
              refine gl_run (v := .pointer (some ⟨b9, 0, none⟩)) rfl rfl rfl (fun w => by kernel_rfl) ?_
              refine gl_pick 2 rfl ?_
              refine gl_stB (cells' := [.int .i64 s11.2, .int .i64 o8.1, .int .i64 0, .int .i64 0, .int .i64 0, .int .i64 0]) 0 [.int .i64 s11.2] rfl rfl rfl Fz2 rfl rfl rfl rfl ?_
              refine gl_nil ?_
              refine gx_blk ?_
              obtain rfl := Option.some.inj h
              exact gx_of (fun a w hE hS => ⟨rfl, hE.sub ⟨rfl, rfl, rfl, rfl, rfl, rfl, trivial⟩, ((((hS.pick 0 rfl).pick 2 rfl).pick 2 rfl).take 3).facts _ _ [] (consItem (mem_at 0 rfl) (consItem (mem_at 1 rfl) (consItem (mem_at 2 rfl) (consItem (mem_at 3 rfl) noItem)))) noItem noItem⟩)
            · replace h := condF hc h
              refine g_skip ?_
              refine gx_blk ?_
              obtain rfl := Option.some.inj h
              exact gx_of (fun a w hE hS => ⟨rfl, hE.sub ⟨rfl, rfl, rfl, rfl, rfl, rfl, trivial⟩, (hS.take 3).facts _ _ [] (consItem (mem_at 0 rfl) (consItem (mem_at 1 rfl) (consItem (mem_at 2 rfl) (consItem (mem_at 3 rfl) noItem)))) noItem noItem⟩)
        · intro e a w hm
          obtain ⟨rfl, hE, hS⟩ := hm
          refine gx_to hE hS ?_
          refine gx_seq ?_
          refine g_region ?_
          refine gl_batch 3 [(8, .int .i64 (IntKind.i64.wrap (s11.2 + 1))), (29, .int .i64 (IntKind.i64.wrap (s11.2 + 1))), (28, .int .i64 s11.2)] rfl ?_
          refine gl_nil ?_
          obtain rfl := Option.some.inj h
          exact gx_of (fun a w hE hS => lp_in ⟨hE.sub ⟨rfl, rfl, rfl, rfl, rfl, rfl, trivial⟩, (hS.take 3).facts _ _ [] (consItem (mem_at 0 rfl) (consItem (mem_at 1 rfl) (consItem (mem_at 2 rfl) (consItem (mem_at 3 rfl) noItem)))) noItem noItem⟩)
      · replace h := condF hc h
        refine g_exit ?_
        refine gx_seq_exit ?_
        obtain rfl := Option.some.inj h
        exact gx_of (fun a w hE hS => lp_out nofun (⟨rfl, hE.sub ⟨rfl, rfl, rfl, rfl, rfl, trivial⟩, (hS.take 3).facts _ _ [] (consItem (mem_at 0 rfl) (consItem (mem_at 1 rfl) (consItem (mem_at 2 rfl) (consItem (mem_at 3 rfl) noItem)))) noItem noItem⟩))
    · intro e a w hm
      obtain ⟨rfl, hE, hS⟩ := hm
      refine gx_to hE hS ?_
      refine gx_blk_hit ?_
      refine gx_seq ?_
      obtain ⟨o16, ho16, h⟩ := bindS h
      refine g_mid (M := ((fun ss_ e a w => e = .normal ∧ Env a 63 [(0, str s), (2, .pointer (some ⟨b1, 0, none⟩)), (6, .bool ss_.1), (7, .pointer (some ⟨b9, 0, none⟩))] ∧ St c w [BK 33 b1 [.int .i64 0, .int .i64 0, .int .i64 0, .int .i64 0, .int .i64 0, .int .i64 0], BK 33 b9 [.int .i64 o10, .int .i64 o8.1, .int .i64 ss_.2.1, .int .i64 ss_.2.2.1, .int .i64 ss_.2.2.2.1, .int .i64 ss_.2.2.2.2]] [gTab 3 pow10C, gNum 0, gErr 1, gErr 2] [] []) : (Bool × Int × Int × Int × Int) → Exit → Act → World → Prop) o16) ?_ ?_
      · replace h := ho16
        refine g_sr ?_
        refine gl_batch 1 [(37, .slice a_v4 (List.length o3) c_v5)] rfl ?_
        refine gl_len rfl Fs71 rfl rfl ?_
        refine gl_batch 1 [(39, .bool ((List.length o3 : Int) == 2))] rfl ?_
        refine gl_ns ?_
        refine g_cond (b := (List.length o3 : Int) == 2) rfl (fun hc => ?_) (fun hc => ?_)
        · replace h := condT hc h
          refine g_sr ?_
          refine gl_batch 1 [(41, .slice a_v4 (List.length o3) c_v5)] rfl ?_
          obtain ⟨x17, hx17, h⟩ := bindS h
          refine gl_idxVn (k := .i64) (mem_at 1 rfl) rfl rfl Fs71 Fz9 hx17 rfl rfl ?_
          intro p18 hp18
          refine gl_ld1 0 hasAT (mem_at 3 rfl) rfl rfl Fo9 rfl rfl rfl ?_
          obtain ⟨o19, ho19, h⟩ := bindS h
          refine gl_call rfl rfl (fun w => by kernel_rfl) (c_spec_l11Read x17 ho19) (consItem (mem_at 0 rfl) (consItem (mem_at 1 rfl) (consItem (mem_at 2 rfl) (consItem (mem_at 3 rfl) noItem)))) noItem ?_
          rintro v outs ros ⟨rfl, rfl, rfl⟩
          refine ⟨_, rfl, ?_⟩
          refine gl_batch 3 [(46, .bool o19.2), (45, .agg #[.int .i64 o19.1.From, .int .i64 o19.1.To, .int .i64 o19.1.Delay, .int .i64 o19.1.Tokens]), (40, .tuple #[.agg #[.int .i64 o19.1.From, .int .i64 o19.1.To, .int .i64 o19.1.Delay, .int .i64 o19.1.Tokens], .bool o19.2])] rfl ?_
          refine gl_new (d := 9) (T := 31) [.int .i64 0, .int .i64 0, .int .i64 0, .int .i64 0] rfl rfl (fun _ => rfl) (fun w => by kernel_rfl) ?_
          intro b20
          refine gl_stB (cells' := [.int .i64 o19.1.From, .int .i64 o19.1.To, .int .i64 o19.1.Delay, .int .i64 o19.1.Tokens]) 0 [.int .i64 o19.1.From, .int .i64 o19.1.To, .int .i64 o19.1.Delay, .int .i64 o19.1.Tokens] rfl rfl rfl Fz31 rfl rfl rfl rfl ?_
          refine gl_batch 1 [(10, .bool o19.2)] rfl ?_
          refine gl_nx ?_
          refine gl_ldA (vs := [.int .i64 o19.1.From, .int .i64 o19.1.To, .int .i64 o19.1.Delay, .int .i64 o19.1.Tokens]) 0 hasBK (mem_at 0 rfl) rfl rfl Fm31 Fz31 rfl rfl rfl ?_
          refine gl_run (v := .pointer (some ⟨b9, 2, none⟩)) rfl rfl rfl (fun w => by kernel_rfl) ?_
          refine gl_pick 3 rfl ?_
          refine gl_stB (cells' := [.int .i64 o10, .int .i64 o8.1, .int .i64 o19.1.From, .int .i64 o19.1.To, .int .i64 o19.1.Delay, .int .i64 o19.1.Tokens]) 2 [.int .i64 o19.1.From, .int .i64 o19.1.To, .int .i64 o19.1.Delay, .int .i64 o19.1.Tokens] rfl rfl rfl Fz31 rfl rfl rfl rfl ?_
          refine gl_ns ?_
          refine g_region ?_
          refine gl_batch 2 [(50, .bool o8.2), (49, .bool o8.2)] rfl ?_
          refine gl_join (EE := [(52, .bool (o8.2 && o19.2)), (0, str s), (2, .pointer (some ⟨b1, 0, none⟩)), (7, .pointer (some ⟨b9, 0, none⟩))]) (RR := [BK 33 b9 [.int .i64 o10, .int .i64 o8.1, .int .i64 o19.1.From, .int .i64 o19.1.To, .int .i64 o19.1.Delay, .int .i64 o19.1.Tokens], BK 31 b20 [.int .i64 o19.1.From, .int .i64 o19.1.To, .int .i64 o19.1.Delay, .int .i64 o19.1.Tokens], BK 33 b1 [.int .i64 0, .int .i64 0, .int .i64 0, .int .i64 0, .int .i64 0, .int .i64 0], SL false 9 strS a_v4 c_v5 o3]) (XX := [gTab 3 pow10C, gNum 0, gErr 1, gErr 2]) (OO := []) (VV := []) 2 ?_ ?_
          · skip
            refine gl_case 50 rfl (fun hc => ?_) (fun hc => ?_)
            · skip
              refine gl_batch 2 [(52, .bool o19.2), (51, .bool o19.2)] rfl ?_
              refine gl_nil ?_
              exact gx_mid ⟨congrArg (fun z => some (Value.bool z)) (and_t hc).symm, rfl, rfl, rfl, trivial⟩ (fun w hS => hS)
            · skip
              refine gl_batch 2 [(52, .bool false), (51, undef)] rfl ?_
              refine gl_nil ?_
              exact gx_mid ⟨congrArg (fun z => some (Value.bool z)) (and_f hc).symm, rfl, rfl, rfl, trivial⟩ (fun w hS => hS)
          · skip
            refine gl_batch 1 [(6, .bool (o8.2 && o19.2))] rfl ?_
            refine gl_nil ?_
            obtain rfl := Option.some.inj h
            exact gx_of (fun a w hE hS => ⟨rfl, hE.sub ⟨rfl, rfl, rfl, rfl, trivial⟩, (((hS.pick 0 rfl).pick 2 rfl).take 2).facts _ _ [] (consItem (mem_at 0 rfl) (consItem (mem_at 1 rfl) (consItem (mem_at 2 rfl) (consItem (mem_at 3 rfl) noItem)))) noItem noItem⟩)
        · replace h := condF hc h
          refine g_skip ?_
          obtain rfl := Option.some.inj h
          exact gx_of (fun a w hE hS => ⟨rfl, hE.sub ⟨rfl, rfl, rfl, rfl, trivial⟩, (((hS.pick 2 rfl).pick 1 rfl).take 2).facts _ _ [] (consItem (mem_at 0 rfl) (consItem (mem_at 1 rfl) (consItem (mem_at 2 rfl) (consItem (mem_at 3 rfl) noItem)))) noItem noItem⟩)
      · intro e a w hm
        obtain ⟨rfl, hE, hS⟩ := hm
        refine gx_to hE hS ?_
        refine gx_seq ?_
        refine g_seq ?_
        refine g_sr ?_
        refine gl_batch 3 [(55, .bool (!o16.1)), (54, .bool (!o16.1)), (53, .bool o16.1)] rfl ?_
        obtain ⟨q21, hq21, h⟩ := bindS h
        refine gl_join (EE := [(60, .bool q21), (2, .pointer (some ⟨b1, 0, none⟩)), (7, .pointer (some ⟨b9, 0, none⟩))]) (RR := [BK 33 b1 [.int .i64 0, .int .i64 0, .int .i64 0, .int .i64 0, .int .i64 0, .int .i64 0], BK 33 b9 [.int .i64 o10, .int .i64 o8.1, .int .i64 o16.2.1, .int .i64 o16.2.2.1, .int .i64 o16.2.2.2.1, .int .i64 o16.2.2.2.2]]) (XX := [gTab 3 pow10C, gNum 0, gErr 1, gErr 2]) (OO := []) (VV := []) 5 ?_ ?_
        · replace h := hq21
          refine gl_case 55 rfl (fun hc => ?_) (fun hc => ?_)
          · replace h := condT hc h
            refine gl_batch 5 [(60, .bool true), (59, undef), (58, undef), (57, undef), (56, undef)] rfl ?_
            refine gl_nil ?_
            obtain rfl := Option.some.inj h
            exact gx_mid ⟨rfl, rfl, rfl, trivial⟩ (fun w hS => hS)
          · replace h := condF hc h
            refine gl_ldA (vs := [.int .i64 o10, .int .i64 o8.1, .int .i64 o16.2.1, .int .i64 o16.2.2.1, .int .i64 o16.2.2.2.1, .int .i64 o16.2.2.2.2]) 0 hasBK (mem_at 1 rfl) rfl rfl Fm33 Fz33 rfl rfl rfl ?_
            obtain ⟨o22, ho22, h⟩ := bindS h
            refine gl_call rfl rfl (fun w => by kernel_rfl) (c_spec_EditText (⟨o10, o8.1, (⟨o16.2.1, o16.2.2.1, o16.2.2.2.1, o16.2.2.2.2⟩ : Place)⟩ : Edit) ho22) (consItem (mem_at 0 rfl) (consItem (mem_at 1 rfl) (consItem (mem_at 2 rfl) (consItem (mem_at 3 rfl) noItem)))) noItem ?_
            rintro v outs ros ⟨rfl, rfl, rfl⟩
            refine ⟨_, rfl, ?_⟩
            refine gl_batch 1 [(58, str s)] rfl ?_
            refine gl_sne (s := o22) (u := s) rfl rfl rfl rfl ?_
            refine gl_batch 1 [(60, .bool (!(o22 == s)))] rfl ?_
            refine gl_nil ?_
            obtain rfl := Option.some.inj h
            exact gx_mid ⟨rfl, rfl, rfl, trivial⟩ (fun w hS => hS)
        · skip
          refine gl_ns ?_
          refine g_cond (b := q21) rfl (fun hc => ?_) (fun hc => ?_)
          · replace h := condT hc h
            refine g_sr ?_
            refine gl_run (v := .agg #[.int .i64 0, .int .i64 0, .int .i64 0, .int .i64 0, .int .i64 0, .int .i64 0]) rfl rfl rfl (fun w => by kernel_rfl) ?_
            refine gl_stB (cells' := [.int .i64 0, .int .i64 0, .int .i64 0, .int .i64 0, .int .i64 0, .int .i64 0]) 0 [.int .i64 0, .int .i64 0, .int .i64 0, .int .i64 0, .int .i64 0, .int .i64 0] rfl rfl rfl Fz33 rfl rfl rfl rfl ?_
            refine gl_batch 1 [(3, .bool false)] rfl ?_
            refine gl_ns ?_
            refine g_ret ?_
            refine gx_seq_ret ?_
            obtain rfl := Option.some.inj h
            exact gx_fin rfl [.agg #[.int .i64 0, .int .i64 0, .int .i64 0, .int .i64 0, .int .i64 0, .int .i64 0], .bool false] _ _ [] ⟨_, _, rfl, ⟨_, _, _, rfl, mem_at 0 rfl, hasBK, Or.inl ⟨Fm33, Fz33, rfl⟩⟩, _, _, rfl, rfl, rfl⟩ rfl ⟨rfl, rfl, rfl⟩ (fun w hS => (hS.take 0).facts [] [] [] noItem noItem noItem) (Or.inl rfl)
          · replace h := condF hc h
            refine g_skip ?_
            refine gx_seq ?_
            refine g_sr ?_
            refine gl_ldA (vs := [.int .i64 o10, .int .i64 o8.1, .int .i64 o16.2.1, .int .i64 o16.2.2.1, .int .i64 o16.2.2.2.1, .int .i64 o16.2.2.2.2]) 0 hasBK (mem_at 1 rfl) rfl rfl Fm33 Fz33 rfl rfl rfl ?_
            refine gl_stB (cells' := [.int .i64 o10, .int .i64 o8.1, .int .i64 o16.2.1, .int .i64 o16.2.2.1, .int .i64 o16.2.2.2.1, .int .i64 o16.2.2.2.2]) 0 [.int .i64 o10, .int .i64 o8.1, .int .i64 o16.2.1, .int .i64 o16.2.2.1, .int .i64 o16.2.2.2.1, .int .i64 o16.2.2.2.2] rfl rfl rfl Fz33 rfl rfl rfl rfl ?_
            refine gl_batch 1 [(3, .bool true)] rfl ?_
            refine gl_ns ?_
            refine g_ret ?_
            obtain rfl := Option.some.inj h
            exact gx_fin rfl [.agg #[.int .i64 o10, .int .i64 o8.1, .int .i64 o16.2.1, .int .i64 o16.2.2.1, .int .i64 o16.2.2.2.1, .int .i64 o16.2.2.2.2], .bool true] _ _ [] ⟨_, _, rfl, ⟨_, _, _, rfl, mem_at 0 rfl, hasBK, Or.inl ⟨Fm33, Fz33, rfl⟩⟩, _, _, rfl, rfl, rfl⟩ rfl ⟨rfl, rfl, rfl⟩ (fun w hS => (hS.take 0).facts [] [] [] noItem noItem noItem) (Or.inl rfl)

theorem c_impl_readPlace (s : List UInt8)  {r : Place × Bool} (h : impl_readPlace s = some r) : CallOK Tryd.prog 54 [str s] [] [gTab 3 pow10C, gNum 0, gErr 1, gErr 2] [] (fun v outs ros => v = .tuple #[.agg #[.int .i64 r.1.From, .int .i64 r.1.To, .int .i64 r.1.Delay, .int .i64 r.1.Tokens], .bool r.2] ∧ outs = [] ∧ ros = []) := by
  refine fn_ok Tryd.func54 rfl Tryd.ntmps54 rfl (fun c hF0 => ?_)
  unfold impl_readPlace at h
  refine g_sr ?_
  refine gl_new (d := 2) (T := 31) [.int .i64 0, .int .i64 0, .int .i64 0, .int .i64 0] rfl rfl (fun _ => rfl) (fun w => by kernel_rfl) ?_
  intro b1
  refine gl_batch 1 [(3, .bool false)] rfl ?_
  refine gl_nx ?_
  refine gl_batch 1 [(18, str s)] rfl ?_
  obtain ⟨o2, ho2, h⟩ := bindS h
  refine gl_call rfl rfl (fun w => by kernel_rfl) (c_strings_Cut s ([62] : List UInt8) ho2) (consItem (mem_at 0 rfl) (consItem (mem_at 1 rfl) (consItem (mem_at 2 rfl) (consItem (mem_at 3 rfl) noItem)))) noItem ?_
  rintro v outs ros ⟨rfl, rfl, rfl⟩
  refine ⟨_, rfl, ?_⟩
  refine gl_batch 7 [(6, .bool o2.2.2), (5, str o2.2.1), (4, str o2.1), (22, .bool o2.2.2), (21, str o2.2.1), (20, str o2.1), (17, .tuple #[str o2.1, str o2.2.1, .bool o2.2.2])] rfl ?_
  refine gl_nx ?_
  refine gl_batch 1 [(24, str o2.2.1)] rfl ?_
  obtain ⟨o3, ho3, h⟩ := bindS h
  refine gl_call rfl rfl (fun w => by kernel_rfl) (c_strings_Cut o2.2.1 ([58] : List UInt8) ho3) (consItem (mem_at 0 rfl) (consItem (mem_at 1 rfl) (consItem (mem_at 2 rfl) (consItem (mem_at 3 rfl) noItem)))) noItem ?_
  rintro v outs ros ⟨rfl, rfl, rfl⟩
  refine ⟨_, rfl, ?_⟩
  refine gl_batch 7 [(8, .bool o3.2.2), (5, str o3.2.1), (7, str o3.1), (28, .bool o3.2.2), (27, str o3.2.1), (26, str o3.1), (23, .tuple #[str o3.1, str o3.2.1, .bool o3.2.2])] rfl ?_
  refine gl_nx ?_
  refine gl_batch 1 [(30, str o3.2.1)] rfl ?_
  obtain ⟨o4, ho4, h⟩ := bindS h
  refine gl_call rfl rfl (fun w => by kernel_rfl) (c_strings_Cut o3.2.1 ([42] : List UInt8) ho4) (consItem (mem_at 0 rfl) (consItem (mem_at 1 rfl) (consItem (mem_at 2 rfl) (consItem (mem_at 3 rfl) noItem)))) noItem ?_
  rintro v outs ros ⟨rfl, rfl, rfl⟩
  refine ⟨_, rfl, ?_⟩
  refine gl_batch 7 [(11, .bool o4.2.2), (10, str o4.2.1), (9, str o4.1), (34, .bool o4.2.2), (33, str o4.2.1), (32, str o4.1), (29, .tuple #[str o4.1, str o4.2.1, .bool o4.2.2])] rfl ?_
  refine gl_nx ?_
  refine gl_new (d := 12) (T := 120) [.int .i64 0, .int .i64 0, .int .i64 0, .int .i64 0] rfl rfl (fun _ => rfl) (fun w => by kernel_rfl) ?_
  intro b5
  refine gl_ns ?_
  refine g_seq ?_
  refine g_sr ?_
  refine gl_batch 4 [(38, str o4.2.1), (37, str o4.1), (36, str o3.1), (35, str o2.1)] rfl ?_
  refine gl_run (v := .agg #[str o2.1, str o3.1, str o4.1, str o4.2.1]) rfl rfl rfl (fun w => by kernel_rfl) ?_
  refine gl_batch 1 [(40, .int .i64 0)] rfl ?_
  refine gl_ns ?_
  refine g_block ?_
  obtain ⟨o6, ho6, h⟩ := bindS h
  refine g_loop (impl_readPlace_L1 o2 o3 o4) (fun (ss_ : Int × Int × Int × Int × Int) a w => Env a 65 [(2, .pointer (some ⟨b1, 0, none⟩)), (12, .pointer (some ⟨b5, 0, none⟩)), (39, .agg #[str o2.1, str o3.1, str o4.1, str o4.2.1]), (40, .int .i64 ss_.2.2.2.2)] ∧ St c w [BK 31 b1 [.int .i64 0, .int .i64 0, .int .i64 0, .int .i64 0], BK 120 b5 [.int .i64 ss_.1, .int .i64 ss_.2.1, .int .i64 ss_.2.2.1, .int .i64 ss_.2.2.2.1]] [gTab 3 pow10C, gNum 0, gErr 1, gErr 2] [] []) (Sum.elim (fun (ss_ : Unit) e a w => e = .ret ∧ Env a 65 [(2, .pointer (some ⟨b1, 0, none⟩)), (3, .bool false)] ∧ St c w [BK 31 b1 [.int .i64 0, .int .i64 0, .int .i64 0, .int .i64 0]] [gTab 3 pow10C, gNum 0, gErr 1, gErr 2] [] []) (fun (ss_ : Int × Int × Int × Int) e a w => e = (.exit 0) ∧ Env a 65 [(2, .pointer (some ⟨b1, 0, none⟩)), (12, .pointer (some ⟨b5, 0, none⟩))] ∧ St c w [BK 31 b1 [.int .i64 0, .int .i64 0, .int .i64 0, .int .i64 0], BK 120 b5 [.int .i64 ss_.1, .int .i64 ss_.2.1, .int .i64 ss_.2.2.1, .int .i64 ss_.2.2.2]] [gTab 3 pow10C, gNum 0, gErr 1, gErr 2] [] []) : (Sum Unit (Int × Int × Int × Int)) → Exit → Act → World → Prop) ho6 ?_ ?_ ?_
  · exact fun a w hE hS => ⟨hE.sub ⟨rfl, rfl, rfl, rfl, trivial⟩, (((hS.pick 0 rfl).pick 1 rfl).take 2).facts _ _ [] (consItem (mem_at 0 rfl) (consItem (mem_at 1 rfl) (consItem (mem_at 2 rfl) (consItem (mem_at 3 rfl) noItem)))) noItem noItem⟩
  · intro s7 o8 h a w hA
    obtain ⟨hE, hS⟩ := hA
    unfold impl_readPlace_L1 at h
    refine g_enter hE hS ?_
    refine g_sr ?_
    refine gl_batch 1 [(41, .bool (decide (s7.2.2.2.2 < 4)))] rfl ?_
    refine gl_ns ?_
    refine g_seq ?_
    refine g_cond (b := decide (s7.2.2.2.2 < 4)) rfl (fun hc => ?_) (fun hc => ?_)
    · replace h := condT hc h
      refine g_skip ?_
      refine gx_seq ?_
      refine g_seq ?_
      refine g_block ?_
      refine g_sr ?_
      refine gl_batch 1 [(42, .int .i64 s7.2.2.2.2)] rfl ?_
      obtain ⟨y9, hy9, h⟩ := bindS h
      refine gl_aidx (f := fun x => str x) (xs := ([o2.1, o3.1, o4.1, o4.2.1] : List (List UInt8))) (k := .i64) rfl rfl Fa121 Fo9 Fz9 rfl rfl hy9 rfl rfl ?_
      refine gl_batch 2 [(14, str y9), (13, .int .i64 s7.2.2.2.2)] rfl ?_
      refine gl_nx ?_
      refine gl_batch 1 [(45, str y9)] rfl ?_
      obtain ⟨o10, ho10, h⟩ := bindS h
      refine gl_call rfl rfl (fun w => by kernel_rfl) (c_impl_readNumber y9 ho10) (consItem (mem_at 0 rfl) (consItem (mem_at 1 rfl) (consItem (mem_at 2 rfl) (consItem (mem_at 3 rfl) noItem)))) noItem ?_
      rintro v outs ros ⟨rfl, rfl, rfl⟩
      refine ⟨_, rfl, ?_⟩
      refine gl_batch 5 [(16, .bool o10.2), (15, .int .i64 o10.1), (48, .bool o10.2), (47, .int .i64 o10.1), (44, .tuple #[.int .i64 o10.1, .bool o10.2])] rfl ?_
      refine gl_ns ?_
      refine g_seq ?_
      refine g_sr ?_
      refine gl_batch 2 [(50, .bool (!o10.2)), (49, .bool o10.2)] rfl ?_
      refine gl_ns ?_
      refine g_cond (b := !o10.2) rfl (fun hc => ?_) (fun hc => ?_)
      · replace h := condT hc h
        refine g_sr ?_
        refine gl_run (v := .agg #[.int .i64 0, .int .i64 0, .int .i64 0, .int .i64 0]) rfl rfl rfl (fun w => by kernel_rfl) ?_
        refine gl_stB (cells' := [.int .i64 0, .int .i64 0, .int .i64 0, .int .i64 0]) 0 [.int .i64 0, .int .i64 0, .int .i64 0, .int .i64 0] rfl rfl rfl Fz31 rfl rfl rfl rfl ?_
        refine gl_batch 1 [(3, .bool false)] rfl ?_
        refine gl_ns ?_
        refine g_ret ?_
        refine gx_seq_ret ?_
        refine gx_blk_ret ?_
        refine gx_seq_ret ?_
        obtain rfl := Option.some.inj h
        exact gx_of (fun a w hE hS => lp_out nofun (inL ⟨rfl, hE.sub ⟨rfl, rfl, trivial⟩, (hS.take 1).facts _ _ [] (consItem (mem_at 0 rfl) (consItem (mem_at 1 rfl) (consItem (mem_at 2 rfl) (consItem (mem_at 3 rfl) noItem)))) noItem noItem⟩))
      · replace h := condF hc h
        refine g_skip ?_
        refine gx_seq ?_
        refine g_region ?_
        refine gl_batch 2 [(53, .int .i64 o10.1), (52, .int .i64 s7.2.2.2.2)] rfl ?_
        refine b_case (s7.2.2.2.2 == 0) (fun hi11 => ?_) (fun hi11 => ?_)
        · replace h := condT hi11 h
          refine gl_push 52 (.int .i64 0) (congrArg (fun z => some (Value.int .i64 z)) (eq_of_beq hi11)) ?_
          refine gl_run (v := .pointer (some ⟨b5, 0, none⟩)) rfl rfl rfl (fun w => by kernel_rfl) ?_
          refine gl_pick 1 rfl ?_
          refine gl_stB (cells' := [.int .i64 o10.1, .int .i64 s7.2.1, .int .i64 s7.2.2.1, .int .i64 s7.2.2.2.1]) 0 [.int .i64 o10.1] rfl rfl rfl Fz2 rfl rfl rfl rfl ?_
          refine gl_nil ?_
          refine gx_blk ?_
          refine gx_seq ?_
          refine g_region ?_
          refine gl_batch 2 [(40, .int .i64 (IntKind.i64.wrap (s7.2.2.2.2 + 1))), (55, .int .i64 (IntKind.i64.wrap (s7.2.2.2.2 + 1)))] rfl ?_
          refine gl_nil ?_
          obtain rfl := Option.some.inj h
          exact gx_of (fun a w hE hS => lp_in ⟨hE.sub ⟨rfl, rfl, rfl, rfl, trivial⟩, (((hS.pick 0 rfl).pick 1 rfl).take 2).facts _ _ [] (consItem (mem_at 0 rfl) (consItem (mem_at 1 rfl) (consItem (mem_at 2 rfl) (consItem (mem_at 3 rfl) noItem)))) noItem noItem⟩)
        · replace h := condF hi11 h
          refine b_case (s7.2.2.2.2 == 1) (fun hi12 => ?_) (fun hi12 => ?_)
          · replace h := condT hi12 h
            refine gl_push 52 (.int .i64 1) (congrArg (fun z => some (Value.int .i64 z)) (eq_of_beq hi12)) ?_
            refine gl_run (v := .pointer (some ⟨b5, 1, none⟩)) rfl rfl rfl (fun w => by kernel_rfl) ?_
            refine gl_pick 1 rfl ?_
            refine gl_stB (cells' := [.int .i64 s7.1, .int .i64 o10.1, .int .i64 s7.2.2.1, .int .i64 s7.2.2.2.1]) 1 [.int .i64 o10.1] rfl rfl rfl Fz2 rfl rfl rfl rfl ?_
            refine gl_nil ?_
            refine gx_blk ?_
            refine gx_seq ?_
            refine g_region ?_
            refine gl_batch 2 [(40, .int .i64 (IntKind.i64.wrap (s7.2.2.2.2 + 1))), (55, .int .i64 (IntKind.i64.wrap (s7.2.2.2.2 + 1)))] rfl ?_
            refine gl_nil ?_
            obtain rfl := Option.some.inj h
            exact gx_of (fun a w hE hS => lp_in ⟨hE.sub ⟨rfl, rfl, rfl, rfl, trivial⟩, (((hS.pick 0 rfl).pick 1 rfl).take 2).facts _ _ [] (consItem (mem_at 0 rfl) (consItem (mem_at 1 rfl) (consItem (mem_at 2 rfl) (consItem (mem_at 3 rfl) noItem)))) noItem noItem⟩)
          · replace h := condF hi12 h
            refine b_case (s7.2.2.2.2 == 2) (fun hi13 => ?_) (fun hi13 => ?_)
            · replace h := condT hi13 h
              refine gl_push 52 (.int .i64 2) (congrArg (fun z => some (Value.int .i64 z)) (eq_of_beq hi13)) ?_
              refine gl_run (v := .pointer (some ⟨b5, 2, none⟩)) rfl rfl rfl (fun w => by kernel_rfl) ?_
              refine gl_pick 1 rfl ?_
              refine gl_stB (cells' := [.int .i64 s7.1, .int .i64 s7.2.1, .int .i64 o10.1, .int .i64 s7.2.2.2.1]) 2 [.int .i64 o10.1] rfl rfl rfl Fz2 rfl rfl rfl rfl ?_
              refine gl_nil ?_
              refine gx_blk ?_
              refine gx_seq ?_
              refine g_region ?_
              refine gl_batch 2 [(40, .int .i64 (IntKind.i64.wrap (s7.2.2.2.2 + 1))), (55, .int .i64 (IntKind.i64.wrap (s7.2.2.2.2 + 1)))] rfl ?_
              refine gl_nil ?_
              obtain rfl := Option.some.inj h
              exact gx_of (fun a w hE hS => lp_in ⟨hE.sub ⟨rfl, rfl, rfl, rfl, trivial⟩, (((hS.pick 0 rfl).pick 1 rfl).take 2).facts _ _ [] (consItem (mem_at 0 rfl) (consItem (mem_at 1 rfl) (consItem (mem_at 2 rfl) (consItem (mem_at 3 rfl) noItem)))) noItem noItem⟩)
            · replace h := condF hi13 h
              refine b_case (s7.2.2.2.2 == 3) (fun hi14 => ?_) (fun hi14 => ?_)
              · replace h := condT hi14 h
                refine gl_push 52 (.int .i64 3) (congrArg (fun z => some (Value.int .i64 z)) (eq_of_beq hi14)) ?_
                refine gl_run (v := .pointer (some ⟨b5, 3, none⟩)) rfl rfl rfl (fun w => by kernel_rfl) ?_
                refine gl_pick 1 rfl ?_
                refine gl_stB (cells' := [.int .i64 s7.1, .int .i64 s7.2.1, .int .i64 s7.2.2.1, .int .i64 o10.1]) 3 [.int .i64 o10.1] rfl rfl rfl Fz2 rfl rfl rfl rfl ?_
                refine gl_nil ?_
                refine gx_blk ?_
                refine gx_seq ?_
                refine g_region ?_
                refine gl_batch 2 [(40, .int .i64 (IntKind.i64.wrap (s7.2.2.2.2 + 1))), (55, .int .i64 (IntKind.i64.wrap (s7.2.2.2.2 + 1)))] rfl ?_
                refine gl_nil ?_
                obtain rfl := Option.some.inj h
                exact gx_of (fun a w hE hS => lp_in ⟨hE.sub ⟨rfl, rfl, rfl, rfl, trivial⟩, (((hS.pick 0 rfl).pick 1 rfl).take 2).facts _ _ [] (consItem (mem_at 0 rfl) (consItem (mem_at 1 rfl) (consItem (mem_at 2 rfl) (consItem (mem_at 3 rfl) noItem)))) noItem noItem⟩)
              · replace h := condF hi14 h
                cases h
    · replace h := condF hc h
      refine g_exit ?_
      refine gx_seq_exit ?_
      obtain rfl := Option.some.inj h
      exact gx_of (fun a w hE hS => lp_out nofun (inR ⟨rfl, hE.sub ⟨rfl, rfl, trivial⟩, (hS.take 2).facts _ _ [] (consItem (mem_at 0 rfl) (consItem (mem_at 1 rfl) (consItem (mem_at 2 rfl) (consItem (mem_at 3 rfl) noItem)))) noItem noItem⟩))
  · intro e a w hm
    rcases o6 with s15 | s16
    · replace h := elimL h
      obtain ⟨rfl, hE, hS⟩ := hm
      refine gx_to hE hS ?_
      refine gx_blk_ret ?_
      refine gx_seq_ret ?_
      obtain rfl := Option.some.inj h
      exact gx_fin rfl [.agg #[.int .i64 0, .int .i64 0, .int .i64 0, .int .i64 0], .bool false] _ _ [] ⟨_, _, rfl, ⟨_, _, _, rfl, mem_at 0 rfl, hasBK, Or.inl ⟨Fm31, Fz31, rfl⟩⟩, _, _, rfl, rfl, rfl⟩ rfl ⟨rfl, rfl, rfl⟩ (fun w hS => (hS.take 0).facts [] [] [] noItem noItem noItem) (Or.inl rfl)
    · replace h := elimR h
      obtain ⟨rfl, hE, hS⟩ := hm
      refine gx_to hE hS ?_
      refine gx_blk_hit ?_
      refine gx_seq ?_
      refine g_sr ?_
      refine gl_run (v := .pointer (some ⟨b5, 0, none⟩)) rfl rfl rfl (fun w => by kernel_rfl) ?_
      refine gl_ld1 0 hasBK (mem_at 1 rfl) rfl rfl Fo2 rfl rfl rfl ?_
      refine gl_run (v := .pointer (some ⟨b5, 1, none⟩)) rfl rfl rfl (fun w => by kernel_rfl) ?_
      refine gl_ld1 1 hasBK (mem_at 1 rfl) rfl rfl Fo2 rfl rfl rfl ?_
      refine gl_run (v := .pointer (some ⟨b5, 2, none⟩)) rfl rfl rfl (fun w => by kernel_rfl) ?_
      refine gl_ld1 2 hasBK (mem_at 1 rfl) rfl rfl Fo2 rfl rfl rfl ?_
      refine gl_run (v := .pointer (some ⟨b5, 3, none⟩)) rfl rfl rfl (fun w => by kernel_rfl) ?_
      refine gl_ld1 3 hasBK (mem_at 1 rfl) rfl rfl Fo2 rfl rfl rfl ?_
      refine gl_run (v := .agg #[.int .i64 s16.1, .int .i64 s16.2.1, .int .i64 s16.2.2.1, .int .i64 s16.2.2.2]) rfl rfl rfl (fun w => by kernel_rfl) ?_
      refine gl_stB (cells' := [.int .i64 s16.1, .int .i64 s16.2.1, .int .i64 s16.2.2.1, .int .i64 s16.2.2.2]) 0 [.int .i64 s16.1, .int .i64 s16.2.1, .int .i64 s16.2.2.1, .int .i64 s16.2.2.2] rfl rfl rfl Fz31 rfl rfl rfl rfl ?_
      refine gl_batch 1 [(3, .bool true)] rfl ?_
      refine gl_ns ?_
      refine g_ret ?_
      obtain rfl := Option.some.inj h
      exact gx_fin rfl [.agg #[.int .i64 s16.1, .int .i64 s16.2.1, .int .i64 s16.2.2.1, .int .i64 s16.2.2.2], .bool true] _ _ [] ⟨_, _, rfl, ⟨_, _, _, rfl, mem_at 0 rfl, hasBK, Or.inl ⟨Fm31, Fz31, rfl⟩⟩, _, _, rfl, rfl, rfl⟩ rfl ⟨rfl, rfl, rfl⟩ (fun w hS => (hS.take 0).facts [] [] [] noItem noItem noItem) (Or.inl rfl)

theorem c_impl_isEdit (e_v : Edit)  {r : Bool} (h : impl_isEdit e_v = r) : CallOK Tryd.prog 55 [.agg #[.int .i64 e_v.Kind, .int .i64 e_v.Index, .int .i64 e_v.Place.From, .int .i64 e_v.Place.To, .int .i64 e_v.Place.Delay, .int .i64 e_v.Place.Tokens]] [] [gTab 3 pow10C, gNum 0, gErr 1, gErr 2] [] (fun v outs ros => v = .bool r ∧ outs = [] ∧ ros = []) := by
  refine fn_ok Tryd.func55 rfl Tryd.ntmps55 rfl (fun c hF0 => ?_)
  unfold impl_isEdit at h
  refine g_sr ?_
  refine gl_new (d := 1) (T := 33) [.int .i64 e_v.Kind, .int .i64 e_v.Index, .int .i64 e_v.Place.From, .int .i64 e_v.Place.To, .int .i64 e_v.Place.Delay, .int .i64 e_v.Place.Tokens] rfl rfl (fun _ => rfl) (fun w => by kernel_rfl) ?_
  intro b1
  refine gl_batch 1 [(2, .bool false)] rfl ?_
  refine gl_ns ?_
  refine g_seq ?_
  refine g_sr ?_
  refine gl_run (v := .pointer (some ⟨b1, 0, none⟩)) rfl rfl rfl (fun w => by kernel_rfl) ?_
  refine gl_ld1 0 hasBK (mem_at 0 rfl) rfl rfl Fo2 rfl rfl rfl ?_
  refine gl_call rfl rfl (fun w => by kernel_rfl) (c_impl_within e_v.Kind 1 3 rfl) (consItem (mem_at 0 rfl) (consItem (mem_at 1 rfl) (consItem (mem_at 2 rfl) (consItem (mem_at 3 rfl) noItem)))) noItem ?_
  rintro v outs ros ⟨rfl, rfl, rfl⟩
  refine ⟨_, rfl, ?_⟩
  refine gl_batch 2 [(7, .bool (!(impl_within e_v.Kind 1 3))), (6, .bool (!(impl_within e_v.Kind 1 3)))] rfl ?_
  refine gl_join (EE := [(12, .bool ((!(impl_within e_v.Kind 1 3)) || (!(impl_within e_v.Index 0 30)))), (1, .pointer (some ⟨b1, 0, none⟩))]) (RR := [BK 33 b1 [.int .i64 e_v.Kind, .int .i64 e_v.Index, .int .i64 e_v.Place.From, .int .i64 e_v.Place.To, .int .i64 e_v.Place.Delay, .int .i64 e_v.Place.Tokens]]) (XX := [gTab 3 pow10C, gNum 0, gErr 1, gErr 2]) (OO := []) (VV := []) 5 ?_ ?_
  · skip
    refine gl_case 7 rfl (fun hc => ?_) (fun hc => ?_)
    · skip
      refine gl_batch 5 [(12, .bool true), (11, undef), (10, undef), (9, undef), (8, undef)] rfl ?_
      refine gl_nil ?_
      exact gx_mid ⟨congrArg (fun z => some (Value.bool z)) (or_t hc).symm, rfl, trivial⟩ (fun w hS => hS)
    · skip
      refine gl_run (v := .pointer (some ⟨b1, 1, none⟩)) rfl rfl rfl (fun w => by kernel_rfl) ?_
      refine gl_ld1 1 hasBK (mem_at 0 rfl) rfl rfl Fo2 rfl rfl rfl ?_
      refine gl_call rfl rfl (fun w => by kernel_rfl) (c_impl_within e_v.Index 0 30 rfl) (consItem (mem_at 0 rfl) (consItem (mem_at 1 rfl) (consItem (mem_at 2 rfl) (consItem (mem_at 3 rfl) noItem)))) noItem ?_
      rintro v outs ros ⟨rfl, rfl, rfl⟩
      refine ⟨_, rfl, ?_⟩
      refine gl_batch 2 [(12, .bool (!(impl_within e_v.Index 0 30))), (11, .bool (!(impl_within e_v.Index 0 30)))] rfl ?_
      refine gl_nil ?_
      exact gx_mid ⟨congrArg (fun z => some (Value.bool z)) (or_f hc).symm, rfl, trivial⟩ (fun w hS => hS)
  · skip
    refine gl_ns ?_
    refine g_cond (b := (!(impl_within e_v.Kind 1 3)) || (!(impl_within e_v.Index 0 30))) rfl (fun hc => ?_) (fun hc => ?_)
    · replace h := condTt hc h
      refine g_sr ?_
      refine gl_batch 1 [(2, .bool false)] rfl ?_
      refine gl_ns ?_
      refine g_ret ?_
      refine gx_seq_ret ?_
      subst h
      exact gx_fin rfl [.bool false] _ _ [] ⟨_, _, rfl, rfl, rfl⟩ rfl ⟨rfl, rfl, rfl⟩ (fun w hS => (hS.take 0).facts [] [] [] noItem noItem noItem) (Or.inl rfl)
    · replace h := condFt hc h
      refine g_skip ?_
      refine gx_seq ?_
      refine g_seq ?_
      refine g_sr ?_
      refine gl_run (v := .pointer (some ⟨b1, 0, none⟩)) rfl rfl rfl (fun w => by kernel_rfl) ?_
      refine gl_ld1 0 hasBK (mem_at 0 rfl) rfl rfl Fo2 rfl rfl rfl ?_
      refine gl_batch 1 [(15, .bool (e_v.Kind == 2))] rfl ?_
      refine gl_ns ?_
      refine g_cond (b := e_v.Kind == 2) rfl (fun hc => ?_) (fun hc => ?_)
      · replace h := condTt hc h
        refine g_sr ?_
        refine gl_run (v := .pointer (some ⟨b1, 2, none⟩)) rfl rfl rfl (fun w => by kernel_rfl) ?_
        refine gl_ldA (vs := [.int .i64 e_v.Place.From, .int .i64 e_v.Place.To, .int .i64 e_v.Place.Delay, .int .i64 e_v.Place.Tokens]) 2 hasBK (mem_at 0 rfl) rfl rfl Fm31 Fz31 rfl rfl rfl ?_
        refine gl_run (v := .agg #[.int .i64 0, .int .i64 0, .int .i64 0, .int .i64 0]) rfl rfl rfl (fun w => by kernel_rfl) ?_
        refine gl_aeq (r := (e_v.Place.From == 0) && ((e_v.Place.To == 0) && ((e_v.Place.Delay == 0) && ((e_v.Place.Tokens == 0) && true)))) rfl rfl (by kernel_rfl) (by kernel_rfl) rfl rfl ?_
        refine gl_batch 1 [(2, .bool ((e_v.Place.From == 0) && ((e_v.Place.To == 0) && ((e_v.Place.Delay == 0) && ((e_v.Place.Tokens == 0) && true)))))] rfl ?_
        refine gl_ns ?_
        refine g_ret ?_
        refine gx_seq_ret ?_
        subst h
        exact gx_fin rfl [.bool ((e_v.Place.From == 0) && ((e_v.Place.To == 0) && ((e_v.Place.Delay == 0) && ((e_v.Place.Tokens == 0) && true))))] _ _ [] ⟨_, _, rfl, rfl, rfl⟩ rfl ⟨rfl, rfl, rfl⟩ (fun w hS => (hS.take 0).facts [] [] [] noItem noItem noItem) (Or.inl rfl)
      · replace h := condFt hc h
        refine g_skip ?_
        refine gx_seq ?_
        refine g_sr ?_
        refine gl_run (v := .agg #[.int .i64 10, .slice none 0 0]) rfl rfl rfl (fun w => by kernel_rfl) ?_
        refine gl_run (v := .pointer (some ⟨b1, 2, none⟩)) rfl rfl rfl (fun w => by kernel_rfl) ?_
        refine gl_ldA (vs := [.int .i64 e_v.Place.From, .int .i64 e_v.Place.To, .int .i64 e_v.Place.Delay, .int .i64 e_v.Place.Tokens]) 2 hasBK (mem_at 0 rfl) rfl rfl Fm31 Fz31 rfl rfl rfl ?_
        refine gl_st (fun w hS => hS.nil false 31 PlaceS) ?_
        obtain ⟨o2, ho2, h⟩ := letS h
        refine gl_call rfl rfl (fun w => by kernel_rfl) (c_impl_isPlace (⟨10, ([] : List Place)⟩ : EventGraph) e_v.Place none 0 ho2) (consItem (mem_at 0 rfl) (consItem (mem_at 1 rfl) (consItem (mem_at 2 rfl) (consItem (mem_at 3 rfl) noItem)))) (consItem (mem_at 0 rfl) noItem) ?_
        rintro v outs ros ⟨rfl, rfl, rfl⟩
        refine ⟨_, rfl, ?_⟩
        refine gl_batch 1 [(2, .bool o2)] rfl ?_
        refine gl_ns ?_
        refine g_ret ?_
        subst h
        exact gx_fin rfl [.bool o2] _ _ [] ⟨_, _, rfl, rfl, rfl⟩ rfl ⟨rfl, rfl, rfl⟩ (fun w hS => (hS.take 0).facts [] [] [] noItem noItem noItem) (Or.inl rfl)

theorem c_impl_ReadEdit (s : List UInt8)  {r : Edit × Bool} (h : impl_ReadEdit s = some r) : CallOK Tryd.prog 16 [str s] [] [gTab 3 pow10C, gNum 0, gErr 1, gErr 2] [] (fun v outs ros => v = .tuple #[.agg #[.int .i64 r.1.Kind, .int .i64 r.1.Index, .int .i64 r.1.Place.From, .int .i64 r.1.Place.To, .int .i64 r.1.Place.Delay, .int .i64 r.1.Place.Tokens], .bool r.2] ∧ outs = [] ∧ ros = []) := by
  refine fn_ok Tryd.func16 rfl Tryd.ntmps16 rfl (fun c hF0 => ?_)
  unfold impl_ReadEdit at h
  refine g_sr ?_
  refine gl_new (d := 2) (T := 33) [.int .i64 0, .int .i64 0, .int .i64 0, .int .i64 0, .int .i64 0, .int .i64 0] rfl rfl (fun _ => rfl) (fun w => by kernel_rfl) ?_
  intro b1
  refine gl_batch 1 [(3, .bool false)] rfl ?_
  refine gl_ns ?_
  refine g_seq ?_
  refine g_sr ?_
  refine gl_batch 1 [(12, str s)] rfl ?_
  refine gl_seq (s := s) (u := ([] : List UInt8)) rfl rfl rfl rfl ?_
  refine gl_ns ?_
  refine g_cond (b := s == ([] : List UInt8)) rfl (fun hc => ?_) (fun hc => ?_)
  · replace h := condT hc h
    refine g_sr ?_
    refine gl_run (v := .agg #[.int .i64 0, .int .i64 0, .int .i64 0, .int .i64 0, .int .i64 0, .int .i64 0]) rfl rfl rfl (fun w => by kernel_rfl) ?_
    refine gl_stB (cells' := [.int .i64 0, .int .i64 0, .int .i64 0, .int .i64 0, .int .i64 0, .int .i64 0]) 0 [.int .i64 0, .int .i64 0, .int .i64 0, .int .i64 0, .int .i64 0, .int .i64 0] rfl rfl rfl Fz33 rfl rfl rfl rfl ?_
    refine gl_batch 1 [(3, .bool false)] rfl ?_
    refine gl_ns ?_
    refine g_ret ?_
    refine gx_seq_ret ?_
    obtain rfl := Option.some.inj h
    exact gx_fin rfl [.agg #[.int .i64 0, .int .i64 0, .int .i64 0, .int .i64 0, .int .i64 0, .int .i64 0], .bool false] _ _ [] ⟨_, _, rfl, ⟨_, _, _, rfl, mem_at 0 rfl, hasBK, Or.inl ⟨Fm33, Fz33, rfl⟩⟩, _, _, rfl, rfl, rfl⟩ rfl ⟨rfl, rfl, rfl⟩ (fun w hS => (hS.take 0).facts [] [] [] noItem noItem noItem) (Or.inl rfl)
  · replace h := condF hc h
    refine g_skip ?_
    refine gx_seq ?_
    refine g_sr ?_
    refine gl_new (d := 4) (T := 33) [.int .i64 0, .int .i64 0, .int .i64 0, .int .i64 0, .int .i64 0, .int .i64 0] rfl rfl (fun _ => rfl) (fun w => by kernel_rfl) ?_
    intro b2
    refine gl_nx ?_
    refine gl_batch 1 [(16, str s)] rfl ?_
    obtain ⟨z3, hz3, h⟩ := bindS h
    refine gl_ssub (i := 1) (j := (List.length s : Int)) (k := .i64) (k2 := .i64) rfl rfl rfl Ft9 hz3 rfl rfl ?_
    obtain ⟨o4, ho4, h⟩ := bindS h
    refine gl_call rfl rfl (fun w => by kernel_rfl) (c_strings_Cut z3 ([32] : List UInt8) ho4) (consItem (mem_at 0 rfl) (consItem (mem_at 1 rfl) (consItem (mem_at 2 rfl) (consItem (mem_at 3 rfl) noItem)))) noItem ?_
    rintro v outs ros ⟨rfl, rfl, rfl⟩
    refine ⟨_, rfl, ?_⟩
    refine gl_batch 7 [(7, .bool o4.2.2), (6, str o4.2.1), (5, str o4.1), (21, .bool o4.2.2), (20, str o4.2.1), (19, str o4.1), (15, .tuple #[str o4.1, str o4.2.1, .bool o4.2.2])] rfl ?_
    refine gl_nx ?_
    refine gl_batch 1 [(23, str o4.1)] rfl ?_
    obtain ⟨o5, ho5, h⟩ := bindS h
    refine gl_call rfl rfl (fun w => by kernel_rfl) (c_impl_readNumber o4.1 ho5) (consItem (mem_at 0 rfl) (consItem (mem_at 1 rfl) (consItem (mem_at 2 rfl) (consItem (mem_at 3 rfl) noItem)))) noItem ?_
    rintro v outs ros ⟨rfl, rfl, rfl⟩
    refine ⟨_, rfl, ?_⟩
    refine gl_batch 5 [(9, .bool o5.2), (8, .int .i64 o5.1), (26, .bool o5.2), (25, .int .i64 o5.1), (22, .tuple #[.int .i64 o5.1, .bool o5.2])] rfl ?_
    refine gl_nx ?_
    refine gl_batch 1 [(27, .int .i64 o5.1)] rfl ?_
    refine gl_run (v := .pointer (some ⟨b2, 1, none⟩)) rfl rfl rfl (fun w => by kernel_rfl) ?_
    refine gl_stB (cells' := [.int .i64 0, .int .i64 o5.1, .int .i64 0, .int .i64 0, .int .i64 0, .int .i64 0]) 1 [.int .i64 o5.1] rfl rfl rfl Fz2 rfl rfl rfl rfl ?_
    refine gl_ns ?_
    obtain ⟨o6, ho6, h⟩ := bindS h
    refine g_mid (M := ((fun ss_ e a w => e = .normal ∧ Env a 70 [(2, .pointer (some ⟨b1, 0, none⟩)), (4, .pointer (some ⟨b2, 0, none⟩)), (9, .bool ss_.2.2.2.2.2)] ∧ St c w [BK 33 b1 [.int .i64 0, .int .i64 0, .int .i64 0, .int .i64 0, .int .i64 0, .int .i64 0], BK 33 b2 [.int .i64 ss_.1, .int .i64 o5.1, .int .i64 ss_.2.1, .int .i64 ss_.2.2.1, .int .i64 ss_.2.2.2.1, .int .i64 ss_.2.2.2.2.1]] [gTab 3 pow10C, gNum 0, gErr 1, gErr 2] [] []) : (Int × Int × Int × Int × Int × Bool) → Exit → Act → World → Prop) o6) ?_ ?_
    · replace h := ho6
      refine g_sr ?_
      refine gl_batch 1 [(29, str s)] rfl ?_
      obtain ⟨y7, hy7, h⟩ := bindS h
      refine gl_sidx (k := .i64) rfl rfl Ft9 hy7 rfl rfl ?_
      refine gl_ns ?_
      refine g_block ?_
      refine g_sr ?_
      refine gl_batch 2 [(31, .bool ((y7.toNat : Int) == 45)), (32, .bool ((y7.toNat : Int) == 45))] rfl ?_
      refine gl_ns ?_
      refine g_cond (b := (y7.toNat : Int) == 45) rfl (fun hc => ?_) (fun hc => ?_)
      · replace h := condT hc h
        refine g_sr ?_
        refine gl_run (v := .pointer (some ⟨b2, 0, none⟩)) rfl rfl rfl (fun w => by kernel_rfl) ?_
        refine gl_stB (cells' := [.int .i64 2, .int .i64 o5.1, .int .i64 0, .int .i64 0, .int .i64 0, .int .i64 0]) 0 [.int .i64 2] rfl rfl rfl Fz2 rfl rfl rfl rfl ?_
        refine gl_ns ?_
        refine g_region ?_
        refine gl_batch 2 [(35, .bool o5.2), (34, .bool o5.2)] rfl ?_
        refine gl_join (EE := [(38, .bool (o5.2 && (!o4.2.2))), (2, .pointer (some ⟨b1, 0, none⟩)), (4, .pointer (some ⟨b2, 0, none⟩))]) (RR := [BK 33 b2 [.int .i64 2, .int .i64 o5.1, .int .i64 0, .int .i64 0, .int .i64 0, .int .i64 0], BK 33 b1 [.int .i64 0, .int .i64 0, .int .i64 0, .int .i64 0, .int .i64 0, .int .i64 0]]) (XX := [gTab 3 pow10C, gNum 0, gErr 1, gErr 2]) (OO := []) (VV := []) 3 ?_ ?_
        · skip
          refine gl_case 35 rfl (fun hc => ?_) (fun hc => ?_)
          · skip
            refine gl_batch 3 [(38, .bool (!o4.2.2)), (37, .bool (!o4.2.2)), (36, .bool o4.2.2)] rfl ?_
            refine gl_nil ?_
            exact gx_mid ⟨congrArg (fun z => some (Value.bool z)) (and_t hc).symm, rfl, rfl, trivial⟩ (fun w hS => hS)
          · skip
            refine gl_batch 3 [(38, .bool false), (37, undef), (36, undef)] rfl ?_
            refine gl_nil ?_
            exact gx_mid ⟨congrArg (fun z => some (Value.bool z)) (and_f hc).symm, rfl, rfl, trivial⟩ (fun w hS => hS)
        · skip
          refine gl_batch 1 [(9, .bool (o5.2 && (!o4.2.2)))] rfl ?_
          refine gl_nil ?_
          refine gx_blk ?_
          obtain rfl := Option.some.inj h
          exact gx_of (fun a w hE hS => ⟨rfl, hE.sub ⟨rfl, rfl, rfl, trivial⟩, (((hS.pick 0 rfl).pick 1 rfl).take 2).facts _ _ [] (consItem (mem_at 0 rfl) (consItem (mem_at 1 rfl) (consItem (mem_at 2 rfl) (consItem (mem_at 3 rfl) noItem)))) noItem noItem⟩)
      · replace h := condF hc h
        obtain ⟨o8, ho8, h⟩ := bindS h
        refine g_mid (M := ((fun ss_ e a w => e = .normal ∧ Env a 70 [(0, str s), (2, .pointer (some ⟨b1, 0, none⟩)), (4, .pointer (some ⟨b2, 0, none⟩)), (6, str o4.2.1), (7, .bool o4.2.2), (9, .bool o5.2), (39, .bool ss_)] ∧ St c w [BK 33 b1 [.int .i64 0, .int .i64 0, .int .i64 0, .int .i64 0, .int .i64 0, .int .i64 0], BK 33 b2 [.int .i64 0, .int .i64 o5.1, .int .i64 0, .int .i64 0, .int .i64 0, .int .i64 0]] [gTab 3 pow10C, gNum 0, gErr 1, gErr 2] [] []) : (Bool) → Exit → Act → World → Prop) o8) ?_ ?_
        · replace h := ho8
          refine g_sr ?_
          refine gl_batch 2 [(39, .bool ((y7.toNat : Int) == 43)), (40, .bool ((y7.toNat : Int) == 43))] rfl ?_
          refine gl_ns ?_
          refine g_cond (b := (y7.toNat : Int) == 43) rfl (fun hc => ?_) (fun hc => ?_)
          · replace h := condT hc h
            refine g_skip ?_
            obtain rfl := Option.some.inj h
            exact gx_of (fun a w hE hS => ⟨rfl, hE.sub ⟨rfl, rfl, rfl, rfl, rfl, rfl, rfl, trivial⟩, (((hS.pick 0 rfl).pick 1 rfl).take 2).facts _ _ [] (consItem (mem_at 0 rfl) (consItem (mem_at 1 rfl) (consItem (mem_at 2 rfl) (consItem (mem_at 3 rfl) noItem)))) noItem noItem⟩)
          · replace h := condF hc h
            refine g_region ?_
            refine gl_batch 2 [(39, .bool ((y7.toNat : Int) == 61)), (41, .bool ((y7.toNat : Int) == 61))] rfl ?_
            refine gl_nil ?_
            obtain rfl := Option.some.inj h
            exact gx_of (fun a w hE hS => ⟨rfl, hE.sub ⟨rfl, rfl, rfl, rfl, rfl, rfl, rfl, trivial⟩, (((hS.pick 0 rfl).pick 1 rfl).take 2).facts _ _ [] (consItem (mem_at 0 rfl) (consItem (mem_at 1 rfl) (consItem (mem_at 2 rfl) (consItem (mem_at 3 rfl) noItem)))) noItem noItem⟩)
        · intro e a w hm
          obtain ⟨rfl, hE, hS⟩ := hm
          refine gx_to hE hS ?_
          refine gx_seq ?_
          refine g_cond (b := o8) rfl (fun hc => ?_) (fun hc => ?_)
          · replace h := condT hc h
            refine g_sr ?_
            refine gl_run (v := .pointer (some ⟨b2, 0, none⟩)) rfl rfl rfl (fun w => by kernel_rfl) ?_
            refine gl_pick 1 rfl ?_
            refine gl_stB (cells' := [.int .i64 1, .int .i64 o5.1, .int .i64 0, .int .i64 0, .int .i64 0, .int .i64 0]) 0 [.int .i64 1] rfl rfl rfl Fz2 rfl rfl rfl rfl ?_
            refine gl_ns ?_
            obtain ⟨o9, ho9, h⟩ := bindS h
            refine g_mid (M := ((fun ss_ e a w => e = .normal ∧ Env a 70 [(2, .pointer (some ⟨b1, 0, none⟩)), (4, .pointer (some ⟨b2, 0, none⟩)), (6, str o4.2.1), (7, .bool o4.2.2), (9, .bool o5.2)] ∧ St c w [BK 33 b1 [.int .i64 0, .int .i64 0, .int .i64 0, .int .i64 0, .int .i64 0, .int .i64 0], BK 33 b2 [.int .i64 ss_, .int .i64 o5.1, .int .i64 0, .int .i64 0, .int .i64 0, .int .i64 0]] [gTab 3 pow10C, gNum 0, gErr 1, gErr 2] [] []) : (Int) → Exit → Act → World → Prop) o9) ?_ ?_
            · replace h := ho9
              refine g_sr ?_
              refine gl_batch 1 [(43, str s)] rfl ?_
              obtain ⟨y10, hy10, h⟩ := bindS h
              refine gl_sidx (k := .i64) rfl rfl Ft9 hy10 rfl rfl ?_
              refine gl_batch 1 [(45, .bool ((y10.toNat : Int) == 61))] rfl ?_
              refine gl_ns ?_
              refine g_cond (b := (y10.toNat : Int) == 61) rfl (fun hc => ?_) (fun hc => ?_)
              · replace h := condT hc h
                refine g_region ?_
                refine gl_run (v := .pointer (some ⟨b2, 0, none⟩)) rfl rfl rfl (fun w => by kernel_rfl) ?_
                refine gl_stB (cells' := [.int .i64 3, .int .i64 o5.1, .int .i64 0, .int .i64 0, .int .i64 0, .int .i64 0]) 0 [.int .i64 3] rfl rfl rfl Fz2 rfl rfl rfl rfl ?_
                refine gl_nil ?_
                obtain rfl := Option.some.inj h
                exact gx_of (fun a w hE hS => ⟨rfl, hE.sub ⟨rfl, rfl, rfl, rfl, rfl, trivial⟩, (((hS.pick 0 rfl).pick 1 rfl).take 2).facts _ _ [] (consItem (mem_at 0 rfl) (consItem (mem_at 1 rfl) (consItem (mem_at 2 rfl) (consItem (mem_at 3 rfl) noItem)))) noItem noItem⟩)
              · replace h := condF hc h
                refine g_skip ?_
                obtain rfl := Option.some.inj h
                exact gx_of (fun a w hE hS => ⟨rfl, hE.sub ⟨rfl, rfl, rfl, rfl, rfl, trivial⟩, (((hS.pick 0 rfl).pick 1 rfl).take 2).facts _ _ [] (consItem (mem_at 0 rfl) (consItem (mem_at 1 rfl) (consItem (mem_at 2 rfl) (consItem (mem_at 3 rfl) noItem)))) noItem noItem⟩)
            · intro e a w hm
              obtain ⟨rfl, hE, hS⟩ := hm
              refine gx_to hE hS ?_
              refine gx_seq ?_
              refine g_sr ?_
              refine gl_batch 1 [(48, str o4.2.1)] rfl ?_
              obtain ⟨o11, ho11, h⟩ := bindS h
              refine gl_call rfl rfl (fun w => by kernel_rfl) (c_impl_readPlace o4.2.1 ho11) (consItem (mem_at 0 rfl) (consItem (mem_at 1 rfl) (consItem (mem_at 2 rfl) (consItem (mem_at 3 rfl) noItem)))) noItem ?_
              rintro v outs ros ⟨rfl, rfl, rfl⟩
              refine ⟨_, rfl, ?_⟩
              refine gl_batch 3 [(51, .bool o11.2), (50, .agg #[.int .i64 o11.1.From, .int .i64 o11.1.To, .int .i64 o11.1.Delay, .int .i64 o11.1.Tokens]), (47, .tuple #[.agg #[.int .i64 o11.1.From, .int .i64 o11.1.To, .int .i64 o11.1.Delay, .int .i64 o11.1.Tokens], .bool o11.2])] rfl ?_
              refine gl_new (d := 10) (T := 31) [.int .i64 0, .int .i64 0, .int .i64 0, .int .i64 0] rfl rfl (fun _ => rfl) (fun w => by kernel_rfl) ?_
              intro b12
              refine gl_stB (cells' := [.int .i64 o11.1.From, .int .i64 o11.1.To, .int .i64 o11.1.Delay, .int .i64 o11.1.Tokens]) 0 [.int .i64 o11.1.From, .int .i64 o11.1.To, .int .i64 o11.1.Delay, .int .i64 o11.1.Tokens] rfl rfl rfl Fz31 rfl rfl rfl rfl ?_
              refine gl_batch 1 [(11, .bool o11.2)] rfl ?_
              refine gl_nx ?_
              refine gl_ldA (vs := [.int .i64 o11.1.From, .int .i64 o11.1.To, .int .i64 o11.1.Delay, .int .i64 o11.1.Tokens]) 0 hasBK (mem_at 0 rfl) rfl rfl Fm31 Fz31 rfl rfl rfl ?_
              refine gl_run (v := .pointer (some ⟨b2, 2, none⟩)) rfl rfl rfl (fun w => by kernel_rfl) ?_
              refine gl_pick 2 rfl ?_
              refine gl_stB (cells' := [.int .i64 o9, .int .i64 o5.1, .int .i64 o11.1.From, .int .i64 o11.1.To, .int .i64 o11.1.Delay, .int .i64 o11.1.Tokens]) 2 [.int .i64 o11.1.From, .int .i64 o11.1.To, .int .i64 o11.1.Delay, .int .i64 o11.1.Tokens] rfl rfl rfl Fz31 rfl rfl rfl rfl ?_
              refine gl_ns ?_
              refine g_region ?_
              refine gl_batch 2 [(55, .bool o5.2), (54, .bool o5.2)] rfl ?_
              refine gl_join (EE := [(57, .bool (o5.2 && o4.2.2)), (2, .pointer (some ⟨b1, 0, none⟩)), (4, .pointer (some ⟨b2, 0, none⟩)), (11, .bool o11.2)]) (RR := [BK 33 b2 [.int .i64 o9, .int .i64 o5.1, .int .i64 o11.1.From, .int .i64 o11.1.To, .int .i64 o11.1.Delay, .int .i64 o11.1.Tokens], BK 31 b12 [.int .i64 o11.1.From, .int .i64 o11.1.To, .int .i64 o11.1.Delay, .int .i64 o11.1.Tokens], BK 33 b1 [.int .i64 0, .int .i64 0, .int .i64 0, .int .i64 0, .int .i64 0, .int .i64 0]]) (XX := [gTab 3 pow10C, gNum 0, gErr 1, gErr 2]) (OO := []) (VV := []) 2 ?_ ?_
              · skip
                refine gl_case 55 rfl (fun hc => ?_) (fun hc => ?_)
                · skip
                  refine gl_batch 2 [(57, .bool o4.2.2), (56, .bool o4.2.2)] rfl ?_
                  refine gl_nil ?_
                  exact gx_mid ⟨congrArg (fun z => some (Value.bool z)) (and_t hc).symm, rfl, rfl, rfl, trivial⟩ (fun w hS => hS)
                · skip
                  refine gl_batch 2 [(57, .bool false), (56, undef)] rfl ?_
                  refine gl_nil ?_
                  exact gx_mid ⟨congrArg (fun z => some (Value.bool z)) (and_f hc).symm, rfl, rfl, rfl, trivial⟩ (fun w hS => hS)
              · skip
                refine gl_batch 1 [(58, .bool (o5.2 && o4.2.2))] rfl ?_
                refine gl_join (EE := [(60, .bool ((o5.2 && o4.2.2) && o11.2)), (2, .pointer (some ⟨b1, 0, none⟩)), (4, .pointer (some ⟨b2, 0, none⟩))]) (RR := [BK 33 b2 [.int .i64 o9, .int .i64 o5.1, .int .i64 o11.1.From, .int .i64 o11.1.To, .int .i64 o11.1.Delay, .int .i64 o11.1.Tokens], BK 31 b12 [.int .i64 o11.1.From, .int .i64 o11.1.To, .int .i64 o11.1.Delay, .int .i64 o11.1.Tokens], BK 33 b1 [.int .i64 0, .int .i64 0, .int .i64 0, .int .i64 0, .int .i64 0, .int .i64 0]]) (XX := [gTab 3 pow10C, gNum 0, gErr 1, gErr 2]) (OO := []) (VV := []) 2 ?_ ?_
                · skip
                  refine gl_case 58 rfl (fun hc => ?_) (fun hc => ?_)
                  · skip
                    refine gl_batch 2 [(60, .bool o11.2), (59, .bool o11.2)] rfl ?_
                    refine gl_nil ?_
                    exact gx_mid ⟨congrArg (fun z => some (Value.bool z)) (and_t hc).symm, rfl, rfl, trivial⟩ (fun w hS => hS)
                  · skip
                    refine gl_batch 2 [(60, .bool false), (59, undef)] rfl ?_
                    refine gl_nil ?_
                    exact gx_mid ⟨congrArg (fun z => some (Value.bool z)) (and_f hc).symm, rfl, rfl, trivial⟩ (fun w hS => hS)
                · skip
                  refine gl_batch 1 [(9, .bool ((o5.2 && o4.2.2) && o11.2))] rfl ?_
                  refine gl_nil ?_
                  refine gx_blk ?_
                  obtain rfl := Option.some.inj h
                  exact gx_of (fun a w hE hS => ⟨rfl, hE.sub ⟨rfl, rfl, rfl, trivial⟩, (((hS.pick 0 rfl).pick 2 rfl).take 2).facts _ _ [] (consItem (mem_at 0 rfl) (consItem (mem_at 1 rfl) (consItem (mem_at 2 rfl) (consItem (mem_at 3 rfl) noItem)))) noItem noItem⟩)
          · replace h := condF hc h
            refine g_skip ?_
            refine gx_blk ?_
            obtain rfl := Option.some.inj h
            exact gx_of (fun a w hE hS => ⟨rfl, hE.sub ⟨rfl, rfl, rfl, trivial⟩, (hS.take 2).facts _ _ [] (consItem (mem_at 0 rfl) (consItem (mem_at 1 rfl) (consItem (mem_at 2 rfl) (consItem (mem_at 3 rfl) noItem)))) noItem noItem⟩)
    · intro e a w hm
      obtain ⟨rfl, hE, hS⟩ := hm
      refine gx_to hE hS ?_
      refine gx_seq ?_
      refine g_seq ?_
      refine g_sr ?_
      refine gl_batch 3 [(63, .bool (!o6.2.2.2.2.2)), (62, .bool (!o6.2.2.2.2.2)), (61, .bool o6.2.2.2.2.2)] rfl ?_
      obtain ⟨q13, hq13, h⟩ := bindS h
      refine gl_join (EE := [(67, .bool q13), (2, .pointer (some ⟨b1, 0, none⟩)), (4, .pointer (some ⟨b2, 0, none⟩))]) (RR := [BK 33 b1 [.int .i64 0, .int .i64 0, .int .i64 0, .int .i64 0, .int .i64 0, .int .i64 0], BK 33 b2 [.int .i64 o6.1, .int .i64 o5.1, .int .i64 o6.2.1, .int .i64 o6.2.2.1, .int .i64 o6.2.2.2.1, .int .i64 o6.2.2.2.2.1]]) (XX := [gTab 3 pow10C, gNum 0, gErr 1, gErr 2]) (OO := []) (VV := []) 4 ?_ ?_
      · replace h := hq13
        refine gl_case 63 rfl (fun hc => ?_) (fun hc => ?_)
        · replace h := condT hc h
          refine gl_batch 4 [(67, .bool true), (66, undef), (65, undef), (64, undef)] rfl ?_
          refine gl_nil ?_
          obtain rfl := Option.some.inj h
          exact gx_mid ⟨rfl, rfl, rfl, trivial⟩ (fun w hS => hS)
        · replace h := condF hc h
          refine gl_ldA (vs := [.int .i64 o6.1, .int .i64 o5.1, .int .i64 o6.2.1, .int .i64 o6.2.2.1, .int .i64 o6.2.2.2.1, .int .i64 o6.2.2.2.2.1]) 0 hasBK (mem_at 1 rfl) rfl rfl Fm33 Fz33 rfl rfl rfl ?_
          obtain ⟨o14, ho14, h⟩ := letS h
          refine gl_call rfl rfl (fun w => by kernel_rfl) (c_impl_isEdit (⟨o6.1, o5.1, (⟨o6.2.1, o6.2.2.1, o6.2.2.2.1, o6.2.2.2.2.1⟩ : Place)⟩ : Edit) ho14) (consItem (mem_at 0 rfl) (consItem (mem_at 1 rfl) (consItem (mem_at 2 rfl) (consItem (mem_at 3 rfl) noItem)))) noItem ?_
          rintro v outs ros ⟨rfl, rfl, rfl⟩
          refine ⟨_, rfl, ?_⟩
          refine gl_batch 2 [(67, .bool (!o14)), (66, .bool (!o14))] rfl ?_
          refine gl_nil ?_
          obtain rfl := Option.some.inj h
          exact gx_mid ⟨rfl, rfl, rfl, trivial⟩ (fun w hS => hS)
      · skip
        refine gl_ns ?_
        refine g_cond (b := q13) rfl (fun hc => ?_) (fun hc => ?_)
        · replace h := condT hc h
          refine g_sr ?_
          refine gl_run (v := .agg #[.int .i64 0, .int .i64 0, .int .i64 0, .int .i64 0, .int .i64 0, .int .i64 0]) rfl rfl rfl (fun w => by kernel_rfl) ?_
          refine gl_stB (cells' := [.int .i64 0, .int .i64 0, .int .i64 0, .int .i64 0, .int .i64 0, .int .i64 0]) 0 [.int .i64 0, .int .i64 0, .int .i64 0, .int .i64 0, .int .i64 0, .int .i64 0] rfl rfl rfl Fz33 rfl rfl rfl rfl ?_
          refine gl_batch 1 [(3, .bool false)] rfl ?_
          refine gl_ns ?_
          refine g_ret ?_
          refine gx_seq_ret ?_
          obtain rfl := Option.some.inj h
          exact gx_fin rfl [.agg #[.int .i64 0, .int .i64 0, .int .i64 0, .int .i64 0, .int .i64 0, .int .i64 0], .bool false] _ _ [] ⟨_, _, rfl, ⟨_, _, _, rfl, mem_at 0 rfl, hasBK, Or.inl ⟨Fm33, Fz33, rfl⟩⟩, _, _, rfl, rfl, rfl⟩ rfl ⟨rfl, rfl, rfl⟩ (fun w hS => (hS.take 0).facts [] [] [] noItem noItem noItem) (Or.inl rfl)
        · replace h := condF hc h
          refine g_skip ?_
          refine gx_seq ?_
          refine g_sr ?_
          refine gl_ldA (vs := [.int .i64 o6.1, .int .i64 o5.1, .int .i64 o6.2.1, .int .i64 o6.2.2.1, .int .i64 o6.2.2.2.1, .int .i64 o6.2.2.2.2.1]) 0 hasBK (mem_at 1 rfl) rfl rfl Fm33 Fz33 rfl rfl rfl ?_
          refine gl_stB (cells' := [.int .i64 o6.1, .int .i64 o5.1, .int .i64 o6.2.1, .int .i64 o6.2.2.1, .int .i64 o6.2.2.2.1, .int .i64 o6.2.2.2.2.1]) 0 [.int .i64 o6.1, .int .i64 o5.1, .int .i64 o6.2.1, .int .i64 o6.2.2.1, .int .i64 o6.2.2.2.1, .int .i64 o6.2.2.2.2.1] rfl rfl rfl Fz33 rfl rfl rfl rfl ?_
          refine gl_batch 1 [(3, .bool true)] rfl ?_
          refine gl_ns ?_
          refine g_ret ?_
          obtain rfl := Option.some.inj h
          exact gx_fin rfl [.agg #[.int .i64 o6.1, .int .i64 o5.1, .int .i64 o6.2.1, .int .i64 o6.2.2.1, .int .i64 o6.2.2.2.1, .int .i64 o6.2.2.2.2.1], .bool true] _ _ [] ⟨_, _, rfl, ⟨_, _, _, rfl, mem_at 0 rfl, hasBK, Or.inl ⟨Fm33, Fz33, rfl⟩⟩, _, _, rfl, rfl, rfl⟩ rfl ⟨rfl, rfl, rfl⟩ (fun w hS => (hS.take 0).facts [] [] [] noItem noItem noItem) (Or.inl rfl)

theorem c_laws_FnExactReadEdit (aS : List UInt8)  {r : Bool} (h : laws_FnExactReadEdit aS = some r) : CallOK Tryd.prog 4 [str aS] [] [gTab 3 pow10C, gNum 0, gErr 1, gErr 2] [] (fun v outs ros => v = .bool r ∧ outs = [] ∧ ros = []) := by
  refine fn_ok Tryd.func4 rfl Tryd.ntmps4 rfl (fun c hF0 => ?_)
  unfold laws_FnExactReadEdit at h
  refine g_sr ?_
  refine gl_batch 1 [(2, .bool false)] rfl ?_
  refine gl_ns ?_
  refine g_seq ?_
  refine g_sr ?_
  refine gl_batch 1 [(7, str aS)] rfl ?_
  refine gl_slen (s := aS) rfl Ft9 rfl rfl ?_
  refine gl_batch 1 [(9, .bool (decide ((List.length aS : Int) > 1048576)))] rfl ?_
  refine gl_ns ?_
  refine g_cond (b := decide ((List.length aS : Int) > 1048576)) rfl (fun hc => ?_) (fun hc => ?_)
  · replace h := condT hc h
    refine g_sr ?_
    refine gl_batch 1 [(2, .bool true)] rfl ?_
    refine gl_ns ?_
    refine g_ret ?_
    refine gx_seq_ret ?_
    obtain rfl := Option.some.inj h
    exact gx_fin rfl [.bool true] _ _ [] ⟨_, _, rfl, rfl, rfl⟩ rfl ⟨rfl, rfl, rfl⟩ (fun w hS => (hS.take 0).facts [] [] [] noItem noItem noItem) (Or.inl rfl)
  · replace h := condF hc h
    refine g_skip ?_
    refine gx_seq ?_
    refine g_sr ?_
    refine gl_batch 1 [(11, str aS)] rfl ?_
    obtain ⟨o1, ho1, h⟩ := bindS h
    refine gl_call rfl rfl (fun w => by kernel_rfl) (c_spec_ReadEdit aS ho1) (consItem (mem_at 0 rfl) (consItem (mem_at 1 rfl) (consItem (mem_at 2 rfl) (consItem (mem_at 3 rfl) noItem)))) noItem ?_
    rintro v outs ros ⟨rfl, rfl, rfl⟩
    refine ⟨_, rfl, ?_⟩
    refine gl_batch 3 [(14, .bool o1.2), (13, .agg #[.int .i64 o1.1.Kind, .int .i64 o1.1.Index, .int .i64 o1.1.Place.From, .int .i64 o1.1.Place.To, .int .i64 o1.1.Place.Delay, .int .i64 o1.1.Place.Tokens]), (10, .tuple #[.agg #[.int .i64 o1.1.Kind, .int .i64 o1.1.Index, .int .i64 o1.1.Place.From, .int .i64 o1.1.Place.To, .int .i64 o1.1.Place.Delay, .int .i64 o1.1.Place.Tokens], .bool o1.2])] rfl ?_
    refine gl_new (d := 3) (T := 33) [.int .i64 0, .int .i64 0, .int .i64 0, .int .i64 0, .int .i64 0, .int .i64 0] rfl rfl (fun _ => rfl) (fun w => by kernel_rfl) ?_
    intro b2
    refine gl_stB (cells' := [.int .i64 o1.1.Kind, .int .i64 o1.1.Index, .int .i64 o1.1.Place.From, .int .i64 o1.1.Place.To, .int .i64 o1.1.Place.Delay, .int .i64 o1.1.Place.Tokens]) 0 [.int .i64 o1.1.Kind, .int .i64 o1.1.Index, .int .i64 o1.1.Place.From, .int .i64 o1.1.Place.To, .int .i64 o1.1.Place.Delay, .int .i64 o1.1.Place.Tokens] rfl rfl rfl Fz33 rfl rfl rfl rfl ?_
    refine gl_batch 1 [(4, .bool o1.2)] rfl ?_
    refine gl_nx ?_
    refine gl_batch 1 [(16, str aS)] rfl ?_
    obtain ⟨o3, ho3, h⟩ := bindS h
    refine gl_call rfl rfl (fun w => by kernel_rfl) (c_impl_ReadEdit aS ho3) (consItem (mem_at 0 rfl) (consItem (mem_at 1 rfl) (consItem (mem_at 2 rfl) (consItem (mem_at 3 rfl) noItem)))) noItem ?_
    rintro v outs ros ⟨rfl, rfl, rfl⟩
    refine ⟨_, rfl, ?_⟩
    refine gl_batch 3 [(19, .bool o3.2), (18, .agg #[.int .i64 o3.1.Kind, .int .i64 o3.1.Index, .int .i64 o3.1.Place.From, .int .i64 o3.1.Place.To, .int .i64 o3.1.Place.Delay, .int .i64 o3.1.Place.Tokens]), (15, .tuple #[.agg #[.int .i64 o3.1.Kind, .int .i64 o3.1.Index, .int .i64 o3.1.Place.From, .int .i64 o3.1.Place.To, .int .i64 o3.1.Place.Delay, .int .i64 o3.1.Place.Tokens], .bool o3.2])] rfl ?_
    refine gl_new (d := 5) (T := 33) [.int .i64 0, .int .i64 0, .int .i64 0, .int .i64 0, .int .i64 0, .int .i64 0] rfl rfl (fun _ => rfl) (fun w => by kernel_rfl) ?_
    intro b4
    refine gl_stB (cells' := [.int .i64 o3.1.Kind, .int .i64 o3.1.Index, .int .i64 o3.1.Place.From, .int .i64 o3.1.Place.To, .int .i64 o3.1.Place.Delay, .int .i64 o3.1.Place.Tokens]) 0 [.int .i64 o3.1.Kind, .int .i64 o3.1.Index, .int .i64 o3.1.Place.From, .int .i64 o3.1.Place.To, .int .i64 o3.1.Place.Delay, .int .i64 o3.1.Place.Tokens] rfl rfl rfl Fz33 rfl rfl rfl rfl ?_
    refine gl_batch 1 [(6, .bool o3.2)] rfl ?_
    refine gl_ns ?_
    refine g_seq ?_
    refine g_sr ?_
    refine gl_ldA (vs := [.int .i64 o3.1.Kind, .int .i64 o3.1.Index, .int .i64 o3.1.Place.From, .int .i64 o3.1.Place.To, .int .i64 o3.1.Place.Delay, .int .i64 o3.1.Place.Tokens]) 0 hasBK (mem_at 0 rfl) rfl rfl Fm33 Fz33 rfl rfl rfl ?_
    refine gl_ldA (vs := [.int .i64 o1.1.Kind, .int .i64 o1.1.Index, .int .i64 o1.1.Place.From, .int .i64 o1.1.Place.To, .int .i64 o1.1.Place.Delay, .int .i64 o1.1.Place.Tokens]) 0 hasBK (mem_at 1 rfl) rfl rfl Fm33 Fz33 rfl rfl rfl ?_
    refine gl_call rfl rfl (fun w => by kernel_rfl) (c_laws_eqEdit o3.1 o1.1 rfl) (consItem (mem_at 0 rfl) (consItem (mem_at 1 rfl) (consItem (mem_at 2 rfl) (consItem (mem_at 3 rfl) noItem)))) noItem ?_
    rintro v outs ros ⟨rfl, rfl, rfl⟩
    refine ⟨_, rfl, ?_⟩
    refine gl_batch 2 [(24, .bool (!(laws_eqEdit o3.1 o1.1))), (23, .bool (!(laws_eqEdit o3.1 o1.1)))] rfl ?_
    refine gl_join (EE := [(28, .bool ((!(laws_eqEdit o3.1 o1.1)) || (o3.2 != o1.2)))]) (RR := [BK 33 b4 [.int .i64 o3.1.Kind, .int .i64 o3.1.Index, .int .i64 o3.1.Place.From, .int .i64 o3.1.Place.To, .int .i64 o3.1.Place.Delay, .int .i64 o3.1.Place.Tokens], BK 33 b2 [.int .i64 o1.1.Kind, .int .i64 o1.1.Index, .int .i64 o1.1.Place.From, .int .i64 o1.1.Place.To, .int .i64 o1.1.Place.Delay, .int .i64 o1.1.Place.Tokens]]) (XX := [gTab 3 pow10C, gNum 0, gErr 1, gErr 2]) (OO := []) (VV := []) 4 ?_ ?_
    · skip
      refine gl_case 24 rfl (fun hc => ?_) (fun hc => ?_)
      · skip
        refine gl_batch 4 [(28, .bool true), (27, undef), (26, undef), (25, undef)] rfl ?_
        refine gl_nil ?_
        exact gx_mid ⟨congrArg (fun z => some (Value.bool z)) (or_t hc).symm, trivial⟩ (fun w hS => hS)
      · skip
        refine gl_batch 2 [(26, .bool o1.2), (25, .bool o3.2)] rfl ?_
        refine gl_bne rfl rfl Fb4 rfl rfl ?_
        refine gl_batch 1 [(28, .bool (o3.2 != o1.2))] rfl ?_
        refine gl_nil ?_
        exact gx_mid ⟨congrArg (fun z => some (Value.bool z)) (or_f hc).symm, trivial⟩ (fun w hS => hS)
    · skip
      refine gl_ns ?_
      refine g_cond (b := (!(laws_eqEdit o3.1 o1.1)) || (o3.2 != o1.2)) rfl (fun hc => ?_) (fun hc => ?_)
      · replace h := condT hc h
        refine g_sr ?_
        refine gl_batch 1 [(2, .bool false)] rfl ?_
        refine gl_ns ?_
        refine g_ret ?_
        refine gx_seq_ret ?_
        obtain rfl := Option.some.inj h
        exact gx_fin rfl [.bool false] _ _ [] ⟨_, _, rfl, rfl, rfl⟩ rfl ⟨rfl, rfl, rfl⟩ (fun w hS => (hS.take 0).facts [] [] [] noItem noItem noItem) (Or.inl rfl)
      · replace h := condF hc h
        refine g_skip ?_
        refine gx_seq ?_
        refine g_sr ?_
        refine gl_batch 1 [(2, .bool true)] rfl ?_
        refine gl_ns ?_
        refine g_ret ?_
        obtain rfl := Option.some.inj h
        exact gx_fin rfl [.bool true] _ _ [] ⟨_, _, rfl, rfl, rfl⟩ rfl ⟨rfl, rfl, rfl⟩ (fun w hS => (hS.take 0).facts [] [] [] noItem noItem noItem) (Or.inl rfl)

end Go.Proofs.YtneifoepoccjaaaDoor
