/-
  What each function gives when it is called: the contracts, each with the walk through its code. Written by a program of ours.
-/
import Derived.Test.YtneifoepoccjaaaDoorC10
import Derived.Test.YtneifoepoccjaaaDoorC1a
import Derived.Test.YtneifoepoccjaaaDoorC1b
import Derived.Test.YtneifoepoccjaaaDoorC1c
import Derived.Test.YtneifoepoccjaaaDoorC1d
namespace Go.Proofs.YtneifoepoccjaaaDoor
open Go Go.Proofs Go.Shelf
set_option maxHeartbeats 16000000
theorem c_spec_RecoverTrace (s : List UInt8)  {r : List Firing × Int} (h : spec_RecoverTrace s = some r) : CallOK Tryd.prog 22 [str s] [] [gTab 3 pow10C, gNum 0, gErr 1, gErr 2] [] (fun v outs ros => ∃ (a0 : Option Addr), ∃ (c0 : Nat), v = .tuple #[.slice a0 (List.length r.1) c0, .int .i64 r.2] ∧ outs = [SL false 47 FiringS a0 c0 r.1] ∧ ros = []) := by
  refine fn_ok Tryd.func22 rfl Tryd.ntmps22 rfl (fun c hF0 => ?_)
  unfold spec_RecoverTrace at h
  refine g_seq ?_
  refine g_region ?_
  refine gl_batch 2 [(3, .int .i64 0), (2, .slice none 0 0)] rfl ?_
  refine gl_nil ?_
  refine gx_seq ?_
  refine g_seq ?_
  refine g_seq ?_
  refine g_region ?_
  refine gl_batch 1 [(6, str s)] rfl ?_
  refine gl_slen (s := s) rfl Ft9 rfl rfl ?_
  refine gl_batch 1 [(8, .bool (decide ((List.length s : Int) > 20000)))] rfl ?_
  refine gl_nil ?_
  refine gx_seq ?_
  refine g_cond (b := decide ((List.length s : Int) > 20000)) rfl (fun hc => ?_) (fun hc => ?_)
  · replace h := condT hc h
    refine g_seq ?_
    refine g_region ?_
    refine gl_batch 2 [(3, .int .i64 3), (2, .slice none 0 0)] rfl ?_
    refine gl_nil ?_
    refine gx_seq ?_
    refine g_ret ?_
    refine gx_seq_ret ?_
    obtain rfl := Option.some.inj h
    exact gx_fin rfl [.slice none 0 0, .int .i64 3] _ _ [] ⟨_, _, rfl, rfl, _, _, rfl, rfl, rfl⟩ rfl ⟨none, 0, rfl, rfl, rfl⟩ (fun w hS => ((hS.nil false 47 FiringS).take 1).facts [] [] [] noItem noItem noItem) (Or.inl rfl)
  · replace h := condF hc h
    refine g_skip ?_
    refine gx_seq ?_
    refine g_seq ?_
    refine g_region ?_
    refine gl_batch 1 [(10, str s)] rfl ?_
    obtain ⟨o1, ho1, h⟩ := bindS h
    refine gl_call rfl rfl (fun w => by kernel_rfl) (c_spec_l28Recover s ho1) (consItem (mem_at 0 rfl) (consItem (mem_at 1 rfl) (consItem (mem_at 2 rfl) (consItem (mem_at 3 rfl) noItem)))) noItem ?_
    rintro v outs ros ⟨a_v2, c_v3, rfl, rfl, rfl⟩
    refine ⟨_, rfl, ?_⟩
    refine gl_batch 5 [(5, .int .i64 o1.2), (4, .slice a_v2 (List.length o1.1) c_v3), (13, .int .i64 o1.2), (12, .slice a_v2 (List.length o1.1) c_v3), (9, .tuple #[.slice a_v2 (List.length o1.1) c_v3, .int .i64 o1.2])] rfl ?_
    refine gl_nil ?_
    refine gx_seq ?_
    refine g_seq ?_
    refine g_region ?_
    refine gl_batch 3 [(3, .int .i64 0), (2, .slice a_v2 (List.length o1.1) c_v3), (14, .slice a_v2 (List.length o1.1) c_v3)] rfl ?_
    refine gl_nil ?_
    refine gx_seq ?_
    refine g_ret ?_
    obtain rfl := Option.some.inj h
    exact gx_fin rfl [.slice a_v2 (List.length o1.1) c_v3, .int .i64 0] _ _ [] ⟨_, _, rfl, rfl, _, _, rfl, rfl, rfl⟩ rfl ⟨a_v2, c_v3, rfl, rfl, rfl⟩ (fun w hS => (hS.take 1).facts [] [] [] noItem noItem noItem) (Or.inl rfl)

theorem c_impl_recoverTrace (s : List UInt8)  {r : List Firing × Int} (h : impl_recoverTrace s = some r) : CallOK Tryd.prog 60 [str s] [] [gTab 3 pow10C, gNum 0, gErr 1, gErr 2] [] (fun v outs ros => ∃ (a0 : Option Addr), ∃ (c0 : Nat), v = .tuple #[.slice a0 (List.length r.1) c0, .int .i64 r.2] ∧ outs = [SL false 47 FiringS a0 c0 r.1] ∧ ros = []) := by
  refine fn_ok Tryd.func60 rfl Tryd.ntmps60 rfl (fun c hF0 => ?_)
  unfold impl_recoverTrace at h
  refine g_seq ?_
  refine g_region ?_
  refine gl_batch 2 [(3, .int .i64 0), (2, .slice none 0 0)] rfl ?_
  refine gl_nil ?_
  refine gx_seq ?_
  refine g_seq ?_
  refine g_region ?_
  refine gl_batch 1 [(4, .slice none 0 0)] rfl ?_
  refine gl_nil ?_
  refine gx_seq ?_
  refine g_seq ?_
  refine g_region ?_
  obtain ⟨z1, hz1, h⟩ := bindS h
  refine gl_mk (enc := fun x => [.int .i64 x]) (hn := fun _ => rfl) (z0 := 0) rfl rfl Fs82 Fi2 rfl rfl hz1 rfl rfl ?_
  intro a_v2 c_v3
  refine gl_batch 1 [(5, .slice a_v2 (List.length z1) c_v3)] rfl ?_
  refine gl_nil ?_
  refine gx_seq ?_
  refine g_seq ?_
  refine g_region ?_
  refine gl_batch 2 [(7, .int .i64 0), (6, .int .i64 1)] rfl ?_
  refine gl_nil ?_
  refine gx_seq ?_
  refine g_seq ?_
  refine g_block ?_
  obtain ⟨o4, ho4, h⟩ := bindS h
  refine g_loop (impl_recoverTrace_L1 s) (fun (ss_ : (List Firing) × (List Int) × Int × Int) a w => ∃ (a_ss__r0 : Option Addr), ∃ (c_ss__r0 : Nat), ∃ (a_ss__r1 : Option Addr), ∃ (c_ss__r1 : Nat), Env a 101 [(0, str s), (4, .slice a_ss__r0 (List.length ss_.1) c_ss__r0), (5, .slice a_ss__r1 (List.length ss_.2.1) c_ss__r1), (6, .int .i64 ss_.2.2.1), (7, .int .i64 ss_.2.2.2)] ∧ St c w [SL false 47 FiringS a_ss__r0 c_ss__r0 ss_.1, SL false 2 (intS .i64) a_ss__r1 c_ss__r1 ss_.2.1] [gTab 3 pow10C, gNum 0, gErr 1, gErr 2] [] []) ((fun (ss_ : (List Firing) × Int) e a w => e = (.exit 0) ∧ ∃ (a_ss__r0 : Option Addr), ∃ (c_ss__r0 : Nat), Env a 101 [(4, .slice a_ss__r0 (List.length ss_.1) c_ss__r0), (7, .int .i64 ss_.2)] ∧ St c w [SL false 47 FiringS a_ss__r0 c_ss__r0 ss_.1] [gTab 3 pow10C, gNum 0, gErr 1, gErr 2] [] []) : ((List Firing) × Int) → Exit → Act → World → Prop) ho4 ?_ ?_ ?_
  · exact fun a w hE hS => ⟨none, 0, a_v2, c_v3, hE.sub ⟨rfl, rfl, rfl, rfl, rfl, trivial⟩, ((hS.nil false 47 FiringS).take 2).facts _ _ [] (consItem (mem_at 0 rfl) (consItem (mem_at 1 rfl) (consItem (mem_at 2 rfl) (consItem (mem_at 3 rfl) noItem)))) noItem noItem⟩
  · intro s5 o6 h a w hA
    obtain ⟨a_s5_r0, c_s5_r0, a_s5_r1, c_s5_r1, hE, hS⟩ := hA
    unfold impl_recoverTrace_L1 at h
    refine g_enter hE hS ?_
    refine g_seq ?_
    refine g_seq ?_
    refine g_region ?_
    refine gl_batch 1 [(20, .slice a_s5_r0 (List.length s5.1) c_s5_r0)] rfl ?_
    refine gl_len rfl Fs26 rfl rfl ?_
    refine gl_batch 1 [(22, .bool (decide ((List.length s5.1 : Int) < 500)))] rfl ?_
    refine gl_nil ?_
    refine gx_seq ?_
    refine g_cond (b := decide ((List.length s5.1 : Int) < 500)) rfl (fun hc => ?_) (fun hc => ?_)
    · replace h := condT hc h
      refine g_skip ?_
      refine gx_seq ?_
      refine g_block ?_
      refine g_seq ?_
      refine g_region ?_
      refine gl_batch 2 [(25, .int .i64 s5.2.2.2), (24, str s)] rfl ?_
      obtain ⟨z7, hz7, h⟩ := bindS h
      refine gl_ssub (i := s5.2.2.2) (j := (List.length s : Int)) (k := .i64) (k2 := .i64) rfl rfl rfl Ft9 hz7 rfl rfl ?_
      obtain ⟨o8, ho8, h⟩ := bindS h
      refine gl_call rfl rfl (fun w => by kernel_rfl) (c_strings_Cut z7 ([10] : List UInt8) ho8) (consItem (mem_at 0 rfl) (consItem (mem_at 1 rfl) (consItem (mem_at 2 rfl) (consItem (mem_at 3 rfl) noItem)))) noItem ?_
      rintro v outs ros ⟨rfl, rfl, rfl⟩
      refine ⟨_, rfl, ?_⟩
      refine gl_batch 7 [(10, .bool o8.2.2), (9, str o8.2.1), (8, str o8.1), (30, .bool o8.2.2), (29, str o8.2.1), (28, str o8.1), (23, .tuple #[str o8.1, str o8.2.1, .bool o8.2.2])] rfl ?_
      refine gl_nil ?_
      refine gx_seq ?_
      refine g_seq ?_
      refine g_region ?_
      refine gl_batch 1 [(31, str o8.1)] rfl ?_
      obtain ⟨o9, ho9, h⟩ := bindS h
      refine gl_call rfl rfl (fun w => by kernel_rfl) (c_strings_Split o8.1 ([32] : List UInt8) ho9) (consItem (mem_at 0 rfl) (consItem (mem_at 1 rfl) (consItem (mem_at 2 rfl) (consItem (mem_at 3 rfl) noItem)))) noItem ?_
      rintro v outs ros ⟨a_v10, c_v11, rfl, rfl, rfl⟩
      refine ⟨_, rfl, ?_⟩
      refine gl_batch 1 [(11, .slice a_v10 (List.length o9) c_v11)] rfl ?_
      refine gl_nil ?_
      refine gx_seq ?_
      refine g_seq ?_
      refine g_seq ?_
      refine g_region ?_
      refine gl_batch 3 [(35, .bool (!o8.2.2)), (34, .bool (!o8.2.2)), (33, .bool o8.2.2)] rfl ?_
      refine gl_join (EE := [(39, .bool ((!o8.2.2) || ((List.length o9 : Int) != 3))), (0, str s), (4, .slice a_s5_r0 (List.length s5.1) c_s5_r0), (5, .slice a_s5_r1 (List.length s5.2.1) c_s5_r1), (6, .int .i64 s5.2.2.1), (7, .int .i64 s5.2.2.2), (8, str o8.1), (11, .slice a_v10 (List.length o9) c_v11)]) (RR := [SL false 9 strS a_v10 c_v11 o9, SL false 47 FiringS a_s5_r0 c_s5_r0 s5.1, SL false 2 (intS .i64) a_s5_r1 c_s5_r1 s5.2.1]) (XX := [gTab 3 pow10C, gNum 0, gErr 1, gErr 2]) (OO := []) (VV := []) 4 ?_ ?_
      · skip
        refine gl_case 35 rfl (fun hc => ?_) (fun hc => ?_)
        · skip
          refine gl_batch 4 [(39, .bool true), (38, undef), (37, undef), (36, undef)] rfl ?_
          refine gl_nil ?_
          exact gx_mid ⟨congrArg (fun z => some (Value.bool z)) (or_t hc).symm, rfl, rfl, rfl, rfl, rfl, rfl, rfl, trivial⟩ (fun w hS => hS)
        · skip
          refine gl_batch 1 [(36, .slice a_v10 (List.length o9) c_v11)] rfl ?_
          refine gl_len rfl Fs71 rfl rfl ?_
          refine gl_batch 2 [(39, .bool ((List.length o9 : Int) != 3)), (38, .bool ((List.length o9 : Int) != 3))] rfl ?_
          refine gl_nil ?_
          exact gx_mid ⟨congrArg (fun z => some (Value.bool z)) (or_f hc).symm, rfl, rfl, rfl, rfl, rfl, rfl, rfl, trivial⟩ (fun w hS => hS)
      · skip
        refine gl_nil ?_
        refine gx_seq ?_
        refine g_cond (b := (!o8.2.2) || ((List.length o9 : Int) != 3)) rfl (fun hc => ?_) (fun hc => ?_)
        · replace h := condT hc h
          refine g_exit ?_
          refine gx_seq_exit ?_
          refine gx_blk_miss rfl ?_
          obtain rfl := Option.some.inj h
          exact gx_of (fun a w hE hS => lp_out nofun (⟨rfl, a_s5_r0, c_s5_r0, hE.sub ⟨rfl, rfl, trivial⟩, ((hS.pick 1 rfl).take 1).facts _ _ [] (consItem (mem_at 0 rfl) (consItem (mem_at 1 rfl) (consItem (mem_at 2 rfl) (consItem (mem_at 3 rfl) noItem)))) noItem noItem⟩))
        · replace h := condF hc h
          refine g_skip ?_
          refine gx_seq ?_
          refine g_seq ?_
          refine g_region ?_
          refine gl_batch 1 [(41, .slice a_v10 (List.length o9) c_v11)] rfl ?_
          obtain ⟨x12, hx12, h⟩ := bindS h
          refine gl_idxVn (k := .i64) (mem_at 0 rfl) rfl rfl Fs71 Fz9 hx12 rfl rfl ?_
          intro p13 hp13
          refine gl_ld1 0 hasAT (mem_at 3 rfl) rfl rfl Fo9 rfl rfl rfl ?_
          obtain ⟨o14, ho14, h⟩ := bindS h
          refine gl_call rfl rfl (fun w => by kernel_rfl) (c_impl_readNumber x12 ho14) (consItem (mem_at 0 rfl) (consItem (mem_at 1 rfl) (consItem (mem_at 2 rfl) (consItem (mem_at 3 rfl) noItem)))) noItem ?_
          rintro v outs ros ⟨rfl, rfl, rfl⟩
          refine ⟨_, rfl, ?_⟩
          refine gl_batch 5 [(13, .bool o14.2), (12, .int .i64 o14.1), (46, .bool o14.2), (45, .int .i64 o14.1), (40, .tuple #[.int .i64 o14.1, .bool o14.2])] rfl ?_
          refine gl_nil ?_
          refine gx_seq ?_
          refine g_seq ?_
          refine g_region ?_
          refine gl_batch 1 [(48, .slice a_v10 (List.length o9) c_v11)] rfl ?_
          obtain ⟨x15, hx15, h⟩ := bindS h
          refine gl_idxVn (k := .i64) (mem_at 0 rfl) rfl rfl Fs71 Fz9 hx15 rfl rfl ?_
          intro p16 hp16
          refine gl_ld1 0 hasAT (mem_at 3 rfl) rfl rfl Fo9 rfl rfl rfl ?_
          obtain ⟨o17, ho17, h⟩ := bindS h
          refine gl_call rfl rfl (fun w => by kernel_rfl) (c_impl_readNumber x15 ho17) (consItem (mem_at 0 rfl) (consItem (mem_at 1 rfl) (consItem (mem_at 2 rfl) (consItem (mem_at 3 rfl) noItem)))) noItem ?_
          rintro v outs ros ⟨rfl, rfl, rfl⟩
          refine ⟨_, rfl, ?_⟩
          refine gl_batch 5 [(15, .bool o17.2), (14, .int .i64 o17.1), (53, .bool o17.2), (52, .int .i64 o17.1), (47, .tuple #[.int .i64 o17.1, .bool o17.2])] rfl ?_
          refine gl_nil ?_
          refine gx_seq ?_
          refine g_seq ?_
          refine g_region ?_
          refine gl_batch 2 [(55, .int .i64 o17.1), (54, .int .i64 o14.1)] rfl ?_
          refine gl_run (v := .agg #[.int .i64 o14.1, .int .i64 0, .int .i64 o17.1]) rfl rfl rfl (fun w => by kernel_rfl) ?_
          refine gl_new (d := 16) (T := 47) [.int .i64 0, .int .i64 0, .int .i64 0] rfl rfl (fun _ => rfl) (fun w => by kernel_rfl) ?_
          intro b18
          refine gl_stB (cells' := [.int .i64 o14.1, .int .i64 0, .int .i64 o17.1]) 0 [.int .i64 o14.1, .int .i64 0, .int .i64 o17.1] rfl rfl rfl Fz47 rfl rfl rfl rfl ?_
          refine gl_nil ?_
          refine gx_seq ?_
          refine g_seq ?_
          refine g_seq ?_
          refine g_region ?_
          refine gl_batch 3 [(59, .bool (!o14.2)), (58, .bool (!o14.2)), (57, .bool o14.2)] rfl ?_
          refine gl_join (EE := [(62, .bool ((!o14.2) || (!o17.2))), (0, str s), (4, .slice a_s5_r0 (List.length s5.1) c_s5_r0), (5, .slice a_s5_r1 (List.length s5.2.1) c_s5_r1), (6, .int .i64 s5.2.2.1), (7, .int .i64 s5.2.2.2), (8, str o8.1), (12, .int .i64 o14.1), (16, .pointer (some ⟨b18, 0, none⟩))]) (RR := [BK 47 b18 [.int .i64 o14.1, .int .i64 0, .int .i64 o17.1], SL false 9 strS a_v10 c_v11 o9, SL false 47 FiringS a_s5_r0 c_s5_r0 s5.1, SL false 2 (intS .i64) a_s5_r1 c_s5_r1 s5.2.1]) (XX := [gTab 3 pow10C, gNum 0, gErr 1, gErr 2]) (OO := []) (VV := []) 3 ?_ ?_
          · skip
            refine gl_case 59 rfl (fun hc => ?_) (fun hc => ?_)
            · skip
              refine gl_batch 3 [(62, .bool true), (61, undef), (60, undef)] rfl ?_
              refine gl_nil ?_
              exact gx_mid ⟨congrArg (fun z => some (Value.bool z)) (or_t hc).symm, rfl, rfl, rfl, rfl, rfl, rfl, rfl, rfl, trivial⟩ (fun w hS => hS)
            · skip
              refine gl_batch 3 [(62, .bool (!o17.2)), (61, .bool (!o17.2)), (60, .bool o17.2)] rfl ?_
              refine gl_nil ?_
              exact gx_mid ⟨congrArg (fun z => some (Value.bool z)) (or_f hc).symm, rfl, rfl, rfl, rfl, rfl, rfl, rfl, rfl, trivial⟩ (fun w hS => hS)
          · skip
            refine gl_batch 1 [(63, .bool ((!o14.2) || (!o17.2)))] rfl ?_
            obtain ⟨q19, hq19, h⟩ := bindS h
            refine gl_join (EE := [(68, .bool q19), (0, str s), (4, .slice a_s5_r0 (List.length s5.1) c_s5_r0), (5, .slice a_s5_r1 (List.length s5.2.1) c_s5_r1), (6, .int .i64 s5.2.2.1), (7, .int .i64 s5.2.2.2), (8, str o8.1), (12, .int .i64 o14.1), (16, .pointer (some ⟨b18, 0, none⟩))]) (RR := [BK 47 b18 [.int .i64 o14.1, .int .i64 0, .int .i64 o17.1], SL false 9 strS a_v10 c_v11 o9, SL false 47 FiringS a_s5_r0 c_s5_r0 s5.1, SL false 2 (intS .i64) a_s5_r1 c_s5_r1 s5.2.1]) (XX := [gTab 3 pow10C, gNum 0, gErr 1, gErr 2]) (OO := []) (VV := []) 5 ?_ ?_
            · replace h := hq19
              refine gl_case 63 rfl (fun hc => ?_) (fun hc => ?_)
              · replace h := condT hc h
                refine gl_batch 5 [(68, .bool true), (67, undef), (66, undef), (65, undef), (64, undef)] rfl ?_
                refine gl_nil ?_
                obtain rfl := Option.some.inj h
                exact gx_mid ⟨rfl, rfl, rfl, rfl, rfl, rfl, rfl, rfl, rfl, trivial⟩ (fun w hS => hS)
              · replace h := condF hc h
                refine gl_ldA (vs := [.int .i64 o14.1, .int .i64 0, .int .i64 o17.1]) 0 hasBK (mem_at 0 rfl) rfl rfl Fm47 Fz47 rfl rfl rfl ?_
                refine gl_lit (m := 3) (d := 65) (T := 47) (enc := FiringE) (hn := fun _ => rfl) false [(⟨o14.1, 0, o17.1⟩ : Firing)] rfl rfl (fun _ => rfl) nofun (Nat.le_of_ble_eq_true rfl) (fun w => by kernel_rfl) ?_
                intro a_v20 c_v21
                obtain ⟨o22, ho22, h⟩ := bindS h
                refine gl_call rfl rfl (fun w => by kernel_rfl) (c_impl_isWritable [(⟨o14.1, 0, o17.1⟩ : Firing)] a_v20 c_v21 ho22) (consItem (mem_at 0 rfl) (consItem (mem_at 1 rfl) (consItem (mem_at 2 rfl) (consItem (mem_at 3 rfl) noItem)))) (consItem (mem_at 0 rfl) noItem) ?_
                rintro v outs ros ⟨rfl, rfl, rfl⟩
                refine ⟨_, rfl, ?_⟩
                refine gl_batch 2 [(68, .bool (!o22)), (67, .bool (!o22))] rfl ?_
                refine gl_nil ?_
                obtain rfl := Option.some.inj h
                exact gx_mid ⟨rfl, rfl, rfl, rfl, rfl, rfl, rfl, rfl, rfl, trivial⟩ (fun w hS => (((((hS.pick 4 rfl).pick 4 rfl).pick 4 rfl).pick 4 rfl).take 4).facts _ _ _ (consItem (mem_at 0 rfl) (consItem (mem_at 1 rfl) (consItem (mem_at 2 rfl) (consItem (mem_at 3 rfl) noItem)))) noItem noItem)
            · skip
              refine gl_nil ?_
              refine gx_seq ?_
              refine g_cond (b := q19) rfl (fun hc => ?_) (fun hc => ?_)
              · replace h := condT hc h
                refine g_exit ?_
                refine gx_seq_exit ?_
                refine gx_blk_miss rfl ?_
                obtain rfl := Option.some.inj h
                exact gx_of (fun a w hE hS => lp_out nofun (⟨rfl, a_s5_r0, c_s5_r0, hE.sub ⟨rfl, rfl, trivial⟩, ((hS.pick 2 rfl).take 1).facts _ _ [] (consItem (mem_at 0 rfl) (consItem (mem_at 1 rfl) (consItem (mem_at 2 rfl) (consItem (mem_at 3 rfl) noItem)))) noItem noItem⟩))
              · replace h := condF hc h
                refine g_skip ?_
                refine gx_seq ?_
                refine g_seq ?_
                refine g_region ?_
                refine gl_ldA (vs := [.int .i64 o14.1, .int .i64 0, .int .i64 o17.1]) 0 hasBK (mem_at 0 rfl) rfl rfl Fm47 Fz47 rfl rfl rfl ?_
                refine gl_batch 1 [(71, .int .i64 s5.2.2.1)] rfl ?_
                obtain ⟨o23, ho23, h⟩ := bindS h
                refine gl_call rfl rfl (fun w => by kernel_rfl) (c_impl_traceLine (⟨o14.1, 0, o17.1⟩ : Firing) s5.2.2.1 ho23) (consItem (mem_at 0 rfl) (consItem (mem_at 1 rfl) (consItem (mem_at 2 rfl) (consItem (mem_at 3 rfl) noItem)))) noItem ?_
                rintro v outs ros ⟨rfl, rfl, rfl⟩
                refine ⟨_, rfl, ?_⟩
                refine gl_batch 5 [(18, .int .i64 o23.2), (17, str o23.1), (74, .int .i64 o23.2), (73, str o23.1), (69, .tuple #[str o23.1, .int .i64 o23.2])] rfl ?_
                refine gl_nil ?_
                refine gx_seq ?_
                refine g_seq ?_
                refine g_seq ?_
                refine g_region ?_
                refine gl_batch 2 [(76, str o8.1), (75, str o23.1)] rfl ?_
                obtain ⟨z24, hz24, h⟩ := bindS h
                refine gl_scat rfl rfl hz24 rfl rfl ?_
                refine gl_sne (s := o23.1) (u := z24) rfl rfl rfl rfl ?_
                refine gl_nil ?_
                refine gx_seq ?_
                refine g_cond (b := !(o23.1 == z24)) rfl (fun hc => ?_) (fun hc => ?_)
                · replace h := condT hc h
                  refine g_exit ?_
                  refine gx_seq_exit ?_
                  refine gx_blk_miss rfl ?_
                  obtain rfl := Option.some.inj h
                  exact gx_of (fun a w hE hS => lp_out nofun (⟨rfl, a_s5_r0, c_s5_r0, hE.sub ⟨rfl, rfl, trivial⟩, ((hS.pick 2 rfl).take 1).facts _ _ [] (consItem (mem_at 0 rfl) (consItem (mem_at 1 rfl) (consItem (mem_at 2 rfl) (consItem (mem_at 3 rfl) noItem)))) noItem noItem⟩))
                · replace h := condF hc h
                  refine g_skip ?_
                  refine gx_seq ?_
                  refine g_seq ?_
                  refine g_region ?_
                  refine gl_batch 2 [(80, .int .i64 o14.1), (79, .slice a_s5_r1 (List.length s5.2.1) c_s5_r1)] rfl ?_
                  obtain ⟨x25, hx25, h⟩ := bindS h
                  refine gl_idxVn (k := .i64) (mem_at 3 rfl) rfl rfl Fs82 Fz2 hx25 rfl rfl ?_
                  intro p26 hp26
                  refine gl_ld1 0 hasAT (mem_at 4 rfl) rfl rfl Fo2 rfl rfl rfl ?_
                  refine gl_batch 1 [(83, .int .i64 (IntKind.i64.wrap (x25 + 1)))] rfl ?_
                  obtain ⟨x27, hx27, h⟩ := bindS h
                  refine gl_idxVn (k := .i64) (mem_at 3 rfl) rfl rfl Fs82 Fz2 hx27 rfl rfl ?_
                  intro p28 hp28
                  refine gl_pick 3 rfl ?_
                  obtain ⟨u29, hu29, h⟩ := letS h
                  refine gl_stEn 0 [.int .i64 (IntKind.i64.wrap (x25 + 1))] (IntKind.i64.wrap (x25 + 1)) hp28 hx27 rfl rfl rfl rfl Fz2 rfl rfl rfl rfl ?_
                  rw [hu29]
                  refine gl_relen (fun hlu29 => ?_)
                  refine gl_push 5 (.slice a_s5_r1 (List.length u29) c_s5_r1) (by rw [← hlu29]; rfl) ?_
                  refine gl_nil ?_
                  refine gx_seq ?_
                  refine g_seq ?_
                  refine g_region ?_
                  refine gl_batch 2 [(86, .int .i64 o14.1), (85, .slice a_s5_r1 (List.length u29) c_s5_r1)] rfl ?_
                  obtain ⟨x30, hx30, h⟩ := bindS h
                  refine gl_idxVn (k := .i64) (mem_at 0 rfl) rfl rfl Fs82 Fz2 hx30 rfl rfl ?_
                  intro p31 hp31
                  refine gl_ld1 0 hasAT (mem_at 4 rfl) rfl rfl Fo2 rfl rfl rfl ?_
                  refine gl_run (v := .pointer (some ⟨b18, 1, none⟩)) rfl rfl rfl (fun w => by kernel_rfl) ?_
                  refine gl_pick 1 rfl ?_
                  refine gl_stB (cells' := [.int .i64 o14.1, .int .i64 x30, .int .i64 o17.1]) 1 [.int .i64 x30] rfl rfl rfl Fz2 rfl rfl rfl rfl ?_
                  refine gl_nil ?_
                  refine gx_seq ?_
                  refine g_seq ?_
                  refine g_region ?_
                  refine gl_batch 1 [(90, .slice a_s5_r0 (List.length s5.1) c_s5_r0)] rfl ?_
                  refine gl_ldA (vs := [.int .i64 o14.1, .int .i64 x30, .int .i64 o17.1]) 0 hasBK (mem_at 0 rfl) rfl rfl Fm47 Fz47 rfl rfl rfl ?_
                  refine gl_lit (m := 3) (d := 92) (T := 47) (enc := FiringE) (hn := fun _ => rfl) false [(⟨o14.1, x30, o17.1⟩ : Firing)] rfl rfl (fun _ => rfl) nofun (Nat.le_of_ble_eq_true rfl) (fun w => by kernel_rfl) ?_
                  intro a_v32 c_v33
                  refine gl_pick 4 rfl ?_
                  obtain ⟨z34, hz34, h⟩ := bindS h
                  refine gl_appn (mem_at 1 rfl) rfl rfl Fs26 Fi47 rfl rfl (fun _ => rfl) hz34 rfl rfl ?_
                  intro a_v35 c_v36
                  refine gl_batch 1 [(4, .slice a_v35 (List.length z34) c_v36)] rfl ?_
                  refine gl_nil ?_
                  refine gx_seq ?_
                  refine g_region ?_
                  refine gl_batch 3 [(96, str o23.1), (95, .int .i64 s5.2.2.2), (94, .int .i64 o23.2)] rfl ?_
                  refine gl_slen (s := o23.1) rfl Ft9 rfl rfl ?_
                  obtain ⟨long37, hlong37, h⟩ := letS h
                  refine gl_batch 3 [(7, .int .i64 long37), (6, .int .i64 o23.2), (98, .int .i64 (IntKind.i64.wrap (s5.2.2.2 + (List.length o23.1 : Int))))] (by subst hlong37; rfl) ?_
                  refine gl_nil ?_
                  refine gx_blk ?_
                  obtain rfl := Option.some.inj h
                  exact gx_of (fun a w hE hS => lp_in ⟨a_v35, c_v36, a_s5_r1, c_s5_r1, hE.sub ⟨rfl, rfl, rfl, rfl, rfl, trivial⟩, (((hS.pick 3 rfl).pick 1 rfl).take 2).facts _ _ [] (consItem (mem_at 0 rfl) (consItem (mem_at 1 rfl) (consItem (mem_at 2 rfl) (consItem (mem_at 3 rfl) noItem)))) noItem noItem⟩)
    · replace h := condF hc h
      refine g_exit ?_
      refine gx_seq_exit ?_
      obtain rfl := Option.some.inj h
      exact gx_of (fun a w hE hS => lp_out nofun (⟨rfl, a_s5_r0, c_s5_r0, hE.sub ⟨rfl, rfl, trivial⟩, (hS.take 1).facts _ _ [] (consItem (mem_at 0 rfl) (consItem (mem_at 1 rfl) (consItem (mem_at 2 rfl) (consItem (mem_at 3 rfl) noItem)))) noItem noItem⟩))
  · intro e a w hm
    obtain ⟨rfl, a_o4_r0, c_o4_r0, hE, hS⟩ := hm
    refine gx_to hE hS ?_
    refine gx_blk_hit ?_
    refine gx_seq ?_
    refine g_seq ?_
    refine g_region ?_
    refine gl_batch 4 [(3, .int .i64 o4.2), (2, .slice a_o4_r0 (List.length o4.1) c_o4_r0), (100, .int .i64 o4.2), (99, .slice a_o4_r0 (List.length o4.1) c_o4_r0)] rfl ?_
    refine gl_nil ?_
    refine gx_seq ?_
    refine g_ret ?_
    obtain rfl := Option.some.inj h
    exact gx_fin rfl [.slice a_o4_r0 (List.length o4.1) c_o4_r0, .int .i64 o4.2] _ _ [] ⟨_, _, rfl, rfl, _, _, rfl, rfl, rfl⟩ rfl ⟨a_o4_r0, c_o4_r0, rfl, rfl, rfl⟩ (fun w hS => (hS.take 1).facts [] [] [] noItem noItem noItem) (Or.inl rfl)

theorem c_spec_AppendFiring (s : List UInt8) (f : Firing)  {r : List UInt8 × Int} (h : spec_AppendFiring s f = some r) : CallOK Tryd.prog 26 [str s, .agg #[.int .i64 f.Event, .int .i64 f.Number, .int .i64 f.Time]] [] [gTab 3 pow10C, gNum 0, gErr 1, gErr 2] [] (fun v outs ros => v = .tuple #[str r.1, .int .i64 r.2] ∧ outs = [] ∧ ros = []) := by
  refine fn_ok Tryd.func26 rfl Tryd.ntmps26 rfl (fun c hF0 => ?_)
  unfold spec_AppendFiring at h
  refine g_seq ?_
  refine g_region ?_
  refine gl_new (d := 3) (T := 47) [.int .i64 f.Event, .int .i64 f.Number, .int .i64 f.Time] rfl rfl (fun _ => rfl) (fun w => by kernel_rfl) ?_
  intro b1
  refine gl_batch 2 [(5, .int .i64 0), (4, str [])] rfl ?_
  refine gl_nil ?_
  refine gx_seq ?_
  refine g_seq ?_
  refine g_region ?_
  refine gl_batch 1 [(11, str s)] rfl ?_
  obtain ⟨o2, ho2, h⟩ := bindS h
  refine gl_call rfl rfl (fun w => by kernel_rfl) (c_spec_l28Recover s ho2) (consItem (mem_at 0 rfl) (consItem (mem_at 1 rfl) (consItem (mem_at 2 rfl) (consItem (mem_at 3 rfl) noItem)))) noItem ?_
  rintro v outs ros ⟨a_v3, c_v4, rfl, rfl, rfl⟩
  refine ⟨_, rfl, ?_⟩
  refine gl_batch 5 [(7, .int .i64 o2.2), (6, .slice a_v3 (List.length o2.1) c_v4), (14, .int .i64 o2.2), (13, .slice a_v3 (List.length o2.1) c_v4), (10, .tuple #[.slice a_v3 (List.length o2.1) c_v4, .int .i64 o2.2])] rfl ?_
  refine gl_nil ?_
  refine gx_seq ?_
  refine g_seq ?_
  refine g_block ?_
  refine g_seq ?_
  refine g_region ?_
  refine gl_batch 2 [(17, str s), (16, .int .i64 o2.2)] rfl ?_
  refine gl_slen (s := s) rfl Ft9 rfl rfl ?_
  refine gl_batch 2 [(15, .bool (o2.2 != (List.length s : Int))), (19, .bool (o2.2 != (List.length s : Int)))] rfl ?_
  refine gl_nil ?_
  refine gx_seq ?_
  refine g_cond (b := o2.2 != (List.length s : Int)) rfl (fun hc => ?_) (fun hc => ?_)
  · replace h := condT hc h
    refine g_seq ?_
    refine g_region ?_
    refine gl_batch 2 [(5, .int .i64 6), (4, str [])] rfl ?_
    refine gl_nil ?_
    refine gx_seq ?_
    refine g_ret ?_
    refine gx_blk_ret ?_
    refine gx_seq_ret ?_
    obtain rfl := Option.some.inj h
    exact gx_fin rfl [str [], .int .i64 6] _ _ [] ⟨_, _, rfl, rfl, _, _, rfl, rfl, rfl⟩ rfl ⟨rfl, rfl, rfl⟩ (fun w hS => (hS.take 0).facts [] [] [] noItem noItem noItem) (Or.inl rfl)
  · replace h := condF hc h
    refine g_seq ?_
    refine g_region ?_
    refine gl_ldA (vs := [.int .i64 f.Event, .int .i64 f.Number, .int .i64 f.Time]) 0 hasBK (mem_at 1 rfl) rfl rfl Fm47 Fz47 rfl rfl rfl ?_
    refine gl_call rfl rfl (fun w => by kernel_rfl) (c_spec_l28Writable f rfl) (consItem (mem_at 0 rfl) (consItem (mem_at 1 rfl) (consItem (mem_at 2 rfl) (consItem (mem_at 3 rfl) noItem)))) noItem ?_
    rintro v outs ros ⟨rfl, rfl, rfl⟩
    refine ⟨_, rfl, ?_⟩
    refine gl_batch 2 [(20, .bool (!(spec_l28Writable f))), (23, .bool (!(spec_l28Writable f)))] rfl ?_
    refine gl_nil ?_
    refine gx_seq ?_
    refine g_cond (b := !(spec_l28Writable f)) rfl (fun hc => ?_) (fun hc => ?_)
    · replace h := condT hc h
      refine g_seq ?_
      refine g_region ?_
      refine gl_batch 2 [(5, .int .i64 2), (4, str [])] rfl ?_
      refine gl_nil ?_
      refine gx_seq ?_
      refine g_ret ?_
      refine gx_blk_ret ?_
      refine gx_seq_ret ?_
      obtain rfl := Option.some.inj h
      exact gx_fin rfl [str [], .int .i64 2] _ _ [] ⟨_, _, rfl, rfl, _, _, rfl, rfl, rfl⟩ rfl ⟨rfl, rfl, rfl⟩ (fun w hS => (hS.take 0).facts [] [] [] noItem noItem noItem) (Or.inl rfl)
    · replace h := condF hc h
      refine g_seq ?_
      refine g_region ?_
      refine gl_batch 1 [(25, .slice a_v3 (List.length o2.1) c_v4)] rfl ?_
      refine gl_len rfl Fs26 rfl rfl ?_
      refine gl_batch 2 [(24, .bool ((List.length o2.1 : Int) == 500)), (27, .bool ((List.length o2.1 : Int) == 500))] rfl ?_
      refine gl_nil ?_
      refine gx_seq ?_
      refine g_cond (b := (List.length o2.1 : Int) == 500) rfl (fun hc => ?_) (fun hc => ?_)
      · replace h := condT hc h
        refine g_seq ?_
        refine g_region ?_
        refine gl_batch 2 [(5, .int .i64 3), (4, str [])] rfl ?_
        refine gl_nil ?_
        refine gx_seq ?_
        refine g_ret ?_
        refine gx_blk_ret ?_
        refine gx_seq_ret ?_
        obtain rfl := Option.some.inj h
        exact gx_fin rfl [str [], .int .i64 3] _ _ [] ⟨_, _, rfl, rfl, _, _, rfl, rfl, rfl⟩ rfl ⟨rfl, rfl, rfl⟩ (fun w hS => (hS.take 0).facts [] [] [] noItem noItem noItem) (Or.inl rfl)
      · replace h := condF hc h
        refine g_skip ?_
        refine gx_blk ?_
        refine gx_seq ?_
        refine g_seq ?_
        refine g_region ?_
        refine gl_batch 1 [(29, .slice a_v3 (List.length o2.1) c_v4)] rfl ?_
        obtain ⟨o5, ho5, h⟩ := bindS h
        refine gl_call rfl rfl (fun w => by kernel_rfl) (c_spec_ChainAfter o2.1 a_v3 c_v4 ho5) (consItem (mem_at 0 rfl) (consItem (mem_at 1 rfl) (consItem (mem_at 2 rfl) (consItem (mem_at 3 rfl) noItem)))) (consItem (mem_at 0 rfl) noItem) ?_
        rintro v outs ros ⟨rfl, rfl, rfl⟩
        refine ⟨_, rfl, ?_⟩
        refine gl_batch 5 [(9, .int .i64 o5.2), (8, .int .i64 o5.1), (32, .int .i64 o5.2), (31, .int .i64 o5.1), (28, .tuple #[.int .i64 o5.1, .int .i64 o5.2])] rfl ?_
        refine gl_nil ?_
        refine gx_seq ?_
        refine g_seq ?_
        obtain ⟨o6, ho6, h⟩ := bindS h
        refine g_state (E' := [(0, str s), (3, .pointer (some ⟨b1, 0, none⟩)), (8, .int .i64 o5.1)]) (Rs' := [] ++ [SL false 47 FiringS a_v3 c_v4 o2.1, BK 47 b1 [.int .i64 f.Event, .int .i64 f.Number, .int .i64 f.Time]]) (Xs' := [gTab 3 pow10C, gNum 0, gErr 1, gErr 2]) (Os' := []) (Vs' := []) ⟨rfl, rfl, rfl, trivial⟩ (fun w hS => hS) ?_
        refine g_draw (Rs := [SL false 47 FiringS a_v3 c_v4 o2.1, BK 47 b1 [.int .i64 f.Event, .int .i64 f.Number, .int .i64 f.Time]]) 6 (dOf [[], [], [], [], [2, 3], [1, 2, 3, 4]]) (spOf [det 0 (str s), det 1 (.agg #[.int .i64 f.Event, .int .i64 f.Number, .int .i64 f.Time]), det 2 (.int .i64 o5.1), det 3 (.agg #[.int .i64 f.Event, .int .i64 f.Number, .int .i64 f.Time]), det 4 (.int .i64 (spec_l28Next o5.1 f)), det 5 (str o6)]) [] (fun _ _ => []) (eOf [[(0, str s)], [(3, .pointer (some ⟨b1, 0, none⟩))], [(8, .int .i64 o5.1)], [(3, .pointer (some ⟨b1, 0, none⟩))], [], []]) mixed rfl (Or.inl rfl) ⟨⟨⟨⟨⟨⟨trivial, ⟨rfl, trivial⟩⟩, ⟨rfl, trivial⟩⟩, ⟨rfl, trivial⟩⟩, ⟨rfl, trivial⟩⟩, trivial⟩, trivial⟩ rfl ⟨⟨⟨⟨⟨⟨trivial, ?_⟩, ?_⟩, ?_⟩, ?_⟩, ?_⟩, ?_⟩ ?_
        · intro vals E' R' O' hD
          refine gl_batch 1 [(33, str s)] rfl ?_
          refine gl_nil ?_
          exact gx_fp (str s) rfl rfl rfl rfl (fun _ h => h.sub (fun _ h => h) (st_oo (A := [])) (fun o ho => by cases ho))
        · intro vals E' R' O' hD
          refine gl_ldA (vs := [.int .i64 f.Event, .int .i64 f.Number, .int .i64 f.Time]) 0 hasBK (memV (mem_at 1 rfl)) rfl rfl Fm47 Fz47 rfl rfl rfl ?_
          refine gl_nil ?_
          exact gx_fp (.agg #[.int .i64 f.Event, .int .i64 f.Number, .int .i64 f.Time]) rfl rfl rfl rfl (fun _ h => h.sub (fun _ h => h) (st_oo (A := [])) (fun o ho => by cases ho))
        · intro vals E' R' O' hD
          refine gl_batch 1 [(35, .int .i64 o5.1)] rfl ?_
          refine gl_nil ?_
          exact gx_fp (.int .i64 o5.1) rfl rfl rfl rfl (fun _ h => h.sub (fun _ h => h) (st_oo (A := [])) (fun o ho => by cases ho))
        · intro vals E' R' O' hD
          refine gl_ldA (vs := [.int .i64 f.Event, .int .i64 f.Number, .int .i64 f.Time]) 0 hasBK (memV (mem_at 1 rfl)) rfl rfl Fm47 Fz47 rfl rfl rfl ?_
          refine gl_nil ?_
          exact gx_fp (.agg #[.int .i64 f.Event, .int .i64 f.Number, .int .i64 f.Time]) rfl rfl rfl rfl (fun _ h => h.sub (fun _ h => h) (st_oo (A := [])) (fun o ho => by cases ho))
        · intro vals E' R' O' hD
          have h2 : vals 2 = .int .i64 o5.1 := hD 2 (memN 0 rfl)
          have h3 : vals 3 = .agg #[.int .i64 f.Event, .int .i64 f.Number, .int .i64 f.Time] := hD 3 (memN 1 rfl)
          refine gl_convV (E2 := (35, .int .i64 o5.1) :: (36, .agg #[.int .i64 f.Event, .int .i64 f.Number, .int .i64 f.Time]) :: ([] ++ E')) (V2 := [] ++ ([SL false 47 FiringS a_v3 c_v4 o2.1, BK 47 b1 [.int .i64 f.Event, .int .i64 f.Number, .int .i64 f.Time]] ++ [])) (by show (35, vals 2) :: (36, vals 3) :: ([] ++ E') = _; rw [h2, h3]) (by show [] ++ ([SL false 47 FiringS a_v3 c_v4 o2.1, BK 47 b1 [.int .i64 f.Event, .int .i64 f.Number, .int .i64 f.Time]] ++ []) = _; rfl) ?_
          refine gl_call rfl rfl (fun w => by kernel_rfl) (c_spec_l28Next o5.1 f rfl) (consItem (mem_at 0 rfl) (consItem (mem_at 1 rfl) (consItem (mem_at 2 rfl) (consItem (mem_at 3 rfl) noItem)))) noItem ?_
          rintro v outs ros ⟨rfl, rfl, rfl⟩
          refine ⟨_, rfl, ?_⟩
          refine gl_nil ?_
          exact gx_fp (.int .i64 (spec_l28Next o5.1 f)) rfl rfl rfl rfl (fun _ h => h.sub (fun _ h => h) (st_oo (A := [])) (fun o ho => by cases ho))
        · intro vals E' R' O' hD
          have h1 : vals 1 = .agg #[.int .i64 f.Event, .int .i64 f.Number, .int .i64 f.Time] := hD 1 (memN 0 rfl)
          have h2 : vals 2 = .int .i64 o5.1 := hD 2 (memN 1 rfl)
          have h3 : vals 3 = .agg #[.int .i64 f.Event, .int .i64 f.Number, .int .i64 f.Time] := hD 3 (memN 2 rfl)
          have h4 : vals 4 = .int .i64 (spec_l28Next o5.1 f) := hD 4 (memN 3 rfl)
          refine gl_convV (E2 := (34, .agg #[.int .i64 f.Event, .int .i64 f.Number, .int .i64 f.Time]) :: (35, .int .i64 o5.1) :: (36, .agg #[.int .i64 f.Event, .int .i64 f.Number, .int .i64 f.Time]) :: (37, .int .i64 (spec_l28Next o5.1 f)) :: ([] ++ E')) (V2 := [] ++ ([SL false 47 FiringS a_v3 c_v4 o2.1, BK 47 b1 [.int .i64 f.Event, .int .i64 f.Number, .int .i64 f.Time]] ++ [])) (by show (34, vals 1) :: (35, vals 2) :: (36, vals 3) :: (37, vals 4) :: ([] ++ E') = _; rw [h1, h2, h3, h4]) (by show [] ++ ([SL false 47 FiringS a_v3 c_v4 o2.1, BK 47 b1 [.int .i64 f.Event, .int .i64 f.Number, .int .i64 f.Time]] ++ []) = _; rfl) ?_
          refine gl_call rfl rfl (fun w => by kernel_rfl) (c_spec_l28Line f (spec_l28Next o5.1 f) ho6) (consItem (mem_at 0 rfl) (consItem (mem_at 1 rfl) (consItem (mem_at 2 rfl) (consItem (mem_at 3 rfl) noItem)))) noItem ?_
          rintro v outs ros ⟨rfl, rfl, rfl⟩
          refine ⟨_, rfl, ?_⟩
          refine gl_nil ?_
          exact gx_fp (str o6) rfl rfl rfl rfl (fun _ h => h.sub (fun _ h => h) (st_oo (A := [])) (fun o ho => by cases ho))
        · intro vals hv
          obtain ⟨⟨⟨⟨⟨⟨_, h0⟩, h1⟩, h2⟩, h3⟩, h4⟩, h5⟩ := hv
          have h0 : vals 0 = str s := h0
          have h1 : vals 1 = .agg #[.int .i64 f.Event, .int .i64 f.Number, .int .i64 f.Time] := h1
          have h2 : vals 2 = .int .i64 o5.1 := h2
          have h3 : vals 3 = .agg #[.int .i64 f.Event, .int .i64 f.Number, .int .i64 f.Time] := h3
          have h4 : vals 4 = .int .i64 (spec_l28Next o5.1 f) := h4
          have h5 : vals 5 = str o6 := h5
          refine gl_conv (E2 := (33, str s) :: (34, .agg #[.int .i64 f.Event, .int .i64 f.Number, .int .i64 f.Time]) :: (35, .int .i64 o5.1) :: (36, .agg #[.int .i64 f.Event, .int .i64 f.Number, .int .i64 f.Time]) :: (37, .int .i64 (spec_l28Next o5.1 f)) :: (38, str o6) :: [(0, str s), (3, .pointer (some ⟨b1, 0, none⟩)), (8, .int .i64 o5.1)]) (R2 := [] ++ ([] ++ [SL false 47 FiringS a_v3 c_v4 o2.1, BK 47 b1 [.int .i64 f.Event, .int .i64 f.Number, .int .i64 f.Time]])) (O2 := [] ++ []) (by show (33, vals 0) :: (34, vals 1) :: (35, vals 2) :: (36, vals 3) :: (37, vals 4) :: (38, vals 5) :: [(0, str s), (3, .pointer (some ⟨b1, 0, none⟩)), (8, .int .i64 o5.1)] = _; rw [h0, h1, h2, h3, h4, h5]) (by show [] ++ ([] ++ [SL false 47 FiringS a_v3 c_v4 o2.1, BK 47 b1 [.int .i64 f.Event, .int .i64 f.Number, .int .i64 f.Time]]) = _; rfl) rfl ?_
          obtain ⟨z7, hz7, h⟩ := bindS h
          refine gl_scat rfl rfl hz7 rfl rfl ?_
          obtain ⟨z8, hz8, h⟩ := bindS h
          refine gl_scat rfl rfl hz8 rfl rfl ?_
          refine gl_batch 2 [(5, .int .i64 0), (4, str z8)] rfl ?_
          refine gl_nil ?_
          refine gx_seq ?_
          refine g_ret ?_
          obtain rfl := Option.some.inj h
          exact gx_fin rfl [str z8, .int .i64 0] _ _ [] ⟨_, _, rfl, rfl, _, _, rfl, rfl, rfl⟩ rfl ⟨rfl, rfl, rfl⟩ (fun w hS => (hS.take 0).facts [] [] [] noItem noItem noItem) (Or.inl rfl)

theorem c_spec_FirstDifference (s : List UInt8) (t : List UInt8)  {r : Int × Int} (h : spec_FirstDifference s t = some r) : CallOK Tryd.prog 20 [str s, str t] [] [gTab 3 pow10C, gNum 0, gErr 1, gErr 2] [] (fun v outs ros => v = .tuple #[.int .i64 r.1, .int .i64 r.2] ∧ outs = [] ∧ ros = []) := by
  refine fn_ok Tryd.func20 rfl Tryd.ntmps20 rfl (fun c hF0 => ?_)
  unfold spec_FirstDifference at h
  refine g_seq ?_
  refine g_region ?_
  refine gl_batch 2 [(5, .int .i64 0), (4, .int .i64 0)] rfl ?_
  refine gl_nil ?_
  refine gx_seq ?_
  refine g_seq ?_
  refine g_seq ?_
  refine g_region ?_
  refine gl_batch 1 [(11, str s)] rfl ?_
  refine gl_slen (s := s) rfl Ft9 rfl rfl ?_
  refine gl_batch 2 [(14, .bool (decide ((List.length s : Int) > 20000))), (13, .bool (decide ((List.length s : Int) > 20000)))] rfl ?_
  refine gl_join (EE := [(18, .bool ((decide ((List.length s : Int) > 20000)) || (decide ((List.length t : Int) > 20000)))), (0, str s), (1, str t)]) (RR := []) (XX := [gTab 3 pow10C, gNum 0, gErr 1, gErr 2]) (OO := []) (VV := []) 4 ?_ ?_
  · skip
    refine gl_case 14 rfl (fun hc => ?_) (fun hc => ?_)
    · skip
      refine gl_batch 4 [(18, .bool true), (17, undef), (16, undef), (15, undef)] rfl ?_
      refine gl_nil ?_
      exact gx_mid ⟨congrArg (fun z => some (Value.bool z)) (or_t hc).symm, rfl, rfl, trivial⟩ (fun w hS => hS)
    · skip
      refine gl_batch 1 [(15, str t)] rfl ?_
      refine gl_slen (s := t) rfl Ft9 rfl rfl ?_
      refine gl_batch 2 [(18, .bool (decide ((List.length t : Int) > 20000))), (17, .bool (decide ((List.length t : Int) > 20000)))] rfl ?_
      refine gl_nil ?_
      exact gx_mid ⟨congrArg (fun z => some (Value.bool z)) (or_f hc).symm, rfl, rfl, trivial⟩ (fun w hS => hS)
  · skip
    refine gl_nil ?_
    refine gx_seq ?_
    refine g_cond (b := (decide ((List.length s : Int) > 20000)) || (decide ((List.length t : Int) > 20000))) rfl (fun hc => ?_) (fun hc => ?_)
    · replace h := condT hc h
      refine g_seq ?_
      refine g_region ?_
      refine gl_batch 2 [(5, .int .i64 3), (4, .int .i64 0)] rfl ?_
      refine gl_nil ?_
      refine gx_seq ?_
      refine g_ret ?_
      refine gx_seq_ret ?_
      obtain rfl := Option.some.inj h
      exact gx_fin rfl [.int .i64 0, .int .i64 3] _ _ [] ⟨_, _, rfl, rfl, _, _, rfl, rfl, rfl⟩ rfl ⟨rfl, rfl, rfl⟩ (fun w hS => (hS.take 0).facts [] [] [] noItem noItem noItem) (Or.inl rfl)
    · replace h := condF hc h
      refine g_skip ?_
      refine gx_seq ?_
      refine g_seq ?_
      refine g_region ?_
      refine gl_batch 1 [(20, str s)] rfl ?_
      obtain ⟨o1, ho1, h⟩ := bindS h
      refine gl_call rfl rfl (fun w => by kernel_rfl) (c_spec_l28Recover s ho1) (consItem (mem_at 0 rfl) (consItem (mem_at 1 rfl) (consItem (mem_at 2 rfl) (consItem (mem_at 3 rfl) noItem)))) noItem ?_
      rintro v outs ros ⟨a_v2, c_v3, rfl, rfl, rfl⟩
      refine ⟨_, rfl, ?_⟩
      refine gl_batch 5 [(7, .int .i64 o1.2), (6, .slice a_v2 (List.length o1.1) c_v3), (23, .int .i64 o1.2), (22, .slice a_v2 (List.length o1.1) c_v3), (19, .tuple #[.slice a_v2 (List.length o1.1) c_v3, .int .i64 o1.2])] rfl ?_
      refine gl_nil ?_
      refine gx_seq ?_
      refine g_seq ?_
      refine g_region ?_
      refine gl_batch 1 [(25, str t)] rfl ?_
      obtain ⟨o4, ho4, h⟩ := bindS h
      refine gl_call rfl rfl (fun w => by kernel_rfl) (c_spec_l28Recover t ho4) (consItem (mem_at 0 rfl) (consItem (mem_at 1 rfl) (consItem (mem_at 2 rfl) (consItem (mem_at 3 rfl) noItem)))) noItem ?_
      rintro v outs ros ⟨a_v5, c_v6, rfl, rfl, rfl⟩
      refine ⟨_, rfl, ?_⟩
      refine gl_batch 5 [(9, .int .i64 o4.2), (8, .slice a_v5 (List.length o4.1) c_v6), (28, .int .i64 o4.2), (27, .slice a_v5 (List.length o4.1) c_v6), (24, .tuple #[.slice a_v5 (List.length o4.1) c_v6, .int .i64 o4.2])] rfl ?_
      refine gl_nil ?_
      refine gx_seq ?_
      refine g_seq ?_
      refine g_seq ?_
      refine g_region ?_
      refine gl_batch 1 [(10, .int .i64 0)] rfl ?_
      refine gl_nil ?_
      refine gx_seq ?_
      refine g_block ?_
      obtain ⟨o7, ho7, h⟩ := bindS h
      refine g_loop (spec_FirstDifference_L1 o1 o4) (fun (ss_ : Int) a w => Env a 78 [(6, .slice a_v2 (List.length o1.1) c_v3), (8, .slice a_v5 (List.length o4.1) c_v6), (10, .int .i64 ss_)] ∧ St c w [SL false 47 FiringS a_v2 c_v3 o1.1, SL false 47 FiringS a_v5 c_v6 o4.1] [gTab 3 pow10C, gNum 0, gErr 1, gErr 2] [] []) (Sum.elim (fun (ss_ : Int) e a w => e = .ret ∧ Env a 78 [(4, .int .i64 ss_), (5, .int .i64 0)] ∧ St c w [] [gTab 3 pow10C, gNum 0, gErr 1, gErr 2] [] []) (fun (ss_ : Unit) e a w => e = (.exit 0) ∧ Env a 78 [] ∧ St c w [] [gTab 3 pow10C, gNum 0, gErr 1, gErr 2] [] []) : (Sum Int Unit) → Exit → Act → World → Prop) ho7 ?_ ?_ ?_
      · exact fun a w hE hS => ⟨hE.sub ⟨rfl, rfl, rfl, trivial⟩, (((hS.pick 0 rfl).pick 1 rfl).take 2).facts _ _ [] (consItem (mem_at 0 rfl) (consItem (mem_at 1 rfl) (consItem (mem_at 2 rfl) (consItem (mem_at 3 rfl) noItem)))) noItem noItem⟩
      · intro s8 o9 h a w hA
        obtain ⟨hE, hS⟩ := hA
        unfold spec_FirstDifference_L1 at h
        refine g_enter hE hS ?_
        refine g_seq ?_
        refine g_seq ?_
        refine g_region ?_
        refine gl_batch 2 [(30, .slice a_v2 (List.length o1.1) c_v3), (29, .int .i64 s8)] rfl ?_
        refine gl_len rfl Fs26 rfl rfl ?_
        refine gl_batch 2 [(33, .bool (decide (s8 < (List.length o1.1 : Int)))), (32, .bool (decide (s8 < (List.length o1.1 : Int))))] rfl ?_
        refine gl_join (EE := [(38, .bool ((decide (s8 < (List.length o1.1 : Int))) || (decide (s8 < (List.length o4.1 : Int))))), (6, .slice a_v2 (List.length o1.1) c_v3), (8, .slice a_v5 (List.length o4.1) c_v6), (10, .int .i64 s8)]) (RR := [SL false 47 FiringS a_v2 c_v3 o1.1, SL false 47 FiringS a_v5 c_v6 o4.1]) (XX := [gTab 3 pow10C, gNum 0, gErr 1, gErr 2]) (OO := []) (VV := []) 5 ?_ ?_
        · skip
          refine gl_case 33 rfl (fun hc => ?_) (fun hc => ?_)
          · skip
            refine gl_batch 5 [(38, .bool true), (37, undef), (36, undef), (35, undef), (34, undef)] rfl ?_
            refine gl_nil ?_
            exact gx_mid ⟨congrArg (fun z => some (Value.bool z)) (or_t hc).symm, rfl, rfl, rfl, trivial⟩ (fun w hS => hS)
          · skip
            refine gl_batch 2 [(35, .slice a_v5 (List.length o4.1) c_v6), (34, .int .i64 s8)] rfl ?_
            refine gl_len rfl Fs26 rfl rfl ?_
            refine gl_batch 2 [(38, .bool (decide (s8 < (List.length o4.1 : Int)))), (37, .bool (decide (s8 < (List.length o4.1 : Int))))] rfl ?_
            refine gl_nil ?_
            exact gx_mid ⟨congrArg (fun z => some (Value.bool z)) (or_f hc).symm, rfl, rfl, rfl, trivial⟩ (fun w hS => hS)
        · skip
          refine gl_nil ?_
          refine gx_seq ?_
          refine g_cond (b := (decide (s8 < (List.length o1.1 : Int))) || (decide (s8 < (List.length o4.1 : Int)))) rfl (fun hc => ?_) (fun hc => ?_)
          · replace h := condT hc h
            refine g_skip ?_
            refine gx_seq ?_
            refine g_seq ?_
            refine g_block ?_
            obtain ⟨o10, ho10, h⟩ := bindS h
            refine g_mid (M := ((fun ss_ e a w => e = .normal ∧ Env a 78 [(6, .slice a_v2 (List.length o1.1) c_v3), (8, .slice a_v5 (List.length o4.1) c_v6), (10, .int .i64 s8), (76, .bool ss_)] ∧ St c w [SL false 47 FiringS a_v2 c_v3 o1.1, SL false 47 FiringS a_v5 c_v6 o4.1] [gTab 3 pow10C, gNum 0, gErr 1, gErr 2] [] []) : (Bool) → Exit → Act → World → Prop) o10) ?_ ?_
            · replace h := ho10
              refine g_case (decide (s8 ≥ (List.length o1.1 : Int))) (fun hg11 => ?_) (fun hg11 => ?_)
              · replace h := condT hg11 h
                refine g_state (E' := [(6, .slice a_v2 (List.length o1.1) c_v3), (8, .slice a_v5 (List.length o4.1) c_v6), (10, .int .i64 s8)]) (Rs' := [] ++ [SL false 47 FiringS a_v2 c_v3 o1.1, SL false 47 FiringS a_v5 c_v6 o4.1]) (Xs' := [gTab 3 pow10C, gNum 0, gErr 1, gErr 2]) (Os' := []) (Vs' := []) ⟨rfl, rfl, rfl, trivial⟩ (fun w hS => hS) ?_
                refine g_draw (Rs := [SL false 47 FiringS a_v2 c_v3 o1.1, SL false 47 FiringS a_v5 c_v6 o4.1]) 36 (dOf [[], [], [1], [0, 2], [3], [4], [4], [4], [4], [4, 8], [9], [10], [10], [10], [10], [10], [10], [10], [10], [10], [10], [10], [10, 21], [22], [23], [23], [23], [23], [23], [23], [23], [23], [23], [23], [23], [23, 34]]) (spOf [det 0 (.int .i64 s8), det 1 (.slice a_v2 (List.length o1.1) c_v3), det 2 (.int .i64 (List.length o1.1 : Int)), det 3 (.bool (decide (s8 ≥ (List.length o1.1 : Int)))), det 4 (.bool true), det 5 (undef), det 6 (undef), det 7 (undef), det 8 (undef), det 9 (.bool true), det 10 (.bool true), det 11 (undef), det 12 (undef), det 13 (undef), det 14 (undef), det 15 (undef), det 16 (undef), det 17 (undef), det 18 (undef), det 19 (undef), det 20 (undef), det 21 (undef), det 22 (.bool true), det 23 (.bool true), det 24 (undef), det 25 (undef), det 26 (undef), det 27 (undef), det 28 (undef), det 29 (undef), det 30 (undef), det 31 (undef), det 32 (undef), det 33 (undef), det 34 (undef), det 35 (.bool true)]) [] (fun _ _ => []) (eOf [[(10, .int .i64 s8)], [(6, .slice a_v2 (List.length o1.1) c_v3)], [], [], [], [], [], [], [], [], [], [], [], [], [], [], [], [], [], [], [], [], [], [], [], [], [], [], [], [], [], [], [], [], [], []]) mixed rfl (Or.inl rfl) ⟨⟨⟨⟨⟨⟨⟨⟨⟨⟨⟨⟨⟨⟨⟨⟨⟨⟨⟨⟨⟨⟨⟨⟨⟨⟨⟨⟨⟨⟨⟨⟨⟨⟨⟨⟨trivial, ⟨rfl, trivial⟩⟩, ⟨rfl, trivial⟩⟩, trivial⟩, trivial⟩, trivial⟩, trivial⟩, trivial⟩, trivial⟩, trivial⟩, trivial⟩, trivial⟩, trivial⟩, trivial⟩, trivial⟩, trivial⟩, trivial⟩, trivial⟩, trivial⟩, trivial⟩, trivial⟩, trivial⟩, trivial⟩, trivial⟩, trivial⟩, trivial⟩, trivial⟩, trivial⟩, trivial⟩, trivial⟩, trivial⟩, trivial⟩, trivial⟩, trivial⟩, trivial⟩, trivial⟩, trivial⟩ rfl ⟨⟨⟨⟨⟨⟨⟨⟨⟨⟨⟨⟨⟨⟨⟨⟨⟨⟨⟨⟨⟨⟨⟨⟨⟨⟨⟨⟨⟨⟨⟨⟨⟨⟨⟨⟨trivial, ?_⟩, ?_⟩, ?_⟩, ?_⟩, ?_⟩, ?_⟩, ?_⟩, ?_⟩, ?_⟩, ?_⟩, ?_⟩, ?_⟩, ?_⟩, ?_⟩, ?_⟩, ?_⟩, ?_⟩, ?_⟩, ?_⟩, ?_⟩, ?_⟩, ?_⟩, ?_⟩, ?_⟩, ?_⟩, ?_⟩, ?_⟩, ?_⟩, ?_⟩, ?_⟩, ?_⟩, ?_⟩, ?_⟩, ?_⟩, ?_⟩, ?_⟩ ?_
                · intro vals E' R' O' hD
                  refine gl_batch 1 [(41, .int .i64 s8)] rfl ?_
                  refine gl_nil ?_
                  exact gx_fp (.int .i64 s8) rfl rfl rfl rfl (fun _ h => h.sub (fun _ h => h) (st_oo (A := [])) (fun o ho => by cases ho))
                · intro vals E' R' O' hD
                  refine gl_batch 1 [(42, .slice a_v2 (List.length o1.1) c_v3)] rfl ?_
                  refine gl_nil ?_
                  exact gx_fp (.slice a_v2 (List.length o1.1) c_v3) rfl rfl rfl rfl (fun _ h => h.sub (fun _ h => h) (st_oo (A := [])) (fun o ho => by cases ho))
                · intro vals E' R' O' hD
                  have h1 : vals 1 = .slice a_v2 (List.length o1.1) c_v3 := hD 1 (memN 0 rfl)
                  refine gl_convV (E2 := (42, .slice a_v2 (List.length o1.1) c_v3) :: ([] ++ E')) (V2 := [] ++ ([SL false 47 FiringS a_v2 c_v3 o1.1, SL false 47 FiringS a_v5 c_v6 o4.1] ++ [])) (by show (42, vals 1) :: ([] ++ E') = _; rw [h1]) (by show [] ++ ([SL false 47 FiringS a_v2 c_v3 o1.1, SL false 47 FiringS a_v5 c_v6 o4.1] ++ []) = _; rfl) ?_
                  refine gl_len rfl Fs26 rfl rfl ?_
                  refine gl_nil ?_
                  exact gx_fp (.int .i64 (List.length o1.1 : Int)) rfl rfl rfl rfl (fun _ h => h.sub (fun _ h => h) (st_oo (A := [])) (fun o ho => by cases ho))
                · intro vals E' R' O' hD
                  have h0 : vals 0 = .int .i64 s8 := hD 0 (memN 0 rfl)
                  have h2 : vals 2 = .int .i64 (List.length o1.1 : Int) := hD 2 (memN 1 rfl)
                  refine gl_convV (E2 := (41, .int .i64 s8) :: (43, .int .i64 (List.length o1.1 : Int)) :: ([] ++ E')) (V2 := [] ++ ([SL false 47 FiringS a_v2 c_v3 o1.1, SL false 47 FiringS a_v5 c_v6 o4.1] ++ [])) (by show (41, vals 0) :: (43, vals 2) :: ([] ++ E') = _; rw [h0, h2]) (by show [] ++ ([SL false 47 FiringS a_v2 c_v3 o1.1, SL false 47 FiringS a_v5 c_v6 o4.1] ++ []) = _; rfl) ?_
                  refine gl_batch 1 [(44, .bool (decide (s8 ≥ (List.length o1.1 : Int))))] rfl ?_
                  refine gl_nil ?_
                  exact gx_fp (.bool (decide (s8 ≥ (List.length o1.1 : Int)))) rfl rfl rfl rfl (fun _ h => h.sub (fun _ h => h) (st_oo (A := [])) (fun o ho => by cases ho))
                · intro vals E' R' O' hD
                  have h3 : vals 3 = .bool (decide (s8 ≥ (List.length o1.1 : Int))) := hD 3 (memN 0 rfl)
                  refine gl_convV (E2 := (44, .bool (decide (s8 ≥ (List.length o1.1 : Int)))) :: ([] ++ E')) (V2 := [] ++ ([SL false 47 FiringS a_v2 c_v3 o1.1, SL false 47 FiringS a_v5 c_v6 o4.1] ++ [])) (by show (44, vals 3) :: ([] ++ E') = _; rw [h3]) (by show [] ++ ([SL false 47 FiringS a_v2 c_v3 o1.1, SL false 47 FiringS a_v5 c_v6 o4.1] ++ []) = _; rfl) ?_
                  refine gl_batch 1 [(45, .bool (decide (s8 ≥ (List.length o1.1 : Int))))] rfl ?_
                  refine gl_nil ?_
                  exact gx_fp (.bool true) rfl rfl (congrArg (fun z => some (Value.bool z)) hg11) rfl (fun _ h => h.sub (fun _ h => h) (st_oo (A := [])) (fun o ho => by cases ho))
                · intro vals E' R' O' hD
                  have h4 : vals 4 = .bool true := hD 4 (memN 0 rfl)
                  refine gl_convV (E2 := (45, .bool true) :: ([] ++ E')) (V2 := [] ++ ([SL false 47 FiringS a_v2 c_v3 o1.1, SL false 47 FiringS a_v5 c_v6 o4.1] ++ [])) (by show (45, vals 4) :: ([] ++ E') = _; rw [h4]) (by show [] ++ ([SL false 47 FiringS a_v2 c_v3 o1.1, SL false 47 FiringS a_v5 c_v6 o4.1] ++ []) = _; rfl) ?_
                  refine gl_batch 1 [(46, undef)] rfl ?_
                  refine gl_nil ?_
                  exact gx_fp (undef) rfl rfl rfl rfl (fun _ h => h.sub (fun _ h => h) (st_oo (A := [])) (fun o ho => by cases ho))
                · intro vals E' R' O' hD
                  have h4 : vals 4 = .bool true := hD 4 (memN 0 rfl)
                  refine gl_convV (E2 := (45, .bool true) :: ([] ++ E')) (V2 := [] ++ ([SL false 47 FiringS a_v2 c_v3 o1.1, SL false 47 FiringS a_v5 c_v6 o4.1] ++ [])) (by show (45, vals 4) :: ([] ++ E') = _; rw [h4]) (by show [] ++ ([SL false 47 FiringS a_v2 c_v3 o1.1, SL false 47 FiringS a_v5 c_v6 o4.1] ++ []) = _; rfl) ?_
                  refine gl_batch 1 [(47, undef)] rfl ?_
                  refine gl_nil ?_
                  exact gx_fp (undef) rfl rfl rfl rfl (fun _ h => h.sub (fun _ h => h) (st_oo (A := [])) (fun o ho => by cases ho))
                · intro vals E' R' O' hD
                  have h4 : vals 4 = .bool true := hD 4 (memN 0 rfl)
                  refine gl_convV (E2 := (45, .bool true) :: ([] ++ E')) (V2 := [] ++ ([SL false 47 FiringS a_v2 c_v3 o1.1, SL false 47 FiringS a_v5 c_v6 o4.1] ++ [])) (by show (45, vals 4) :: ([] ++ E') = _; rw [h4]) (by show [] ++ ([SL false 47 FiringS a_v2 c_v3 o1.1, SL false 47 FiringS a_v5 c_v6 o4.1] ++ []) = _; rfl) ?_
                  refine gl_batch 1 [(48, undef)] rfl ?_
                  refine gl_nil ?_
                  exact gx_fp (undef) rfl rfl rfl rfl (fun _ h => h.sub (fun _ h => h) (st_oo (A := [])) (fun o ho => by cases ho))
                · intro vals E' R' O' hD
                  have h4 : vals 4 = .bool true := hD 4 (memN 0 rfl)
                  refine gl_convV (E2 := (45, .bool true) :: ([] ++ E')) (V2 := [] ++ ([SL false 47 FiringS a_v2 c_v3 o1.1, SL false 47 FiringS a_v5 c_v6 o4.1] ++ [])) (by show (45, vals 4) :: ([] ++ E') = _; rw [h4]) (by show [] ++ ([SL false 47 FiringS a_v2 c_v3 o1.1, SL false 47 FiringS a_v5 c_v6 o4.1] ++ []) = _; rfl) ?_
                  refine gl_batch 1 [(49, undef)] rfl ?_
                  refine gl_nil ?_
                  exact gx_fp (undef) rfl rfl rfl rfl (fun _ h => h.sub (fun _ h => h) (st_oo (A := [])) (fun o ho => by cases ho))
                · intro vals E' R' O' hD
                  have h4 : vals 4 = .bool true := hD 4 (memN 0 rfl)
                  have h8 : vals 8 = undef := hD 8 (memN 1 rfl)
                  refine gl_convV (E2 := (45, .bool true) :: (49, undef) :: ([] ++ E')) (V2 := [] ++ ([SL false 47 FiringS a_v2 c_v3 o1.1, SL false 47 FiringS a_v5 c_v6 o4.1] ++ [])) (by show (45, vals 4) :: (49, vals 8) :: ([] ++ E') = _; rw [h4, h8]) (by show [] ++ ([SL false 47 FiringS a_v2 c_v3 o1.1, SL false 47 FiringS a_v5 c_v6 o4.1] ++ []) = _; rfl) ?_
                  refine gl_batch 1 [(50, .bool true)] rfl ?_
                  refine gl_nil ?_
                  exact gx_fp (.bool true) rfl rfl rfl rfl (fun _ h => h.sub (fun _ h => h) (st_oo (A := [])) (fun o ho => by cases ho))
                · intro vals E' R' O' hD
                  have h9 : vals 9 = .bool true := hD 9 (memN 0 rfl)
                  refine gl_convV (E2 := (50, .bool true) :: ([] ++ E')) (V2 := [] ++ ([SL false 47 FiringS a_v2 c_v3 o1.1, SL false 47 FiringS a_v5 c_v6 o4.1] ++ [])) (by show (50, vals 9) :: ([] ++ E') = _; rw [h9]) (by show [] ++ ([SL false 47 FiringS a_v2 c_v3 o1.1, SL false 47 FiringS a_v5 c_v6 o4.1] ++ []) = _; rfl) ?_
                  refine gl_batch 1 [(51, .bool true)] rfl ?_
                  refine gl_nil ?_
                  exact gx_fp (.bool true) rfl rfl rfl rfl (fun _ h => h.sub (fun _ h => h) (st_oo (A := [])) (fun o ho => by cases ho))
                · intro vals E' R' O' hD
                  have h10 : vals 10 = .bool true := hD 10 (memN 0 rfl)
                  refine gl_convV (E2 := (51, .bool true) :: ([] ++ E')) (V2 := [] ++ ([SL false 47 FiringS a_v2 c_v3 o1.1, SL false 47 FiringS a_v5 c_v6 o4.1] ++ [])) (by show (51, vals 10) :: ([] ++ E') = _; rw [h10]) (by show [] ++ ([SL false 47 FiringS a_v2 c_v3 o1.1, SL false 47 FiringS a_v5 c_v6 o4.1] ++ []) = _; rfl) ?_
                  refine gl_batch 1 [(52, undef)] rfl ?_
                  refine gl_nil ?_
                  exact gx_fp (undef) rfl rfl rfl rfl (fun _ h => h.sub (fun _ h => h) (st_oo (A := [])) (fun o ho => by cases ho))
                · intro vals E' R' O' hD
                  have h10 : vals 10 = .bool true := hD 10 (memN 0 rfl)
                  refine gl_convV (E2 := (51, .bool true) :: ([] ++ E')) (V2 := [] ++ ([SL false 47 FiringS a_v2 c_v3 o1.1, SL false 47 FiringS a_v5 c_v6 o4.1] ++ [])) (by show (51, vals 10) :: ([] ++ E') = _; rw [h10]) (by show [] ++ ([SL false 47 FiringS a_v2 c_v3 o1.1, SL false 47 FiringS a_v5 c_v6 o4.1] ++ []) = _; rfl) ?_
                  refine gl_batch 1 [(53, undef)] rfl ?_
                  refine gl_nil ?_
                  exact gx_fp (undef) rfl rfl rfl rfl (fun _ h => h.sub (fun _ h => h) (st_oo (A := [])) (fun o ho => by cases ho))
                · intro vals E' R' O' hD
                  have h10 : vals 10 = .bool true := hD 10 (memN 0 rfl)
                  refine gl_convV (E2 := (51, .bool true) :: ([] ++ E')) (V2 := [] ++ ([SL false 47 FiringS a_v2 c_v3 o1.1, SL false 47 FiringS a_v5 c_v6 o4.1] ++ [])) (by show (51, vals 10) :: ([] ++ E') = _; rw [h10]) (by show [] ++ ([SL false 47 FiringS a_v2 c_v3 o1.1, SL false 47 FiringS a_v5 c_v6 o4.1] ++ []) = _; rfl) ?_
                  refine gl_batch 1 [(54, undef)] rfl ?_
                  refine gl_nil ?_
                  exact gx_fp (undef) rfl rfl rfl rfl (fun _ h => h.sub (fun _ h => h) (st_oo (A := [])) (fun o ho => by cases ho))
                · intro vals E' R' O' hD
                  have h10 : vals 10 = .bool true := hD 10 (memN 0 rfl)
                  refine gl_convV (E2 := (51, .bool true) :: ([] ++ E')) (V2 := [] ++ ([SL false 47 FiringS a_v2 c_v3 o1.1, SL false 47 FiringS a_v5 c_v6 o4.1] ++ [])) (by show (51, vals 10) :: ([] ++ E') = _; rw [h10]) (by show [] ++ ([SL false 47 FiringS a_v2 c_v3 o1.1, SL false 47 FiringS a_v5 c_v6 o4.1] ++ []) = _; rfl) ?_
                  refine gl_batch 1 [(55, undef)] rfl ?_
                  refine gl_nil ?_
                  exact gx_fp (undef) rfl rfl rfl rfl (fun _ h => h.sub (fun _ h => h) (st_oo (A := [])) (fun o ho => by cases ho))
                · intro vals E' R' O' hD
                  have h10 : vals 10 = .bool true := hD 10 (memN 0 rfl)
                  refine gl_convV (E2 := (51, .bool true) :: ([] ++ E')) (V2 := [] ++ ([SL false 47 FiringS a_v2 c_v3 o1.1, SL false 47 FiringS a_v5 c_v6 o4.1] ++ [])) (by show (51, vals 10) :: ([] ++ E') = _; rw [h10]) (by show [] ++ ([SL false 47 FiringS a_v2 c_v3 o1.1, SL false 47 FiringS a_v5 c_v6 o4.1] ++ []) = _; rfl) ?_
                  refine gl_batch 1 [(56, undef)] rfl ?_
                  refine gl_nil ?_
                  exact gx_fp (undef) rfl rfl rfl rfl (fun _ h => h.sub (fun _ h => h) (st_oo (A := [])) (fun o ho => by cases ho))
                · intro vals E' R' O' hD
                  have h10 : vals 10 = .bool true := hD 10 (memN 0 rfl)
                  refine gl_convV (E2 := (51, .bool true) :: ([] ++ E')) (V2 := [] ++ ([SL false 47 FiringS a_v2 c_v3 o1.1, SL false 47 FiringS a_v5 c_v6 o4.1] ++ [])) (by show (51, vals 10) :: ([] ++ E') = _; rw [h10]) (by show [] ++ ([SL false 47 FiringS a_v2 c_v3 o1.1, SL false 47 FiringS a_v5 c_v6 o4.1] ++ []) = _; rfl) ?_
                  refine gl_batch 1 [(57, undef)] rfl ?_
                  refine gl_nil ?_
                  exact gx_fp (undef) rfl rfl rfl rfl (fun _ h => h.sub (fun _ h => h) (st_oo (A := [])) (fun o ho => by cases ho))
                · intro vals E' R' O' hD
                  have h10 : vals 10 = .bool true := hD 10 (memN 0 rfl)
                  refine gl_convV (E2 := (51, .bool true) :: ([] ++ E')) (V2 := [] ++ ([SL false 47 FiringS a_v2 c_v3 o1.1, SL false 47 FiringS a_v5 c_v6 o4.1] ++ [])) (by show (51, vals 10) :: ([] ++ E') = _; rw [h10]) (by show [] ++ ([SL false 47 FiringS a_v2 c_v3 o1.1, SL false 47 FiringS a_v5 c_v6 o4.1] ++ []) = _; rfl) ?_
                  refine gl_batch 1 [(58, undef)] rfl ?_
                  refine gl_nil ?_
                  exact gx_fp (undef) rfl rfl rfl rfl (fun _ h => h.sub (fun _ h => h) (st_oo (A := [])) (fun o ho => by cases ho))
                · intro vals E' R' O' hD
                  have h10 : vals 10 = .bool true := hD 10 (memN 0 rfl)
                  refine gl_convV (E2 := (51, .bool true) :: ([] ++ E')) (V2 := [] ++ ([SL false 47 FiringS a_v2 c_v3 o1.1, SL false 47 FiringS a_v5 c_v6 o4.1] ++ [])) (by show (51, vals 10) :: ([] ++ E') = _; rw [h10]) (by show [] ++ ([SL false 47 FiringS a_v2 c_v3 o1.1, SL false 47 FiringS a_v5 c_v6 o4.1] ++ []) = _; rfl) ?_
                  refine gl_batch 1 [(59, undef)] rfl ?_
                  refine gl_nil ?_
                  exact gx_fp (undef) rfl rfl rfl rfl (fun _ h => h.sub (fun _ h => h) (st_oo (A := [])) (fun o ho => by cases ho))
                · intro vals E' R' O' hD
                  have h10 : vals 10 = .bool true := hD 10 (memN 0 rfl)
                  refine gl_convV (E2 := (51, .bool true) :: ([] ++ E')) (V2 := [] ++ ([SL false 47 FiringS a_v2 c_v3 o1.1, SL false 47 FiringS a_v5 c_v6 o4.1] ++ [])) (by show (51, vals 10) :: ([] ++ E') = _; rw [h10]) (by show [] ++ ([SL false 47 FiringS a_v2 c_v3 o1.1, SL false 47 FiringS a_v5 c_v6 o4.1] ++ []) = _; rfl) ?_
                  refine gl_batch 1 [(60, undef)] rfl ?_
                  refine gl_nil ?_
                  exact gx_fp (undef) rfl rfl rfl rfl (fun _ h => h.sub (fun _ h => h) (st_oo (A := [])) (fun o ho => by cases ho))
                · intro vals E' R' O' hD
                  have h10 : vals 10 = .bool true := hD 10 (memN 0 rfl)
                  refine gl_convV (E2 := (51, .bool true) :: ([] ++ E')) (V2 := [] ++ ([SL false 47 FiringS a_v2 c_v3 o1.1, SL false 47 FiringS a_v5 c_v6 o4.1] ++ [])) (by show (51, vals 10) :: ([] ++ E') = _; rw [h10]) (by show [] ++ ([SL false 47 FiringS a_v2 c_v3 o1.1, SL false 47 FiringS a_v5 c_v6 o4.1] ++ []) = _; rfl) ?_
                  refine gl_batch 1 [(61, undef)] rfl ?_
                  refine gl_nil ?_
                  exact gx_fp (undef) rfl rfl rfl rfl (fun _ h => h.sub (fun _ h => h) (st_oo (A := [])) (fun o ho => by cases ho))
                · intro vals E' R' O' hD
                  have h10 : vals 10 = .bool true := hD 10 (memN 0 rfl)
                  refine gl_convV (E2 := (51, .bool true) :: ([] ++ E')) (V2 := [] ++ ([SL false 47 FiringS a_v2 c_v3 o1.1, SL false 47 FiringS a_v5 c_v6 o4.1] ++ [])) (by show (51, vals 10) :: ([] ++ E') = _; rw [h10]) (by show [] ++ ([SL false 47 FiringS a_v2 c_v3 o1.1, SL false 47 FiringS a_v5 c_v6 o4.1] ++ []) = _; rfl) ?_
                  refine gl_batch 1 [(62, undef)] rfl ?_
                  refine gl_nil ?_
                  exact gx_fp (undef) rfl rfl rfl rfl (fun _ h => h.sub (fun _ h => h) (st_oo (A := [])) (fun o ho => by cases ho))
                · intro vals E' R' O' hD
                  have h10 : vals 10 = .bool true := hD 10 (memN 0 rfl)
                  have h21 : vals 21 = undef := hD 21 (memN 1 rfl)
                  refine gl_convV (E2 := (51, .bool true) :: (62, undef) :: ([] ++ E')) (V2 := [] ++ ([SL false 47 FiringS a_v2 c_v3 o1.1, SL false 47 FiringS a_v5 c_v6 o4.1] ++ [])) (by show (51, vals 10) :: (62, vals 21) :: ([] ++ E') = _; rw [h10, h21]) (by show [] ++ ([SL false 47 FiringS a_v2 c_v3 o1.1, SL false 47 FiringS a_v5 c_v6 o4.1] ++ []) = _; rfl) ?_
                  refine gl_batch 1 [(63, .bool true)] rfl ?_
                  refine gl_nil ?_
                  exact gx_fp (.bool true) rfl rfl rfl rfl (fun _ h => h.sub (fun _ h => h) (st_oo (A := [])) (fun o ho => by cases ho))
                · intro vals E' R' O' hD
                  have h22 : vals 22 = .bool true := hD 22 (memN 0 rfl)
                  refine gl_convV (E2 := (63, .bool true) :: ([] ++ E')) (V2 := [] ++ ([SL false 47 FiringS a_v2 c_v3 o1.1, SL false 47 FiringS a_v5 c_v6 o4.1] ++ [])) (by show (63, vals 22) :: ([] ++ E') = _; rw [h22]) (by show [] ++ ([SL false 47 FiringS a_v2 c_v3 o1.1, SL false 47 FiringS a_v5 c_v6 o4.1] ++ []) = _; rfl) ?_
                  refine gl_batch 1 [(64, .bool true)] rfl ?_
                  refine gl_nil ?_
                  exact gx_fp (.bool true) rfl rfl rfl rfl (fun _ h => h.sub (fun _ h => h) (st_oo (A := [])) (fun o ho => by cases ho))
                · intro vals E' R' O' hD
                  have h23 : vals 23 = .bool true := hD 23 (memN 0 rfl)
                  refine gl_convV (E2 := (64, .bool true) :: ([] ++ E')) (V2 := [] ++ ([SL false 47 FiringS a_v2 c_v3 o1.1, SL false 47 FiringS a_v5 c_v6 o4.1] ++ [])) (by show (64, vals 23) :: ([] ++ E') = _; rw [h23]) (by show [] ++ ([SL false 47 FiringS a_v2 c_v3 o1.1, SL false 47 FiringS a_v5 c_v6 o4.1] ++ []) = _; rfl) ?_
                  refine gl_batch 1 [(65, undef)] rfl ?_
                  refine gl_nil ?_
                  exact gx_fp (undef) rfl rfl rfl rfl (fun _ h => h.sub (fun _ h => h) (st_oo (A := [])) (fun o ho => by cases ho))
                · intro vals E' R' O' hD
                  have h23 : vals 23 = .bool true := hD 23 (memN 0 rfl)
                  refine gl_convV (E2 := (64, .bool true) :: ([] ++ E')) (V2 := [] ++ ([SL false 47 FiringS a_v2 c_v3 o1.1, SL false 47 FiringS a_v5 c_v6 o4.1] ++ [])) (by show (64, vals 23) :: ([] ++ E') = _; rw [h23]) (by show [] ++ ([SL false 47 FiringS a_v2 c_v3 o1.1, SL false 47 FiringS a_v5 c_v6 o4.1] ++ []) = _; rfl) ?_
                  refine gl_batch 1 [(66, undef)] rfl ?_
                  refine gl_nil ?_
                  exact gx_fp (undef) rfl rfl rfl rfl (fun _ h => h.sub (fun _ h => h) (st_oo (A := [])) (fun o ho => by cases ho))
                · intro vals E' R' O' hD
                  have h23 : vals 23 = .bool true := hD 23 (memN 0 rfl)
                  refine gl_convV (E2 := (64, .bool true) :: ([] ++ E')) (V2 := [] ++ ([SL false 47 FiringS a_v2 c_v3 o1.1, SL false 47 FiringS a_v5 c_v6 o4.1] ++ [])) (by show (64, vals 23) :: ([] ++ E') = _; rw [h23]) (by show [] ++ ([SL false 47 FiringS a_v2 c_v3 o1.1, SL false 47 FiringS a_v5 c_v6 o4.1] ++ []) = _; rfl) ?_
                  refine gl_batch 1 [(67, undef)] rfl ?_
                  refine gl_nil ?_
                  exact gx_fp (undef) rfl rfl rfl rfl (fun _ h => h.sub (fun _ h => h) (st_oo (A := [])) (fun o ho => by cases ho))
                · intro vals E' R' O' hD
                  have h23 : vals 23 = .bool true := hD 23 (memN 0 rfl)
                  refine gl_convV (E2 := (64, .bool true) :: ([] ++ E')) (V2 := [] ++ ([SL false 47 FiringS a_v2 c_v3 o1.1, SL false 47 FiringS a_v5 c_v6 o4.1] ++ [])) (by show (64, vals 23) :: ([] ++ E') = _; rw [h23]) (by show [] ++ ([SL false 47 FiringS a_v2 c_v3 o1.1, SL false 47 FiringS a_v5 c_v6 o4.1] ++ []) = _; rfl) ?_
                  refine gl_batch 1 [(68, undef)] rfl ?_
                  refine gl_nil ?_
                  exact gx_fp (undef) rfl rfl rfl rfl (fun _ h => h.sub (fun _ h => h) (st_oo (A := [])) (fun o ho => by cases ho))
                · intro vals E' R' O' hD
                  have h23 : vals 23 = .bool true := hD 23 (memN 0 rfl)
                  refine gl_convV (E2 := (64, .bool true) :: ([] ++ E')) (V2 := [] ++ ([SL false 47 FiringS a_v2 c_v3 o1.1, SL false 47 FiringS a_v5 c_v6 o4.1] ++ [])) (by show (64, vals 23) :: ([] ++ E') = _; rw [h23]) (by show [] ++ ([SL false 47 FiringS a_v2 c_v3 o1.1, SL false 47 FiringS a_v5 c_v6 o4.1] ++ []) = _; rfl) ?_
                  refine gl_batch 1 [(69, undef)] rfl ?_
                  refine gl_nil ?_
                  exact gx_fp (undef) rfl rfl rfl rfl (fun _ h => h.sub (fun _ h => h) (st_oo (A := [])) (fun o ho => by cases ho))
                · intro vals E' R' O' hD
                  have h23 : vals 23 = .bool true := hD 23 (memN 0 rfl)
                  refine gl_convV (E2 := (64, .bool true) :: ([] ++ E')) (V2 := [] ++ ([SL false 47 FiringS a_v2 c_v3 o1.1, SL false 47 FiringS a_v5 c_v6 o4.1] ++ [])) (by show (64, vals 23) :: ([] ++ E') = _; rw [h23]) (by show [] ++ ([SL false 47 FiringS a_v2 c_v3 o1.1, SL false 47 FiringS a_v5 c_v6 o4.1] ++ []) = _; rfl) ?_
                  refine gl_batch 1 [(70, undef)] rfl ?_
                  refine gl_nil ?_
                  exact gx_fp (undef) rfl rfl rfl rfl (fun _ h => h.sub (fun _ h => h) (st_oo (A := [])) (fun o ho => by cases ho))
                · intro vals E' R' O' hD
                  have h23 : vals 23 = .bool true := hD 23 (memN 0 rfl)
                  refine gl_convV (E2 := (64, .bool true) :: ([] ++ E')) (V2 := [] ++ ([SL false 47 FiringS a_v2 c_v3 o1.1, SL false 47 FiringS a_v5 c_v6 o4.1] ++ [])) (by show (64, vals 23) :: ([] ++ E') = _; rw [h23]) (by show [] ++ ([SL false 47 FiringS a_v2 c_v3 o1.1, SL false 47 FiringS a_v5 c_v6 o4.1] ++ []) = _; rfl) ?_
                  refine gl_batch 1 [(71, undef)] rfl ?_
                  refine gl_nil ?_
                  exact gx_fp (undef) rfl rfl rfl rfl (fun _ h => h.sub (fun _ h => h) (st_oo (A := [])) (fun o ho => by cases ho))
                · intro vals E' R' O' hD
                  have h23 : vals 23 = .bool true := hD 23 (memN 0 rfl)
                  refine gl_convV (E2 := (64, .bool true) :: ([] ++ E')) (V2 := [] ++ ([SL false 47 FiringS a_v2 c_v3 o1.1, SL false 47 FiringS a_v5 c_v6 o4.1] ++ [])) (by show (64, vals 23) :: ([] ++ E') = _; rw [h23]) (by show [] ++ ([SL false 47 FiringS a_v2 c_v3 o1.1, SL false 47 FiringS a_v5 c_v6 o4.1] ++ []) = _; rfl) ?_
                  refine gl_batch 1 [(72, undef)] rfl ?_
                  refine gl_nil ?_
                  exact gx_fp (undef) rfl rfl rfl rfl (fun _ h => h.sub (fun _ h => h) (st_oo (A := [])) (fun o ho => by cases ho))
                · intro vals E' R' O' hD
                  have h23 : vals 23 = .bool true := hD 23 (memN 0 rfl)
                  refine gl_convV (E2 := (64, .bool true) :: ([] ++ E')) (V2 := [] ++ ([SL false 47 FiringS a_v2 c_v3 o1.1, SL false 47 FiringS a_v5 c_v6 o4.1] ++ [])) (by show (64, vals 23) :: ([] ++ E') = _; rw [h23]) (by show [] ++ ([SL false 47 FiringS a_v2 c_v3 o1.1, SL false 47 FiringS a_v5 c_v6 o4.1] ++ []) = _; rfl) ?_
                  refine gl_batch 1 [(73, undef)] rfl ?_
                  refine gl_nil ?_
                  exact gx_fp (undef) rfl rfl rfl rfl (fun _ h => h.sub (fun _ h => h) (st_oo (A := [])) (fun o ho => by cases ho))
                · intro vals E' R' O' hD
                  have h23 : vals 23 = .bool true := hD 23 (memN 0 rfl)
                  refine gl_convV (E2 := (64, .bool true) :: ([] ++ E')) (V2 := [] ++ ([SL false 47 FiringS a_v2 c_v3 o1.1, SL false 47 FiringS a_v5 c_v6 o4.1] ++ [])) (by show (64, vals 23) :: ([] ++ E') = _; rw [h23]) (by show [] ++ ([SL false 47 FiringS a_v2 c_v3 o1.1, SL false 47 FiringS a_v5 c_v6 o4.1] ++ []) = _; rfl) ?_
                  refine gl_batch 1 [(74, undef)] rfl ?_
                  refine gl_nil ?_
                  exact gx_fp (undef) rfl rfl rfl rfl (fun _ h => h.sub (fun _ h => h) (st_oo (A := [])) (fun o ho => by cases ho))
                · intro vals E' R' O' hD
                  have h23 : vals 23 = .bool true := hD 23 (memN 0 rfl)
                  refine gl_convV (E2 := (64, .bool true) :: ([] ++ E')) (V2 := [] ++ ([SL false 47 FiringS a_v2 c_v3 o1.1, SL false 47 FiringS a_v5 c_v6 o4.1] ++ [])) (by show (64, vals 23) :: ([] ++ E') = _; rw [h23]) (by show [] ++ ([SL false 47 FiringS a_v2 c_v3 o1.1, SL false 47 FiringS a_v5 c_v6 o4.1] ++ []) = _; rfl) ?_
                  refine gl_batch 1 [(75, undef)] rfl ?_
                  refine gl_nil ?_
                  exact gx_fp (undef) rfl rfl rfl rfl (fun _ h => h.sub (fun _ h => h) (st_oo (A := [])) (fun o ho => by cases ho))
                · intro vals E' R' O' hD
                  have h23 : vals 23 = .bool true := hD 23 (memN 0 rfl)
                  have h34 : vals 34 = undef := hD 34 (memN 1 rfl)
                  refine gl_convV (E2 := (64, .bool true) :: (75, undef) :: ([] ++ E')) (V2 := [] ++ ([SL false 47 FiringS a_v2 c_v3 o1.1, SL false 47 FiringS a_v5 c_v6 o4.1] ++ [])) (by show (64, vals 23) :: (75, vals 34) :: ([] ++ E') = _; rw [h23, h34]) (by show [] ++ ([SL false 47 FiringS a_v2 c_v3 o1.1, SL false 47 FiringS a_v5 c_v6 o4.1] ++ []) = _; rfl) ?_
                  refine gl_batch 1 [(76, .bool true)] rfl ?_
                  refine gl_nil ?_
                  exact gx_fp (.bool true) rfl rfl rfl rfl (fun _ h => h.sub (fun _ h => h) (st_oo (A := [])) (fun o ho => by cases ho))
                · intro vals hv
                  obtain ⟨⟨⟨⟨⟨⟨⟨⟨⟨⟨⟨⟨⟨⟨⟨⟨⟨⟨⟨⟨⟨⟨⟨⟨⟨⟨⟨⟨⟨⟨⟨⟨⟨⟨⟨⟨_, h0⟩, h1⟩, h2⟩, h3⟩, h4⟩, h5⟩, h6⟩, h7⟩, h8⟩, h9⟩, h10⟩, h11⟩, h12⟩, h13⟩, h14⟩, h15⟩, h16⟩, h17⟩, h18⟩, h19⟩, h20⟩, h21⟩, h22⟩, h23⟩, h24⟩, h25⟩, h26⟩, h27⟩, h28⟩, h29⟩, h30⟩, h31⟩, h32⟩, h33⟩, h34⟩, h35⟩ := hv
                  have h0 : vals 0 = .int .i64 s8 := h0
                  have h1 : vals 1 = .slice a_v2 (List.length o1.1) c_v3 := h1
                  have h2 : vals 2 = .int .i64 (List.length o1.1 : Int) := h2
                  have h3 : vals 3 = .bool (decide (s8 ≥ (List.length o1.1 : Int))) := h3
                  have h4 : vals 4 = .bool true := h4
                  have h5 : vals 5 = undef := h5
                  have h6 : vals 6 = undef := h6
                  have h7 : vals 7 = undef := h7
                  have h8 : vals 8 = undef := h8
                  have h9 : vals 9 = .bool true := h9
                  have h10 : vals 10 = .bool true := h10
                  have h11 : vals 11 = undef := h11
                  have h12 : vals 12 = undef := h12
                  have h13 : vals 13 = undef := h13
                  have h14 : vals 14 = undef := h14
                  have h15 : vals 15 = undef := h15
                  have h16 : vals 16 = undef := h16
                  have h17 : vals 17 = undef := h17
                  have h18 : vals 18 = undef := h18
                  have h19 : vals 19 = undef := h19
                  have h20 : vals 20 = undef := h20
                  have h21 : vals 21 = undef := h21
                  have h22 : vals 22 = .bool true := h22
                  have h23 : vals 23 = .bool true := h23
                  have h24 : vals 24 = undef := h24
                  have h25 : vals 25 = undef := h25
                  have h26 : vals 26 = undef := h26
                  have h27 : vals 27 = undef := h27
                  have h28 : vals 28 = undef := h28
                  have h29 : vals 29 = undef := h29
                  have h30 : vals 30 = undef := h30
                  have h31 : vals 31 = undef := h31
                  have h32 : vals 32 = undef := h32
                  have h33 : vals 33 = undef := h33
                  have h34 : vals 34 = undef := h34
                  have h35 : vals 35 = .bool true := h35
                  refine gl_conv (E2 := (41, .int .i64 s8) :: (42, .slice a_v2 (List.length o1.1) c_v3) :: (43, .int .i64 (List.length o1.1 : Int)) :: (44, .bool (decide (s8 ≥ (List.length o1.1 : Int)))) :: (45, .bool true) :: (46, undef) :: (47, undef) :: (48, undef) :: (49, undef) :: (50, .bool true) :: (51, .bool true) :: (52, undef) :: (53, undef) :: (54, undef) :: (55, undef) :: (56, undef) :: (57, undef) :: (58, undef) :: (59, undef) :: (60, undef) :: (61, undef) :: (62, undef) :: (63, .bool true) :: (64, .bool true) :: (65, undef) :: (66, undef) :: (67, undef) :: (68, undef) :: (69, undef) :: (70, undef) :: (71, undef) :: (72, undef) :: (73, undef) :: (74, undef) :: (75, undef) :: (76, .bool true) :: [(6, .slice a_v2 (List.length o1.1) c_v3), (8, .slice a_v5 (List.length o4.1) c_v6), (10, .int .i64 s8)]) (R2 := [] ++ ([] ++ [SL false 47 FiringS a_v2 c_v3 o1.1, SL false 47 FiringS a_v5 c_v6 o4.1])) (O2 := [] ++ []) (by show (41, vals 0) :: (42, vals 1) :: (43, vals 2) :: (44, vals 3) :: (45, vals 4) :: (46, vals 5) :: (47, vals 6) :: (48, vals 7) :: (49, vals 8) :: (50, vals 9) :: (51, vals 10) :: (52, vals 11) :: (53, vals 12) :: (54, vals 13) :: (55, vals 14) :: (56, vals 15) :: (57, vals 16) :: (58, vals 17) :: (59, vals 18) :: (60, vals 19) :: (61, vals 20) :: (62, vals 21) :: (63, vals 22) :: (64, vals 23) :: (65, vals 24) :: (66, vals 25) :: (67, vals 26) :: (68, vals 27) :: (69, vals 28) :: (70, vals 29) :: (71, vals 30) :: (72, vals 31) :: (73, vals 32) :: (74, vals 33) :: (75, vals 34) :: (76, vals 35) :: [(6, .slice a_v2 (List.length o1.1) c_v3), (8, .slice a_v5 (List.length o4.1) c_v6), (10, .int .i64 s8)] = _; rw [h0, h1, h2, h3, h4, h5, h6, h7, h8, h9, h10, h11, h12, h13, h14, h15, h16, h17, h18, h19, h20, h21, h22, h23, h24, h25, h26, h27, h28, h29, h30, h31, h32, h33, h34, h35]) (by show [] ++ ([] ++ [SL false 47 FiringS a_v2 c_v3 o1.1, SL false 47 FiringS a_v5 c_v6 o4.1]) = _; rfl) rfl ?_
                  refine gl_nil ?_
                  obtain rfl := Option.some.inj h
                  exact gx_of (fun a w hE hS => ⟨rfl, hE.sub ⟨rfl, rfl, rfl, rfl, trivial⟩, (hS.take 2).facts _ _ [] (consItem (mem_at 0 rfl) (consItem (mem_at 1 rfl) (consItem (mem_at 2 rfl) (consItem (mem_at 3 rfl) noItem)))) noItem noItem⟩)
              · replace h := condF hg11 h
                refine g_case (decide (s8 ≥ (List.length o4.1 : Int))) (fun hg12 => ?_) (fun hg12 => ?_)
                · replace h := condT hg12 h
                  refine g_state (E' := [(6, .slice a_v2 (List.length o1.1) c_v3), (8, .slice a_v5 (List.length o4.1) c_v6), (10, .int .i64 s8)]) (Rs' := [] ++ [SL false 47 FiringS a_v2 c_v3 o1.1, SL false 47 FiringS a_v5 c_v6 o4.1]) (Xs' := [gTab 3 pow10C, gNum 0, gErr 1, gErr 2]) (Os' := []) (Vs' := []) ⟨rfl, rfl, rfl, trivial⟩ (fun w hS => hS) ?_
                  refine g_draw (Rs := [SL false 47 FiringS a_v2 c_v3 o1.1, SL false 47 FiringS a_v5 c_v6 o4.1]) 36 (dOf [[], [], [1], [0, 2], [3], [4], [4], [4, 6], [4, 5, 7], [4, 8], [9], [10], [10], [10], [10], [10], [10], [10], [10], [10], [10], [10], [10, 21], [22], [23], [23], [23], [23], [23], [23], [23], [23], [23], [23], [23], [23, 34]]) (spOf [det 0 (.int .i64 s8), det 1 (.slice a_v2 (List.length o1.1) c_v3), det 2 (.int .i64 (List.length o1.1 : Int)), det 3 (.bool (decide (s8 ≥ (List.length o1.1 : Int)))), det 4 (.bool false), det 5 (.int .i64 s8), det 6 (.slice a_v5 (List.length o4.1) c_v6), det 7 (.int .i64 (List.length o4.1 : Int)), det 8 (.bool (decide (s8 ≥ (List.length o4.1 : Int)))), det 9 (.bool (decide (s8 ≥ (List.length o4.1 : Int)))), det 10 (.bool true), det 11 (undef), det 12 (undef), det 13 (undef), det 14 (undef), det 15 (undef), det 16 (undef), det 17 (undef), det 18 (undef), det 19 (undef), det 20 (undef), det 21 (undef), det 22 (.bool true), det 23 (.bool true), det 24 (undef), det 25 (undef), det 26 (undef), det 27 (undef), det 28 (undef), det 29 (undef), det 30 (undef), det 31 (undef), det 32 (undef), det 33 (undef), det 34 (undef), det 35 (.bool true)]) [] (fun _ _ => []) (eOf [[(10, .int .i64 s8)], [(6, .slice a_v2 (List.length o1.1) c_v3)], [], [], [], [(10, .int .i64 s8)], [(8, .slice a_v5 (List.length o4.1) c_v6)], [], [], [], [], [], [], [], [], [], [], [], [], [], [], [], [], [], [], [], [], [], [], [], [], [], [], [], [], []]) mixed rfl (Or.inl rfl) ⟨⟨⟨⟨⟨⟨⟨⟨⟨⟨⟨⟨⟨⟨⟨⟨⟨⟨⟨⟨⟨⟨⟨⟨⟨⟨⟨⟨⟨⟨⟨⟨⟨⟨⟨⟨trivial, ⟨rfl, trivial⟩⟩, ⟨rfl, trivial⟩⟩, trivial⟩, trivial⟩, trivial⟩, ⟨rfl, trivial⟩⟩, ⟨rfl, trivial⟩⟩, trivial⟩, trivial⟩, trivial⟩, trivial⟩, trivial⟩, trivial⟩, trivial⟩, trivial⟩, trivial⟩, trivial⟩, trivial⟩, trivial⟩, trivial⟩, trivial⟩, trivial⟩, trivial⟩, trivial⟩, trivial⟩, trivial⟩, trivial⟩, trivial⟩, trivial⟩, trivial⟩, trivial⟩, trivial⟩, trivial⟩, trivial⟩, trivial⟩, trivial⟩ rfl ⟨⟨⟨⟨⟨⟨⟨⟨⟨⟨⟨⟨⟨⟨⟨⟨⟨⟨⟨⟨⟨⟨⟨⟨⟨⟨⟨⟨⟨⟨⟨⟨⟨⟨⟨⟨trivial, ?_⟩, ?_⟩, ?_⟩, ?_⟩, ?_⟩, ?_⟩, ?_⟩, ?_⟩, ?_⟩, ?_⟩, ?_⟩, ?_⟩, ?_⟩, ?_⟩, ?_⟩, ?_⟩, ?_⟩, ?_⟩, ?_⟩, ?_⟩, ?_⟩, ?_⟩, ?_⟩, ?_⟩, ?_⟩, ?_⟩, ?_⟩, ?_⟩, ?_⟩, ?_⟩, ?_⟩, ?_⟩, ?_⟩, ?_⟩, ?_⟩, ?_⟩ ?_
                  · intro vals E' R' O' hD
                    refine gl_batch 1 [(41, .int .i64 s8)] rfl ?_
                    refine gl_nil ?_
                    exact gx_fp (.int .i64 s8) rfl rfl rfl rfl (fun _ h => h.sub (fun _ h => h) (st_oo (A := [])) (fun o ho => by cases ho))
                  · intro vals E' R' O' hD
                    refine gl_batch 1 [(42, .slice a_v2 (List.length o1.1) c_v3)] rfl ?_
                    refine gl_nil ?_
                    exact gx_fp (.slice a_v2 (List.length o1.1) c_v3) rfl rfl rfl rfl (fun _ h => h.sub (fun _ h => h) (st_oo (A := [])) (fun o ho => by cases ho))
                  · intro vals E' R' O' hD
                    have h1 : vals 1 = .slice a_v2 (List.length o1.1) c_v3 := hD 1 (memN 0 rfl)
                    refine gl_convV (E2 := (42, .slice a_v2 (List.length o1.1) c_v3) :: ([] ++ E')) (V2 := [] ++ ([SL false 47 FiringS a_v2 c_v3 o1.1, SL false 47 FiringS a_v5 c_v6 o4.1] ++ [])) (by show (42, vals 1) :: ([] ++ E') = _; rw [h1]) (by show [] ++ ([SL false 47 FiringS a_v2 c_v3 o1.1, SL false 47 FiringS a_v5 c_v6 o4.1] ++ []) = _; rfl) ?_
                    refine gl_len rfl Fs26 rfl rfl ?_
                    refine gl_nil ?_
                    exact gx_fp (.int .i64 (List.length o1.1 : Int)) rfl rfl rfl rfl (fun _ h => h.sub (fun _ h => h) (st_oo (A := [])) (fun o ho => by cases ho))
                  · intro vals E' R' O' hD
                    have h0 : vals 0 = .int .i64 s8 := hD 0 (memN 0 rfl)
                    have h2 : vals 2 = .int .i64 (List.length o1.1 : Int) := hD 2 (memN 1 rfl)
                    refine gl_convV (E2 := (41, .int .i64 s8) :: (43, .int .i64 (List.length o1.1 : Int)) :: ([] ++ E')) (V2 := [] ++ ([SL false 47 FiringS a_v2 c_v3 o1.1, SL false 47 FiringS a_v5 c_v6 o4.1] ++ [])) (by show (41, vals 0) :: (43, vals 2) :: ([] ++ E') = _; rw [h0, h2]) (by show [] ++ ([SL false 47 FiringS a_v2 c_v3 o1.1, SL false 47 FiringS a_v5 c_v6 o4.1] ++ []) = _; rfl) ?_
                    refine gl_batch 1 [(44, .bool (decide (s8 ≥ (List.length o1.1 : Int))))] rfl ?_
                    refine gl_nil ?_
                    exact gx_fp (.bool (decide (s8 ≥ (List.length o1.1 : Int)))) rfl rfl rfl rfl (fun _ h => h.sub (fun _ h => h) (st_oo (A := [])) (fun o ho => by cases ho))
                  · intro vals E' R' O' hD
                    have h3 : vals 3 = .bool (decide (s8 ≥ (List.length o1.1 : Int))) := hD 3 (memN 0 rfl)
                    refine gl_convV (E2 := (44, .bool (decide (s8 ≥ (List.length o1.1 : Int)))) :: ([] ++ E')) (V2 := [] ++ ([SL false 47 FiringS a_v2 c_v3 o1.1, SL false 47 FiringS a_v5 c_v6 o4.1] ++ [])) (by show (44, vals 3) :: ([] ++ E') = _; rw [h3]) (by show [] ++ ([SL false 47 FiringS a_v2 c_v3 o1.1, SL false 47 FiringS a_v5 c_v6 o4.1] ++ []) = _; rfl) ?_
                    refine gl_batch 1 [(45, .bool (decide (s8 ≥ (List.length o1.1 : Int))))] rfl ?_
                    refine gl_nil ?_
                    exact gx_fp (.bool false) rfl rfl (congrArg (fun z => some (Value.bool z)) hg11) rfl (fun _ h => h.sub (fun _ h => h) (st_oo (A := [])) (fun o ho => by cases ho))
                  · intro vals E' R' O' hD
                    have h4 : vals 4 = .bool false := hD 4 (memN 0 rfl)
                    refine gl_convV (E2 := (45, .bool false) :: ([(10, .int .i64 s8)] ++ E')) (V2 := [] ++ ([SL false 47 FiringS a_v2 c_v3 o1.1, SL false 47 FiringS a_v5 c_v6 o4.1] ++ [])) (by show (45, vals 4) :: ([(10, .int .i64 s8)] ++ E') = _; rw [h4]) (by show [] ++ ([SL false 47 FiringS a_v2 c_v3 o1.1, SL false 47 FiringS a_v5 c_v6 o4.1] ++ []) = _; rfl) ?_
                    refine gl_batch 1 [(46, .int .i64 s8)] rfl ?_
                    refine gl_nil ?_
                    exact gx_fp (.int .i64 s8) rfl rfl rfl rfl (fun _ h => h.sub (fun _ h => h) (st_oo (A := [])) (fun o ho => by cases ho))
                  · intro vals E' R' O' hD
                    have h4 : vals 4 = .bool false := hD 4 (memN 0 rfl)
                    refine gl_convV (E2 := (45, .bool false) :: ([(8, .slice a_v5 (List.length o4.1) c_v6)] ++ E')) (V2 := [] ++ ([SL false 47 FiringS a_v2 c_v3 o1.1, SL false 47 FiringS a_v5 c_v6 o4.1] ++ [])) (by show (45, vals 4) :: ([(8, .slice a_v5 (List.length o4.1) c_v6)] ++ E') = _; rw [h4]) (by show [] ++ ([SL false 47 FiringS a_v2 c_v3 o1.1, SL false 47 FiringS a_v5 c_v6 o4.1] ++ []) = _; rfl) ?_
                    refine gl_batch 1 [(47, .slice a_v5 (List.length o4.1) c_v6)] rfl ?_
                    refine gl_nil ?_
                    exact gx_fp (.slice a_v5 (List.length o4.1) c_v6) rfl rfl rfl rfl (fun _ h => h.sub (fun _ h => h) (st_oo (A := [])) (fun o ho => by cases ho))
                  · intro vals E' R' O' hD
                    have h4 : vals 4 = .bool false := hD 4 (memN 0 rfl)
                    have h6 : vals 6 = .slice a_v5 (List.length o4.1) c_v6 := hD 6 (memN 1 rfl)
                    refine gl_convV (E2 := (45, .bool false) :: (47, .slice a_v5 (List.length o4.1) c_v6) :: ([] ++ E')) (V2 := [] ++ ([SL false 47 FiringS a_v2 c_v3 o1.1, SL false 47 FiringS a_v5 c_v6 o4.1] ++ [])) (by show (45, vals 4) :: (47, vals 6) :: ([] ++ E') = _; rw [h4, h6]) (by show [] ++ ([SL false 47 FiringS a_v2 c_v3 o1.1, SL false 47 FiringS a_v5 c_v6 o4.1] ++ []) = _; rfl) ?_
                    refine gl_len rfl Fs26 rfl rfl ?_
                    refine gl_nil ?_
                    exact gx_fp (.int .i64 (List.length o4.1 : Int)) rfl rfl rfl rfl (fun _ h => h.sub (fun _ h => h) (st_oo (A := [])) (fun o ho => by cases ho))
                  · intro vals E' R' O' hD
                    have h4 : vals 4 = .bool false := hD 4 (memN 0 rfl)
                    have h5 : vals 5 = .int .i64 s8 := hD 5 (memN 1 rfl)
                    have h7 : vals 7 = .int .i64 (List.length o4.1 : Int) := hD 7 (memN 2 rfl)
                    refine gl_convV (E2 := (45, .bool false) :: (46, .int .i64 s8) :: (48, .int .i64 (List.length o4.1 : Int)) :: ([] ++ E')) (V2 := [] ++ ([SL false 47 FiringS a_v2 c_v3 o1.1, SL false 47 FiringS a_v5 c_v6 o4.1] ++ [])) (by show (45, vals 4) :: (46, vals 5) :: (48, vals 7) :: ([] ++ E') = _; rw [h4, h5, h7]) (by show [] ++ ([SL false 47 FiringS a_v2 c_v3 o1.1, SL false 47 FiringS a_v5 c_v6 o4.1] ++ []) = _; rfl) ?_
                    refine gl_batch 1 [(49, .bool (decide (s8 ≥ (List.length o4.1 : Int))))] rfl ?_
                    refine gl_nil ?_
                    exact gx_fp (.bool (decide (s8 ≥ (List.length o4.1 : Int)))) rfl rfl rfl rfl (fun _ h => h.sub (fun _ h => h) (st_oo (A := [])) (fun o ho => by cases ho))
                  · intro vals E' R' O' hD
                    have h4 : vals 4 = .bool false := hD 4 (memN 0 rfl)
                    have h8 : vals 8 = .bool (decide (s8 ≥ (List.length o4.1 : Int))) := hD 8 (memN 1 rfl)
                    refine gl_convV (E2 := (45, .bool false) :: (49, .bool (decide (s8 ≥ (List.length o4.1 : Int)))) :: ([] ++ E')) (V2 := [] ++ ([SL false 47 FiringS a_v2 c_v3 o1.1, SL false 47 FiringS a_v5 c_v6 o4.1] ++ [])) (by show (45, vals 4) :: (49, vals 8) :: ([] ++ E') = _; rw [h4, h8]) (by show [] ++ ([SL false 47 FiringS a_v2 c_v3 o1.1, SL false 47 FiringS a_v5 c_v6 o4.1] ++ []) = _; rfl) ?_
                    refine gl_batch 1 [(50, .bool (decide (s8 ≥ (List.length o4.1 : Int))))] rfl ?_
                    refine gl_nil ?_
                    exact gx_fp (.bool (decide (s8 ≥ (List.length o4.1 : Int)))) rfl rfl rfl rfl (fun _ h => h.sub (fun _ h => h) (st_oo (A := [])) (fun o ho => by cases ho))
                  · intro vals E' R' O' hD
                    have h9 : vals 9 = .bool (decide (s8 ≥ (List.length o4.1 : Int))) := hD 9 (memN 0 rfl)
                    refine gl_convV (E2 := (50, .bool (decide (s8 ≥ (List.length o4.1 : Int)))) :: ([] ++ E')) (V2 := [] ++ ([SL false 47 FiringS a_v2 c_v3 o1.1, SL false 47 FiringS a_v5 c_v6 o4.1] ++ [])) (by show (50, vals 9) :: ([] ++ E') = _; rw [h9]) (by show [] ++ ([SL false 47 FiringS a_v2 c_v3 o1.1, SL false 47 FiringS a_v5 c_v6 o4.1] ++ []) = _; rfl) ?_
                    refine gl_batch 1 [(51, .bool (decide (s8 ≥ (List.length o4.1 : Int))))] rfl ?_
                    refine gl_nil ?_
                    exact gx_fp (.bool true) rfl rfl (congrArg (fun z => some (Value.bool z)) hg12) rfl (fun _ h => h.sub (fun _ h => h) (st_oo (A := [])) (fun o ho => by cases ho))
                  · intro vals E' R' O' hD
                    have h10 : vals 10 = .bool true := hD 10 (memN 0 rfl)
                    refine gl_convV (E2 := (51, .bool true) :: ([] ++ E')) (V2 := [] ++ ([SL false 47 FiringS a_v2 c_v3 o1.1, SL false 47 FiringS a_v5 c_v6 o4.1] ++ [])) (by show (51, vals 10) :: ([] ++ E') = _; rw [h10]) (by show [] ++ ([SL false 47 FiringS a_v2 c_v3 o1.1, SL false 47 FiringS a_v5 c_v6 o4.1] ++ []) = _; rfl) ?_
                    refine gl_batch 1 [(52, undef)] rfl ?_
                    refine gl_nil ?_
                    exact gx_fp (undef) rfl rfl rfl rfl (fun _ h => h.sub (fun _ h => h) (st_oo (A := [])) (fun o ho => by cases ho))
                  · intro vals E' R' O' hD
                    have h10 : vals 10 = .bool true := hD 10 (memN 0 rfl)
                    refine gl_convV (E2 := (51, .bool true) :: ([] ++ E')) (V2 := [] ++ ([SL false 47 FiringS a_v2 c_v3 o1.1, SL false 47 FiringS a_v5 c_v6 o4.1] ++ [])) (by show (51, vals 10) :: ([] ++ E') = _; rw [h10]) (by show [] ++ ([SL false 47 FiringS a_v2 c_v3 o1.1, SL false 47 FiringS a_v5 c_v6 o4.1] ++ []) = _; rfl) ?_
                    refine gl_batch 1 [(53, undef)] rfl ?_
                    refine gl_nil ?_
                    exact gx_fp (undef) rfl rfl rfl rfl (fun _ h => h.sub (fun _ h => h) (st_oo (A := [])) (fun o ho => by cases ho))
                  · intro vals E' R' O' hD
                    have h10 : vals 10 = .bool true := hD 10 (memN 0 rfl)
                    refine gl_convV (E2 := (51, .bool true) :: ([] ++ E')) (V2 := [] ++ ([SL false 47 FiringS a_v2 c_v3 o1.1, SL false 47 FiringS a_v5 c_v6 o4.1] ++ [])) (by show (51, vals 10) :: ([] ++ E') = _; rw [h10]) (by show [] ++ ([SL false 47 FiringS a_v2 c_v3 o1.1, SL false 47 FiringS a_v5 c_v6 o4.1] ++ []) = _; rfl) ?_
                    refine gl_batch 1 [(54, undef)] rfl ?_
                    refine gl_nil ?_
                    exact gx_fp (undef) rfl rfl rfl rfl (fun _ h => h.sub (fun _ h => h) (st_oo (A := [])) (fun o ho => by cases ho))
                  · intro vals E' R' O' hD
                    have h10 : vals 10 = .bool true := hD 10 (memN 0 rfl)
                    refine gl_convV (E2 := (51, .bool true) :: ([] ++ E')) (V2 := [] ++ ([SL false 47 FiringS a_v2 c_v3 o1.1, SL false 47 FiringS a_v5 c_v6 o4.1] ++ [])) (by show (51, vals 10) :: ([] ++ E') = _; rw [h10]) (by show [] ++ ([SL false 47 FiringS a_v2 c_v3 o1.1, SL false 47 FiringS a_v5 c_v6 o4.1] ++ []) = _; rfl) ?_
                    refine gl_batch 1 [(55, undef)] rfl ?_
                    refine gl_nil ?_
                    exact gx_fp (undef) rfl rfl rfl rfl (fun _ h => h.sub (fun _ h => h) (st_oo (A := [])) (fun o ho => by cases ho))
                  · intro vals E' R' O' hD
                    have h10 : vals 10 = .bool true := hD 10 (memN 0 rfl)
                    refine gl_convV (E2 := (51, .bool true) :: ([] ++ E')) (V2 := [] ++ ([SL false 47 FiringS a_v2 c_v3 o1.1, SL false 47 FiringS a_v5 c_v6 o4.1] ++ [])) (by show (51, vals 10) :: ([] ++ E') = _; rw [h10]) (by show [] ++ ([SL false 47 FiringS a_v2 c_v3 o1.1, SL false 47 FiringS a_v5 c_v6 o4.1] ++ []) = _; rfl) ?_
                    refine gl_batch 1 [(56, undef)] rfl ?_
                    refine gl_nil ?_
                    exact gx_fp (undef) rfl rfl rfl rfl (fun _ h => h.sub (fun _ h => h) (st_oo (A := [])) (fun o ho => by cases ho))
                  · intro vals E' R' O' hD
                    have h10 : vals 10 = .bool true := hD 10 (memN 0 rfl)
                    refine gl_convV (E2 := (51, .bool true) :: ([] ++ E')) (V2 := [] ++ ([SL false 47 FiringS a_v2 c_v3 o1.1, SL false 47 FiringS a_v5 c_v6 o4.1] ++ [])) (by show (51, vals 10) :: ([] ++ E') = _; rw [h10]) (by show [] ++ ([SL false 47 FiringS a_v2 c_v3 o1.1, SL false 47 FiringS a_v5 c_v6 o4.1] ++ []) = _; rfl) ?_
                    refine gl_batch 1 [(57, undef)] rfl ?_
                    refine gl_nil ?_
                    exact gx_fp (undef) rfl rfl rfl rfl (fun _ h => h.sub (fun _ h => h) (st_oo (A := [])) (fun o ho => by cases ho))
                  · intro vals E' R' O' hD
                    have h10 : vals 10 = .bool true := hD 10 (memN 0 rfl)
                    refine gl_convV (E2 := (51, .bool true) :: ([] ++ E')) (V2 := [] ++ ([SL false 47 FiringS a_v2 c_v3 o1.1, SL false 47 FiringS a_v5 c_v6 o4.1] ++ [])) (by show (51, vals 10) :: ([] ++ E') = _; rw [h10]) (by show [] ++ ([SL false 47 FiringS a_v2 c_v3 o1.1, SL false 47 FiringS a_v5 c_v6 o4.1] ++ []) = _; rfl) ?_
                    refine gl_batch 1 [(58, undef)] rfl ?_
                    refine gl_nil ?_
                    exact gx_fp (undef) rfl rfl rfl rfl (fun _ h => h.sub (fun _ h => h) (st_oo (A := [])) (fun o ho => by cases ho))
                  · intro vals E' R' O' hD
                    have h10 : vals 10 = .bool true := hD 10 (memN 0 rfl)
                    refine gl_convV (E2 := (51, .bool true) :: ([] ++ E')) (V2 := [] ++ ([SL false 47 FiringS a_v2 c_v3 o1.1, SL false 47 FiringS a_v5 c_v6 o4.1] ++ [])) (by show (51, vals 10) :: ([] ++ E') = _; rw [h10]) (by show [] ++ ([SL false 47 FiringS a_v2 c_v3 o1.1, SL false 47 FiringS a_v5 c_v6 o4.1] ++ []) = _; rfl) ?_
                    refine gl_batch 1 [(59, undef)] rfl ?_
                    refine gl_nil ?_
                    exact gx_fp (undef) rfl rfl rfl rfl (fun _ h => h.sub (fun _ h => h) (st_oo (A := [])) (fun o ho => by cases ho))
                  · intro vals E' R' O' hD
                    have h10 : vals 10 = .bool true := hD 10 (memN 0 rfl)
                    refine gl_convV (E2 := (51, .bool true) :: ([] ++ E')) (V2 := [] ++ ([SL false 47 FiringS a_v2 c_v3 o1.1, SL false 47 FiringS a_v5 c_v6 o4.1] ++ [])) (by show (51, vals 10) :: ([] ++ E') = _; rw [h10]) (by show [] ++ ([SL false 47 FiringS a_v2 c_v3 o1.1, SL false 47 FiringS a_v5 c_v6 o4.1] ++ []) = _; rfl) ?_
                    refine gl_batch 1 [(60, undef)] rfl ?_
                    refine gl_nil ?_
                    exact gx_fp (undef) rfl rfl rfl rfl (fun _ h => h.sub (fun _ h => h) (st_oo (A := [])) (fun o ho => by cases ho))
                  · intro vals E' R' O' hD
                    have h10 : vals 10 = .bool true := hD 10 (memN 0 rfl)
                    refine gl_convV (E2 := (51, .bool true) :: ([] ++ E')) (V2 := [] ++ ([SL false 47 FiringS a_v2 c_v3 o1.1, SL false 47 FiringS a_v5 c_v6 o4.1] ++ [])) (by show (51, vals 10) :: ([] ++ E') = _; rw [h10]) (by show [] ++ ([SL false 47 FiringS a_v2 c_v3 o1.1, SL false 47 FiringS a_v5 c_v6 o4.1] ++ []) = _; rfl) ?_
                    refine gl_batch 1 [(61, undef)] rfl ?_
                    refine gl_nil ?_
                    exact gx_fp (undef) rfl rfl rfl rfl (fun _ h => h.sub (fun _ h => h) (st_oo (A := [])) (fun o ho => by cases ho))
                  · intro vals E' R' O' hD
                    have h10 : vals 10 = .bool true := hD 10 (memN 0 rfl)
                    refine gl_convV (E2 := (51, .bool true) :: ([] ++ E')) (V2 := [] ++ ([SL false 47 FiringS a_v2 c_v3 o1.1, SL false 47 FiringS a_v5 c_v6 o4.1] ++ [])) (by show (51, vals 10) :: ([] ++ E') = _; rw [h10]) (by show [] ++ ([SL false 47 FiringS a_v2 c_v3 o1.1, SL false 47 FiringS a_v5 c_v6 o4.1] ++ []) = _; rfl) ?_
                    refine gl_batch 1 [(62, undef)] rfl ?_
                    refine gl_nil ?_
                    exact gx_fp (undef) rfl rfl rfl rfl (fun _ h => h.sub (fun _ h => h) (st_oo (A := [])) (fun o ho => by cases ho))
                  · intro vals E' R' O' hD
                    have h10 : vals 10 = .bool true := hD 10 (memN 0 rfl)
                    have h21 : vals 21 = undef := hD 21 (memN 1 rfl)
                    refine gl_convV (E2 := (51, .bool true) :: (62, undef) :: ([] ++ E')) (V2 := [] ++ ([SL false 47 FiringS a_v2 c_v3 o1.1, SL false 47 FiringS a_v5 c_v6 o4.1] ++ [])) (by show (51, vals 10) :: (62, vals 21) :: ([] ++ E') = _; rw [h10, h21]) (by show [] ++ ([SL false 47 FiringS a_v2 c_v3 o1.1, SL false 47 FiringS a_v5 c_v6 o4.1] ++ []) = _; rfl) ?_
                    refine gl_batch 1 [(63, .bool true)] rfl ?_
                    refine gl_nil ?_
                    exact gx_fp (.bool true) rfl rfl rfl rfl (fun _ h => h.sub (fun _ h => h) (st_oo (A := [])) (fun o ho => by cases ho))
                  · intro vals E' R' O' hD
                    have h22 : vals 22 = .bool true := hD 22 (memN 0 rfl)
                    refine gl_convV (E2 := (63, .bool true) :: ([] ++ E')) (V2 := [] ++ ([SL false 47 FiringS a_v2 c_v3 o1.1, SL false 47 FiringS a_v5 c_v6 o4.1] ++ [])) (by show (63, vals 22) :: ([] ++ E') = _; rw [h22]) (by show [] ++ ([SL false 47 FiringS a_v2 c_v3 o1.1, SL false 47 FiringS a_v5 c_v6 o4.1] ++ []) = _; rfl) ?_
                    refine gl_batch 1 [(64, .bool true)] rfl ?_
                    refine gl_nil ?_
                    exact gx_fp (.bool true) rfl rfl rfl rfl (fun _ h => h.sub (fun _ h => h) (st_oo (A := [])) (fun o ho => by cases ho))
                  · intro vals E' R' O' hD
                    have h23 : vals 23 = .bool true := hD 23 (memN 0 rfl)
                    refine gl_convV (E2 := (64, .bool true) :: ([] ++ E')) (V2 := [] ++ ([SL false 47 FiringS a_v2 c_v3 o1.1, SL false 47 FiringS a_v5 c_v6 o4.1] ++ [])) (by show (64, vals 23) :: ([] ++ E') = _; rw [h23]) (by show [] ++ ([SL false 47 FiringS a_v2 c_v3 o1.1, SL false 47 FiringS a_v5 c_v6 o4.1] ++ []) = _; rfl) ?_
                    refine gl_batch 1 [(65, undef)] rfl ?_
                    refine gl_nil ?_
                    exact gx_fp (undef) rfl rfl rfl rfl (fun _ h => h.sub (fun _ h => h) (st_oo (A := [])) (fun o ho => by cases ho))
                  · intro vals E' R' O' hD
                    have h23 : vals 23 = .bool true := hD 23 (memN 0 rfl)
                    refine gl_convV (E2 := (64, .bool true) :: ([] ++ E')) (V2 := [] ++ ([SL false 47 FiringS a_v2 c_v3 o1.1, SL false 47 FiringS a_v5 c_v6 o4.1] ++ [])) (by show (64, vals 23) :: ([] ++ E') = _; rw [h23]) (by show [] ++ ([SL false 47 FiringS a_v2 c_v3 o1.1, SL false 47 FiringS a_v5 c_v6 o4.1] ++ []) = _; rfl) ?_
                    refine gl_batch 1 [(66, undef)] rfl ?_
                    refine gl_nil ?_
                    exact gx_fp (undef) rfl rfl rfl rfl (fun _ h => h.sub (fun _ h => h) (st_oo (A := [])) (fun o ho => by cases ho))
                  · intro vals E' R' O' hD
                    have h23 : vals 23 = .bool true := hD 23 (memN 0 rfl)
                    refine gl_convV (E2 := (64, .bool true) :: ([] ++ E')) (V2 := [] ++ ([SL false 47 FiringS a_v2 c_v3 o1.1, SL false 47 FiringS a_v5 c_v6 o4.1] ++ [])) (by show (64, vals 23) :: ([] ++ E') = _; rw [h23]) (by show [] ++ ([SL false 47 FiringS a_v2 c_v3 o1.1, SL false 47 FiringS a_v5 c_v6 o4.1] ++ []) = _; rfl) ?_
                    refine gl_batch 1 [(67, undef)] rfl ?_
                    refine gl_nil ?_
                    exact gx_fp (undef) rfl rfl rfl rfl (fun _ h => h.sub (fun _ h => h) (st_oo (A := [])) (fun o ho => by cases ho))
                  · intro vals E' R' O' hD
                    have h23 : vals 23 = .bool true := hD 23 (memN 0 rfl)
                    refine gl_convV (E2 := (64, .bool true) :: ([] ++ E')) (V2 := [] ++ ([SL false 47 FiringS a_v2 c_v3 o1.1, SL false 47 FiringS a_v5 c_v6 o4.1] ++ [])) (by show (64, vals 23) :: ([] ++ E') = _; rw [h23]) (by show [] ++ ([SL false 47 FiringS a_v2 c_v3 o1.1, SL false 47 FiringS a_v5 c_v6 o4.1] ++ []) = _; rfl) ?_
                    refine gl_batch 1 [(68, undef)] rfl ?_
                    refine gl_nil ?_
                    exact gx_fp (undef) rfl rfl rfl rfl (fun _ h => h.sub (fun _ h => h) (st_oo (A := [])) (fun o ho => by cases ho))
                  · intro vals E' R' O' hD
                    have h23 : vals 23 = .bool true := hD 23 (memN 0 rfl)
                    refine gl_convV (E2 := (64, .bool true) :: ([] ++ E')) (V2 := [] ++ ([SL false 47 FiringS a_v2 c_v3 o1.1, SL false 47 FiringS a_v5 c_v6 o4.1] ++ [])) (by show (64, vals 23) :: ([] ++ E') = _; rw [h23]) (by show [] ++ ([SL false 47 FiringS a_v2 c_v3 o1.1, SL false 47 FiringS a_v5 c_v6 o4.1] ++ []) = _; rfl) ?_
                    refine gl_batch 1 [(69, undef)] rfl ?_
                    refine gl_nil ?_
                    exact gx_fp (undef) rfl rfl rfl rfl (fun _ h => h.sub (fun _ h => h) (st_oo (A := [])) (fun o ho => by cases ho))
                  · intro vals E' R' O' hD
                    have h23 : vals 23 = .bool true := hD 23 (memN 0 rfl)
                    refine gl_convV (E2 := (64, .bool true) :: ([] ++ E')) (V2 := [] ++ ([SL false 47 FiringS a_v2 c_v3 o1.1, SL false 47 FiringS a_v5 c_v6 o4.1] ++ [])) (by show (64, vals 23) :: ([] ++ E') = _; rw [h23]) (by show [] ++ ([SL false 47 FiringS a_v2 c_v3 o1.1, SL false 47 FiringS a_v5 c_v6 o4.1] ++ []) = _; rfl) ?_
                    refine gl_batch 1 [(70, undef)] rfl ?_
                    refine gl_nil ?_
                    exact gx_fp (undef) rfl rfl rfl rfl (fun _ h => h.sub (fun _ h => h) (st_oo (A := [])) (fun o ho => by cases ho))
                  · intro vals E' R' O' hD
                    have h23 : vals 23 = .bool true := hD 23 (memN 0 rfl)
                    refine gl_convV (E2 := (64, .bool true) :: ([] ++ E')) (V2 := [] ++ ([SL false 47 FiringS a_v2 c_v3 o1.1, SL false 47 FiringS a_v5 c_v6 o4.1] ++ [])) (by show (64, vals 23) :: ([] ++ E') = _; rw [h23]) (by show [] ++ ([SL false 47 FiringS a_v2 c_v3 o1.1, SL false 47 FiringS a_v5 c_v6 o4.1] ++ []) = _; rfl) ?_
                    refine gl_batch 1 [(71, undef)] rfl ?_
                    refine gl_nil ?_
                    exact gx_fp (undef) rfl rfl rfl rfl (fun _ h => h.sub (fun _ h => h) (st_oo (A := [])) (fun o ho => by cases ho))
                  · intro vals E' R' O' hD
                    have h23 : vals 23 = .bool true := hD 23 (memN 0 rfl)
                    refine gl_convV (E2 := (64, .bool true) :: ([] ++ E')) (V2 := [] ++ ([SL false 47 FiringS a_v2 c_v3 o1.1, SL false 47 FiringS a_v5 c_v6 o4.1] ++ [])) (by show (64, vals 23) :: ([] ++ E') = _; rw [h23]) (by show [] ++ ([SL false 47 FiringS a_v2 c_v3 o1.1, SL false 47 FiringS a_v5 c_v6 o4.1] ++ []) = _; rfl) ?_
                    refine gl_batch 1 [(72, undef)] rfl ?_
                    refine gl_nil ?_
                    exact gx_fp (undef) rfl rfl rfl rfl (fun _ h => h.sub (fun _ h => h) (st_oo (A := [])) (fun o ho => by cases ho))
                  · intro vals E' R' O' hD
                    have h23 : vals 23 = .bool true := hD 23 (memN 0 rfl)
                    refine gl_convV (E2 := (64, .bool true) :: ([] ++ E')) (V2 := [] ++ ([SL false 47 FiringS a_v2 c_v3 o1.1, SL false 47 FiringS a_v5 c_v6 o4.1] ++ [])) (by show (64, vals 23) :: ([] ++ E') = _; rw [h23]) (by show [] ++ ([SL false 47 FiringS a_v2 c_v3 o1.1, SL false 47 FiringS a_v5 c_v6 o4.1] ++ []) = _; rfl) ?_
                    refine gl_batch 1 [(73, undef)] rfl ?_
                    refine gl_nil ?_
                    exact gx_fp (undef) rfl rfl rfl rfl (fun _ h => h.sub (fun _ h => h) (st_oo (A := [])) (fun o ho => by cases ho))
                  · intro vals E' R' O' hD
                    have h23 : vals 23 = .bool true := hD 23 (memN 0 rfl)
                    refine gl_convV (E2 := (64, .bool true) :: ([] ++ E')) (V2 := [] ++ ([SL false 47 FiringS a_v2 c_v3 o1.1, SL false 47 FiringS a_v5 c_v6 o4.1] ++ [])) (by show (64, vals 23) :: ([] ++ E') = _; rw [h23]) (by show [] ++ ([SL false 47 FiringS a_v2 c_v3 o1.1, SL false 47 FiringS a_v5 c_v6 o4.1] ++ []) = _; rfl) ?_
                    refine gl_batch 1 [(74, undef)] rfl ?_
                    refine gl_nil ?_
                    exact gx_fp (undef) rfl rfl rfl rfl (fun _ h => h.sub (fun _ h => h) (st_oo (A := [])) (fun o ho => by cases ho))
                  · intro vals E' R' O' hD
                    have h23 : vals 23 = .bool true := hD 23 (memN 0 rfl)
                    refine gl_convV (E2 := (64, .bool true) :: ([] ++ E')) (V2 := [] ++ ([SL false 47 FiringS a_v2 c_v3 o1.1, SL false 47 FiringS a_v5 c_v6 o4.1] ++ [])) (by show (64, vals 23) :: ([] ++ E') = _; rw [h23]) (by show [] ++ ([SL false 47 FiringS a_v2 c_v3 o1.1, SL false 47 FiringS a_v5 c_v6 o4.1] ++ []) = _; rfl) ?_
                    refine gl_batch 1 [(75, undef)] rfl ?_
                    refine gl_nil ?_
                    exact gx_fp (undef) rfl rfl rfl rfl (fun _ h => h.sub (fun _ h => h) (st_oo (A := [])) (fun o ho => by cases ho))
                  · intro vals E' R' O' hD
                    have h23 : vals 23 = .bool true := hD 23 (memN 0 rfl)
                    have h34 : vals 34 = undef := hD 34 (memN 1 rfl)
                    refine gl_convV (E2 := (64, .bool true) :: (75, undef) :: ([] ++ E')) (V2 := [] ++ ([SL false 47 FiringS a_v2 c_v3 o1.1, SL false 47 FiringS a_v5 c_v6 o4.1] ++ [])) (by show (64, vals 23) :: (75, vals 34) :: ([] ++ E') = _; rw [h23, h34]) (by show [] ++ ([SL false 47 FiringS a_v2 c_v3 o1.1, SL false 47 FiringS a_v5 c_v6 o4.1] ++ []) = _; rfl) ?_
                    refine gl_batch 1 [(76, .bool true)] rfl ?_
                    refine gl_nil ?_
                    exact gx_fp (.bool true) rfl rfl rfl rfl (fun _ h => h.sub (fun _ h => h) (st_oo (A := [])) (fun o ho => by cases ho))
                  · intro vals hv
                    obtain ⟨⟨⟨⟨⟨⟨⟨⟨⟨⟨⟨⟨⟨⟨⟨⟨⟨⟨⟨⟨⟨⟨⟨⟨⟨⟨⟨⟨⟨⟨⟨⟨⟨⟨⟨⟨_, h0⟩, h1⟩, h2⟩, h3⟩, h4⟩, h5⟩, h6⟩, h7⟩, h8⟩, h9⟩, h10⟩, h11⟩, h12⟩, h13⟩, h14⟩, h15⟩, h16⟩, h17⟩, h18⟩, h19⟩, h20⟩, h21⟩, h22⟩, h23⟩, h24⟩, h25⟩, h26⟩, h27⟩, h28⟩, h29⟩, h30⟩, h31⟩, h32⟩, h33⟩, h34⟩, h35⟩ := hv
                    have h0 : vals 0 = .int .i64 s8 := h0
                    have h1 : vals 1 = .slice a_v2 (List.length o1.1) c_v3 := h1
                    have h2 : vals 2 = .int .i64 (List.length o1.1 : Int) := h2
                    have h3 : vals 3 = .bool (decide (s8 ≥ (List.length o1.1 : Int))) := h3
                    have h4 : vals 4 = .bool false := h4
                    have h5 : vals 5 = .int .i64 s8 := h5
                    have h6 : vals 6 = .slice a_v5 (List.length o4.1) c_v6 := h6
                    have h7 : vals 7 = .int .i64 (List.length o4.1 : Int) := h7
                    have h8 : vals 8 = .bool (decide (s8 ≥ (List.length o4.1 : Int))) := h8
                    have h9 : vals 9 = .bool (decide (s8 ≥ (List.length o4.1 : Int))) := h9
                    have h10 : vals 10 = .bool true := h10
                    have h11 : vals 11 = undef := h11
                    have h12 : vals 12 = undef := h12
                    have h13 : vals 13 = undef := h13
                    have h14 : vals 14 = undef := h14
                    have h15 : vals 15 = undef := h15
                    have h16 : vals 16 = undef := h16
                    have h17 : vals 17 = undef := h17
                    have h18 : vals 18 = undef := h18
                    have h19 : vals 19 = undef := h19
                    have h20 : vals 20 = undef := h20
                    have h21 : vals 21 = undef := h21
                    have h22 : vals 22 = .bool true := h22
                    have h23 : vals 23 = .bool true := h23
                    have h24 : vals 24 = undef := h24
                    have h25 : vals 25 = undef := h25
                    have h26 : vals 26 = undef := h26
                    have h27 : vals 27 = undef := h27
                    have h28 : vals 28 = undef := h28
                    have h29 : vals 29 = undef := h29
                    have h30 : vals 30 = undef := h30
                    have h31 : vals 31 = undef := h31
                    have h32 : vals 32 = undef := h32
                    have h33 : vals 33 = undef := h33
                    have h34 : vals 34 = undef := h34
                    have h35 : vals 35 = .bool true := h35
                    refine gl_conv (E2 := (41, .int .i64 s8) :: (42, .slice a_v2 (List.length o1.1) c_v3) :: (43, .int .i64 (List.length o1.1 : Int)) :: (44, .bool (decide (s8 ≥ (List.length o1.1 : Int)))) :: (45, .bool false) :: (46, .int .i64 s8) :: (47, .slice a_v5 (List.length o4.1) c_v6) :: (48, .int .i64 (List.length o4.1 : Int)) :: (49, .bool (decide (s8 ≥ (List.length o4.1 : Int)))) :: (50, .bool (decide (s8 ≥ (List.length o4.1 : Int)))) :: (51, .bool true) :: (52, undef) :: (53, undef) :: (54, undef) :: (55, undef) :: (56, undef) :: (57, undef) :: (58, undef) :: (59, undef) :: (60, undef) :: (61, undef) :: (62, undef) :: (63, .bool true) :: (64, .bool true) :: (65, undef) :: (66, undef) :: (67, undef) :: (68, undef) :: (69, undef) :: (70, undef) :: (71, undef) :: (72, undef) :: (73, undef) :: (74, undef) :: (75, undef) :: (76, .bool true) :: [(6, .slice a_v2 (List.length o1.1) c_v3), (8, .slice a_v5 (List.length o4.1) c_v6), (10, .int .i64 s8)]) (R2 := [] ++ ([] ++ [SL false 47 FiringS a_v2 c_v3 o1.1, SL false 47 FiringS a_v5 c_v6 o4.1])) (O2 := [] ++ []) (by show (41, vals 0) :: (42, vals 1) :: (43, vals 2) :: (44, vals 3) :: (45, vals 4) :: (46, vals 5) :: (47, vals 6) :: (48, vals 7) :: (49, vals 8) :: (50, vals 9) :: (51, vals 10) :: (52, vals 11) :: (53, vals 12) :: (54, vals 13) :: (55, vals 14) :: (56, vals 15) :: (57, vals 16) :: (58, vals 17) :: (59, vals 18) :: (60, vals 19) :: (61, vals 20) :: (62, vals 21) :: (63, vals 22) :: (64, vals 23) :: (65, vals 24) :: (66, vals 25) :: (67, vals 26) :: (68, vals 27) :: (69, vals 28) :: (70, vals 29) :: (71, vals 30) :: (72, vals 31) :: (73, vals 32) :: (74, vals 33) :: (75, vals 34) :: (76, vals 35) :: [(6, .slice a_v2 (List.length o1.1) c_v3), (8, .slice a_v5 (List.length o4.1) c_v6), (10, .int .i64 s8)] = _; rw [h0, h1, h2, h3, h4, h5, h6, h7, h8, h9, h10, h11, h12, h13, h14, h15, h16, h17, h18, h19, h20, h21, h22, h23, h24, h25, h26, h27, h28, h29, h30, h31, h32, h33, h34, h35]) (by show [] ++ ([] ++ [SL false 47 FiringS a_v2 c_v3 o1.1, SL false 47 FiringS a_v5 c_v6 o4.1]) = _; rfl) rfl ?_
                    refine gl_nil ?_
                    obtain rfl := Option.some.inj h
                    exact gx_of (fun a w hE hS => ⟨rfl, hE.sub ⟨rfl, rfl, rfl, rfl, trivial⟩, (hS.take 2).facts _ _ [] (consItem (mem_at 0 rfl) (consItem (mem_at 1 rfl) (consItem (mem_at 2 rfl) (consItem (mem_at 3 rfl) noItem)))) noItem noItem⟩)
                · replace h := condF hg12 h
                  obtain ⟨x13, hx13, h⟩ := bindS h
                  refine g_elemn (mem_at 0 rfl) hx13 ?_
                  intro p14 hp14
                  obtain ⟨x15, hx15, h⟩ := bindS h
                  refine g_elemn (mem_at 1 rfl) hx15 ?_
                  intro p16 hp16
                  refine g_case (x13.Event != x15.Event) (fun hg17 => ?_) (fun hg17 => ?_)
                  · replace h := condT hg17 h
                    refine g_state (E' := [(6, .slice a_v2 (List.length o1.1) c_v3), (8, .slice a_v5 (List.length o4.1) c_v6), (10, .int .i64 s8)]) (Rs' := [] ++ [SL false 47 FiringS a_v2 c_v3 o1.1, SL false 47 FiringS a_v5 c_v6 o4.1]) (Xs' := [gTab 3 pow10C, gNum 0, gErr 1, gErr 2]) (Os' := []) (Vs' := []) ⟨rfl, rfl, rfl, trivial⟩ (fun w hS => hS) ?_
                    refine g_draw (Rs := [SL false 47 FiringS a_v2 c_v3 o1.1, SL false 47 FiringS a_v5 c_v6 o4.1]) 36 (dOf [[], [], [1], [0, 2], [3], [4], [4], [4, 6], [4, 5, 7], [4, 8], [9], [10], [10], [10, 11, 12], [10, 13], [10, 14], [10], [10], [10, 16, 17], [10, 18], [10, 19], [10, 15, 20], [10, 21], [22], [23], [23], [23], [23], [23], [23], [23], [23], [23], [23], [23], [23, 34]]) (spOf [det 0 (.int .i64 s8), det 1 (.slice a_v2 (List.length o1.1) c_v3), det 2 (.int .i64 (List.length o1.1 : Int)), det 3 (.bool (decide (s8 ≥ (List.length o1.1 : Int)))), det 4 (.bool false), det 5 (.int .i64 s8), det 6 (.slice a_v5 (List.length o4.1) c_v6), det 7 (.int .i64 (List.length o4.1 : Int)), det 8 (.bool (decide (s8 ≥ (List.length o4.1 : Int)))), det 9 (.bool (decide (s8 ≥ (List.length o4.1 : Int)))), det 10 (.bool false), det 11 (.slice a_v2 (List.length o1.1) c_v3), det 12 (.int .i64 s8), det 13 (.pointer (some p14)), det 14 (.pointer (some p14)), det 15 (.int .i64 x13.Event), det 16 (.slice a_v5 (List.length o4.1) c_v6), det 17 (.int .i64 s8), det 18 (.pointer (some p16)), det 19 (.pointer (some p16)), det 20 (.int .i64 x15.Event), det 21 (.bool (x13.Event != x15.Event)), det 22 (.bool (x13.Event != x15.Event)), det 23 (.bool true), det 24 (undef), det 25 (undef), det 26 (undef), det 27 (undef), det 28 (undef), det 29 (undef), det 30 (undef), det 31 (undef), det 32 (undef), det 33 (undef), det 34 (undef), det 35 (.bool true)]) [] (fun _ _ => []) (eOf [[(10, .int .i64 s8)], [(6, .slice a_v2 (List.length o1.1) c_v3)], [], [], [], [(10, .int .i64 s8)], [(8, .slice a_v5 (List.length o4.1) c_v6)], [], [], [], [], [(6, .slice a_v2 (List.length o1.1) c_v3)], [(10, .int .i64 s8)], [], [], [], [(8, .slice a_v5 (List.length o4.1) c_v6)], [(10, .int .i64 s8)], [], [], [], [], [], [], [], [], [], [], [], [], [], [], [], [], [], []]) mixed rfl (Or.inl rfl) ⟨⟨⟨⟨⟨⟨⟨⟨⟨⟨⟨⟨⟨⟨⟨⟨⟨⟨⟨⟨⟨⟨⟨⟨⟨⟨⟨⟨⟨⟨⟨⟨⟨⟨⟨⟨trivial, ⟨rfl, trivial⟩⟩, ⟨rfl, trivial⟩⟩, trivial⟩, trivial⟩, trivial⟩, ⟨rfl, trivial⟩⟩, ⟨rfl, trivial⟩⟩, trivial⟩, trivial⟩, trivial⟩, trivial⟩, ⟨rfl, trivial⟩⟩, ⟨rfl, trivial⟩⟩, trivial⟩, trivial⟩, trivial⟩, ⟨rfl, trivial⟩⟩, ⟨rfl, trivial⟩⟩, trivial⟩, trivial⟩, trivial⟩, trivial⟩, trivial⟩, trivial⟩, trivial⟩, trivial⟩, trivial⟩, trivial⟩, trivial⟩, trivial⟩, trivial⟩, trivial⟩, trivial⟩, trivial⟩, trivial⟩, trivial⟩ rfl ⟨⟨⟨⟨⟨⟨⟨⟨⟨⟨⟨⟨⟨⟨⟨⟨⟨⟨⟨⟨⟨⟨⟨⟨⟨⟨⟨⟨⟨⟨⟨⟨⟨⟨⟨⟨trivial, ?_⟩, ?_⟩, ?_⟩, ?_⟩, ?_⟩, ?_⟩, ?_⟩, ?_⟩, ?_⟩, ?_⟩, ?_⟩, ?_⟩, ?_⟩, ?_⟩, ?_⟩, ?_⟩, ?_⟩, ?_⟩, ?_⟩, ?_⟩, ?_⟩, ?_⟩, ?_⟩, ?_⟩, ?_⟩, ?_⟩, ?_⟩, ?_⟩, ?_⟩, ?_⟩, ?_⟩, ?_⟩, ?_⟩, ?_⟩, ?_⟩, ?_⟩ ?_
                    · intro vals E' R' O' hD
                      refine gl_batch 1 [(41, .int .i64 s8)] rfl ?_
                      refine gl_nil ?_
                      exact gx_fp (.int .i64 s8) rfl rfl rfl rfl (fun _ h => h.sub (fun _ h => h) (st_oo (A := [])) (fun o ho => by cases ho))
                    · intro vals E' R' O' hD
                      refine gl_batch 1 [(42, .slice a_v2 (List.length o1.1) c_v3)] rfl ?_
                      refine gl_nil ?_
                      exact gx_fp (.slice a_v2 (List.length o1.1) c_v3) rfl rfl rfl rfl (fun _ h => h.sub (fun _ h => h) (st_oo (A := [])) (fun o ho => by cases ho))
                    · intro vals E' R' O' hD
                      have h1 : vals 1 = .slice a_v2 (List.length o1.1) c_v3 := hD 1 (memN 0 rfl)
                      refine gl_convV (E2 := (42, .slice a_v2 (List.length o1.1) c_v3) :: ([] ++ E')) (V2 := [] ++ ([SL false 47 FiringS a_v2 c_v3 o1.1, SL false 47 FiringS a_v5 c_v6 o4.1] ++ [])) (by show (42, vals 1) :: ([] ++ E') = _; rw [h1]) (by show [] ++ ([SL false 47 FiringS a_v2 c_v3 o1.1, SL false 47 FiringS a_v5 c_v6 o4.1] ++ []) = _; rfl) ?_
                      refine gl_len rfl Fs26 rfl rfl ?_
                      refine gl_nil ?_
                      exact gx_fp (.int .i64 (List.length o1.1 : Int)) rfl rfl rfl rfl (fun _ h => h.sub (fun _ h => h) (st_oo (A := [])) (fun o ho => by cases ho))
                    · intro vals E' R' O' hD
                      have h0 : vals 0 = .int .i64 s8 := hD 0 (memN 0 rfl)
                      have h2 : vals 2 = .int .i64 (List.length o1.1 : Int) := hD 2 (memN 1 rfl)
                      refine gl_convV (E2 := (41, .int .i64 s8) :: (43, .int .i64 (List.length o1.1 : Int)) :: ([] ++ E')) (V2 := [] ++ ([SL false 47 FiringS a_v2 c_v3 o1.1, SL false 47 FiringS a_v5 c_v6 o4.1] ++ [])) (by show (41, vals 0) :: (43, vals 2) :: ([] ++ E') = _; rw [h0, h2]) (by show [] ++ ([SL false 47 FiringS a_v2 c_v3 o1.1, SL false 47 FiringS a_v5 c_v6 o4.1] ++ []) = _; rfl) ?_
                      refine gl_batch 1 [(44, .bool (decide (s8 ≥ (List.length o1.1 : Int))))] rfl ?_
                      refine gl_nil ?_
                      exact gx_fp (.bool (decide (s8 ≥ (List.length o1.1 : Int)))) rfl rfl rfl rfl (fun _ h => h.sub (fun _ h => h) (st_oo (A := [])) (fun o ho => by cases ho))
                    · intro vals E' R' O' hD
                      have h3 : vals 3 = .bool (decide (s8 ≥ (List.length o1.1 : Int))) := hD 3 (memN 0 rfl)
                      refine gl_convV (E2 := (44, .bool (decide (s8 ≥ (List.length o1.1 : Int)))) :: ([] ++ E')) (V2 := [] ++ ([SL false 47 FiringS a_v2 c_v3 o1.1, SL false 47 FiringS a_v5 c_v6 o4.1] ++ [])) (by show (44, vals 3) :: ([] ++ E') = _; rw [h3]) (by show [] ++ ([SL false 47 FiringS a_v2 c_v3 o1.1, SL false 47 FiringS a_v5 c_v6 o4.1] ++ []) = _; rfl) ?_
                      refine gl_batch 1 [(45, .bool (decide (s8 ≥ (List.length o1.1 : Int))))] rfl ?_
                      refine gl_nil ?_
                      exact gx_fp (.bool false) rfl rfl (congrArg (fun z => some (Value.bool z)) hg11) rfl (fun _ h => h.sub (fun _ h => h) (st_oo (A := [])) (fun o ho => by cases ho))
                    · intro vals E' R' O' hD
                      have h4 : vals 4 = .bool false := hD 4 (memN 0 rfl)
                      refine gl_convV (E2 := (45, .bool false) :: ([(10, .int .i64 s8)] ++ E')) (V2 := [] ++ ([SL false 47 FiringS a_v2 c_v3 o1.1, SL false 47 FiringS a_v5 c_v6 o4.1] ++ [])) (by show (45, vals 4) :: ([(10, .int .i64 s8)] ++ E') = _; rw [h4]) (by show [] ++ ([SL false 47 FiringS a_v2 c_v3 o1.1, SL false 47 FiringS a_v5 c_v6 o4.1] ++ []) = _; rfl) ?_
                      refine gl_batch 1 [(46, .int .i64 s8)] rfl ?_
                      refine gl_nil ?_
                      exact gx_fp (.int .i64 s8) rfl rfl rfl rfl (fun _ h => h.sub (fun _ h => h) (st_oo (A := [])) (fun o ho => by cases ho))
                    · intro vals E' R' O' hD
                      have h4 : vals 4 = .bool false := hD 4 (memN 0 rfl)
                      refine gl_convV (E2 := (45, .bool false) :: ([(8, .slice a_v5 (List.length o4.1) c_v6)] ++ E')) (V2 := [] ++ ([SL false 47 FiringS a_v2 c_v3 o1.1, SL false 47 FiringS a_v5 c_v6 o4.1] ++ [])) (by show (45, vals 4) :: ([(8, .slice a_v5 (List.length o4.1) c_v6)] ++ E') = _; rw [h4]) (by show [] ++ ([SL false 47 FiringS a_v2 c_v3 o1.1, SL false 47 FiringS a_v5 c_v6 o4.1] ++ []) = _; rfl) ?_
                      refine gl_batch 1 [(47, .slice a_v5 (List.length o4.1) c_v6)] rfl ?_
                      refine gl_nil ?_
                      exact gx_fp (.slice a_v5 (List.length o4.1) c_v6) rfl rfl rfl rfl (fun _ h => h.sub (fun _ h => h) (st_oo (A := [])) (fun o ho => by cases ho))
                    · intro vals E' R' O' hD
                      have h4 : vals 4 = .bool false := hD 4 (memN 0 rfl)
                      have h6 : vals 6 = .slice a_v5 (List.length o4.1) c_v6 := hD 6 (memN 1 rfl)
                      refine gl_convV (E2 := (45, .bool false) :: (47, .slice a_v5 (List.length o4.1) c_v6) :: ([] ++ E')) (V2 := [] ++ ([SL false 47 FiringS a_v2 c_v3 o1.1, SL false 47 FiringS a_v5 c_v6 o4.1] ++ [])) (by show (45, vals 4) :: (47, vals 6) :: ([] ++ E') = _; rw [h4, h6]) (by show [] ++ ([SL false 47 FiringS a_v2 c_v3 o1.1, SL false 47 FiringS a_v5 c_v6 o4.1] ++ []) = _; rfl) ?_
                      refine gl_len rfl Fs26 rfl rfl ?_
                      refine gl_nil ?_
                      exact gx_fp (.int .i64 (List.length o4.1 : Int)) rfl rfl rfl rfl (fun _ h => h.sub (fun _ h => h) (st_oo (A := [])) (fun o ho => by cases ho))
                    · intro vals E' R' O' hD
                      have h4 : vals 4 = .bool false := hD 4 (memN 0 rfl)
                      have h5 : vals 5 = .int .i64 s8 := hD 5 (memN 1 rfl)
                      have h7 : vals 7 = .int .i64 (List.length o4.1 : Int) := hD 7 (memN 2 rfl)
                      refine gl_convV (E2 := (45, .bool false) :: (46, .int .i64 s8) :: (48, .int .i64 (List.length o4.1 : Int)) :: ([] ++ E')) (V2 := [] ++ ([SL false 47 FiringS a_v2 c_v3 o1.1, SL false 47 FiringS a_v5 c_v6 o4.1] ++ [])) (by show (45, vals 4) :: (46, vals 5) :: (48, vals 7) :: ([] ++ E') = _; rw [h4, h5, h7]) (by show [] ++ ([SL false 47 FiringS a_v2 c_v3 o1.1, SL false 47 FiringS a_v5 c_v6 o4.1] ++ []) = _; rfl) ?_
                      refine gl_batch 1 [(49, .bool (decide (s8 ≥ (List.length o4.1 : Int))))] rfl ?_
                      refine gl_nil ?_
                      exact gx_fp (.bool (decide (s8 ≥ (List.length o4.1 : Int)))) rfl rfl rfl rfl (fun _ h => h.sub (fun _ h => h) (st_oo (A := [])) (fun o ho => by cases ho))
                    · intro vals E' R' O' hD
                      have h4 : vals 4 = .bool false := hD 4 (memN 0 rfl)
                      have h8 : vals 8 = .bool (decide (s8 ≥ (List.length o4.1 : Int))) := hD 8 (memN 1 rfl)
                      refine gl_convV (E2 := (45, .bool false) :: (49, .bool (decide (s8 ≥ (List.length o4.1 : Int)))) :: ([] ++ E')) (V2 := [] ++ ([SL false 47 FiringS a_v2 c_v3 o1.1, SL false 47 FiringS a_v5 c_v6 o4.1] ++ [])) (by show (45, vals 4) :: (49, vals 8) :: ([] ++ E') = _; rw [h4, h8]) (by show [] ++ ([SL false 47 FiringS a_v2 c_v3 o1.1, SL false 47 FiringS a_v5 c_v6 o4.1] ++ []) = _; rfl) ?_
                      refine gl_batch 1 [(50, .bool (decide (s8 ≥ (List.length o4.1 : Int))))] rfl ?_
                      refine gl_nil ?_
                      exact gx_fp (.bool (decide (s8 ≥ (List.length o4.1 : Int)))) rfl rfl rfl rfl (fun _ h => h.sub (fun _ h => h) (st_oo (A := [])) (fun o ho => by cases ho))
                    · intro vals E' R' O' hD
                      have h9 : vals 9 = .bool (decide (s8 ≥ (List.length o4.1 : Int))) := hD 9 (memN 0 rfl)
                      refine gl_convV (E2 := (50, .bool (decide (s8 ≥ (List.length o4.1 : Int)))) :: ([] ++ E')) (V2 := [] ++ ([SL false 47 FiringS a_v2 c_v3 o1.1, SL false 47 FiringS a_v5 c_v6 o4.1] ++ [])) (by show (50, vals 9) :: ([] ++ E') = _; rw [h9]) (by show [] ++ ([SL false 47 FiringS a_v2 c_v3 o1.1, SL false 47 FiringS a_v5 c_v6 o4.1] ++ []) = _; rfl) ?_
                      refine gl_batch 1 [(51, .bool (decide (s8 ≥ (List.length o4.1 : Int))))] rfl ?_
                      refine gl_nil ?_
                      exact gx_fp (.bool false) rfl rfl (congrArg (fun z => some (Value.bool z)) hg12) rfl (fun _ h => h.sub (fun _ h => h) (st_oo (A := [])) (fun o ho => by cases ho))
                    · intro vals E' R' O' hD
                      have h10 : vals 10 = .bool false := hD 10 (memN 0 rfl)
                      refine gl_convV (E2 := (51, .bool false) :: ([(6, .slice a_v2 (List.length o1.1) c_v3)] ++ E')) (V2 := [] ++ ([SL false 47 FiringS a_v2 c_v3 o1.1, SL false 47 FiringS a_v5 c_v6 o4.1] ++ [])) (by show (51, vals 10) :: ([(6, .slice a_v2 (List.length o1.1) c_v3)] ++ E') = _; rw [h10]) (by show [] ++ ([SL false 47 FiringS a_v2 c_v3 o1.1, SL false 47 FiringS a_v5 c_v6 o4.1] ++ []) = _; rfl) ?_
                      refine gl_batch 1 [(52, .slice a_v2 (List.length o1.1) c_v3)] rfl ?_
                      refine gl_nil ?_
                      exact gx_fp (.slice a_v2 (List.length o1.1) c_v3) rfl rfl rfl rfl (fun _ h => h.sub (fun _ h => h) (st_oo (A := [])) (fun o ho => by cases ho))
                    · intro vals E' R' O' hD
                      have h10 : vals 10 = .bool false := hD 10 (memN 0 rfl)
                      refine gl_convV (E2 := (51, .bool false) :: ([(10, .int .i64 s8)] ++ E')) (V2 := [] ++ ([SL false 47 FiringS a_v2 c_v3 o1.1, SL false 47 FiringS a_v5 c_v6 o4.1] ++ [])) (by show (51, vals 10) :: ([(10, .int .i64 s8)] ++ E') = _; rw [h10]) (by show [] ++ ([SL false 47 FiringS a_v2 c_v3 o1.1, SL false 47 FiringS a_v5 c_v6 o4.1] ++ []) = _; rfl) ?_
                      refine gl_batch 1 [(53, .int .i64 s8)] rfl ?_
                      refine gl_nil ?_
                      exact gx_fp (.int .i64 s8) rfl rfl rfl rfl (fun _ h => h.sub (fun _ h => h) (st_oo (A := [])) (fun o ho => by cases ho))
                    · intro vals E' R' O' hD
                      have h10 : vals 10 = .bool false := hD 10 (memN 0 rfl)
                      have h11 : vals 11 = .slice a_v2 (List.length o1.1) c_v3 := hD 11 (memN 1 rfl)
                      have h12 : vals 12 = .int .i64 s8 := hD 12 (memN 2 rfl)
                      refine gl_convV (E2 := (51, .bool false) :: (52, .slice a_v2 (List.length o1.1) c_v3) :: (53, .int .i64 s8) :: ([] ++ E')) (V2 := [] ++ ([SL false 47 FiringS a_v2 c_v3 o1.1, SL false 47 FiringS a_v5 c_v6 o4.1] ++ [])) (by show (51, vals 10) :: (52, vals 11) :: (53, vals 12) :: ([] ++ E') = _; rw [h10, h11, h12]) (by show [] ++ ([SL false 47 FiringS a_v2 c_v3 o1.1, SL false 47 FiringS a_v5 c_v6 o4.1] ++ []) = _; rfl) ?_
                      refine gl_idxVn (k := .i64) (memV (mem_at 0 rfl)) rfl rfl Fs26 Fz47 hx13 rfl rfl ?_
                      intro p_ hp_
                      obtain rfl : p14 = p_ := Option.some.inj (hp14.symm.trans hp_)
                      refine gl_nil ?_
                      exact gx_fp (.pointer (some p14)) rfl rfl rfl rfl (fun _ h => h.sub (fun _ h => h) (st_oo (A := [])) (fun o ho => by cases ho))
                    · intro vals E' R' O' hD
                      have h10 : vals 10 = .bool false := hD 10 (memN 0 rfl)
                      have h13 : vals 13 = .pointer (some p14) := hD 13 (memN 1 rfl)
                      refine gl_convV (E2 := (51, .bool false) :: (54, .pointer (some p14)) :: ([] ++ E')) (V2 := [] ++ ([SL false 47 FiringS a_v2 c_v3 o1.1, SL false 47 FiringS a_v5 c_v6 o4.1] ++ [])) (by show (51, vals 10) :: (54, vals 13) :: ([] ++ E') = _; rw [h10, h13]) (by show [] ++ ([SL false 47 FiringS a_v2 c_v3 o1.1, SL false 47 FiringS a_v5 c_v6 o4.1] ++ []) = _; rfl) ?_
                      refine gl_run (v := .pointer (some p14)) rfl rfl rfl (fun w => by kernel_rfl) ?_
                      refine gl_nil ?_
                      exact gx_fp (.pointer (some p14)) rfl rfl rfl rfl (fun _ h => h.sub (fun _ h => h) (st_oo (A := [])) (fun o ho => by cases ho))
                    · intro vals E' R' O' hD
                      have h10 : vals 10 = .bool false := hD 10 (memN 0 rfl)
                      have h14 : vals 14 = .pointer (some p14) := hD 14 (memN 1 rfl)
                      refine gl_convV (E2 := (51, .bool false) :: (55, .pointer (some p14)) :: ([] ++ E')) (V2 := [] ++ ([SL false 47 FiringS a_v2 c_v3 o1.1, SL false 47 FiringS a_v5 c_v6 o4.1] ++ [])) (by show (51, vals 10) :: (55, vals 14) :: ([] ++ E') = _; rw [h10, h14]) (by show [] ++ ([SL false 47 FiringS a_v2 c_v3 o1.1, SL false 47 FiringS a_v5 c_v6 o4.1] ++ []) = _; rfl) ?_
                      refine gl_elemVn (memV (mem_at 0 rfl)) hx13 hp14 ?_
                      refine gl_ld1 0 hasAT (memV (mem_at 0 rfl)) rfl rfl Fo2 rfl rfl rfl ?_
                      refine gl_nil ?_
                      exact gx_fp (.int .i64 x13.Event) rfl rfl rfl rfl (fun _ h => h.sub (fun _ h => h) (st_oo (A := [])) (fun o ho => by cases ho))
                    · intro vals E' R' O' hD
                      have h10 : vals 10 = .bool false := hD 10 (memN 0 rfl)
                      refine gl_convV (E2 := (51, .bool false) :: ([(8, .slice a_v5 (List.length o4.1) c_v6)] ++ E')) (V2 := [] ++ ([SL false 47 FiringS a_v2 c_v3 o1.1, SL false 47 FiringS a_v5 c_v6 o4.1] ++ [])) (by show (51, vals 10) :: ([(8, .slice a_v5 (List.length o4.1) c_v6)] ++ E') = _; rw [h10]) (by show [] ++ ([SL false 47 FiringS a_v2 c_v3 o1.1, SL false 47 FiringS a_v5 c_v6 o4.1] ++ []) = _; rfl) ?_
                      refine gl_batch 1 [(57, .slice a_v5 (List.length o4.1) c_v6)] rfl ?_
                      refine gl_nil ?_
                      exact gx_fp (.slice a_v5 (List.length o4.1) c_v6) rfl rfl rfl rfl (fun _ h => h.sub (fun _ h => h) (st_oo (A := [])) (fun o ho => by cases ho))
                    · intro vals E' R' O' hD
                      have h10 : vals 10 = .bool false := hD 10 (memN 0 rfl)
                      refine gl_convV (E2 := (51, .bool false) :: ([(10, .int .i64 s8)] ++ E')) (V2 := [] ++ ([SL false 47 FiringS a_v2 c_v3 o1.1, SL false 47 FiringS a_v5 c_v6 o4.1] ++ [])) (by show (51, vals 10) :: ([(10, .int .i64 s8)] ++ E') = _; rw [h10]) (by show [] ++ ([SL false 47 FiringS a_v2 c_v3 o1.1, SL false 47 FiringS a_v5 c_v6 o4.1] ++ []) = _; rfl) ?_
                      refine gl_batch 1 [(58, .int .i64 s8)] rfl ?_
                      refine gl_nil ?_
                      exact gx_fp (.int .i64 s8) rfl rfl rfl rfl (fun _ h => h.sub (fun _ h => h) (st_oo (A := [])) (fun o ho => by cases ho))
                    · intro vals E' R' O' hD
                      have h10 : vals 10 = .bool false := hD 10 (memN 0 rfl)
                      have h16 : vals 16 = .slice a_v5 (List.length o4.1) c_v6 := hD 16 (memN 1 rfl)
                      have h17 : vals 17 = .int .i64 s8 := hD 17 (memN 2 rfl)
                      refine gl_convV (E2 := (51, .bool false) :: (57, .slice a_v5 (List.length o4.1) c_v6) :: (58, .int .i64 s8) :: ([] ++ E')) (V2 := [] ++ ([SL false 47 FiringS a_v2 c_v3 o1.1, SL false 47 FiringS a_v5 c_v6 o4.1] ++ [])) (by show (51, vals 10) :: (57, vals 16) :: (58, vals 17) :: ([] ++ E') = _; rw [h10, h16, h17]) (by show [] ++ ([SL false 47 FiringS a_v2 c_v3 o1.1, SL false 47 FiringS a_v5 c_v6 o4.1] ++ []) = _; rfl) ?_
                      refine gl_idxVn (k := .i64) (memV (mem_at 1 rfl)) rfl rfl Fs26 Fz47 hx15 rfl rfl ?_
                      intro p_ hp_
                      obtain rfl : p16 = p_ := Option.some.inj (hp16.symm.trans hp_)
                      refine gl_nil ?_
                      exact gx_fp (.pointer (some p16)) rfl rfl rfl rfl (fun _ h => h.sub (fun _ h => h) (st_oo (A := [])) (fun o ho => by cases ho))
                    · intro vals E' R' O' hD
                      have h10 : vals 10 = .bool false := hD 10 (memN 0 rfl)
                      have h18 : vals 18 = .pointer (some p16) := hD 18 (memN 1 rfl)
                      refine gl_convV (E2 := (51, .bool false) :: (59, .pointer (some p16)) :: ([] ++ E')) (V2 := [] ++ ([SL false 47 FiringS a_v2 c_v3 o1.1, SL false 47 FiringS a_v5 c_v6 o4.1] ++ [])) (by show (51, vals 10) :: (59, vals 18) :: ([] ++ E') = _; rw [h10, h18]) (by show [] ++ ([SL false 47 FiringS a_v2 c_v3 o1.1, SL false 47 FiringS a_v5 c_v6 o4.1] ++ []) = _; rfl) ?_
                      refine gl_run (v := .pointer (some p16)) rfl rfl rfl (fun w => by kernel_rfl) ?_
                      refine gl_nil ?_
                      exact gx_fp (.pointer (some p16)) rfl rfl rfl rfl (fun _ h => h.sub (fun _ h => h) (st_oo (A := [])) (fun o ho => by cases ho))
                    · intro vals E' R' O' hD
                      have h10 : vals 10 = .bool false := hD 10 (memN 0 rfl)
                      have h19 : vals 19 = .pointer (some p16) := hD 19 (memN 1 rfl)
                      refine gl_convV (E2 := (51, .bool false) :: (60, .pointer (some p16)) :: ([] ++ E')) (V2 := [] ++ ([SL false 47 FiringS a_v2 c_v3 o1.1, SL false 47 FiringS a_v5 c_v6 o4.1] ++ [])) (by show (51, vals 10) :: (60, vals 19) :: ([] ++ E') = _; rw [h10, h19]) (by show [] ++ ([SL false 47 FiringS a_v2 c_v3 o1.1, SL false 47 FiringS a_v5 c_v6 o4.1] ++ []) = _; rfl) ?_
                      refine gl_elemVn (memV (mem_at 1 rfl)) hx15 hp16 ?_
                      refine gl_ld1 0 hasAT (memV (mem_at 0 rfl)) rfl rfl Fo2 rfl rfl rfl ?_
                      refine gl_nil ?_
                      exact gx_fp (.int .i64 x15.Event) rfl rfl rfl rfl (fun _ h => h.sub (fun _ h => h) (st_oo (A := [])) (fun o ho => by cases ho))
                    · intro vals E' R' O' hD
                      have h10 : vals 10 = .bool false := hD 10 (memN 0 rfl)
                      have h15 : vals 15 = .int .i64 x13.Event := hD 15 (memN 1 rfl)
                      have h20 : vals 20 = .int .i64 x15.Event := hD 20 (memN 2 rfl)
                      refine gl_convV (E2 := (51, .bool false) :: (56, .int .i64 x13.Event) :: (61, .int .i64 x15.Event) :: ([] ++ E')) (V2 := [] ++ ([SL false 47 FiringS a_v2 c_v3 o1.1, SL false 47 FiringS a_v5 c_v6 o4.1] ++ [])) (by show (51, vals 10) :: (56, vals 15) :: (61, vals 20) :: ([] ++ E') = _; rw [h10, h15, h20]) (by show [] ++ ([SL false 47 FiringS a_v2 c_v3 o1.1, SL false 47 FiringS a_v5 c_v6 o4.1] ++ []) = _; rfl) ?_
                      refine gl_batch 1 [(62, .bool (x13.Event != x15.Event))] rfl ?_
                      refine gl_nil ?_
                      exact gx_fp (.bool (x13.Event != x15.Event)) rfl rfl rfl rfl (fun _ h => h.sub (fun _ h => h) (st_oo (A := [])) (fun o ho => by cases ho))
                    · intro vals E' R' O' hD
                      have h10 : vals 10 = .bool false := hD 10 (memN 0 rfl)
                      have h21 : vals 21 = .bool (x13.Event != x15.Event) := hD 21 (memN 1 rfl)
                      refine gl_convV (E2 := (51, .bool false) :: (62, .bool (x13.Event != x15.Event)) :: ([] ++ E')) (V2 := [] ++ ([SL false 47 FiringS a_v2 c_v3 o1.1, SL false 47 FiringS a_v5 c_v6 o4.1] ++ [])) (by show (51, vals 10) :: (62, vals 21) :: ([] ++ E') = _; rw [h10, h21]) (by show [] ++ ([SL false 47 FiringS a_v2 c_v3 o1.1, SL false 47 FiringS a_v5 c_v6 o4.1] ++ []) = _; rfl) ?_
                      refine gl_batch 1 [(63, .bool (x13.Event != x15.Event))] rfl ?_
                      refine gl_nil ?_
                      exact gx_fp (.bool (x13.Event != x15.Event)) rfl rfl rfl rfl (fun _ h => h.sub (fun _ h => h) (st_oo (A := [])) (fun o ho => by cases ho))
                    · intro vals E' R' O' hD
                      have h22 : vals 22 = .bool (x13.Event != x15.Event) := hD 22 (memN 0 rfl)
                      refine gl_convV (E2 := (63, .bool (x13.Event != x15.Event)) :: ([] ++ E')) (V2 := [] ++ ([SL false 47 FiringS a_v2 c_v3 o1.1, SL false 47 FiringS a_v5 c_v6 o4.1] ++ [])) (by show (63, vals 22) :: ([] ++ E') = _; rw [h22]) (by show [] ++ ([SL false 47 FiringS a_v2 c_v3 o1.1, SL false 47 FiringS a_v5 c_v6 o4.1] ++ []) = _; rfl) ?_
                      refine gl_batch 1 [(64, .bool (x13.Event != x15.Event))] rfl ?_
                      refine gl_nil ?_
                      exact gx_fp (.bool true) rfl rfl (congrArg (fun z => some (Value.bool z)) hg17) rfl (fun _ h => h.sub (fun _ h => h) (st_oo (A := [])) (fun o ho => by cases ho))
                    · intro vals E' R' O' hD
                      have h23 : vals 23 = .bool true := hD 23 (memN 0 rfl)
                      refine gl_convV (E2 := (64, .bool true) :: ([] ++ E')) (V2 := [] ++ ([SL false 47 FiringS a_v2 c_v3 o1.1, SL false 47 FiringS a_v5 c_v6 o4.1] ++ [])) (by show (64, vals 23) :: ([] ++ E') = _; rw [h23]) (by show [] ++ ([SL false 47 FiringS a_v2 c_v3 o1.1, SL false 47 FiringS a_v5 c_v6 o4.1] ++ []) = _; rfl) ?_
                      refine gl_batch 1 [(65, undef)] rfl ?_
                      refine gl_nil ?_
                      exact gx_fp (undef) rfl rfl rfl rfl (fun _ h => h.sub (fun _ h => h) (st_oo (A := [])) (fun o ho => by cases ho))
                    · intro vals E' R' O' hD
                      have h23 : vals 23 = .bool true := hD 23 (memN 0 rfl)
                      refine gl_convV (E2 := (64, .bool true) :: ([] ++ E')) (V2 := [] ++ ([SL false 47 FiringS a_v2 c_v3 o1.1, SL false 47 FiringS a_v5 c_v6 o4.1] ++ [])) (by show (64, vals 23) :: ([] ++ E') = _; rw [h23]) (by show [] ++ ([SL false 47 FiringS a_v2 c_v3 o1.1, SL false 47 FiringS a_v5 c_v6 o4.1] ++ []) = _; rfl) ?_
                      refine gl_batch 1 [(66, undef)] rfl ?_
                      refine gl_nil ?_
                      exact gx_fp (undef) rfl rfl rfl rfl (fun _ h => h.sub (fun _ h => h) (st_oo (A := [])) (fun o ho => by cases ho))
                    · intro vals E' R' O' hD
                      have h23 : vals 23 = .bool true := hD 23 (memN 0 rfl)
                      refine gl_convV (E2 := (64, .bool true) :: ([] ++ E')) (V2 := [] ++ ([SL false 47 FiringS a_v2 c_v3 o1.1, SL false 47 FiringS a_v5 c_v6 o4.1] ++ [])) (by show (64, vals 23) :: ([] ++ E') = _; rw [h23]) (by show [] ++ ([SL false 47 FiringS a_v2 c_v3 o1.1, SL false 47 FiringS a_v5 c_v6 o4.1] ++ []) = _; rfl) ?_
                      refine gl_batch 1 [(67, undef)] rfl ?_
                      refine gl_nil ?_
                      exact gx_fp (undef) rfl rfl rfl rfl (fun _ h => h.sub (fun _ h => h) (st_oo (A := [])) (fun o ho => by cases ho))
                    · intro vals E' R' O' hD
                      have h23 : vals 23 = .bool true := hD 23 (memN 0 rfl)
                      refine gl_convV (E2 := (64, .bool true) :: ([] ++ E')) (V2 := [] ++ ([SL false 47 FiringS a_v2 c_v3 o1.1, SL false 47 FiringS a_v5 c_v6 o4.1] ++ [])) (by show (64, vals 23) :: ([] ++ E') = _; rw [h23]) (by show [] ++ ([SL false 47 FiringS a_v2 c_v3 o1.1, SL false 47 FiringS a_v5 c_v6 o4.1] ++ []) = _; rfl) ?_
                      refine gl_batch 1 [(68, undef)] rfl ?_
                      refine gl_nil ?_
                      exact gx_fp (undef) rfl rfl rfl rfl (fun _ h => h.sub (fun _ h => h) (st_oo (A := [])) (fun o ho => by cases ho))
                    · intro vals E' R' O' hD
                      have h23 : vals 23 = .bool true := hD 23 (memN 0 rfl)
                      refine gl_convV (E2 := (64, .bool true) :: ([] ++ E')) (V2 := [] ++ ([SL false 47 FiringS a_v2 c_v3 o1.1, SL false 47 FiringS a_v5 c_v6 o4.1] ++ [])) (by show (64, vals 23) :: ([] ++ E') = _; rw [h23]) (by show [] ++ ([SL false 47 FiringS a_v2 c_v3 o1.1, SL false 47 FiringS a_v5 c_v6 o4.1] ++ []) = _; rfl) ?_
                      refine gl_batch 1 [(69, undef)] rfl ?_
                      refine gl_nil ?_
                      exact gx_fp (undef) rfl rfl rfl rfl (fun _ h => h.sub (fun _ h => h) (st_oo (A := [])) (fun o ho => by cases ho))
                    · intro vals E' R' O' hD
                      have h23 : vals 23 = .bool true := hD 23 (memN 0 rfl)
                      refine gl_convV (E2 := (64, .bool true) :: ([] ++ E')) (V2 := [] ++ ([SL false 47 FiringS a_v2 c_v3 o1.1, SL false 47 FiringS a_v5 c_v6 o4.1] ++ [])) (by show (64, vals 23) :: ([] ++ E') = _; rw [h23]) (by show [] ++ ([SL false 47 FiringS a_v2 c_v3 o1.1, SL false 47 FiringS a_v5 c_v6 o4.1] ++ []) = _; rfl) ?_
                      refine gl_batch 1 [(70, undef)] rfl ?_
                      refine gl_nil ?_
                      exact gx_fp (undef) rfl rfl rfl rfl (fun _ h => h.sub (fun _ h => h) (st_oo (A := [])) (fun o ho => by cases ho))
                    · intro vals E' R' O' hD
                      have h23 : vals 23 = .bool true := hD 23 (memN 0 rfl)
                      refine gl_convV (E2 := (64, .bool true) :: ([] ++ E')) (V2 := [] ++ ([SL false 47 FiringS a_v2 c_v3 o1.1, SL false 47 FiringS a_v5 c_v6 o4.1] ++ [])) (by show (64, vals 23) :: ([] ++ E') = _; rw [h23]) (by show [] ++ ([SL false 47 FiringS a_v2 c_v3 o1.1, SL false 47 FiringS a_v5 c_v6 o4.1] ++ []) = _; rfl) ?_
                      refine gl_batch 1 [(71, undef)] rfl ?_
                      refine gl_nil ?_
                      exact gx_fp (undef) rfl rfl rfl rfl (fun _ h => h.sub (fun _ h => h) (st_oo (A := [])) (fun o ho => by cases ho))
                    · intro vals E' R' O' hD
                      have h23 : vals 23 = .bool true := hD 23 (memN 0 rfl)
                      refine gl_convV (E2 := (64, .bool true) :: ([] ++ E')) (V2 := [] ++ ([SL false 47 FiringS a_v2 c_v3 o1.1, SL false 47 FiringS a_v5 c_v6 o4.1] ++ [])) (by show (64, vals 23) :: ([] ++ E') = _; rw [h23]) (by show [] ++ ([SL false 47 FiringS a_v2 c_v3 o1.1, SL false 47 FiringS a_v5 c_v6 o4.1] ++ []) = _; rfl) ?_
                      refine gl_batch 1 [(72, undef)] rfl ?_
                      refine gl_nil ?_
                      exact gx_fp (undef) rfl rfl rfl rfl (fun _ h => h.sub (fun _ h => h) (st_oo (A := [])) (fun o ho => by cases ho))
                    · intro vals E' R' O' hD
                      have h23 : vals 23 = .bool true := hD 23 (memN 0 rfl)
                      refine gl_convV (E2 := (64, .bool true) :: ([] ++ E')) (V2 := [] ++ ([SL false 47 FiringS a_v2 c_v3 o1.1, SL false 47 FiringS a_v5 c_v6 o4.1] ++ [])) (by show (64, vals 23) :: ([] ++ E') = _; rw [h23]) (by show [] ++ ([SL false 47 FiringS a_v2 c_v3 o1.1, SL false 47 FiringS a_v5 c_v6 o4.1] ++ []) = _; rfl) ?_
                      refine gl_batch 1 [(73, undef)] rfl ?_
                      refine gl_nil ?_
                      exact gx_fp (undef) rfl rfl rfl rfl (fun _ h => h.sub (fun _ h => h) (st_oo (A := [])) (fun o ho => by cases ho))
                    · intro vals E' R' O' hD
                      have h23 : vals 23 = .bool true := hD 23 (memN 0 rfl)
                      refine gl_convV (E2 := (64, .bool true) :: ([] ++ E')) (V2 := [] ++ ([SL false 47 FiringS a_v2 c_v3 o1.1, SL false 47 FiringS a_v5 c_v6 o4.1] ++ [])) (by show (64, vals 23) :: ([] ++ E') = _; rw [h23]) (by show [] ++ ([SL false 47 FiringS a_v2 c_v3 o1.1, SL false 47 FiringS a_v5 c_v6 o4.1] ++ []) = _; rfl) ?_
                      refine gl_batch 1 [(74, undef)] rfl ?_
                      refine gl_nil ?_
                      exact gx_fp (undef) rfl rfl rfl rfl (fun _ h => h.sub (fun _ h => h) (st_oo (A := [])) (fun o ho => by cases ho))
                    · intro vals E' R' O' hD
                      have h23 : vals 23 = .bool true := hD 23 (memN 0 rfl)
                      refine gl_convV (E2 := (64, .bool true) :: ([] ++ E')) (V2 := [] ++ ([SL false 47 FiringS a_v2 c_v3 o1.1, SL false 47 FiringS a_v5 c_v6 o4.1] ++ [])) (by show (64, vals 23) :: ([] ++ E') = _; rw [h23]) (by show [] ++ ([SL false 47 FiringS a_v2 c_v3 o1.1, SL false 47 FiringS a_v5 c_v6 o4.1] ++ []) = _; rfl) ?_
                      refine gl_batch 1 [(75, undef)] rfl ?_
                      refine gl_nil ?_
                      exact gx_fp (undef) rfl rfl rfl rfl (fun _ h => h.sub (fun _ h => h) (st_oo (A := [])) (fun o ho => by cases ho))
                    · intro vals E' R' O' hD
                      have h23 : vals 23 = .bool true := hD 23 (memN 0 rfl)
                      have h34 : vals 34 = undef := hD 34 (memN 1 rfl)
                      refine gl_convV (E2 := (64, .bool true) :: (75, undef) :: ([] ++ E')) (V2 := [] ++ ([SL false 47 FiringS a_v2 c_v3 o1.1, SL false 47 FiringS a_v5 c_v6 o4.1] ++ [])) (by show (64, vals 23) :: (75, vals 34) :: ([] ++ E') = _; rw [h23, h34]) (by show [] ++ ([SL false 47 FiringS a_v2 c_v3 o1.1, SL false 47 FiringS a_v5 c_v6 o4.1] ++ []) = _; rfl) ?_
                      refine gl_batch 1 [(76, .bool true)] rfl ?_
                      refine gl_nil ?_
                      exact gx_fp (.bool true) rfl rfl rfl rfl (fun _ h => h.sub (fun _ h => h) (st_oo (A := [])) (fun o ho => by cases ho))
                    · intro vals hv
                      obtain ⟨⟨⟨⟨⟨⟨⟨⟨⟨⟨⟨⟨⟨⟨⟨⟨⟨⟨⟨⟨⟨⟨⟨⟨⟨⟨⟨⟨⟨⟨⟨⟨⟨⟨⟨⟨_, h0⟩, h1⟩, h2⟩, h3⟩, h4⟩, h5⟩, h6⟩, h7⟩, h8⟩, h9⟩, h10⟩, h11⟩, h12⟩, h13⟩, h14⟩, h15⟩, h16⟩, h17⟩, h18⟩, h19⟩, h20⟩, h21⟩, h22⟩, h23⟩, h24⟩, h25⟩, h26⟩, h27⟩, h28⟩, h29⟩, h30⟩, h31⟩, h32⟩, h33⟩, h34⟩, h35⟩ := hv
                      have h0 : vals 0 = .int .i64 s8 := h0
                      have h1 : vals 1 = .slice a_v2 (List.length o1.1) c_v3 := h1
                      have h2 : vals 2 = .int .i64 (List.length o1.1 : Int) := h2
                      have h3 : vals 3 = .bool (decide (s8 ≥ (List.length o1.1 : Int))) := h3
                      have h4 : vals 4 = .bool false := h4
                      have h5 : vals 5 = .int .i64 s8 := h5
                      have h6 : vals 6 = .slice a_v5 (List.length o4.1) c_v6 := h6
                      have h7 : vals 7 = .int .i64 (List.length o4.1 : Int) := h7
                      have h8 : vals 8 = .bool (decide (s8 ≥ (List.length o4.1 : Int))) := h8
                      have h9 : vals 9 = .bool (decide (s8 ≥ (List.length o4.1 : Int))) := h9
                      have h10 : vals 10 = .bool false := h10
                      have h11 : vals 11 = .slice a_v2 (List.length o1.1) c_v3 := h11
                      have h12 : vals 12 = .int .i64 s8 := h12
                      have h13 : vals 13 = .pointer (some p14) := h13
                      have h14 : vals 14 = .pointer (some p14) := h14
                      have h15 : vals 15 = .int .i64 x13.Event := h15
                      have h16 : vals 16 = .slice a_v5 (List.length o4.1) c_v6 := h16
                      have h17 : vals 17 = .int .i64 s8 := h17
                      have h18 : vals 18 = .pointer (some p16) := h18
                      have h19 : vals 19 = .pointer (some p16) := h19
                      have h20 : vals 20 = .int .i64 x15.Event := h20
                      have h21 : vals 21 = .bool (x13.Event != x15.Event) := h21
                      have h22 : vals 22 = .bool (x13.Event != x15.Event) := h22
                      have h23 : vals 23 = .bool true := h23
                      have h24 : vals 24 = undef := h24
                      have h25 : vals 25 = undef := h25
                      have h26 : vals 26 = undef := h26
                      have h27 : vals 27 = undef := h27
                      have h28 : vals 28 = undef := h28
                      have h29 : vals 29 = undef := h29
                      have h30 : vals 30 = undef := h30
                      have h31 : vals 31 = undef := h31
                      have h32 : vals 32 = undef := h32
                      have h33 : vals 33 = undef := h33
                      have h34 : vals 34 = undef := h34
                      have h35 : vals 35 = .bool true := h35
                      refine gl_conv (E2 := (41, .int .i64 s8) :: (42, .slice a_v2 (List.length o1.1) c_v3) :: (43, .int .i64 (List.length o1.1 : Int)) :: (44, .bool (decide (s8 ≥ (List.length o1.1 : Int)))) :: (45, .bool false) :: (46, .int .i64 s8) :: (47, .slice a_v5 (List.length o4.1) c_v6) :: (48, .int .i64 (List.length o4.1 : Int)) :: (49, .bool (decide (s8 ≥ (List.length o4.1 : Int)))) :: (50, .bool (decide (s8 ≥ (List.length o4.1 : Int)))) :: (51, .bool false) :: (52, .slice a_v2 (List.length o1.1) c_v3) :: (53, .int .i64 s8) :: (54, .pointer (some p14)) :: (55, .pointer (some p14)) :: (56, .int .i64 x13.Event) :: (57, .slice a_v5 (List.length o4.1) c_v6) :: (58, .int .i64 s8) :: (59, .pointer (some p16)) :: (60, .pointer (some p16)) :: (61, .int .i64 x15.Event) :: (62, .bool (x13.Event != x15.Event)) :: (63, .bool (x13.Event != x15.Event)) :: (64, .bool true) :: (65, undef) :: (66, undef) :: (67, undef) :: (68, undef) :: (69, undef) :: (70, undef) :: (71, undef) :: (72, undef) :: (73, undef) :: (74, undef) :: (75, undef) :: (76, .bool true) :: [(6, .slice a_v2 (List.length o1.1) c_v3), (8, .slice a_v5 (List.length o4.1) c_v6), (10, .int .i64 s8)]) (R2 := [] ++ ([] ++ [SL false 47 FiringS a_v2 c_v3 o1.1, SL false 47 FiringS a_v5 c_v6 o4.1])) (O2 := [] ++ []) (by show (41, vals 0) :: (42, vals 1) :: (43, vals 2) :: (44, vals 3) :: (45, vals 4) :: (46, vals 5) :: (47, vals 6) :: (48, vals 7) :: (49, vals 8) :: (50, vals 9) :: (51, vals 10) :: (52, vals 11) :: (53, vals 12) :: (54, vals 13) :: (55, vals 14) :: (56, vals 15) :: (57, vals 16) :: (58, vals 17) :: (59, vals 18) :: (60, vals 19) :: (61, vals 20) :: (62, vals 21) :: (63, vals 22) :: (64, vals 23) :: (65, vals 24) :: (66, vals 25) :: (67, vals 26) :: (68, vals 27) :: (69, vals 28) :: (70, vals 29) :: (71, vals 30) :: (72, vals 31) :: (73, vals 32) :: (74, vals 33) :: (75, vals 34) :: (76, vals 35) :: [(6, .slice a_v2 (List.length o1.1) c_v3), (8, .slice a_v5 (List.length o4.1) c_v6), (10, .int .i64 s8)] = _; rw [h0, h1, h2, h3, h4, h5, h6, h7, h8, h9, h10, h11, h12, h13, h14, h15, h16, h17, h18, h19, h20, h21, h22, h23, h24, h25, h26, h27, h28, h29, h30, h31, h32, h33, h34, h35]) (by show [] ++ ([] ++ [SL false 47 FiringS a_v2 c_v3 o1.1, SL false 47 FiringS a_v5 c_v6 o4.1]) = _; rfl) rfl ?_
                      refine gl_nil ?_
                      obtain rfl := Option.some.inj h
                      exact gx_of (fun a w hE hS => ⟨rfl, hE.sub ⟨rfl, rfl, rfl, rfl, trivial⟩, (hS.take 2).facts _ _ [] (consItem (mem_at 0 rfl) (consItem (mem_at 1 rfl) (consItem (mem_at 2 rfl) (consItem (mem_at 3 rfl) noItem)))) noItem noItem⟩)
                  · replace h := condF hg17 h
                    obtain ⟨x18, hx18, h⟩ := bindS h
                    refine g_elemn (mem_at 0 rfl) hx18 ?_
                    intro p19 hp19
                    obtain ⟨x20, hx20, h⟩ := bindS h
                    refine g_elemn (mem_at 1 rfl) hx20 ?_
                    intro p21 hp21
                    refine g_state (E' := [(6, .slice a_v2 (List.length o1.1) c_v3), (8, .slice a_v5 (List.length o4.1) c_v6), (10, .int .i64 s8)]) (Rs' := [] ++ [SL false 47 FiringS a_v2 c_v3 o1.1, SL false 47 FiringS a_v5 c_v6 o4.1]) (Xs' := [gTab 3 pow10C, gNum 0, gErr 1, gErr 2]) (Os' := []) (Vs' := []) ⟨rfl, rfl, rfl, trivial⟩ (fun w hS => hS) ?_
                    refine g_draw (Rs := [SL false 47 FiringS a_v2 c_v3 o1.1, SL false 47 FiringS a_v5 c_v6 o4.1]) 36 (dOf [[], [], [1], [0, 2], [3], [4], [4], [4, 6], [4, 5, 7], [4, 8], [9], [10], [10], [10, 11, 12], [10, 13], [10, 14], [10], [10], [10, 16, 17], [10, 18], [10, 19], [10, 15, 20], [10, 21], [22], [23], [23], [23, 24, 25], [23, 26], [23, 27], [23], [23], [23, 29, 30], [23, 31], [23, 32], [23, 28, 33], [23, 34]]) (spOf [det 0 (.int .i64 s8), det 1 (.slice a_v2 (List.length o1.1) c_v3), det 2 (.int .i64 (List.length o1.1 : Int)), det 3 (.bool (decide (s8 ≥ (List.length o1.1 : Int)))), det 4 (.bool false), det 5 (.int .i64 s8), det 6 (.slice a_v5 (List.length o4.1) c_v6), det 7 (.int .i64 (List.length o4.1 : Int)), det 8 (.bool (decide (s8 ≥ (List.length o4.1 : Int)))), det 9 (.bool (decide (s8 ≥ (List.length o4.1 : Int)))), det 10 (.bool false), det 11 (.slice a_v2 (List.length o1.1) c_v3), det 12 (.int .i64 s8), det 13 (.pointer (some p14)), det 14 (.pointer (some p14)), det 15 (.int .i64 x13.Event), det 16 (.slice a_v5 (List.length o4.1) c_v6), det 17 (.int .i64 s8), det 18 (.pointer (some p16)), det 19 (.pointer (some p16)), det 20 (.int .i64 x15.Event), det 21 (.bool (x13.Event != x15.Event)), det 22 (.bool (x13.Event != x15.Event)), det 23 (.bool false), det 24 (.slice a_v2 (List.length o1.1) c_v3), det 25 (.int .i64 s8), det 26 (.pointer (some p19)), det 27 (.pointer (some (Addr.add p19 2))), det 28 (.int .i64 x18.Time), det 29 (.slice a_v5 (List.length o4.1) c_v6), det 30 (.int .i64 s8), det 31 (.pointer (some p21)), det 32 (.pointer (some (Addr.add p21 2))), det 33 (.int .i64 x20.Time), det 34 (.bool (x18.Time != x20.Time)), det 35 (.bool (x18.Time != x20.Time))]) [] (fun _ _ => []) (eOf [[(10, .int .i64 s8)], [(6, .slice a_v2 (List.length o1.1) c_v3)], [], [], [], [(10, .int .i64 s8)], [(8, .slice a_v5 (List.length o4.1) c_v6)], [], [], [], [], [(6, .slice a_v2 (List.length o1.1) c_v3)], [(10, .int .i64 s8)], [], [], [], [(8, .slice a_v5 (List.length o4.1) c_v6)], [(10, .int .i64 s8)], [], [], [], [], [], [], [(6, .slice a_v2 (List.length o1.1) c_v3)], [(10, .int .i64 s8)], [], [], [], [(8, .slice a_v5 (List.length o4.1) c_v6)], [(10, .int .i64 s8)], [], [], [], [], []]) mixed rfl (Or.inl rfl) ⟨⟨⟨⟨⟨⟨⟨⟨⟨⟨⟨⟨⟨⟨⟨⟨⟨⟨⟨⟨⟨⟨⟨⟨⟨⟨⟨⟨⟨⟨⟨⟨⟨⟨⟨⟨trivial, ⟨rfl, trivial⟩⟩, ⟨rfl, trivial⟩⟩, trivial⟩, trivial⟩, trivial⟩, ⟨rfl, trivial⟩⟩, ⟨rfl, trivial⟩⟩, trivial⟩, trivial⟩, trivial⟩, trivial⟩, ⟨rfl, trivial⟩⟩, ⟨rfl, trivial⟩⟩, trivial⟩, trivial⟩, trivial⟩, ⟨rfl, trivial⟩⟩, ⟨rfl, trivial⟩⟩, trivial⟩, trivial⟩, trivial⟩, trivial⟩, trivial⟩, trivial⟩, ⟨rfl, trivial⟩⟩, ⟨rfl, trivial⟩⟩, trivial⟩, trivial⟩, trivial⟩, ⟨rfl, trivial⟩⟩, ⟨rfl, trivial⟩⟩, trivial⟩, trivial⟩, trivial⟩, trivial⟩, trivial⟩ rfl ⟨⟨⟨⟨⟨⟨⟨⟨⟨⟨⟨⟨⟨⟨⟨⟨⟨⟨⟨⟨⟨⟨⟨⟨⟨⟨⟨⟨⟨⟨⟨⟨⟨⟨⟨⟨trivial, ?_⟩, ?_⟩, ?_⟩, ?_⟩, ?_⟩, ?_⟩, ?_⟩, ?_⟩, ?_⟩, ?_⟩, ?_⟩, ?_⟩, ?_⟩, ?_⟩, ?_⟩, ?_⟩, ?_⟩, ?_⟩, ?_⟩, ?_⟩, ?_⟩, ?_⟩, ?_⟩, ?_⟩, ?_⟩, ?_⟩, ?_⟩, ?_⟩, ?_⟩, ?_⟩, ?_⟩, ?_⟩, ?_⟩, ?_⟩, ?_⟩, ?_⟩ ?_
                    · intro vals E' R' O' hD
                      refine gl_batch 1 [(41, .int .i64 s8)] rfl ?_
                      refine gl_nil ?_
                      exact gx_fp (.int .i64 s8) rfl rfl rfl rfl (fun _ h => h.sub (fun _ h => h) (st_oo (A := [])) (fun o ho => by cases ho))
                    · intro vals E' R' O' hD
                      refine gl_batch 1 [(42, .slice a_v2 (List.length o1.1) c_v3)] rfl ?_
                      refine gl_nil ?_
                      exact gx_fp (.slice a_v2 (List.length o1.1) c_v3) rfl rfl rfl rfl (fun _ h => h.sub (fun _ h => h) (st_oo (A := [])) (fun o ho => by cases ho))
                    · intro vals E' R' O' hD
                      have h1 : vals 1 = .slice a_v2 (List.length o1.1) c_v3 := hD 1 (memN 0 rfl)
                      refine gl_convV (E2 := (42, .slice a_v2 (List.length o1.1) c_v3) :: ([] ++ E')) (V2 := [] ++ ([SL false 47 FiringS a_v2 c_v3 o1.1, SL false 47 FiringS a_v5 c_v6 o4.1] ++ [])) (by show (42, vals 1) :: ([] ++ E') = _; rw [h1]) (by show [] ++ ([SL false 47 FiringS a_v2 c_v3 o1.1, SL false 47 FiringS a_v5 c_v6 o4.1] ++ []) = _; rfl) ?_
                      refine gl_len rfl Fs26 rfl rfl ?_
                      refine gl_nil ?_
                      exact gx_fp (.int .i64 (List.length o1.1 : Int)) rfl rfl rfl rfl (fun _ h => h.sub (fun _ h => h) (st_oo (A := [])) (fun o ho => by cases ho))
                    · intro vals E' R' O' hD
                      have h0 : vals 0 = .int .i64 s8 := hD 0 (memN 0 rfl)
                      have h2 : vals 2 = .int .i64 (List.length o1.1 : Int) := hD 2 (memN 1 rfl)
                      refine gl_convV (E2 := (41, .int .i64 s8) :: (43, .int .i64 (List.length o1.1 : Int)) :: ([] ++ E')) (V2 := [] ++ ([SL false 47 FiringS a_v2 c_v3 o1.1, SL false 47 FiringS a_v5 c_v6 o4.1] ++ [])) (by show (41, vals 0) :: (43, vals 2) :: ([] ++ E') = _; rw [h0, h2]) (by show [] ++ ([SL false 47 FiringS a_v2 c_v3 o1.1, SL false 47 FiringS a_v5 c_v6 o4.1] ++ []) = _; rfl) ?_
                      refine gl_batch 1 [(44, .bool (decide (s8 ≥ (List.length o1.1 : Int))))] rfl ?_
                      refine gl_nil ?_
                      exact gx_fp (.bool (decide (s8 ≥ (List.length o1.1 : Int)))) rfl rfl rfl rfl (fun _ h => h.sub (fun _ h => h) (st_oo (A := [])) (fun o ho => by cases ho))
                    · intro vals E' R' O' hD
                      have h3 : vals 3 = .bool (decide (s8 ≥ (List.length o1.1 : Int))) := hD 3 (memN 0 rfl)
                      refine gl_convV (E2 := (44, .bool (decide (s8 ≥ (List.length o1.1 : Int)))) :: ([] ++ E')) (V2 := [] ++ ([SL false 47 FiringS a_v2 c_v3 o1.1, SL false 47 FiringS a_v5 c_v6 o4.1] ++ [])) (by show (44, vals 3) :: ([] ++ E') = _; rw [h3]) (by show [] ++ ([SL false 47 FiringS a_v2 c_v3 o1.1, SL false 47 FiringS a_v5 c_v6 o4.1] ++ []) = _; rfl) ?_
                      refine gl_batch 1 [(45, .bool (decide (s8 ≥ (List.length o1.1 : Int))))] rfl ?_
                      refine gl_nil ?_
                      exact gx_fp (.bool false) rfl rfl (congrArg (fun z => some (Value.bool z)) hg11) rfl (fun _ h => h.sub (fun _ h => h) (st_oo (A := [])) (fun o ho => by cases ho))
                    · intro vals E' R' O' hD
                      have h4 : vals 4 = .bool false := hD 4 (memN 0 rfl)
                      refine gl_convV (E2 := (45, .bool false) :: ([(10, .int .i64 s8)] ++ E')) (V2 := [] ++ ([SL false 47 FiringS a_v2 c_v3 o1.1, SL false 47 FiringS a_v5 c_v6 o4.1] ++ [])) (by show (45, vals 4) :: ([(10, .int .i64 s8)] ++ E') = _; rw [h4]) (by show [] ++ ([SL false 47 FiringS a_v2 c_v3 o1.1, SL false 47 FiringS a_v5 c_v6 o4.1] ++ []) = _; rfl) ?_
                      refine gl_batch 1 [(46, .int .i64 s8)] rfl ?_
                      refine gl_nil ?_
                      exact gx_fp (.int .i64 s8) rfl rfl rfl rfl (fun _ h => h.sub (fun _ h => h) (st_oo (A := [])) (fun o ho => by cases ho))
                    · intro vals E' R' O' hD
                      have h4 : vals 4 = .bool false := hD 4 (memN 0 rfl)
                      refine gl_convV (E2 := (45, .bool false) :: ([(8, .slice a_v5 (List.length o4.1) c_v6)] ++ E')) (V2 := [] ++ ([SL false 47 FiringS a_v2 c_v3 o1.1, SL false 47 FiringS a_v5 c_v6 o4.1] ++ [])) (by show (45, vals 4) :: ([(8, .slice a_v5 (List.length o4.1) c_v6)] ++ E') = _; rw [h4]) (by show [] ++ ([SL false 47 FiringS a_v2 c_v3 o1.1, SL false 47 FiringS a_v5 c_v6 o4.1] ++ []) = _; rfl) ?_
                      refine gl_batch 1 [(47, .slice a_v5 (List.length o4.1) c_v6)] rfl ?_
                      refine gl_nil ?_
                      exact gx_fp (.slice a_v5 (List.length o4.1) c_v6) rfl rfl rfl rfl (fun _ h => h.sub (fun _ h => h) (st_oo (A := [])) (fun o ho => by cases ho))
                    · intro vals E' R' O' hD
                      have h4 : vals 4 = .bool false := hD 4 (memN 0 rfl)
                      have h6 : vals 6 = .slice a_v5 (List.length o4.1) c_v6 := hD 6 (memN 1 rfl)
                      refine gl_convV (E2 := (45, .bool false) :: (47, .slice a_v5 (List.length o4.1) c_v6) :: ([] ++ E')) (V2 := [] ++ ([SL false 47 FiringS a_v2 c_v3 o1.1, SL false 47 FiringS a_v5 c_v6 o4.1] ++ [])) (by show (45, vals 4) :: (47, vals 6) :: ([] ++ E') = _; rw [h4, h6]) (by show [] ++ ([SL false 47 FiringS a_v2 c_v3 o1.1, SL false 47 FiringS a_v5 c_v6 o4.1] ++ []) = _; rfl) ?_
                      refine gl_len rfl Fs26 rfl rfl ?_
                      refine gl_nil ?_
                      exact gx_fp (.int .i64 (List.length o4.1 : Int)) rfl rfl rfl rfl (fun _ h => h.sub (fun _ h => h) (st_oo (A := [])) (fun o ho => by cases ho))
                    · intro vals E' R' O' hD
                      have h4 : vals 4 = .bool false := hD 4 (memN 0 rfl)
                      have h5 : vals 5 = .int .i64 s8 := hD 5 (memN 1 rfl)
                      have h7 : vals 7 = .int .i64 (List.length o4.1 : Int) := hD 7 (memN 2 rfl)
                      refine gl_convV (E2 := (45, .bool false) :: (46, .int .i64 s8) :: (48, .int .i64 (List.length o4.1 : Int)) :: ([] ++ E')) (V2 := [] ++ ([SL false 47 FiringS a_v2 c_v3 o1.1, SL false 47 FiringS a_v5 c_v6 o4.1] ++ [])) (by show (45, vals 4) :: (46, vals 5) :: (48, vals 7) :: ([] ++ E') = _; rw [h4, h5, h7]) (by show [] ++ ([SL false 47 FiringS a_v2 c_v3 o1.1, SL false 47 FiringS a_v5 c_v6 o4.1] ++ []) = _; rfl) ?_
                      refine gl_batch 1 [(49, .bool (decide (s8 ≥ (List.length o4.1 : Int))))] rfl ?_
                      refine gl_nil ?_
                      exact gx_fp (.bool (decide (s8 ≥ (List.length o4.1 : Int)))) rfl rfl rfl rfl (fun _ h => h.sub (fun _ h => h) (st_oo (A := [])) (fun o ho => by cases ho))
                    · intro vals E' R' O' hD
                      have h4 : vals 4 = .bool false := hD 4 (memN 0 rfl)
                      have h8 : vals 8 = .bool (decide (s8 ≥ (List.length o4.1 : Int))) := hD 8 (memN 1 rfl)
                      refine gl_convV (E2 := (45, .bool false) :: (49, .bool (decide (s8 ≥ (List.length o4.1 : Int)))) :: ([] ++ E')) (V2 := [] ++ ([SL false 47 FiringS a_v2 c_v3 o1.1, SL false 47 FiringS a_v5 c_v6 o4.1] ++ [])) (by show (45, vals 4) :: (49, vals 8) :: ([] ++ E') = _; rw [h4, h8]) (by show [] ++ ([SL false 47 FiringS a_v2 c_v3 o1.1, SL false 47 FiringS a_v5 c_v6 o4.1] ++ []) = _; rfl) ?_
                      refine gl_batch 1 [(50, .bool (decide (s8 ≥ (List.length o4.1 : Int))))] rfl ?_
                      refine gl_nil ?_
                      exact gx_fp (.bool (decide (s8 ≥ (List.length o4.1 : Int)))) rfl rfl rfl rfl (fun _ h => h.sub (fun _ h => h) (st_oo (A := [])) (fun o ho => by cases ho))
                    · intro vals E' R' O' hD
                      have h9 : vals 9 = .bool (decide (s8 ≥ (List.length o4.1 : Int))) := hD 9 (memN 0 rfl)
                      refine gl_convV (E2 := (50, .bool (decide (s8 ≥ (List.length o4.1 : Int)))) :: ([] ++ E')) (V2 := [] ++ ([SL false 47 FiringS a_v2 c_v3 o1.1, SL false 47 FiringS a_v5 c_v6 o4.1] ++ [])) (by show (50, vals 9) :: ([] ++ E') = _; rw [h9]) (by show [] ++ ([SL false 47 FiringS a_v2 c_v3 o1.1, SL false 47 FiringS a_v5 c_v6 o4.1] ++ []) = _; rfl) ?_
                      refine gl_batch 1 [(51, .bool (decide (s8 ≥ (List.length o4.1 : Int))))] rfl ?_
                      refine gl_nil ?_
                      exact gx_fp (.bool false) rfl rfl (congrArg (fun z => some (Value.bool z)) hg12) rfl (fun _ h => h.sub (fun _ h => h) (st_oo (A := [])) (fun o ho => by cases ho))
                    · intro vals E' R' O' hD
                      have h10 : vals 10 = .bool false := hD 10 (memN 0 rfl)
                      refine gl_convV (E2 := (51, .bool false) :: ([(6, .slice a_v2 (List.length o1.1) c_v3)] ++ E')) (V2 := [] ++ ([SL false 47 FiringS a_v2 c_v3 o1.1, SL false 47 FiringS a_v5 c_v6 o4.1] ++ [])) (by show (51, vals 10) :: ([(6, .slice a_v2 (List.length o1.1) c_v3)] ++ E') = _; rw [h10]) (by show [] ++ ([SL false 47 FiringS a_v2 c_v3 o1.1, SL false 47 FiringS a_v5 c_v6 o4.1] ++ []) = _; rfl) ?_
                      refine gl_batch 1 [(52, .slice a_v2 (List.length o1.1) c_v3)] rfl ?_
                      refine gl_nil ?_
                      exact gx_fp (.slice a_v2 (List.length o1.1) c_v3) rfl rfl rfl rfl (fun _ h => h.sub (fun _ h => h) (st_oo (A := [])) (fun o ho => by cases ho))
                    · intro vals E' R' O' hD
                      have h10 : vals 10 = .bool false := hD 10 (memN 0 rfl)
                      refine gl_convV (E2 := (51, .bool false) :: ([(10, .int .i64 s8)] ++ E')) (V2 := [] ++ ([SL false 47 FiringS a_v2 c_v3 o1.1, SL false 47 FiringS a_v5 c_v6 o4.1] ++ [])) (by show (51, vals 10) :: ([(10, .int .i64 s8)] ++ E') = _; rw [h10]) (by show [] ++ ([SL false 47 FiringS a_v2 c_v3 o1.1, SL false 47 FiringS a_v5 c_v6 o4.1] ++ []) = _; rfl) ?_
                      refine gl_batch 1 [(53, .int .i64 s8)] rfl ?_
                      refine gl_nil ?_
                      exact gx_fp (.int .i64 s8) rfl rfl rfl rfl (fun _ h => h.sub (fun _ h => h) (st_oo (A := [])) (fun o ho => by cases ho))
                    · intro vals E' R' O' hD
                      have h10 : vals 10 = .bool false := hD 10 (memN 0 rfl)
                      have h11 : vals 11 = .slice a_v2 (List.length o1.1) c_v3 := hD 11 (memN 1 rfl)
                      have h12 : vals 12 = .int .i64 s8 := hD 12 (memN 2 rfl)
                      refine gl_convV (E2 := (51, .bool false) :: (52, .slice a_v2 (List.length o1.1) c_v3) :: (53, .int .i64 s8) :: ([] ++ E')) (V2 := [] ++ ([SL false 47 FiringS a_v2 c_v3 o1.1, SL false 47 FiringS a_v5 c_v6 o4.1] ++ [])) (by show (51, vals 10) :: (52, vals 11) :: (53, vals 12) :: ([] ++ E') = _; rw [h10, h11, h12]) (by show [] ++ ([SL false 47 FiringS a_v2 c_v3 o1.1, SL false 47 FiringS a_v5 c_v6 o4.1] ++ []) = _; rfl) ?_
                      refine gl_idxVn (k := .i64) (memV (mem_at 0 rfl)) rfl rfl Fs26 Fz47 hx13 rfl rfl ?_
                      intro p_ hp_
                      obtain rfl : p14 = p_ := Option.some.inj (hp14.symm.trans hp_)
                      refine gl_nil ?_
                      exact gx_fp (.pointer (some p14)) rfl rfl rfl rfl (fun _ h => h.sub (fun _ h => h) (st_oo (A := [])) (fun o ho => by cases ho))
                    · intro vals E' R' O' hD
                      have h10 : vals 10 = .bool false := hD 10 (memN 0 rfl)
                      have h13 : vals 13 = .pointer (some p14) := hD 13 (memN 1 rfl)
                      refine gl_convV (E2 := (51, .bool false) :: (54, .pointer (some p14)) :: ([] ++ E')) (V2 := [] ++ ([SL false 47 FiringS a_v2 c_v3 o1.1, SL false 47 FiringS a_v5 c_v6 o4.1] ++ [])) (by show (51, vals 10) :: (54, vals 13) :: ([] ++ E') = _; rw [h10, h13]) (by show [] ++ ([SL false 47 FiringS a_v2 c_v3 o1.1, SL false 47 FiringS a_v5 c_v6 o4.1] ++ []) = _; rfl) ?_
                      refine gl_run (v := .pointer (some p14)) rfl rfl rfl (fun w => by kernel_rfl) ?_
                      refine gl_nil ?_
                      exact gx_fp (.pointer (some p14)) rfl rfl rfl rfl (fun _ h => h.sub (fun _ h => h) (st_oo (A := [])) (fun o ho => by cases ho))
                    · intro vals E' R' O' hD
                      have h10 : vals 10 = .bool false := hD 10 (memN 0 rfl)
                      have h14 : vals 14 = .pointer (some p14) := hD 14 (memN 1 rfl)
                      refine gl_convV (E2 := (51, .bool false) :: (55, .pointer (some p14)) :: ([] ++ E')) (V2 := [] ++ ([SL false 47 FiringS a_v2 c_v3 o1.1, SL false 47 FiringS a_v5 c_v6 o4.1] ++ [])) (by show (51, vals 10) :: (55, vals 14) :: ([] ++ E') = _; rw [h10, h14]) (by show [] ++ ([SL false 47 FiringS a_v2 c_v3 o1.1, SL false 47 FiringS a_v5 c_v6 o4.1] ++ []) = _; rfl) ?_
                      refine gl_elemVn (memV (mem_at 0 rfl)) hx13 hp14 ?_
                      refine gl_ld1 0 hasAT (memV (mem_at 0 rfl)) rfl rfl Fo2 rfl rfl rfl ?_
                      refine gl_nil ?_
                      exact gx_fp (.int .i64 x13.Event) rfl rfl rfl rfl (fun _ h => h.sub (fun _ h => h) (st_oo (A := [])) (fun o ho => by cases ho))
                    · intro vals E' R' O' hD
                      have h10 : vals 10 = .bool false := hD 10 (memN 0 rfl)
                      refine gl_convV (E2 := (51, .bool false) :: ([(8, .slice a_v5 (List.length o4.1) c_v6)] ++ E')) (V2 := [] ++ ([SL false 47 FiringS a_v2 c_v3 o1.1, SL false 47 FiringS a_v5 c_v6 o4.1] ++ [])) (by show (51, vals 10) :: ([(8, .slice a_v5 (List.length o4.1) c_v6)] ++ E') = _; rw [h10]) (by show [] ++ ([SL false 47 FiringS a_v2 c_v3 o1.1, SL false 47 FiringS a_v5 c_v6 o4.1] ++ []) = _; rfl) ?_
                      refine gl_batch 1 [(57, .slice a_v5 (List.length o4.1) c_v6)] rfl ?_
                      refine gl_nil ?_
                      exact gx_fp (.slice a_v5 (List.length o4.1) c_v6) rfl rfl rfl rfl (fun _ h => h.sub (fun _ h => h) (st_oo (A := [])) (fun o ho => by cases ho))
                    · intro vals E' R' O' hD
                      have h10 : vals 10 = .bool false := hD 10 (memN 0 rfl)
                      refine gl_convV (E2 := (51, .bool false) :: ([(10, .int .i64 s8)] ++ E')) (V2 := [] ++ ([SL false 47 FiringS a_v2 c_v3 o1.1, SL false 47 FiringS a_v5 c_v6 o4.1] ++ [])) (by show (51, vals 10) :: ([(10, .int .i64 s8)] ++ E') = _; rw [h10]) (by show [] ++ ([SL false 47 FiringS a_v2 c_v3 o1.1, SL false 47 FiringS a_v5 c_v6 o4.1] ++ []) = _; rfl) ?_
                      refine gl_batch 1 [(58, .int .i64 s8)] rfl ?_
                      refine gl_nil ?_
                      exact gx_fp (.int .i64 s8) rfl rfl rfl rfl (fun _ h => h.sub (fun _ h => h) (st_oo (A := [])) (fun o ho => by cases ho))
                    · intro vals E' R' O' hD
                      have h10 : vals 10 = .bool false := hD 10 (memN 0 rfl)
                      have h16 : vals 16 = .slice a_v5 (List.length o4.1) c_v6 := hD 16 (memN 1 rfl)
                      have h17 : vals 17 = .int .i64 s8 := hD 17 (memN 2 rfl)
                      refine gl_convV (E2 := (51, .bool false) :: (57, .slice a_v5 (List.length o4.1) c_v6) :: (58, .int .i64 s8) :: ([] ++ E')) (V2 := [] ++ ([SL false 47 FiringS a_v2 c_v3 o1.1, SL false 47 FiringS a_v5 c_v6 o4.1] ++ [])) (by show (51, vals 10) :: (57, vals 16) :: (58, vals 17) :: ([] ++ E') = _; rw [h10, h16, h17]) (by show [] ++ ([SL false 47 FiringS a_v2 c_v3 o1.1, SL false 47 FiringS a_v5 c_v6 o4.1] ++ []) = _; rfl) ?_
                      refine gl_idxVn (k := .i64) (memV (mem_at 1 rfl)) rfl rfl Fs26 Fz47 hx15 rfl rfl ?_
                      intro p_ hp_
                      obtain rfl : p16 = p_ := Option.some.inj (hp16.symm.trans hp_)
                      refine gl_nil ?_
                      exact gx_fp (.pointer (some p16)) rfl rfl rfl rfl (fun _ h => h.sub (fun _ h => h) (st_oo (A := [])) (fun o ho => by cases ho))
                    · intro vals E' R' O' hD
                      have h10 : vals 10 = .bool false := hD 10 (memN 0 rfl)
                      have h18 : vals 18 = .pointer (some p16) := hD 18 (memN 1 rfl)
                      refine gl_convV (E2 := (51, .bool false) :: (59, .pointer (some p16)) :: ([] ++ E')) (V2 := [] ++ ([SL false 47 FiringS a_v2 c_v3 o1.1, SL false 47 FiringS a_v5 c_v6 o4.1] ++ [])) (by show (51, vals 10) :: (59, vals 18) :: ([] ++ E') = _; rw [h10, h18]) (by show [] ++ ([SL false 47 FiringS a_v2 c_v3 o1.1, SL false 47 FiringS a_v5 c_v6 o4.1] ++ []) = _; rfl) ?_
                      refine gl_run (v := .pointer (some p16)) rfl rfl rfl (fun w => by kernel_rfl) ?_
                      refine gl_nil ?_
                      exact gx_fp (.pointer (some p16)) rfl rfl rfl rfl (fun _ h => h.sub (fun _ h => h) (st_oo (A := [])) (fun o ho => by cases ho))
                    · intro vals E' R' O' hD
                      have h10 : vals 10 = .bool false := hD 10 (memN 0 rfl)
                      have h19 : vals 19 = .pointer (some p16) := hD 19 (memN 1 rfl)
                      refine gl_convV (E2 := (51, .bool false) :: (60, .pointer (some p16)) :: ([] ++ E')) (V2 := [] ++ ([SL false 47 FiringS a_v2 c_v3 o1.1, SL false 47 FiringS a_v5 c_v6 o4.1] ++ [])) (by show (51, vals 10) :: (60, vals 19) :: ([] ++ E') = _; rw [h10, h19]) (by show [] ++ ([SL false 47 FiringS a_v2 c_v3 o1.1, SL false 47 FiringS a_v5 c_v6 o4.1] ++ []) = _; rfl) ?_
                      refine gl_elemVn (memV (mem_at 1 rfl)) hx15 hp16 ?_
                      refine gl_ld1 0 hasAT (memV (mem_at 0 rfl)) rfl rfl Fo2 rfl rfl rfl ?_
                      refine gl_nil ?_
                      exact gx_fp (.int .i64 x15.Event) rfl rfl rfl rfl (fun _ h => h.sub (fun _ h => h) (st_oo (A := [])) (fun o ho => by cases ho))
                    · intro vals E' R' O' hD
                      have h10 : vals 10 = .bool false := hD 10 (memN 0 rfl)
                      have h15 : vals 15 = .int .i64 x13.Event := hD 15 (memN 1 rfl)
                      have h20 : vals 20 = .int .i64 x15.Event := hD 20 (memN 2 rfl)
                      refine gl_convV (E2 := (51, .bool false) :: (56, .int .i64 x13.Event) :: (61, .int .i64 x15.Event) :: ([] ++ E')) (V2 := [] ++ ([SL false 47 FiringS a_v2 c_v3 o1.1, SL false 47 FiringS a_v5 c_v6 o4.1] ++ [])) (by show (51, vals 10) :: (56, vals 15) :: (61, vals 20) :: ([] ++ E') = _; rw [h10, h15, h20]) (by show [] ++ ([SL false 47 FiringS a_v2 c_v3 o1.1, SL false 47 FiringS a_v5 c_v6 o4.1] ++ []) = _; rfl) ?_
                      refine gl_batch 1 [(62, .bool (x13.Event != x15.Event))] rfl ?_
                      refine gl_nil ?_
                      exact gx_fp (.bool (x13.Event != x15.Event)) rfl rfl rfl rfl (fun _ h => h.sub (fun _ h => h) (st_oo (A := [])) (fun o ho => by cases ho))
                    · intro vals E' R' O' hD
                      have h10 : vals 10 = .bool false := hD 10 (memN 0 rfl)
                      have h21 : vals 21 = .bool (x13.Event != x15.Event) := hD 21 (memN 1 rfl)
                      refine gl_convV (E2 := (51, .bool false) :: (62, .bool (x13.Event != x15.Event)) :: ([] ++ E')) (V2 := [] ++ ([SL false 47 FiringS a_v2 c_v3 o1.1, SL false 47 FiringS a_v5 c_v6 o4.1] ++ [])) (by show (51, vals 10) :: (62, vals 21) :: ([] ++ E') = _; rw [h10, h21]) (by show [] ++ ([SL false 47 FiringS a_v2 c_v3 o1.1, SL false 47 FiringS a_v5 c_v6 o4.1] ++ []) = _; rfl) ?_
                      refine gl_batch 1 [(63, .bool (x13.Event != x15.Event))] rfl ?_
                      refine gl_nil ?_
                      exact gx_fp (.bool (x13.Event != x15.Event)) rfl rfl rfl rfl (fun _ h => h.sub (fun _ h => h) (st_oo (A := [])) (fun o ho => by cases ho))
                    · intro vals E' R' O' hD
                      have h22 : vals 22 = .bool (x13.Event != x15.Event) := hD 22 (memN 0 rfl)
                      refine gl_convV (E2 := (63, .bool (x13.Event != x15.Event)) :: ([] ++ E')) (V2 := [] ++ ([SL false 47 FiringS a_v2 c_v3 o1.1, SL false 47 FiringS a_v5 c_v6 o4.1] ++ [])) (by show (63, vals 22) :: ([] ++ E') = _; rw [h22]) (by show [] ++ ([SL false 47 FiringS a_v2 c_v3 o1.1, SL false 47 FiringS a_v5 c_v6 o4.1] ++ []) = _; rfl) ?_
                      refine gl_batch 1 [(64, .bool (x13.Event != x15.Event))] rfl ?_
                      refine gl_nil ?_
                      exact gx_fp (.bool false) rfl rfl (congrArg (fun z => some (Value.bool z)) hg17) rfl (fun _ h => h.sub (fun _ h => h) (st_oo (A := [])) (fun o ho => by cases ho))
                    · intro vals E' R' O' hD
                      have h23 : vals 23 = .bool false := hD 23 (memN 0 rfl)
                      refine gl_convV (E2 := (64, .bool false) :: ([(6, .slice a_v2 (List.length o1.1) c_v3)] ++ E')) (V2 := [] ++ ([SL false 47 FiringS a_v2 c_v3 o1.1, SL false 47 FiringS a_v5 c_v6 o4.1] ++ [])) (by show (64, vals 23) :: ([(6, .slice a_v2 (List.length o1.1) c_v3)] ++ E') = _; rw [h23]) (by show [] ++ ([SL false 47 FiringS a_v2 c_v3 o1.1, SL false 47 FiringS a_v5 c_v6 o4.1] ++ []) = _; rfl) ?_
                      refine gl_batch 1 [(65, .slice a_v2 (List.length o1.1) c_v3)] rfl ?_
                      refine gl_nil ?_
                      exact gx_fp (.slice a_v2 (List.length o1.1) c_v3) rfl rfl rfl rfl (fun _ h => h.sub (fun _ h => h) (st_oo (A := [])) (fun o ho => by cases ho))
                    · intro vals E' R' O' hD
                      have h23 : vals 23 = .bool false := hD 23 (memN 0 rfl)
                      refine gl_convV (E2 := (64, .bool false) :: ([(10, .int .i64 s8)] ++ E')) (V2 := [] ++ ([SL false 47 FiringS a_v2 c_v3 o1.1, SL false 47 FiringS a_v5 c_v6 o4.1] ++ [])) (by show (64, vals 23) :: ([(10, .int .i64 s8)] ++ E') = _; rw [h23]) (by show [] ++ ([SL false 47 FiringS a_v2 c_v3 o1.1, SL false 47 FiringS a_v5 c_v6 o4.1] ++ []) = _; rfl) ?_
                      refine gl_batch 1 [(66, .int .i64 s8)] rfl ?_
                      refine gl_nil ?_
                      exact gx_fp (.int .i64 s8) rfl rfl rfl rfl (fun _ h => h.sub (fun _ h => h) (st_oo (A := [])) (fun o ho => by cases ho))
                    · intro vals E' R' O' hD
                      have h23 : vals 23 = .bool false := hD 23 (memN 0 rfl)
                      have h24 : vals 24 = .slice a_v2 (List.length o1.1) c_v3 := hD 24 (memN 1 rfl)
                      have h25 : vals 25 = .int .i64 s8 := hD 25 (memN 2 rfl)
                      refine gl_convV (E2 := (64, .bool false) :: (65, .slice a_v2 (List.length o1.1) c_v3) :: (66, .int .i64 s8) :: ([] ++ E')) (V2 := [] ++ ([SL false 47 FiringS a_v2 c_v3 o1.1, SL false 47 FiringS a_v5 c_v6 o4.1] ++ [])) (by show (64, vals 23) :: (65, vals 24) :: (66, vals 25) :: ([] ++ E') = _; rw [h23, h24, h25]) (by show [] ++ ([SL false 47 FiringS a_v2 c_v3 o1.1, SL false 47 FiringS a_v5 c_v6 o4.1] ++ []) = _; rfl) ?_
                      refine gl_idxVn (k := .i64) (memV (mem_at 0 rfl)) rfl rfl Fs26 Fz47 hx18 rfl rfl ?_
                      intro p_ hp_
                      obtain rfl : p19 = p_ := Option.some.inj (hp19.symm.trans hp_)
                      refine gl_nil ?_
                      exact gx_fp (.pointer (some p19)) rfl rfl rfl rfl (fun _ h => h.sub (fun _ h => h) (st_oo (A := [])) (fun o ho => by cases ho))
                    · intro vals E' R' O' hD
                      have h23 : vals 23 = .bool false := hD 23 (memN 0 rfl)
                      have h26 : vals 26 = .pointer (some p19) := hD 26 (memN 1 rfl)
                      refine gl_convV (E2 := (64, .bool false) :: (67, .pointer (some p19)) :: ([] ++ E')) (V2 := [] ++ ([SL false 47 FiringS a_v2 c_v3 o1.1, SL false 47 FiringS a_v5 c_v6 o4.1] ++ [])) (by show (64, vals 23) :: (67, vals 26) :: ([] ++ E') = _; rw [h23, h26]) (by show [] ++ ([SL false 47 FiringS a_v2 c_v3 o1.1, SL false 47 FiringS a_v5 c_v6 o4.1] ++ []) = _; rfl) ?_
                      refine gl_run (v := .pointer (some (Addr.add p19 2))) rfl rfl rfl (fun w => by kernel_rfl) ?_
                      refine gl_nil ?_
                      exact gx_fp (.pointer (some (Addr.add p19 2))) rfl rfl rfl rfl (fun _ h => h.sub (fun _ h => h) (st_oo (A := [])) (fun o ho => by cases ho))
                    · intro vals E' R' O' hD
                      have h23 : vals 23 = .bool false := hD 23 (memN 0 rfl)
                      have h27 : vals 27 = .pointer (some (Addr.add p19 2)) := hD 27 (memN 1 rfl)
                      refine gl_convV (E2 := (64, .bool false) :: (68, .pointer (some (Addr.add p19 2))) :: ([] ++ E')) (V2 := [] ++ ([SL false 47 FiringS a_v2 c_v3 o1.1, SL false 47 FiringS a_v5 c_v6 o4.1] ++ [])) (by show (64, vals 23) :: (68, vals 27) :: ([] ++ E') = _; rw [h23, h27]) (by show [] ++ ([SL false 47 FiringS a_v2 c_v3 o1.1, SL false 47 FiringS a_v5 c_v6 o4.1] ++ []) = _; rfl) ?_
                      refine gl_elemVn (memV (mem_at 0 rfl)) hx18 hp19 ?_
                      refine gl_ld1 2 hasAT (memV (mem_at 0 rfl)) rfl rfl Fo2 rfl rfl rfl ?_
                      refine gl_nil ?_
                      exact gx_fp (.int .i64 x18.Time) rfl rfl rfl rfl (fun _ h => h.sub (fun _ h => h) (st_oo (A := [])) (fun o ho => by cases ho))
                    · intro vals E' R' O' hD
                      have h23 : vals 23 = .bool false := hD 23 (memN 0 rfl)
                      refine gl_convV (E2 := (64, .bool false) :: ([(8, .slice a_v5 (List.length o4.1) c_v6)] ++ E')) (V2 := [] ++ ([SL false 47 FiringS a_v2 c_v3 o1.1, SL false 47 FiringS a_v5 c_v6 o4.1] ++ [])) (by show (64, vals 23) :: ([(8, .slice a_v5 (List.length o4.1) c_v6)] ++ E') = _; rw [h23]) (by show [] ++ ([SL false 47 FiringS a_v2 c_v3 o1.1, SL false 47 FiringS a_v5 c_v6 o4.1] ++ []) = _; rfl) ?_
                      refine gl_batch 1 [(70, .slice a_v5 (List.length o4.1) c_v6)] rfl ?_
                      refine gl_nil ?_
                      exact gx_fp (.slice a_v5 (List.length o4.1) c_v6) rfl rfl rfl rfl (fun _ h => h.sub (fun _ h => h) (st_oo (A := [])) (fun o ho => by cases ho))
                    · intro vals E' R' O' hD
                      have h23 : vals 23 = .bool false := hD 23 (memN 0 rfl)
                      refine gl_convV (E2 := (64, .bool false) :: ([(10, .int .i64 s8)] ++ E')) (V2 := [] ++ ([SL false 47 FiringS a_v2 c_v3 o1.1, SL false 47 FiringS a_v5 c_v6 o4.1] ++ [])) (by show (64, vals 23) :: ([(10, .int .i64 s8)] ++ E') = _; rw [h23]) (by show [] ++ ([SL false 47 FiringS a_v2 c_v3 o1.1, SL false 47 FiringS a_v5 c_v6 o4.1] ++ []) = _; rfl) ?_
                      refine gl_batch 1 [(71, .int .i64 s8)] rfl ?_
                      refine gl_nil ?_
                      exact gx_fp (.int .i64 s8) rfl rfl rfl rfl (fun _ h => h.sub (fun _ h => h) (st_oo (A := [])) (fun o ho => by cases ho))
                    · intro vals E' R' O' hD
                      have h23 : vals 23 = .bool false := hD 23 (memN 0 rfl)
                      have h29 : vals 29 = .slice a_v5 (List.length o4.1) c_v6 := hD 29 (memN 1 rfl)
                      have h30 : vals 30 = .int .i64 s8 := hD 30 (memN 2 rfl)
                      refine gl_convV (E2 := (64, .bool false) :: (70, .slice a_v5 (List.length o4.1) c_v6) :: (71, .int .i64 s8) :: ([] ++ E')) (V2 := [] ++ ([SL false 47 FiringS a_v2 c_v3 o1.1, SL false 47 FiringS a_v5 c_v6 o4.1] ++ [])) (by show (64, vals 23) :: (70, vals 29) :: (71, vals 30) :: ([] ++ E') = _; rw [h23, h29, h30]) (by show [] ++ ([SL false 47 FiringS a_v2 c_v3 o1.1, SL false 47 FiringS a_v5 c_v6 o4.1] ++ []) = _; rfl) ?_
                      refine gl_idxVn (k := .i64) (memV (mem_at 1 rfl)) rfl rfl Fs26 Fz47 hx20 rfl rfl ?_
                      intro p_ hp_
                      obtain rfl : p21 = p_ := Option.some.inj (hp21.symm.trans hp_)
                      refine gl_nil ?_
                      exact gx_fp (.pointer (some p21)) rfl rfl rfl rfl (fun _ h => h.sub (fun _ h => h) (st_oo (A := [])) (fun o ho => by cases ho))
                    · intro vals E' R' O' hD
                      have h23 : vals 23 = .bool false := hD 23 (memN 0 rfl)
                      have h31 : vals 31 = .pointer (some p21) := hD 31 (memN 1 rfl)
                      refine gl_convV (E2 := (64, .bool false) :: (72, .pointer (some p21)) :: ([] ++ E')) (V2 := [] ++ ([SL false 47 FiringS a_v2 c_v3 o1.1, SL false 47 FiringS a_v5 c_v6 o4.1] ++ [])) (by show (64, vals 23) :: (72, vals 31) :: ([] ++ E') = _; rw [h23, h31]) (by show [] ++ ([SL false 47 FiringS a_v2 c_v3 o1.1, SL false 47 FiringS a_v5 c_v6 o4.1] ++ []) = _; rfl) ?_
                      refine gl_run (v := .pointer (some (Addr.add p21 2))) rfl rfl rfl (fun w => by kernel_rfl) ?_
                      refine gl_nil ?_
                      exact gx_fp (.pointer (some (Addr.add p21 2))) rfl rfl rfl rfl (fun _ h => h.sub (fun _ h => h) (st_oo (A := [])) (fun o ho => by cases ho))
                    · intro vals E' R' O' hD
                      have h23 : vals 23 = .bool false := hD 23 (memN 0 rfl)
                      have h32 : vals 32 = .pointer (some (Addr.add p21 2)) := hD 32 (memN 1 rfl)
                      refine gl_convV (E2 := (64, .bool false) :: (73, .pointer (some (Addr.add p21 2))) :: ([] ++ E')) (V2 := [] ++ ([SL false 47 FiringS a_v2 c_v3 o1.1, SL false 47 FiringS a_v5 c_v6 o4.1] ++ [])) (by show (64, vals 23) :: (73, vals 32) :: ([] ++ E') = _; rw [h23, h32]) (by show [] ++ ([SL false 47 FiringS a_v2 c_v3 o1.1, SL false 47 FiringS a_v5 c_v6 o4.1] ++ []) = _; rfl) ?_
                      refine gl_elemVn (memV (mem_at 1 rfl)) hx20 hp21 ?_
                      refine gl_ld1 2 hasAT (memV (mem_at 0 rfl)) rfl rfl Fo2 rfl rfl rfl ?_
                      refine gl_nil ?_
                      exact gx_fp (.int .i64 x20.Time) rfl rfl rfl rfl (fun _ h => h.sub (fun _ h => h) (st_oo (A := [])) (fun o ho => by cases ho))
                    · intro vals E' R' O' hD
                      have h23 : vals 23 = .bool false := hD 23 (memN 0 rfl)
                      have h28 : vals 28 = .int .i64 x18.Time := hD 28 (memN 1 rfl)
                      have h33 : vals 33 = .int .i64 x20.Time := hD 33 (memN 2 rfl)
                      refine gl_convV (E2 := (64, .bool false) :: (69, .int .i64 x18.Time) :: (74, .int .i64 x20.Time) :: ([] ++ E')) (V2 := [] ++ ([SL false 47 FiringS a_v2 c_v3 o1.1, SL false 47 FiringS a_v5 c_v6 o4.1] ++ [])) (by show (64, vals 23) :: (69, vals 28) :: (74, vals 33) :: ([] ++ E') = _; rw [h23, h28, h33]) (by show [] ++ ([SL false 47 FiringS a_v2 c_v3 o1.1, SL false 47 FiringS a_v5 c_v6 o4.1] ++ []) = _; rfl) ?_
                      refine gl_batch 1 [(75, .bool (x18.Time != x20.Time))] rfl ?_
                      refine gl_nil ?_
                      exact gx_fp (.bool (x18.Time != x20.Time)) rfl rfl rfl rfl (fun _ h => h.sub (fun _ h => h) (st_oo (A := [])) (fun o ho => by cases ho))
                    · intro vals E' R' O' hD
                      have h23 : vals 23 = .bool false := hD 23 (memN 0 rfl)
                      have h34 : vals 34 = .bool (x18.Time != x20.Time) := hD 34 (memN 1 rfl)
                      refine gl_convV (E2 := (64, .bool false) :: (75, .bool (x18.Time != x20.Time)) :: ([] ++ E')) (V2 := [] ++ ([SL false 47 FiringS a_v2 c_v3 o1.1, SL false 47 FiringS a_v5 c_v6 o4.1] ++ [])) (by show (64, vals 23) :: (75, vals 34) :: ([] ++ E') = _; rw [h23, h34]) (by show [] ++ ([SL false 47 FiringS a_v2 c_v3 o1.1, SL false 47 FiringS a_v5 c_v6 o4.1] ++ []) = _; rfl) ?_
                      refine gl_batch 1 [(76, .bool (x18.Time != x20.Time))] rfl ?_
                      refine gl_nil ?_
                      exact gx_fp (.bool (x18.Time != x20.Time)) rfl rfl rfl rfl (fun _ h => h.sub (fun _ h => h) (st_oo (A := [])) (fun o ho => by cases ho))
                    · intro vals hv
                      obtain ⟨⟨⟨⟨⟨⟨⟨⟨⟨⟨⟨⟨⟨⟨⟨⟨⟨⟨⟨⟨⟨⟨⟨⟨⟨⟨⟨⟨⟨⟨⟨⟨⟨⟨⟨⟨_, h0⟩, h1⟩, h2⟩, h3⟩, h4⟩, h5⟩, h6⟩, h7⟩, h8⟩, h9⟩, h10⟩, h11⟩, h12⟩, h13⟩, h14⟩, h15⟩, h16⟩, h17⟩, h18⟩, h19⟩, h20⟩, h21⟩, h22⟩, h23⟩, h24⟩, h25⟩, h26⟩, h27⟩, h28⟩, h29⟩, h30⟩, h31⟩, h32⟩, h33⟩, h34⟩, h35⟩ := hv
                      have h0 : vals 0 = .int .i64 s8 := h0
                      have h1 : vals 1 = .slice a_v2 (List.length o1.1) c_v3 := h1
                      have h2 : vals 2 = .int .i64 (List.length o1.1 : Int) := h2
                      have h3 : vals 3 = .bool (decide (s8 ≥ (List.length o1.1 : Int))) := h3
                      have h4 : vals 4 = .bool false := h4
                      have h5 : vals 5 = .int .i64 s8 := h5
                      have h6 : vals 6 = .slice a_v5 (List.length o4.1) c_v6 := h6
                      have h7 : vals 7 = .int .i64 (List.length o4.1 : Int) := h7
                      have h8 : vals 8 = .bool (decide (s8 ≥ (List.length o4.1 : Int))) := h8
                      have h9 : vals 9 = .bool (decide (s8 ≥ (List.length o4.1 : Int))) := h9
                      have h10 : vals 10 = .bool false := h10
                      have h11 : vals 11 = .slice a_v2 (List.length o1.1) c_v3 := h11
                      have h12 : vals 12 = .int .i64 s8 := h12
                      have h13 : vals 13 = .pointer (some p14) := h13
                      have h14 : vals 14 = .pointer (some p14) := h14
                      have h15 : vals 15 = .int .i64 x13.Event := h15
                      have h16 : vals 16 = .slice a_v5 (List.length o4.1) c_v6 := h16
                      have h17 : vals 17 = .int .i64 s8 := h17
                      have h18 : vals 18 = .pointer (some p16) := h18
                      have h19 : vals 19 = .pointer (some p16) := h19
                      have h20 : vals 20 = .int .i64 x15.Event := h20
                      have h21 : vals 21 = .bool (x13.Event != x15.Event) := h21
                      have h22 : vals 22 = .bool (x13.Event != x15.Event) := h22
                      have h23 : vals 23 = .bool false := h23
                      have h24 : vals 24 = .slice a_v2 (List.length o1.1) c_v3 := h24
                      have h25 : vals 25 = .int .i64 s8 := h25
                      have h26 : vals 26 = .pointer (some p19) := h26
                      have h27 : vals 27 = .pointer (some (Addr.add p19 2)) := h27
                      have h28 : vals 28 = .int .i64 x18.Time := h28
                      have h29 : vals 29 = .slice a_v5 (List.length o4.1) c_v6 := h29
                      have h30 : vals 30 = .int .i64 s8 := h30
                      have h31 : vals 31 = .pointer (some p21) := h31
                      have h32 : vals 32 = .pointer (some (Addr.add p21 2)) := h32
                      have h33 : vals 33 = .int .i64 x20.Time := h33
                      have h34 : vals 34 = .bool (x18.Time != x20.Time) := h34
                      have h35 : vals 35 = .bool (x18.Time != x20.Time) := h35
                      refine gl_conv (E2 := (41, .int .i64 s8) :: (42, .slice a_v2 (List.length o1.1) c_v3) :: (43, .int .i64 (List.length o1.1 : Int)) :: (44, .bool (decide (s8 ≥ (List.length o1.1 : Int)))) :: (45, .bool false) :: (46, .int .i64 s8) :: (47, .slice a_v5 (List.length o4.1) c_v6) :: (48, .int .i64 (List.length o4.1 : Int)) :: (49, .bool (decide (s8 ≥ (List.length o4.1 : Int)))) :: (50, .bool (decide (s8 ≥ (List.length o4.1 : Int)))) :: (51, .bool false) :: (52, .slice a_v2 (List.length o1.1) c_v3) :: (53, .int .i64 s8) :: (54, .pointer (some p14)) :: (55, .pointer (some p14)) :: (56, .int .i64 x13.Event) :: (57, .slice a_v5 (List.length o4.1) c_v6) :: (58, .int .i64 s8) :: (59, .pointer (some p16)) :: (60, .pointer (some p16)) :: (61, .int .i64 x15.Event) :: (62, .bool (x13.Event != x15.Event)) :: (63, .bool (x13.Event != x15.Event)) :: (64, .bool false) :: (65, .slice a_v2 (List.length o1.1) c_v3) :: (66, .int .i64 s8) :: (67, .pointer (some p19)) :: (68, .pointer (some (Addr.add p19 2))) :: (69, .int .i64 x18.Time) :: (70, .slice a_v5 (List.length o4.1) c_v6) :: (71, .int .i64 s8) :: (72, .pointer (some p21)) :: (73, .pointer (some (Addr.add p21 2))) :: (74, .int .i64 x20.Time) :: (75, .bool (x18.Time != x20.Time)) :: (76, .bool (x18.Time != x20.Time)) :: [(6, .slice a_v2 (List.length o1.1) c_v3), (8, .slice a_v5 (List.length o4.1) c_v6), (10, .int .i64 s8)]) (R2 := [] ++ ([] ++ [SL false 47 FiringS a_v2 c_v3 o1.1, SL false 47 FiringS a_v5 c_v6 o4.1])) (O2 := [] ++ []) (by show (41, vals 0) :: (42, vals 1) :: (43, vals 2) :: (44, vals 3) :: (45, vals 4) :: (46, vals 5) :: (47, vals 6) :: (48, vals 7) :: (49, vals 8) :: (50, vals 9) :: (51, vals 10) :: (52, vals 11) :: (53, vals 12) :: (54, vals 13) :: (55, vals 14) :: (56, vals 15) :: (57, vals 16) :: (58, vals 17) :: (59, vals 18) :: (60, vals 19) :: (61, vals 20) :: (62, vals 21) :: (63, vals 22) :: (64, vals 23) :: (65, vals 24) :: (66, vals 25) :: (67, vals 26) :: (68, vals 27) :: (69, vals 28) :: (70, vals 29) :: (71, vals 30) :: (72, vals 31) :: (73, vals 32) :: (74, vals 33) :: (75, vals 34) :: (76, vals 35) :: [(6, .slice a_v2 (List.length o1.1) c_v3), (8, .slice a_v5 (List.length o4.1) c_v6), (10, .int .i64 s8)] = _; rw [h0, h1, h2, h3, h4, h5, h6, h7, h8, h9, h10, h11, h12, h13, h14, h15, h16, h17, h18, h19, h20, h21, h22, h23, h24, h25, h26, h27, h28, h29, h30, h31, h32, h33, h34, h35]) (by show [] ++ ([] ++ [SL false 47 FiringS a_v2 c_v3 o1.1, SL false 47 FiringS a_v5 c_v6 o4.1]) = _; rfl) rfl ?_
                      refine gl_nil ?_
                      obtain rfl := Option.some.inj h
                      exact gx_of (fun a w hE hS => ⟨rfl, hE.sub ⟨rfl, rfl, rfl, rfl, trivial⟩, (hS.take 2).facts _ _ [] (consItem (mem_at 0 rfl) (consItem (mem_at 1 rfl) (consItem (mem_at 2 rfl) (consItem (mem_at 3 rfl) noItem)))) noItem noItem⟩)
            · intro e a w hm
              obtain ⟨rfl, hE, hS⟩ := hm
              refine gx_to hE hS ?_
              refine gx_seq ?_
              refine g_cond (b := o10) rfl (fun hc => ?_) (fun hc => ?_)
              · replace h := condT hc h
                refine g_seq ?_
                refine g_region ?_
                refine gl_batch 3 [(5, .int .i64 0), (4, .int .i64 s8), (77, .int .i64 s8)] rfl ?_
                refine gl_nil ?_
                refine gx_seq ?_
                refine g_ret ?_
                refine gx_blk_ret ?_
                refine gx_seq_ret ?_
                obtain rfl := Option.some.inj h
                exact gx_of (fun a w hE hS => lp_out nofun (inL ⟨rfl, hE.sub ⟨rfl, rfl, trivial⟩, (hS.take 0).facts _ _ [] (consItem (mem_at 0 rfl) (consItem (mem_at 1 rfl) (consItem (mem_at 2 rfl) (consItem (mem_at 3 rfl) noItem)))) noItem noItem⟩))
              · replace h := condF hc h
                refine g_skip ?_
                refine gx_blk ?_
                refine gx_seq ?_
                refine g_region ?_
                refine gl_batch 3 [(10, .int .i64 (IntKind.i64.wrap (s8 + 1))), (40, .int .i64 (IntKind.i64.wrap (s8 + 1))), (39, .int .i64 s8)] rfl ?_
                refine gl_nil ?_
                obtain rfl := Option.some.inj h
                exact gx_of (fun a w hE hS => lp_in ⟨hE.sub ⟨rfl, rfl, rfl, trivial⟩, (hS.take 2).facts _ _ [] (consItem (mem_at 0 rfl) (consItem (mem_at 1 rfl) (consItem (mem_at 2 rfl) (consItem (mem_at 3 rfl) noItem)))) noItem noItem⟩)
          · replace h := condF hc h
            refine g_exit ?_
            refine gx_seq_exit ?_
            obtain rfl := Option.some.inj h
            exact gx_of (fun a w hE hS => lp_out nofun (inR ⟨rfl, hE.sub trivial, (hS.take 0).facts _ _ [] (consItem (mem_at 0 rfl) (consItem (mem_at 1 rfl) (consItem (mem_at 2 rfl) (consItem (mem_at 3 rfl) noItem)))) noItem noItem⟩))
      · intro e a w hm
        rcases o7 with s22 | s23
        · replace h := elimL h
          obtain ⟨rfl, hE, hS⟩ := hm
          refine gx_to hE hS ?_
          refine gx_blk_ret ?_
          refine gx_seq_ret ?_
          obtain rfl := Option.some.inj h
          exact gx_fin rfl [.int .i64 s22, .int .i64 0] _ _ [] ⟨_, _, rfl, rfl, _, _, rfl, rfl, rfl⟩ rfl ⟨rfl, rfl, rfl⟩ (fun w hS => (hS.take 0).facts [] [] [] noItem noItem noItem) (Or.inl rfl)
        · replace h := elimR h
          obtain ⟨rfl, hE, hS⟩ := hm
          refine gx_to hE hS ?_
          refine gx_blk_hit ?_
          refine gx_seq ?_
          refine g_seq ?_
          refine g_region ?_
          refine gl_batch 2 [(5, .int .i64 0), (4, .int .i64 (-1))] rfl ?_
          refine gl_nil ?_
          refine gx_seq ?_
          refine g_ret ?_
          obtain rfl := Option.some.inj h
          exact gx_fin rfl [.int .i64 (-1), .int .i64 0] _ _ [] ⟨_, _, rfl, rfl, _, _, rfl, rfl, rfl⟩ rfl ⟨rfl, rfl, rfl⟩ (fun w hS => (hS.take 0).facts [] [] [] noItem noItem noItem) (Or.inl rfl)

theorem c_spec_IsDeskCommand (line : List UInt8)  {r : Bool} (h : spec_IsDeskCommand line = some r) : CallOK Tryd.prog 18 [str line] [] [gTab 3 pow10C, gNum 0, gErr 1, gErr 2] [] (fun v outs ros => v = .bool r ∧ outs = [] ∧ ros = []) := by
  refine fn_ok Tryd.func18 rfl Tryd.ntmps18 rfl (fun c hF0 => ?_)
  unfold spec_IsDeskCommand at h
  refine g_seq ?_
  refine g_region ?_
  refine gl_batch 1 [(2, .bool false)] rfl ?_
  refine gl_nil ?_
  refine gx_seq ?_
  refine g_seq ?_
  refine g_region ?_
  refine gl_batch 1 [(8, str line)] rfl ?_
  obtain ⟨o1, ho1, h⟩ := bindS h
  refine gl_call rfl rfl (fun w => by kernel_rfl) (c_spec_l30Parse line ho1) (consItem (mem_at 0 rfl) (consItem (mem_at 1 rfl) (consItem (mem_at 2 rfl) (consItem (mem_at 3 rfl) noItem)))) noItem ?_
  rintro v outs ros ⟨a_v2, c_v3, rfl, rfl, rfl⟩
  refine ⟨_, rfl, ?_⟩
  refine gl_batch 9 [(6, .bool o1.2.2.2), (5, .slice a_v2 (List.length o1.2.2.1) c_v3), (4, str o1.2.1), (3, str o1.1), (13, .bool o1.2.2.2), (12, .slice a_v2 (List.length o1.2.2.1) c_v3), (11, str o1.2.1), (10, str o1.1), (7, .tuple #[str o1.1, str o1.2.1, .slice a_v2 (List.length o1.2.2.1) c_v3, .bool o1.2.2.2])] rfl ?_
  refine gl_nil ?_
  refine gx_seq ?_
  refine g_seq ?_
  refine g_region ?_
  refine gl_batch 2 [(2, .bool o1.2.2.2), (14, .bool o1.2.2.2)] rfl ?_
  refine gl_nil ?_
  refine gx_seq ?_
  refine g_ret ?_
  obtain rfl := Option.some.inj h
  exact gx_fin rfl [.bool o1.2.2.2] _ _ [] ⟨_, _, rfl, rfl, rfl⟩ rfl ⟨rfl, rfl, rfl⟩ (fun w hS => (hS.take 0).facts [] [] [] noItem noItem noItem) (Or.inl rfl)

end Go.Proofs.YtneifoepoccjaaaDoor
