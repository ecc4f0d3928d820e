/-
  What each function gives when it is called: the contracts, each with the walk through its code. Written by a program of ours.
-/
import Derived.Test.YtneifoepoccjaaaDoorC10
import Derived.Test.YtneifoepoccjaaaDoorC1a
import Derived.Test.YtneifoepoccjaaaDoorC1b
import Derived.Test.YtneifoepoccjaaaDoorC1c
namespace Go.Proofs.YtneifoepoccjaaaDoor
open Go Go.Proofs Go.Shelf
set_option maxHeartbeats 16000000
theorem c_spec_l28Recover (s : List UInt8)  {r : List Firing × Int} (h : spec_l28Recover s = some r) : CallOK Tryd.prog 59 [str s] [] [gTab 3 pow10C, gNum 0, gErr 1, gErr 2] [] (fun v outs ros => ∃ (a0 : Option Addr), ∃ (c0 : Nat), v = .tuple #[.slice a0 (List.length r.1) c0, .int .i64 r.2] ∧ outs = [SL false 47 FiringS a0 c0 r.1] ∧ ros = []) := by
  refine fn_ok Tryd.func59 rfl Tryd.ntmps59 rfl (fun c hF0 => ?_)
  unfold spec_l28Recover at h
  refine g_seq ?_
  refine g_region ?_
  refine gl_batch 2 [(3, .int .i64 0), (2, .slice none 0 0)] rfl ?_
  refine gl_nil ?_
  refine gx_seq ?_
  refine g_seq ?_
  refine g_region ?_
  refine gl_batch 1 [(12, str s)] rfl ?_
  obtain ⟨o1, ho1, h⟩ := bindS h
  refine gl_call rfl rfl (fun w => by kernel_rfl) (c_spec_l01Split s 10 ho1) (consItem (mem_at 0 rfl) (consItem (mem_at 1 rfl) (consItem (mem_at 2 rfl) (consItem (mem_at 3 rfl) noItem)))) noItem ?_
  rintro v outs ros ⟨a_v2, c_v3, rfl, rfl, rfl⟩
  refine ⟨_, rfl, ?_⟩
  refine gl_batch 1 [(4, .slice a_v2 (List.length o1) c_v3)] rfl ?_
  refine gl_nil ?_
  refine gx_seq ?_
  refine g_seq ?_
  refine g_region ?_
  refine gl_batch 2 [(6, .int .i64 0), (5, .int .i64 1)] rfl ?_
  refine gl_nil ?_
  refine gx_seq ?_
  refine g_seq ?_
  refine g_region ?_
  refine gl_lit (m := 3) (d := 14) (T := 47) (enc := FiringE) (hn := fun _ => rfl) false ([] : List Firing) rfl rfl (fun _ => rfl) nofun (Nat.le_of_ble_eq_true rfl) (fun w => by kernel_rfl) ?_
  intro a_v4 c_v5
  refine gl_batch 1 [(7, .slice a_v4 (List.length ([] : List Firing)) c_v5)] rfl ?_
  refine gl_nil ?_
  refine gx_seq ?_
  refine g_seq ?_
  refine g_seq ?_
  refine g_region ?_
  refine gl_batch 1 [(8, .int .i64 0)] rfl ?_
  refine gl_nil ?_
  refine gx_seq ?_
  refine g_block ?_
  obtain ⟨o6, ho6, h⟩ := bindS h
  refine g_loop (spec_l28Recover_L1 o1) (fun (ss_ : Int × Int × (List Firing) × Int) a w => ∃ (a_ss__r1 : Option Addr), ∃ (c_ss__r1 : Nat), Env a 85 [(4, .slice a_v2 (List.length o1) c_v3), (5, .int .i64 ss_.1), (6, .int .i64 ss_.2.1), (7, .slice a_ss__r1 (List.length ss_.2.2.1) c_ss__r1), (8, .int .i64 ss_.2.2.2)] ∧ St c w [SL false 9 strS a_v2 c_v3 o1, SL false 47 FiringS a_ss__r1 c_ss__r1 ss_.2.2.1] [gTab 3 pow10C, gNum 0, gErr 1, gErr 2] [] []) ((fun (ss_ : Int × (List Firing)) e a w => e = (.exit 0) ∧ ∃ (a_ss__r0 : Option Addr), ∃ (c_ss__r0 : Nat), Env a 85 [(6, .int .i64 ss_.1), (7, .slice a_ss__r0 (List.length ss_.2) c_ss__r0)] ∧ St c w [SL false 47 FiringS a_ss__r0 c_ss__r0 ss_.2] [gTab 3 pow10C, gNum 0, gErr 1, gErr 2] [] []) : (Int × (List Firing)) → Exit → Act → World → Prop) ho6 ?_ ?_ ?_
  · exact fun a w hE hS => ⟨a_v4, c_v5, hE.sub ⟨rfl, rfl, rfl, rfl, rfl, trivial⟩, (((hS.pick 0 rfl).pick 1 rfl).take 2).facts _ _ [] (consItem (mem_at 0 rfl) (consItem (mem_at 1 rfl) (consItem (mem_at 2 rfl) (consItem (mem_at 3 rfl) noItem)))) noItem noItem⟩
  · intro s7 o8 h a w hA
    obtain ⟨a_s7_r1, c_s7_r1, hE, hS⟩ := hA
    unfold spec_l28Recover_L1 at h
    refine g_enter hE hS ?_
    refine g_seq ?_
    refine g_seq ?_
    refine g_region ?_
    refine gl_batch 3 [(17, .slice a_v2 (List.length o1) c_v3), (16, .int .i64 (IntKind.i64.wrap (s7.2.2.2 + 1))), (15, .int .i64 s7.2.2.2)] rfl ?_
    refine gl_len rfl Fs71 rfl rfl ?_
    refine gl_batch 2 [(20, .bool (decide ((IntKind.i64.wrap (s7.2.2.2 + 1)) < (List.length o1 : Int)))), (19, .bool (decide ((IntKind.i64.wrap (s7.2.2.2 + 1)) < (List.length o1 : Int))))] rfl ?_
    refine gl_join (EE := [(24, .bool ((decide ((IntKind.i64.wrap (s7.2.2.2 + 1)) < (List.length o1 : Int))) && (decide ((List.length s7.2.2.1 : Int) < 500)))), (4, .slice a_v2 (List.length o1) c_v3), (5, .int .i64 s7.1), (6, .int .i64 s7.2.1), (7, .slice a_s7_r1 (List.length s7.2.2.1) c_s7_r1), (8, .int .i64 s7.2.2.2)]) (RR := [SL false 9 strS a_v2 c_v3 o1, SL false 47 FiringS a_s7_r1 c_s7_r1 s7.2.2.1]) (XX := [gTab 3 pow10C, gNum 0, gErr 1, gErr 2]) (OO := []) (VV := []) 4 ?_ ?_
    · skip
      refine gl_case 20 rfl (fun hc => ?_) (fun hc => ?_)
      · skip
        refine gl_batch 1 [(21, .slice a_s7_r1 (List.length s7.2.2.1) c_s7_r1)] rfl ?_
        refine gl_len rfl Fs26 rfl rfl ?_
        refine gl_batch 2 [(24, .bool (decide ((List.length s7.2.2.1 : Int) < 500))), (23, .bool (decide ((List.length s7.2.2.1 : Int) < 500)))] rfl ?_
        refine gl_nil ?_
        exact gx_mid ⟨congrArg (fun z => some (Value.bool z)) (and_t hc).symm, rfl, rfl, rfl, rfl, rfl, trivial⟩ (fun w hS => hS)
      · skip
        refine gl_batch 4 [(24, .bool false), (23, undef), (22, undef), (21, undef)] rfl ?_
        refine gl_nil ?_
        exact gx_mid ⟨congrArg (fun z => some (Value.bool z)) (and_f hc).symm, rfl, rfl, rfl, rfl, rfl, trivial⟩ (fun w hS => hS)
    · skip
      refine gl_nil ?_
      refine gx_seq ?_
      refine g_cond (b := (decide ((IntKind.i64.wrap (s7.2.2.2 + 1)) < (List.length o1 : Int))) && (decide ((List.length s7.2.2.1 : Int) < 500))) rfl (fun hc => ?_) (fun hc => ?_)
      · replace h := condT hc h
        refine g_skip ?_
        refine gx_seq ?_
        refine g_seq ?_
        refine g_block ?_
        refine g_seq ?_
        refine g_region ?_
        refine gl_batch 2 [(29, .int .i64 s7.2.2.2), (28, .slice a_v2 (List.length o1) c_v3)] rfl ?_
        obtain ⟨x9, hx9, h⟩ := bindS h
        refine gl_idxVn (k := .i64) (mem_at 0 rfl) rfl rfl Fs71 Fz9 hx9 rfl rfl ?_
        intro p10 hp10
        refine gl_ld1 0 hasAT (mem_at 2 rfl) rfl rfl Fo9 rfl rfl rfl ?_
        obtain ⟨o11, ho11, h⟩ := bindS h
        refine gl_call rfl rfl (fun w => by kernel_rfl) (c_spec_l01Split x9 32 ho11) (consItem (mem_at 0 rfl) (consItem (mem_at 1 rfl) (consItem (mem_at 2 rfl) (consItem (mem_at 3 rfl) noItem)))) noItem ?_
        rintro v outs ros ⟨a_v12, c_v13, rfl, rfl, rfl⟩
        refine ⟨_, rfl, ?_⟩
        obtain ⟨o14, ho14, h⟩ := bindS h
        refine gl_call rfl rfl (fun w => by kernel_rfl) (c_spec_l01Numbers o11 a_v12 c_v13 ho14) (consItem (mem_at 0 rfl) (consItem (mem_at 1 rfl) (consItem (mem_at 2 rfl) (consItem (mem_at 3 rfl) noItem)))) (consItem (mem_at 0 rfl) noItem) ?_
        rintro v outs ros ⟨a_v15, c_v16, rfl, rfl, rfl⟩
        refine ⟨_, rfl, ?_⟩
        refine gl_batch 5 [(10, .bool o14.2), (9, .slice a_v15 (List.length o14.1) c_v16), (35, .bool o14.2), (34, .slice a_v15 (List.length o14.1) c_v16), (27, .tuple #[.slice a_v15 (List.length o14.1) c_v16, .bool o14.2])] rfl ?_
        refine gl_nil ?_
        refine gx_seq ?_
        refine g_seq ?_
        refine g_seq ?_
        refine g_region ?_
        refine gl_batch 3 [(38, .bool (!o14.2)), (37, .bool (!o14.2)), (36, .bool o14.2)] rfl ?_
        refine gl_join (EE := [(42, .bool ((!o14.2) || ((List.length o14.1 : Int) != 3))), (4, .slice a_v2 (List.length o1) c_v3), (5, .int .i64 s7.1), (6, .int .i64 s7.2.1), (7, .slice a_s7_r1 (List.length s7.2.2.1) c_s7_r1), (8, .int .i64 s7.2.2.2), (9, .slice a_v15 (List.length o14.1) c_v16)]) (RR := [SL false 2 (intS .i64) a_v15 c_v16 o14.1, SL false 9 strS a_v12 c_v13 o11, SL false 9 strS a_v2 c_v3 o1, SL false 47 FiringS a_s7_r1 c_s7_r1 s7.2.2.1]) (XX := [gTab 3 pow10C, gNum 0, gErr 1, gErr 2]) (OO := []) (VV := [AT strS p10 x9]) 4 ?_ ?_
        · skip
          refine gl_case 38 rfl (fun hc => ?_) (fun hc => ?_)
          · skip
            refine gl_batch 4 [(42, .bool true), (41, undef), (40, undef), (39, undef)] rfl ?_
            refine gl_nil ?_
            exact gx_mid ⟨congrArg (fun z => some (Value.bool z)) (or_t hc).symm, rfl, rfl, rfl, rfl, rfl, rfl, trivial⟩ (fun w hS => hS)
          · skip
            refine gl_batch 1 [(39, .slice a_v15 (List.length o14.1) c_v16)] rfl ?_
            refine gl_len rfl Fs82 rfl rfl ?_
            refine gl_batch 2 [(42, .bool ((List.length o14.1 : Int) != 3)), (41, .bool ((List.length o14.1 : Int) != 3))] rfl ?_
            refine gl_nil ?_
            exact gx_mid ⟨congrArg (fun z => some (Value.bool z)) (or_f hc).symm, rfl, rfl, rfl, rfl, rfl, rfl, trivial⟩ (fun w hS => hS)
        · skip
          refine gl_nil ?_
          refine gx_seq ?_
          refine g_cond (b := (!o14.2) || ((List.length o14.1 : Int) != 3)) rfl (fun hc => ?_) (fun hc => ?_)
          · replace h := condT hc h
            refine g_exit ?_
            refine gx_seq_exit ?_
            refine gx_blk_miss rfl ?_
            refine gx_seq_exit ?_
            obtain rfl := Option.some.inj h
            exact gx_of (fun a w hE hS => lp_out nofun (⟨rfl, a_s7_r1, c_s7_r1, hE.sub ⟨rfl, rfl, trivial⟩, ((hS.pick 3 rfl).take 1).facts _ _ [] (consItem (mem_at 0 rfl) (consItem (mem_at 1 rfl) (consItem (mem_at 2 rfl) (consItem (mem_at 3 rfl) noItem)))) noItem noItem⟩))
          · replace h := condF hc h
            refine g_skip ?_
            refine gx_seq ?_
            refine g_seq ?_
            obtain ⟨x17, hx17, h⟩ := bindS h
            refine g_elemn (mem_at 0 rfl) hx17 ?_
            intro p18 hp18
            obtain ⟨x19, hx19, h⟩ := bindS h
            refine g_elemn (mem_at 0 rfl) hx19 ?_
            intro p20 hp20
            obtain ⟨o21, ho21, h⟩ := bindS h
            obtain ⟨x22, hx22, h⟩ := bindS h
            refine g_elemn (mem_at 0 rfl) hx22 ?_
            intro p23 hp23
            refine g_state (E' := [(4, .slice a_v2 (List.length o1) c_v3), (5, .int .i64 s7.1), (6, .int .i64 s7.2.1), (7, .slice a_s7_r1 (List.length s7.2.2.1) c_s7_r1), (8, .int .i64 s7.2.2.2), (9, .slice a_v15 (List.length o14.1) c_v16)]) (Rs' := [] ++ [SL false 2 (intS .i64) a_v15 c_v16 o14.1, SL false 9 strS a_v12 c_v13 o11, SL false 9 strS a_v2 c_v3 o1, SL false 47 FiringS a_s7_r1 c_s7_r1 s7.2.2.1]) (Xs' := [gTab 3 pow10C, gNum 0, gErr 1, gErr 2]) (Os' := []) (Vs' := []) ⟨rfl, rfl, rfl, rfl, rfl, rfl, trivial⟩ (fun w hS => (hS.take 4).facts _ _ _ (consItem (mem_at 0 rfl) (consItem (mem_at 1 rfl) (consItem (mem_at 2 rfl) (consItem (mem_at 3 rfl) noItem)))) noItem noItem) ?_
            refine g_draw (Rs := [SL false 2 (intS .i64) a_v15 c_v16 o14.1, SL false 9 strS a_v12 c_v13 o11, SL false 9 strS a_v2 c_v3 o1, SL false 47 FiringS a_s7_r1 c_s7_r1 s7.2.2.1]) 15 (dOf [[], [0], [1], [], [], [4], [5], [3, 6], [7], [], [9], [10], [2, 8, 11], [], [12, 13]]) (spOf [det 0 (.slice a_v15 (List.length o14.1) c_v16), det 1 (.pointer (some p18)), det 2 (.int .i64 x17), det 3 (.slice a_s7_r1 (List.length s7.2.2.1) c_s7_r1), det 4 (.slice a_v15 (List.length o14.1) c_v16), det 5 (.pointer (some p20)), det 6 (.int .i64 x19), det 7 (.int .i64 o21), det 8 (.int .i64 (IntKind.i64.wrap (o21 + 1))), det 9 (.slice a_v15 (List.length o14.1) c_v16), det 10 (.pointer (some p23)), det 11 (.int .i64 x22), det 12 (.agg #[.int .i64 x17, .int .i64 (IntKind.i64.wrap (o21 + 1)), .int .i64 x22]), ⟨[13], fun vals => ∃ (b24 : Nat), vals 13 = .pointer (some ⟨b24, 0, none⟩), fun vals => [], fun _ => []⟩, det 14 (undef)]) [13, 14] (fun k vals => match k with | 0 => [] | 1 => [BK 47 (ptB (vals 13)) [.int .i64 0, .int .i64 0, .int .i64 0]] | _ => [BK 47 (ptB (vals 13)) [.int .i64 x17, .int .i64 (IntKind.i64.wrap (o21 + 1)), .int .i64 x22]]) (eOf [[(9, .slice a_v15 (List.length o14.1) c_v16)], [], [], [(7, .slice a_s7_r1 (List.length s7.2.2.1) c_s7_r1)], [(9, .slice a_v15 (List.length o14.1) c_v16)], [], [], [], [], [(9, .slice a_v15 (List.length o14.1) c_v16)], [], [], [], [], []]) mixed rfl (Or.inr rfl) ⟨⟨⟨⟨⟨⟨⟨⟨⟨⟨⟨⟨⟨⟨⟨trivial, ⟨rfl, trivial⟩⟩, trivial⟩, trivial⟩, ⟨rfl, trivial⟩⟩, ⟨rfl, trivial⟩⟩, trivial⟩, trivial⟩, trivial⟩, trivial⟩, ⟨rfl, trivial⟩⟩, trivial⟩, trivial⟩, trivial⟩, trivial⟩, trivial⟩ rfl ⟨⟨⟨⟨⟨⟨⟨⟨⟨⟨⟨⟨⟨⟨⟨trivial, ?_⟩, ?_⟩, ?_⟩, ?_⟩, ?_⟩, ?_⟩, ?_⟩, ?_⟩, ?_⟩, ?_⟩, ?_⟩, ?_⟩, ?_⟩, ?_⟩, ?_⟩ ?_
            · intro vals E' R' O' hD
              refine gl_batch 1 [(43, .slice a_v15 (List.length o14.1) c_v16)] rfl ?_
              refine gl_nil ?_
              exact gx_fp (.slice a_v15 (List.length o14.1) c_v16) rfl rfl rfl rfl (fun _ h => h.sub (fun _ h => h) (st_oo (A := [])) (fun o ho => by cases ho))
            · intro vals E' R' O' hD
              have h0 : vals 0 = .slice a_v15 (List.length o14.1) c_v16 := hD 0 (memN 0 rfl)
              refine gl_convV (E2 := (43, .slice a_v15 (List.length o14.1) c_v16) :: ([] ++ E')) (V2 := [] ++ ([SL false 2 (intS .i64) a_v15 c_v16 o14.1, SL false 9 strS a_v12 c_v13 o11, SL false 9 strS a_v2 c_v3 o1, SL false 47 FiringS a_s7_r1 c_s7_r1 s7.2.2.1] ++ [])) (by show (43, vals 0) :: ([] ++ E') = _; rw [h0]) (by show [] ++ ([SL false 2 (intS .i64) a_v15 c_v16 o14.1, SL false 9 strS a_v12 c_v13 o11, SL false 9 strS a_v2 c_v3 o1, SL false 47 FiringS a_s7_r1 c_s7_r1 s7.2.2.1] ++ []) = _; rfl) ?_
              refine gl_idxVn (k := .i64) (memV (mem_at 0 rfl)) rfl rfl Fs82 Fz2 hx17 rfl rfl ?_
              intro p_ hp_
              obtain rfl : p18 = p_ := Option.some.inj (hp18.symm.trans hp_)
              refine gl_nil ?_
              exact gx_fp (.pointer (some p18)) rfl rfl rfl rfl (fun _ h => h.sub (fun _ h => h) (st_oo (A := [])) (fun o ho => by cases ho))
            · intro vals E' R' O' hD
              have h1 : vals 1 = .pointer (some p18) := hD 1 (memN 0 rfl)
              refine gl_convV (E2 := (44, .pointer (some p18)) :: ([] ++ E')) (V2 := [] ++ ([SL false 2 (intS .i64) a_v15 c_v16 o14.1, SL false 9 strS a_v12 c_v13 o11, SL false 9 strS a_v2 c_v3 o1, SL false 47 FiringS a_s7_r1 c_s7_r1 s7.2.2.1] ++ [])) (by show (44, vals 1) :: ([] ++ E') = _; rw [h1]) (by show [] ++ ([SL false 2 (intS .i64) a_v15 c_v16 o14.1, SL false 9 strS a_v12 c_v13 o11, SL false 9 strS a_v2 c_v3 o1, SL false 47 FiringS a_s7_r1 c_s7_r1 s7.2.2.1] ++ []) = _; rfl) ?_
              refine gl_elemVn (memV (mem_at 0 rfl)) hx17 hp18 ?_
              refine gl_ld1 0 hasAT (memV (mem_at 0 rfl)) rfl rfl Fo2 rfl rfl rfl ?_
              refine gl_nil ?_
              exact gx_fp (.int .i64 x17) rfl rfl rfl rfl (fun _ h => h.sub (fun _ h => h) (st_oo (A := [])) (fun o ho => by cases ho))
            · intro vals E' R' O' hD
              refine gl_batch 1 [(46, .slice a_s7_r1 (List.length s7.2.2.1) c_s7_r1)] rfl ?_
              refine gl_nil ?_
              exact gx_fp (.slice a_s7_r1 (List.length s7.2.2.1) c_s7_r1) rfl rfl rfl rfl (fun _ h => h.sub (fun _ h => h) (st_oo (A := [])) (fun o ho => by cases ho))
            · intro vals E' R' O' hD
              refine gl_batch 1 [(47, .slice a_v15 (List.length o14.1) c_v16)] rfl ?_
              refine gl_nil ?_
              exact gx_fp (.slice a_v15 (List.length o14.1) c_v16) rfl rfl rfl rfl (fun _ h => h.sub (fun _ h => h) (st_oo (A := [])) (fun o ho => by cases ho))
            · intro vals E' R' O' hD
              have h4 : vals 4 = .slice a_v15 (List.length o14.1) c_v16 := hD 4 (memN 0 rfl)
              refine gl_convV (E2 := (47, .slice a_v15 (List.length o14.1) c_v16) :: ([] ++ E')) (V2 := [] ++ ([SL false 2 (intS .i64) a_v15 c_v16 o14.1, SL false 9 strS a_v12 c_v13 o11, SL false 9 strS a_v2 c_v3 o1, SL false 47 FiringS a_s7_r1 c_s7_r1 s7.2.2.1] ++ [])) (by show (47, vals 4) :: ([] ++ E') = _; rw [h4]) (by show [] ++ ([SL false 2 (intS .i64) a_v15 c_v16 o14.1, SL false 9 strS a_v12 c_v13 o11, SL false 9 strS a_v2 c_v3 o1, SL false 47 FiringS a_s7_r1 c_s7_r1 s7.2.2.1] ++ []) = _; rfl) ?_
              refine gl_idxVn (k := .i64) (memV (mem_at 0 rfl)) rfl rfl Fs82 Fz2 hx19 rfl rfl ?_
              intro p_ hp_
              obtain rfl : p20 = p_ := Option.some.inj (hp20.symm.trans hp_)
              refine gl_nil ?_
              exact gx_fp (.pointer (some p20)) rfl rfl rfl rfl (fun _ h => h.sub (fun _ h => h) (st_oo (A := [])) (fun o ho => by cases ho))
            · intro vals E' R' O' hD
              have h5 : vals 5 = .pointer (some p20) := hD 5 (memN 0 rfl)
              refine gl_convV (E2 := (48, .pointer (some p20)) :: ([] ++ E')) (V2 := [] ++ ([SL false 2 (intS .i64) a_v15 c_v16 o14.1, SL false 9 strS a_v12 c_v13 o11, SL false 9 strS a_v2 c_v3 o1, SL false 47 FiringS a_s7_r1 c_s7_r1 s7.2.2.1] ++ [])) (by show (48, vals 5) :: ([] ++ E') = _; rw [h5]) (by show [] ++ ([SL false 2 (intS .i64) a_v15 c_v16 o14.1, SL false 9 strS a_v12 c_v13 o11, SL false 9 strS a_v2 c_v3 o1, SL false 47 FiringS a_s7_r1 c_s7_r1 s7.2.2.1] ++ []) = _; rfl) ?_
              refine gl_elemVn (memV (mem_at 0 rfl)) hx19 hp20 ?_
              refine gl_ld1 0 hasAT (memV (mem_at 0 rfl)) rfl rfl Fo2 rfl rfl rfl ?_
              refine gl_nil ?_
              exact gx_fp (.int .i64 x19) rfl rfl rfl rfl (fun _ h => h.sub (fun _ h => h) (st_oo (A := [])) (fun o ho => by cases ho))
            · intro vals E' R' O' hD
              have h3 : vals 3 = .slice a_s7_r1 (List.length s7.2.2.1) c_s7_r1 := hD 3 (memN 0 rfl)
              have h6 : vals 6 = .int .i64 x19 := hD 6 (memN 1 rfl)
              refine gl_convV (E2 := (46, .slice a_s7_r1 (List.length s7.2.2.1) c_s7_r1) :: (49, .int .i64 x19) :: ([] ++ E')) (V2 := [] ++ ([SL false 2 (intS .i64) a_v15 c_v16 o14.1, SL false 9 strS a_v12 c_v13 o11, SL false 9 strS a_v2 c_v3 o1, SL false 47 FiringS a_s7_r1 c_s7_r1 s7.2.2.1] ++ [])) (by show (46, vals 3) :: (49, vals 6) :: ([] ++ E') = _; rw [h3, h6]) (by show [] ++ ([SL false 2 (intS .i64) a_v15 c_v16 o14.1, SL false 9 strS a_v12 c_v13 o11, SL false 9 strS a_v2 c_v3 o1, SL false 47 FiringS a_s7_r1 c_s7_r1 s7.2.2.1] ++ []) = _; rfl) ?_
              refine gl_call rfl rfl (fun w => by kernel_rfl) (c_spec_l14Count s7.2.2.1 x19 a_s7_r1 c_s7_r1 ho21) (consItem (mem_at 0 rfl) (consItem (mem_at 1 rfl) (consItem (mem_at 2 rfl) (consItem (mem_at 3 rfl) noItem)))) (consItem (memV (mem_at 3 rfl)) noItem) ?_
              rintro v outs ros ⟨rfl, rfl, rfl⟩
              refine ⟨_, rfl, ?_⟩
              refine gl_nil ?_
              exact gx_fp (.int .i64 o21) rfl rfl rfl rfl (fun _ h => h.sub (fun _ h => h) (st_oo (A := [])) (fun o ho => by cases ho))
            · intro vals E' R' O' hD
              have h7 : vals 7 = .int .i64 o21 := hD 7 (memN 0 rfl)
              refine gl_convV (E2 := (50, .int .i64 o21) :: ([] ++ E')) (V2 := [] ++ ([SL false 2 (intS .i64) a_v15 c_v16 o14.1, SL false 9 strS a_v12 c_v13 o11, SL false 9 strS a_v2 c_v3 o1, SL false 47 FiringS a_s7_r1 c_s7_r1 s7.2.2.1] ++ [])) (by show (50, vals 7) :: ([] ++ E') = _; rw [h7]) (by show [] ++ ([SL false 2 (intS .i64) a_v15 c_v16 o14.1, SL false 9 strS a_v12 c_v13 o11, SL false 9 strS a_v2 c_v3 o1, SL false 47 FiringS a_s7_r1 c_s7_r1 s7.2.2.1] ++ []) = _; rfl) ?_
              refine gl_batch 1 [(51, .int .i64 (IntKind.i64.wrap (o21 + 1)))] rfl ?_
              refine gl_nil ?_
              exact gx_fp (.int .i64 (IntKind.i64.wrap (o21 + 1))) rfl rfl rfl rfl (fun _ h => h.sub (fun _ h => h) (st_oo (A := [])) (fun o ho => by cases ho))
            · intro vals E' R' O' hD
              refine gl_batch 1 [(52, .slice a_v15 (List.length o14.1) c_v16)] rfl ?_
              refine gl_nil ?_
              exact gx_fp (.slice a_v15 (List.length o14.1) c_v16) rfl rfl rfl rfl (fun _ h => h.sub (fun _ h => h) (st_oo (A := [])) (fun o ho => by cases ho))
            · intro vals E' R' O' hD
              have h9 : vals 9 = .slice a_v15 (List.length o14.1) c_v16 := hD 9 (memN 0 rfl)
              refine gl_convV (E2 := (52, .slice a_v15 (List.length o14.1) c_v16) :: ([] ++ E')) (V2 := [] ++ ([SL false 2 (intS .i64) a_v15 c_v16 o14.1, SL false 9 strS a_v12 c_v13 o11, SL false 9 strS a_v2 c_v3 o1, SL false 47 FiringS a_s7_r1 c_s7_r1 s7.2.2.1] ++ [])) (by show (52, vals 9) :: ([] ++ E') = _; rw [h9]) (by show [] ++ ([SL false 2 (intS .i64) a_v15 c_v16 o14.1, SL false 9 strS a_v12 c_v13 o11, SL false 9 strS a_v2 c_v3 o1, SL false 47 FiringS a_s7_r1 c_s7_r1 s7.2.2.1] ++ []) = _; rfl) ?_
              refine gl_idxVn (k := .i64) (memV (mem_at 0 rfl)) rfl rfl Fs82 Fz2 hx22 rfl rfl ?_
              intro p_ hp_
              obtain rfl : p23 = p_ := Option.some.inj (hp23.symm.trans hp_)
              refine gl_nil ?_
              exact gx_fp (.pointer (some p23)) rfl rfl rfl rfl (fun _ h => h.sub (fun _ h => h) (st_oo (A := [])) (fun o ho => by cases ho))
            · intro vals E' R' O' hD
              have h10 : vals 10 = .pointer (some p23) := hD 10 (memN 0 rfl)
              refine gl_convV (E2 := (53, .pointer (some p23)) :: ([] ++ E')) (V2 := [] ++ ([SL false 2 (intS .i64) a_v15 c_v16 o14.1, SL false 9 strS a_v12 c_v13 o11, SL false 9 strS a_v2 c_v3 o1, SL false 47 FiringS a_s7_r1 c_s7_r1 s7.2.2.1] ++ [])) (by show (53, vals 10) :: ([] ++ E') = _; rw [h10]) (by show [] ++ ([SL false 2 (intS .i64) a_v15 c_v16 o14.1, SL false 9 strS a_v12 c_v13 o11, SL false 9 strS a_v2 c_v3 o1, SL false 47 FiringS a_s7_r1 c_s7_r1 s7.2.2.1] ++ []) = _; rfl) ?_
              refine gl_elemVn (memV (mem_at 0 rfl)) hx22 hp23 ?_
              refine gl_ld1 0 hasAT (memV (mem_at 0 rfl)) rfl rfl Fo2 rfl rfl rfl ?_
              refine gl_nil ?_
              exact gx_fp (.int .i64 x22) rfl rfl rfl rfl (fun _ h => h.sub (fun _ h => h) (st_oo (A := [])) (fun o ho => by cases ho))
            · intro vals E' R' O' hD
              have h2 : vals 2 = .int .i64 x17 := hD 2 (memN 0 rfl)
              have h8 : vals 8 = .int .i64 (IntKind.i64.wrap (o21 + 1)) := hD 8 (memN 1 rfl)
              have h11 : vals 11 = .int .i64 x22 := hD 11 (memN 2 rfl)
              refine gl_convV (E2 := (45, .int .i64 x17) :: (51, .int .i64 (IntKind.i64.wrap (o21 + 1))) :: (54, .int .i64 x22) :: ([] ++ E')) (V2 := [] ++ ([SL false 2 (intS .i64) a_v15 c_v16 o14.1, SL false 9 strS a_v12 c_v13 o11, SL false 9 strS a_v2 c_v3 o1, SL false 47 FiringS a_s7_r1 c_s7_r1 s7.2.2.1] ++ [])) (by show (45, vals 2) :: (51, vals 8) :: (54, vals 11) :: ([] ++ E') = _; rw [h2, h8, h11]) (by show [] ++ ([SL false 2 (intS .i64) a_v15 c_v16 o14.1, SL false 9 strS a_v12 c_v13 o11, SL false 9 strS a_v2 c_v3 o1, SL false 47 FiringS a_s7_r1 c_s7_r1 s7.2.2.1] ++ []) = _; rfl) ?_
              refine gl_run (v := .agg #[.int .i64 x17, .int .i64 (IntKind.i64.wrap (o21 + 1)), .int .i64 x22]) rfl rfl rfl (fun w => by kernel_rfl) ?_
              refine gl_nil ?_
              exact gx_fp (.agg #[.int .i64 x17, .int .i64 (IntKind.i64.wrap (o21 + 1)), .int .i64 x22]) rfl rfl rfl rfl (fun _ h => h.sub (fun _ h => h) (st_oo (A := [])) (fun o ho => by cases ho))
            · intro vals E' R' O' hD hR
              refine gl_new (d := 11) (T := 47) [.int .i64 0, .int .i64 0, .int .i64 0] rfl rfl (fun _ => rfl) (fun w => by kernel_rfl) ?_
              intro b24
              refine gl_nil ?_
              exact gx_fp (.pointer (some ⟨b24, 0, none⟩)) rfl rfl rfl ⟨b24, rfl⟩ (fun _ h => h.sub (fun _ h => h) (st_oo (A := [])) (fun o ho => by cases ho))
            · intro vals E' R' O' hD hR
              have h12 : vals 12 = .agg #[.int .i64 x17, .int .i64 (IntKind.i64.wrap (o21 + 1)), .int .i64 x22] := hD 12 (memN 0 rfl)
              obtain ⟨b24, h13⟩ : ∃ (b24 : Nat), vals 13 = .pointer (some ⟨b24, 0, none⟩) := hD 13 (memN 1 rfl)
              refine gl_convV (E2 := (55, .agg #[.int .i64 x17, .int .i64 (IntKind.i64.wrap (o21 + 1)), .int .i64 x22]) :: (11, .pointer (some ⟨b24, 0, none⟩)) :: ([] ++ E')) (V2 := [] ++ [SL false 2 (intS .i64) a_v15 c_v16 o14.1, SL false 9 strS a_v12 c_v13 o11, SL false 9 strS a_v2 c_v3 o1, SL false 47 FiringS a_s7_r1 c_s7_r1 s7.2.2.1]) (by show (55, vals 12) :: (11, vals 13) :: ([] ++ E') = _; rw [h12, h13]) (by show [] ++ [SL false 2 (intS .i64) a_v15 c_v16 o14.1, SL false 9 strS a_v12 c_v13 o11, SL false 9 strS a_v2 c_v3 o1, SL false 47 FiringS a_s7_r1 c_s7_r1 s7.2.2.1] = _; rfl) ?_
              refine gl_convR (R2 := [BK 47 b24 [.int .i64 0, .int .i64 0, .int .i64 0]] ++ R') (by show [BK 47 (ptB (vals 13)) [.int .i64 0, .int .i64 0, .int .i64 0]] ++ R' = _; rw [h13] <;> rfl) ?_
              refine gl_stB (cells' := [.int .i64 x17, .int .i64 (IntKind.i64.wrap (o21 + 1)), .int .i64 x22]) 0 [.int .i64 x17, .int .i64 (IntKind.i64.wrap (o21 + 1)), .int .i64 x22] rfl rfl rfl Fz47 rfl rfl rfl rfl ?_
              refine gl_nil ?_
              refine gx_fp0 rfl rfl ?_
              show ∀ w, St c w ([BK 47 b24 [.int .i64 x17, .int .i64 (IntKind.i64.wrap (o21 + 1)), .int .i64 x22]] ++ R') _ _ _ → St c w ([BK 47 (ptB (vals 13)) [.int .i64 x17, .int .i64 (IntKind.i64.wrap (o21 + 1)), .int .i64 x22]] ++ ([] ++ R')) _ _ _
              rw [h13]
              exact fun _ h => h.sub (fun _ h => h) (st_oo (A := [])) (fun o ho => by cases ho)
            · intro vals hv
              obtain ⟨⟨⟨⟨⟨⟨⟨⟨⟨⟨⟨⟨⟨⟨⟨_, h0⟩, h1⟩, h2⟩, h3⟩, h4⟩, h5⟩, h6⟩, h7⟩, h8⟩, h9⟩, h10⟩, h11⟩, h12⟩, h13⟩, h14⟩ := hv
              have h0 : vals 0 = .slice a_v15 (List.length o14.1) c_v16 := h0
              have h1 : vals 1 = .pointer (some p18) := h1
              have h2 : vals 2 = .int .i64 x17 := h2
              have h3 : vals 3 = .slice a_s7_r1 (List.length s7.2.2.1) c_s7_r1 := h3
              have h4 : vals 4 = .slice a_v15 (List.length o14.1) c_v16 := h4
              have h5 : vals 5 = .pointer (some p20) := h5
              have h6 : vals 6 = .int .i64 x19 := h6
              have h7 : vals 7 = .int .i64 o21 := h7
              have h8 : vals 8 = .int .i64 (IntKind.i64.wrap (o21 + 1)) := h8
              have h9 : vals 9 = .slice a_v15 (List.length o14.1) c_v16 := h9
              have h10 : vals 10 = .pointer (some p23) := h10
              have h11 : vals 11 = .int .i64 x22 := h11
              have h12 : vals 12 = .agg #[.int .i64 x17, .int .i64 (IntKind.i64.wrap (o21 + 1)), .int .i64 x22] := h12
              obtain ⟨b24, h13⟩ : ∃ (b24 : Nat), vals 13 = .pointer (some ⟨b24, 0, none⟩) := h13
              have h14 : vals 14 = undef := h14
              refine gl_conv (E2 := (43, .slice a_v15 (List.length o14.1) c_v16) :: (44, .pointer (some p18)) :: (45, .int .i64 x17) :: (46, .slice a_s7_r1 (List.length s7.2.2.1) c_s7_r1) :: (47, .slice a_v15 (List.length o14.1) c_v16) :: (48, .pointer (some p20)) :: (49, .int .i64 x19) :: (50, .int .i64 o21) :: (51, .int .i64 (IntKind.i64.wrap (o21 + 1))) :: (52, .slice a_v15 (List.length o14.1) c_v16) :: (53, .pointer (some p23)) :: (54, .int .i64 x22) :: (55, .agg #[.int .i64 x17, .int .i64 (IntKind.i64.wrap (o21 + 1)), .int .i64 x22]) :: (11, .pointer (some ⟨b24, 0, none⟩)) :: [(4, .slice a_v2 (List.length o1) c_v3), (5, .int .i64 s7.1), (6, .int .i64 s7.2.1), (7, .slice a_s7_r1 (List.length s7.2.2.1) c_s7_r1), (8, .int .i64 s7.2.2.2), (9, .slice a_v15 (List.length o14.1) c_v16)]) (R2 := [BK 47 b24 [.int .i64 x17, .int .i64 (IntKind.i64.wrap (o21 + 1)), .int .i64 x22]] ++ ([] ++ [SL false 2 (intS .i64) a_v15 c_v16 o14.1, SL false 9 strS a_v12 c_v13 o11, SL false 9 strS a_v2 c_v3 o1, SL false 47 FiringS a_s7_r1 c_s7_r1 s7.2.2.1])) (O2 := [] ++ []) (by show (43, vals 0) :: (44, vals 1) :: (45, vals 2) :: (46, vals 3) :: (47, vals 4) :: (48, vals 5) :: (49, vals 6) :: (50, vals 7) :: (51, vals 8) :: (52, vals 9) :: (53, vals 10) :: (54, vals 11) :: (55, vals 12) :: (11, vals 13) :: [(4, .slice a_v2 (List.length o1) c_v3), (5, .int .i64 s7.1), (6, .int .i64 s7.2.1), (7, .slice a_s7_r1 (List.length s7.2.2.1) c_s7_r1), (8, .int .i64 s7.2.2.2), (9, .slice a_v15 (List.length o14.1) c_v16)] = _; rw [h0, h1, h2, h3, h4, h5, h6, h7, h8, h9, h10, h11, h12, h13]) (by show [BK 47 (ptB (vals 13)) [.int .i64 x17, .int .i64 (IntKind.i64.wrap (o21 + 1)), .int .i64 x22]] ++ ([] ++ [SL false 2 (intS .i64) a_v15 c_v16 o14.1, SL false 9 strS a_v12 c_v13 o11, SL false 9 strS a_v2 c_v3 o1, SL false 47 FiringS a_s7_r1 c_s7_r1 s7.2.2.1]) = _; rw [h13] <;> rfl) rfl ?_
              refine gl_nil ?_
              refine gx_seq ?_
              refine g_seq ?_
              obtain ⟨o25, ho25, h⟩ := bindS h
              refine g_mid (M := ((fun ss_ e a w => e = .normal ∧ Env a 85 [(4, .slice a_v2 (List.length o1) c_v3), (6, .int .i64 s7.2.1), (7, .slice a_s7_r1 (List.length s7.2.2.1) c_s7_r1), (8, .int .i64 s7.2.2.2), (9, .slice a_v15 (List.length o14.1) c_v16), (11, .pointer (some ⟨b24, 0, none⟩)), (67, .bool ss_)] ∧ St c w [SL false 9 strS a_v2 c_v3 o1, SL false 47 FiringS a_s7_r1 c_s7_r1 s7.2.2.1, SL false 2 (intS .i64) a_v15 c_v16 o14.1, BK 47 b24 [.int .i64 x17, .int .i64 (IntKind.i64.wrap (o21 + 1)), .int .i64 x22]] [gTab 3 pow10C, gNum 0, gErr 1, gErr 2] [] []) : (Bool) → Exit → Act → World → Prop) o25) ?_ ?_
              · replace h := ho25
                obtain ⟨o26, ho26, h⟩ := letS h
                refine g_case (!o26) (fun hg27 => ?_) (fun hg27 => ?_)
                · replace h := condT hg27 h
                  refine g_state (E' := [(4, .slice a_v2 (List.length o1) c_v3), (5, .int .i64 s7.1), (6, .int .i64 s7.2.1), (7, .slice a_s7_r1 (List.length s7.2.2.1) c_s7_r1), (8, .int .i64 s7.2.2.2), (9, .slice a_v15 (List.length o14.1) c_v16), (11, .pointer (some ⟨b24, 0, none⟩))]) (Rs' := [] ++ [BK 47 b24 [.int .i64 x17, .int .i64 (IntKind.i64.wrap (o21 + 1)), .int .i64 x22], SL false 2 (intS .i64) a_v15 c_v16 o14.1, SL false 9 strS a_v12 c_v13 o11, SL false 9 strS a_v2 c_v3 o1, SL false 47 FiringS a_s7_r1 c_s7_r1 s7.2.2.1]) (Xs' := [gTab 3 pow10C, gNum 0, gErr 1, gErr 2]) (Os' := []) (Vs' := []) ⟨rfl, rfl, rfl, rfl, rfl, rfl, rfl, trivial⟩ (fun w hS => hS) ?_
                  refine g_draw (Rs := [BK 47 b24 [.int .i64 x17, .int .i64 (IntKind.i64.wrap (o21 + 1)), .int .i64 x22], SL false 2 (intS .i64) a_v15 c_v16 o14.1, SL false 9 strS a_v12 c_v13 o11, SL false 9 strS a_v2 c_v3 o1, SL false 47 FiringS a_s7_r1 c_s7_r1 s7.2.2.1]) 12 (dOf [[], [0], [1], [2], [3], [3], [3], [3], [3], [3], [3], [3, 10]]) (spOf [det 0 (.agg #[.int .i64 x17, .int .i64 (IntKind.i64.wrap (o21 + 1)), .int .i64 x22]), det 1 (.bool o26), det 2 (.bool (!o26)), det 3 (.bool true), det 4 (undef), det 5 (undef), det 6 (undef), det 7 (undef), det 8 (undef), det 9 (undef), det 10 (undef), det 11 (.bool true)]) [] (fun _ _ => []) (eOf [[(11, .pointer (some ⟨b24, 0, none⟩))], [], [], [], [], [], [], [], [], [], [], []]) mixed rfl (Or.inl rfl) ⟨⟨⟨⟨⟨⟨⟨⟨⟨⟨⟨⟨trivial, ⟨rfl, trivial⟩⟩, trivial⟩, trivial⟩, trivial⟩, trivial⟩, trivial⟩, trivial⟩, trivial⟩, trivial⟩, trivial⟩, trivial⟩, trivial⟩ rfl ⟨⟨⟨⟨⟨⟨⟨⟨⟨⟨⟨⟨trivial, ?_⟩, ?_⟩, ?_⟩, ?_⟩, ?_⟩, ?_⟩, ?_⟩, ?_⟩, ?_⟩, ?_⟩, ?_⟩, ?_⟩ ?_
                  · intro vals E' R' O' hD
                    refine gl_ldA (vs := [.int .i64 x17, .int .i64 (IntKind.i64.wrap (o21 + 1)), .int .i64 x22]) 0 hasBK (memV (mem_at 0 rfl)) rfl rfl Fm47 Fz47 rfl rfl rfl ?_
                    refine gl_nil ?_
                    exact gx_fp (.agg #[.int .i64 x17, .int .i64 (IntKind.i64.wrap (o21 + 1)), .int .i64 x22]) rfl rfl rfl rfl (fun _ h => h.sub (fun _ h => h) (st_oo (A := [])) (fun o ho => by cases ho))
                  · intro vals E' R' O' hD
                    have h0 : vals 0 = .agg #[.int .i64 x17, .int .i64 (IntKind.i64.wrap (o21 + 1)), .int .i64 x22] := hD 0 (memN 0 rfl)
                    refine gl_convV (E2 := (56, .agg #[.int .i64 x17, .int .i64 (IntKind.i64.wrap (o21 + 1)), .int .i64 x22]) :: ([] ++ E')) (V2 := [] ++ ([BK 47 b24 [.int .i64 x17, .int .i64 (IntKind.i64.wrap (o21 + 1)), .int .i64 x22], SL false 2 (intS .i64) a_v15 c_v16 o14.1, SL false 9 strS a_v12 c_v13 o11, SL false 9 strS a_v2 c_v3 o1, SL false 47 FiringS a_s7_r1 c_s7_r1 s7.2.2.1] ++ [])) (by show (56, vals 0) :: ([] ++ E') = _; rw [h0]) (by show [] ++ ([BK 47 b24 [.int .i64 x17, .int .i64 (IntKind.i64.wrap (o21 + 1)), .int .i64 x22], SL false 2 (intS .i64) a_v15 c_v16 o14.1, SL false 9 strS a_v12 c_v13 o11, SL false 9 strS a_v2 c_v3 o1, SL false 47 FiringS a_s7_r1 c_s7_r1 s7.2.2.1] ++ []) = _; rfl) ?_
                    refine gl_call rfl rfl (fun w => by kernel_rfl) (c_spec_l28Writable (⟨x17, IntKind.i64.wrap (o21 + 1), x22⟩ : Firing) ho26) (consItem (mem_at 0 rfl) (consItem (mem_at 1 rfl) (consItem (mem_at 2 rfl) (consItem (mem_at 3 rfl) noItem)))) noItem ?_
                    rintro v outs ros ⟨rfl, rfl, rfl⟩
                    refine ⟨_, rfl, ?_⟩
                    refine gl_nil ?_
                    exact gx_fp (.bool o26) rfl rfl rfl rfl (fun _ h => h.sub (fun _ h => h) (st_oo (A := [])) (fun o ho => by cases ho))
                  · intro vals E' R' O' hD
                    have h1 : vals 1 = .bool o26 := hD 1 (memN 0 rfl)
                    refine gl_convV (E2 := (57, .bool o26) :: ([] ++ E')) (V2 := [] ++ ([BK 47 b24 [.int .i64 x17, .int .i64 (IntKind.i64.wrap (o21 + 1)), .int .i64 x22], SL false 2 (intS .i64) a_v15 c_v16 o14.1, SL false 9 strS a_v12 c_v13 o11, SL false 9 strS a_v2 c_v3 o1, SL false 47 FiringS a_s7_r1 c_s7_r1 s7.2.2.1] ++ [])) (by show (57, vals 1) :: ([] ++ E') = _; rw [h1]) (by show [] ++ ([BK 47 b24 [.int .i64 x17, .int .i64 (IntKind.i64.wrap (o21 + 1)), .int .i64 x22], SL false 2 (intS .i64) a_v15 c_v16 o14.1, SL false 9 strS a_v12 c_v13 o11, SL false 9 strS a_v2 c_v3 o1, SL false 47 FiringS a_s7_r1 c_s7_r1 s7.2.2.1] ++ []) = _; rfl) ?_
                    refine gl_batch 1 [(58, .bool (!o26))] rfl ?_
                    refine gl_nil ?_
                    exact gx_fp (.bool (!o26)) rfl rfl rfl rfl (fun _ h => h.sub (fun _ h => h) (st_oo (A := [])) (fun o ho => by cases ho))
                  · intro vals E' R' O' hD
                    have h2 : vals 2 = .bool (!o26) := hD 2 (memN 0 rfl)
                    refine gl_convV (E2 := (58, .bool (!o26)) :: ([] ++ E')) (V2 := [] ++ ([BK 47 b24 [.int .i64 x17, .int .i64 (IntKind.i64.wrap (o21 + 1)), .int .i64 x22], SL false 2 (intS .i64) a_v15 c_v16 o14.1, SL false 9 strS a_v12 c_v13 o11, SL false 9 strS a_v2 c_v3 o1, SL false 47 FiringS a_s7_r1 c_s7_r1 s7.2.2.1] ++ [])) (by show (58, vals 2) :: ([] ++ E') = _; rw [h2]) (by show [] ++ ([BK 47 b24 [.int .i64 x17, .int .i64 (IntKind.i64.wrap (o21 + 1)), .int .i64 x22], SL false 2 (intS .i64) a_v15 c_v16 o14.1, SL false 9 strS a_v12 c_v13 o11, SL false 9 strS a_v2 c_v3 o1, SL false 47 FiringS a_s7_r1 c_s7_r1 s7.2.2.1] ++ []) = _; rfl) ?_
                    refine gl_batch 1 [(59, .bool (!o26))] rfl ?_
                    refine gl_nil ?_
                    exact gx_fp (.bool true) rfl rfl (congrArg (fun z => some (Value.bool z)) hg27) rfl (fun _ h => h.sub (fun _ h => h) (st_oo (A := [])) (fun o ho => by cases ho))
                  · intro vals E' R' O' hD
                    have h3 : vals 3 = .bool true := hD 3 (memN 0 rfl)
                    refine gl_convV (E2 := (59, .bool true) :: ([] ++ E')) (V2 := [] ++ ([BK 47 b24 [.int .i64 x17, .int .i64 (IntKind.i64.wrap (o21 + 1)), .int .i64 x22], SL false 2 (intS .i64) a_v15 c_v16 o14.1, SL false 9 strS a_v12 c_v13 o11, SL false 9 strS a_v2 c_v3 o1, SL false 47 FiringS a_s7_r1 c_s7_r1 s7.2.2.1] ++ [])) (by show (59, vals 3) :: ([] ++ E') = _; rw [h3]) (by show [] ++ ([BK 47 b24 [.int .i64 x17, .int .i64 (IntKind.i64.wrap (o21 + 1)), .int .i64 x22], SL false 2 (intS .i64) a_v15 c_v16 o14.1, SL false 9 strS a_v12 c_v13 o11, SL false 9 strS a_v2 c_v3 o1, SL false 47 FiringS a_s7_r1 c_s7_r1 s7.2.2.1] ++ []) = _; rfl) ?_
                    refine gl_batch 1 [(60, undef)] rfl ?_
                    refine gl_nil ?_
                    exact gx_fp (undef) rfl rfl rfl rfl (fun _ h => h.sub (fun _ h => h) (st_oo (A := [])) (fun o ho => by cases ho))
                  · intro vals E' R' O' hD
                    have h3 : vals 3 = .bool true := hD 3 (memN 0 rfl)
                    refine gl_convV (E2 := (59, .bool true) :: ([] ++ E')) (V2 := [] ++ ([BK 47 b24 [.int .i64 x17, .int .i64 (IntKind.i64.wrap (o21 + 1)), .int .i64 x22], SL false 2 (intS .i64) a_v15 c_v16 o14.1, SL false 9 strS a_v12 c_v13 o11, SL false 9 strS a_v2 c_v3 o1, SL false 47 FiringS a_s7_r1 c_s7_r1 s7.2.2.1] ++ [])) (by show (59, vals 3) :: ([] ++ E') = _; rw [h3]) (by show [] ++ ([BK 47 b24 [.int .i64 x17, .int .i64 (IntKind.i64.wrap (o21 + 1)), .int .i64 x22], SL false 2 (intS .i64) a_v15 c_v16 o14.1, SL false 9 strS a_v12 c_v13 o11, SL false 9 strS a_v2 c_v3 o1, SL false 47 FiringS a_s7_r1 c_s7_r1 s7.2.2.1] ++ []) = _; rfl) ?_
                    refine gl_batch 1 [(61, undef)] rfl ?_
                    refine gl_nil ?_
                    exact gx_fp (undef) rfl rfl rfl rfl (fun _ h => h.sub (fun _ h => h) (st_oo (A := [])) (fun o ho => by cases ho))
                  · intro vals E' R' O' hD
                    have h3 : vals 3 = .bool true := hD 3 (memN 0 rfl)
                    refine gl_convV (E2 := (59, .bool true) :: ([] ++ E')) (V2 := [] ++ ([BK 47 b24 [.int .i64 x17, .int .i64 (IntKind.i64.wrap (o21 + 1)), .int .i64 x22], SL false 2 (intS .i64) a_v15 c_v16 o14.1, SL false 9 strS a_v12 c_v13 o11, SL false 9 strS a_v2 c_v3 o1, SL false 47 FiringS a_s7_r1 c_s7_r1 s7.2.2.1] ++ [])) (by show (59, vals 3) :: ([] ++ E') = _; rw [h3]) (by show [] ++ ([BK 47 b24 [.int .i64 x17, .int .i64 (IntKind.i64.wrap (o21 + 1)), .int .i64 x22], SL false 2 (intS .i64) a_v15 c_v16 o14.1, SL false 9 strS a_v12 c_v13 o11, SL false 9 strS a_v2 c_v3 o1, SL false 47 FiringS a_s7_r1 c_s7_r1 s7.2.2.1] ++ []) = _; rfl) ?_
                    refine gl_batch 1 [(62, undef)] rfl ?_
                    refine gl_nil ?_
                    exact gx_fp (undef) rfl rfl rfl rfl (fun _ h => h.sub (fun _ h => h) (st_oo (A := [])) (fun o ho => by cases ho))
                  · intro vals E' R' O' hD
                    have h3 : vals 3 = .bool true := hD 3 (memN 0 rfl)
                    refine gl_convV (E2 := (59, .bool true) :: ([] ++ E')) (V2 := [] ++ ([BK 47 b24 [.int .i64 x17, .int .i64 (IntKind.i64.wrap (o21 + 1)), .int .i64 x22], SL false 2 (intS .i64) a_v15 c_v16 o14.1, SL false 9 strS a_v12 c_v13 o11, SL false 9 strS a_v2 c_v3 o1, SL false 47 FiringS a_s7_r1 c_s7_r1 s7.2.2.1] ++ [])) (by show (59, vals 3) :: ([] ++ E') = _; rw [h3]) (by show [] ++ ([BK 47 b24 [.int .i64 x17, .int .i64 (IntKind.i64.wrap (o21 + 1)), .int .i64 x22], SL false 2 (intS .i64) a_v15 c_v16 o14.1, SL false 9 strS a_v12 c_v13 o11, SL false 9 strS a_v2 c_v3 o1, SL false 47 FiringS a_s7_r1 c_s7_r1 s7.2.2.1] ++ []) = _; rfl) ?_
                    refine gl_batch 1 [(63, undef)] rfl ?_
                    refine gl_nil ?_
                    exact gx_fp (undef) rfl rfl rfl rfl (fun _ h => h.sub (fun _ h => h) (st_oo (A := [])) (fun o ho => by cases ho))
                  · intro vals E' R' O' hD
                    have h3 : vals 3 = .bool true := hD 3 (memN 0 rfl)
                    refine gl_convV (E2 := (59, .bool true) :: ([] ++ E')) (V2 := [] ++ ([BK 47 b24 [.int .i64 x17, .int .i64 (IntKind.i64.wrap (o21 + 1)), .int .i64 x22], SL false 2 (intS .i64) a_v15 c_v16 o14.1, SL false 9 strS a_v12 c_v13 o11, SL false 9 strS a_v2 c_v3 o1, SL false 47 FiringS a_s7_r1 c_s7_r1 s7.2.2.1] ++ [])) (by show (59, vals 3) :: ([] ++ E') = _; rw [h3]) (by show [] ++ ([BK 47 b24 [.int .i64 x17, .int .i64 (IntKind.i64.wrap (o21 + 1)), .int .i64 x22], SL false 2 (intS .i64) a_v15 c_v16 o14.1, SL false 9 strS a_v12 c_v13 o11, SL false 9 strS a_v2 c_v3 o1, SL false 47 FiringS a_s7_r1 c_s7_r1 s7.2.2.1] ++ []) = _; rfl) ?_
                    refine gl_batch 1 [(64, undef)] rfl ?_
                    refine gl_nil ?_
                    exact gx_fp (undef) rfl rfl rfl rfl (fun _ h => h.sub (fun _ h => h) (st_oo (A := [])) (fun o ho => by cases ho))
                  · intro vals E' R' O' hD
                    have h3 : vals 3 = .bool true := hD 3 (memN 0 rfl)
                    refine gl_convV (E2 := (59, .bool true) :: ([] ++ E')) (V2 := [] ++ ([BK 47 b24 [.int .i64 x17, .int .i64 (IntKind.i64.wrap (o21 + 1)), .int .i64 x22], SL false 2 (intS .i64) a_v15 c_v16 o14.1, SL false 9 strS a_v12 c_v13 o11, SL false 9 strS a_v2 c_v3 o1, SL false 47 FiringS a_s7_r1 c_s7_r1 s7.2.2.1] ++ [])) (by show (59, vals 3) :: ([] ++ E') = _; rw [h3]) (by show [] ++ ([BK 47 b24 [.int .i64 x17, .int .i64 (IntKind.i64.wrap (o21 + 1)), .int .i64 x22], SL false 2 (intS .i64) a_v15 c_v16 o14.1, SL false 9 strS a_v12 c_v13 o11, SL false 9 strS a_v2 c_v3 o1, SL false 47 FiringS a_s7_r1 c_s7_r1 s7.2.2.1] ++ []) = _; rfl) ?_
                    refine gl_batch 1 [(65, undef)] rfl ?_
                    refine gl_nil ?_
                    exact gx_fp (undef) rfl rfl rfl rfl (fun _ h => h.sub (fun _ h => h) (st_oo (A := [])) (fun o ho => by cases ho))
                  · intro vals E' R' O' hD
                    have h3 : vals 3 = .bool true := hD 3 (memN 0 rfl)
                    refine gl_convV (E2 := (59, .bool true) :: ([] ++ E')) (V2 := [] ++ ([BK 47 b24 [.int .i64 x17, .int .i64 (IntKind.i64.wrap (o21 + 1)), .int .i64 x22], SL false 2 (intS .i64) a_v15 c_v16 o14.1, SL false 9 strS a_v12 c_v13 o11, SL false 9 strS a_v2 c_v3 o1, SL false 47 FiringS a_s7_r1 c_s7_r1 s7.2.2.1] ++ [])) (by show (59, vals 3) :: ([] ++ E') = _; rw [h3]) (by show [] ++ ([BK 47 b24 [.int .i64 x17, .int .i64 (IntKind.i64.wrap (o21 + 1)), .int .i64 x22], SL false 2 (intS .i64) a_v15 c_v16 o14.1, SL false 9 strS a_v12 c_v13 o11, SL false 9 strS a_v2 c_v3 o1, SL false 47 FiringS a_s7_r1 c_s7_r1 s7.2.2.1] ++ []) = _; rfl) ?_
                    refine gl_batch 1 [(66, undef)] rfl ?_
                    refine gl_nil ?_
                    exact gx_fp (undef) rfl rfl rfl rfl (fun _ h => h.sub (fun _ h => h) (st_oo (A := [])) (fun o ho => by cases ho))
                  · intro vals E' R' O' hD
                    have h3 : vals 3 = .bool true := hD 3 (memN 0 rfl)
                    have h10 : vals 10 = undef := hD 10 (memN 1 rfl)
                    refine gl_convV (E2 := (59, .bool true) :: (66, undef) :: ([] ++ E')) (V2 := [] ++ ([BK 47 b24 [.int .i64 x17, .int .i64 (IntKind.i64.wrap (o21 + 1)), .int .i64 x22], SL false 2 (intS .i64) a_v15 c_v16 o14.1, SL false 9 strS a_v12 c_v13 o11, SL false 9 strS a_v2 c_v3 o1, SL false 47 FiringS a_s7_r1 c_s7_r1 s7.2.2.1] ++ [])) (by show (59, vals 3) :: (66, vals 10) :: ([] ++ E') = _; rw [h3, h10]) (by show [] ++ ([BK 47 b24 [.int .i64 x17, .int .i64 (IntKind.i64.wrap (o21 + 1)), .int .i64 x22], SL false 2 (intS .i64) a_v15 c_v16 o14.1, SL false 9 strS a_v12 c_v13 o11, SL false 9 strS a_v2 c_v3 o1, SL false 47 FiringS a_s7_r1 c_s7_r1 s7.2.2.1] ++ []) = _; rfl) ?_
                    refine gl_batch 1 [(67, .bool true)] rfl ?_
                    refine gl_nil ?_
                    exact gx_fp (.bool true) rfl rfl rfl rfl (fun _ h => h.sub (fun _ h => h) (st_oo (A := [])) (fun o ho => by cases ho))
                  · intro vals hv
                    obtain ⟨⟨⟨⟨⟨⟨⟨⟨⟨⟨⟨⟨_, h0⟩, h1⟩, h2⟩, h3⟩, h4⟩, h5⟩, h6⟩, h7⟩, h8⟩, h9⟩, h10⟩, h11⟩ := hv
                    have h0 : vals 0 = .agg #[.int .i64 x17, .int .i64 (IntKind.i64.wrap (o21 + 1)), .int .i64 x22] := h0
                    have h1 : vals 1 = .bool o26 := h1
                    have h2 : vals 2 = .bool (!o26) := h2
                    have h3 : vals 3 = .bool true := h3
                    have h4 : vals 4 = undef := h4
                    have h5 : vals 5 = undef := h5
                    have h6 : vals 6 = undef := h6
                    have h7 : vals 7 = undef := h7
                    have h8 : vals 8 = undef := h8
                    have h9 : vals 9 = undef := h9
                    have h10 : vals 10 = undef := h10
                    have h11 : vals 11 = .bool true := h11
                    refine gl_conv (E2 := (56, .agg #[.int .i64 x17, .int .i64 (IntKind.i64.wrap (o21 + 1)), .int .i64 x22]) :: (57, .bool o26) :: (58, .bool (!o26)) :: (59, .bool true) :: (60, undef) :: (61, undef) :: (62, undef) :: (63, undef) :: (64, undef) :: (65, undef) :: (66, undef) :: (67, .bool true) :: [(4, .slice a_v2 (List.length o1) c_v3), (5, .int .i64 s7.1), (6, .int .i64 s7.2.1), (7, .slice a_s7_r1 (List.length s7.2.2.1) c_s7_r1), (8, .int .i64 s7.2.2.2), (9, .slice a_v15 (List.length o14.1) c_v16), (11, .pointer (some ⟨b24, 0, none⟩))]) (R2 := [] ++ ([] ++ [BK 47 b24 [.int .i64 x17, .int .i64 (IntKind.i64.wrap (o21 + 1)), .int .i64 x22], SL false 2 (intS .i64) a_v15 c_v16 o14.1, SL false 9 strS a_v12 c_v13 o11, SL false 9 strS a_v2 c_v3 o1, SL false 47 FiringS a_s7_r1 c_s7_r1 s7.2.2.1])) (O2 := [] ++ []) (by show (56, vals 0) :: (57, vals 1) :: (58, vals 2) :: (59, vals 3) :: (60, vals 4) :: (61, vals 5) :: (62, vals 6) :: (63, vals 7) :: (64, vals 8) :: (65, vals 9) :: (66, vals 10) :: (67, vals 11) :: [(4, .slice a_v2 (List.length o1) c_v3), (5, .int .i64 s7.1), (6, .int .i64 s7.2.1), (7, .slice a_s7_r1 (List.length s7.2.2.1) c_s7_r1), (8, .int .i64 s7.2.2.2), (9, .slice a_v15 (List.length o14.1) c_v16), (11, .pointer (some ⟨b24, 0, none⟩))] = _; rw [h0, h1, h2, h3, h4, h5, h6, h7, h8, h9, h10, h11]) (by show [] ++ ([] ++ [BK 47 b24 [.int .i64 x17, .int .i64 (IntKind.i64.wrap (o21 + 1)), .int .i64 x22], SL false 2 (intS .i64) a_v15 c_v16 o14.1, SL false 9 strS a_v12 c_v13 o11, SL false 9 strS a_v2 c_v3 o1, SL false 47 FiringS a_s7_r1 c_s7_r1 s7.2.2.1]) = _; rfl) rfl ?_
                    refine gl_nil ?_
                    obtain rfl := Option.some.inj h
                    exact gx_of (fun a w hE hS => ⟨rfl, hE.sub ⟨rfl, rfl, rfl, rfl, rfl, rfl, rfl, trivial⟩, (((((hS.pick 0 rfl).pick 1 rfl).pick 4 rfl).pick 4 rfl).take 4).facts _ _ [] (consItem (mem_at 0 rfl) (consItem (mem_at 1 rfl) (consItem (mem_at 2 rfl) (consItem (mem_at 3 rfl) noItem)))) noItem noItem⟩)
                · replace h := condF hg27 h
                  obtain ⟨x28, hx28, h⟩ := bindS h
                  refine g_elemn (mem_at 1 rfl) hx28 ?_
                  intro p29 hp29
                  obtain ⟨o30, ho30, h⟩ := letS h
                  refine g_state (E' := [(4, .slice a_v2 (List.length o1) c_v3), (5, .int .i64 s7.1), (6, .int .i64 s7.2.1), (7, .slice a_s7_r1 (List.length s7.2.2.1) c_s7_r1), (8, .int .i64 s7.2.2.2), (9, .slice a_v15 (List.length o14.1) c_v16), (11, .pointer (some ⟨b24, 0, none⟩))]) (Rs' := [] ++ [BK 47 b24 [.int .i64 x17, .int .i64 (IntKind.i64.wrap (o21 + 1)), .int .i64 x22], SL false 2 (intS .i64) a_v15 c_v16 o14.1, SL false 9 strS a_v12 c_v13 o11, SL false 9 strS a_v2 c_v3 o1, SL false 47 FiringS a_s7_r1 c_s7_r1 s7.2.2.1]) (Xs' := [gTab 3 pow10C, gNum 0, gErr 1, gErr 2]) (Os' := []) (Vs' := []) ⟨rfl, rfl, rfl, rfl, rfl, rfl, rfl, trivial⟩ (fun w hS => hS) ?_
                  refine g_draw (Rs := [BK 47 b24 [.int .i64 x17, .int .i64 (IntKind.i64.wrap (o21 + 1)), .int .i64 x22], SL false 2 (intS .i64) a_v15 c_v16 o14.1, SL false 9 strS a_v12 c_v13 o11, SL false 9 strS a_v2 c_v3 o1, SL false 47 FiringS a_s7_r1 c_s7_r1 s7.2.2.1]) 12 (dOf [[], [0], [1], [2], [3], [3, 4], [3, 5], [3], [3], [3, 7, 8], [3, 6, 9], [3, 10]]) (spOf [det 0 (.agg #[.int .i64 x17, .int .i64 (IntKind.i64.wrap (o21 + 1)), .int .i64 x22]), det 1 (.bool o26), det 2 (.bool (!o26)), det 3 (.bool false), det 4 (.slice a_v15 (List.length o14.1) c_v16), det 5 (.pointer (some p29)), det 6 (.int .i64 x28), det 7 (.int .i64 s7.1), det 8 (.agg #[.int .i64 x17, .int .i64 (IntKind.i64.wrap (o21 + 1)), .int .i64 x22]), det 9 (.int .i64 o30), det 10 (.bool (x28 != o30)), det 11 (.bool (x28 != o30))]) [] (fun _ _ => []) (eOf [[(11, .pointer (some ⟨b24, 0, none⟩))], [], [], [], [(9, .slice a_v15 (List.length o14.1) c_v16)], [], [], [(5, .int .i64 s7.1)], [(11, .pointer (some ⟨b24, 0, none⟩))], [], [], []]) mixed rfl (Or.inl rfl) ⟨⟨⟨⟨⟨⟨⟨⟨⟨⟨⟨⟨trivial, ⟨rfl, trivial⟩⟩, trivial⟩, trivial⟩, trivial⟩, ⟨rfl, trivial⟩⟩, trivial⟩, trivial⟩, ⟨rfl, trivial⟩⟩, ⟨rfl, trivial⟩⟩, trivial⟩, trivial⟩, trivial⟩ rfl ⟨⟨⟨⟨⟨⟨⟨⟨⟨⟨⟨⟨trivial, ?_⟩, ?_⟩, ?_⟩, ?_⟩, ?_⟩, ?_⟩, ?_⟩, ?_⟩, ?_⟩, ?_⟩, ?_⟩, ?_⟩ ?_
                  · intro vals E' R' O' hD
                    refine gl_ldA (vs := [.int .i64 x17, .int .i64 (IntKind.i64.wrap (o21 + 1)), .int .i64 x22]) 0 hasBK (memV (mem_at 0 rfl)) rfl rfl Fm47 Fz47 rfl rfl rfl ?_
                    refine gl_nil ?_
                    exact gx_fp (.agg #[.int .i64 x17, .int .i64 (IntKind.i64.wrap (o21 + 1)), .int .i64 x22]) rfl rfl rfl rfl (fun _ h => h.sub (fun _ h => h) (st_oo (A := [])) (fun o ho => by cases ho))
                  · intro vals E' R' O' hD
                    have h0 : vals 0 = .agg #[.int .i64 x17, .int .i64 (IntKind.i64.wrap (o21 + 1)), .int .i64 x22] := hD 0 (memN 0 rfl)
                    refine gl_convV (E2 := (56, .agg #[.int .i64 x17, .int .i64 (IntKind.i64.wrap (o21 + 1)), .int .i64 x22]) :: ([] ++ E')) (V2 := [] ++ ([BK 47 b24 [.int .i64 x17, .int .i64 (IntKind.i64.wrap (o21 + 1)), .int .i64 x22], SL false 2 (intS .i64) a_v15 c_v16 o14.1, SL false 9 strS a_v12 c_v13 o11, SL false 9 strS a_v2 c_v3 o1, SL false 47 FiringS a_s7_r1 c_s7_r1 s7.2.2.1] ++ [])) (by show (56, vals 0) :: ([] ++ E') = _; rw [h0]) (by show [] ++ ([BK 47 b24 [.int .i64 x17, .int .i64 (IntKind.i64.wrap (o21 + 1)), .int .i64 x22], SL false 2 (intS .i64) a_v15 c_v16 o14.1, SL false 9 strS a_v12 c_v13 o11, SL false 9 strS a_v2 c_v3 o1, SL false 47 FiringS a_s7_r1 c_s7_r1 s7.2.2.1] ++ []) = _; rfl) ?_
                    refine gl_call rfl rfl (fun w => by kernel_rfl) (c_spec_l28Writable (⟨x17, IntKind.i64.wrap (o21 + 1), x22⟩ : Firing) ho26) (consItem (mem_at 0 rfl) (consItem (mem_at 1 rfl) (consItem (mem_at 2 rfl) (consItem (mem_at 3 rfl) noItem)))) noItem ?_
                    rintro v outs ros ⟨rfl, rfl, rfl⟩
                    refine ⟨_, rfl, ?_⟩
                    refine gl_nil ?_
                    exact gx_fp (.bool o26) rfl rfl rfl rfl (fun _ h => h.sub (fun _ h => h) (st_oo (A := [])) (fun o ho => by cases ho))
                  · intro vals E' R' O' hD
                    have h1 : vals 1 = .bool o26 := hD 1 (memN 0 rfl)
                    refine gl_convV (E2 := (57, .bool o26) :: ([] ++ E')) (V2 := [] ++ ([BK 47 b24 [.int .i64 x17, .int .i64 (IntKind.i64.wrap (o21 + 1)), .int .i64 x22], SL false 2 (intS .i64) a_v15 c_v16 o14.1, SL false 9 strS a_v12 c_v13 o11, SL false 9 strS a_v2 c_v3 o1, SL false 47 FiringS a_s7_r1 c_s7_r1 s7.2.2.1] ++ [])) (by show (57, vals 1) :: ([] ++ E') = _; rw [h1]) (by show [] ++ ([BK 47 b24 [.int .i64 x17, .int .i64 (IntKind.i64.wrap (o21 + 1)), .int .i64 x22], SL false 2 (intS .i64) a_v15 c_v16 o14.1, SL false 9 strS a_v12 c_v13 o11, SL false 9 strS a_v2 c_v3 o1, SL false 47 FiringS a_s7_r1 c_s7_r1 s7.2.2.1] ++ []) = _; rfl) ?_
                    refine gl_batch 1 [(58, .bool (!o26))] rfl ?_
                    refine gl_nil ?_
                    exact gx_fp (.bool (!o26)) rfl rfl rfl rfl (fun _ h => h.sub (fun _ h => h) (st_oo (A := [])) (fun o ho => by cases ho))
                  · intro vals E' R' O' hD
                    have h2 : vals 2 = .bool (!o26) := hD 2 (memN 0 rfl)
                    refine gl_convV (E2 := (58, .bool (!o26)) :: ([] ++ E')) (V2 := [] ++ ([BK 47 b24 [.int .i64 x17, .int .i64 (IntKind.i64.wrap (o21 + 1)), .int .i64 x22], SL false 2 (intS .i64) a_v15 c_v16 o14.1, SL false 9 strS a_v12 c_v13 o11, SL false 9 strS a_v2 c_v3 o1, SL false 47 FiringS a_s7_r1 c_s7_r1 s7.2.2.1] ++ [])) (by show (58, vals 2) :: ([] ++ E') = _; rw [h2]) (by show [] ++ ([BK 47 b24 [.int .i64 x17, .int .i64 (IntKind.i64.wrap (o21 + 1)), .int .i64 x22], SL false 2 (intS .i64) a_v15 c_v16 o14.1, SL false 9 strS a_v12 c_v13 o11, SL false 9 strS a_v2 c_v3 o1, SL false 47 FiringS a_s7_r1 c_s7_r1 s7.2.2.1] ++ []) = _; rfl) ?_
                    refine gl_batch 1 [(59, .bool (!o26))] rfl ?_
                    refine gl_nil ?_
                    exact gx_fp (.bool false) rfl rfl (congrArg (fun z => some (Value.bool z)) hg27) rfl (fun _ h => h.sub (fun _ h => h) (st_oo (A := [])) (fun o ho => by cases ho))
                  · intro vals E' R' O' hD
                    have h3 : vals 3 = .bool false := hD 3 (memN 0 rfl)
                    refine gl_convV (E2 := (59, .bool false) :: ([(9, .slice a_v15 (List.length o14.1) c_v16)] ++ E')) (V2 := [] ++ ([BK 47 b24 [.int .i64 x17, .int .i64 (IntKind.i64.wrap (o21 + 1)), .int .i64 x22], SL false 2 (intS .i64) a_v15 c_v16 o14.1, SL false 9 strS a_v12 c_v13 o11, SL false 9 strS a_v2 c_v3 o1, SL false 47 FiringS a_s7_r1 c_s7_r1 s7.2.2.1] ++ [])) (by show (59, vals 3) :: ([(9, .slice a_v15 (List.length o14.1) c_v16)] ++ E') = _; rw [h3]) (by show [] ++ ([BK 47 b24 [.int .i64 x17, .int .i64 (IntKind.i64.wrap (o21 + 1)), .int .i64 x22], SL false 2 (intS .i64) a_v15 c_v16 o14.1, SL false 9 strS a_v12 c_v13 o11, SL false 9 strS a_v2 c_v3 o1, SL false 47 FiringS a_s7_r1 c_s7_r1 s7.2.2.1] ++ []) = _; rfl) ?_
                    refine gl_batch 1 [(60, .slice a_v15 (List.length o14.1) c_v16)] rfl ?_
                    refine gl_nil ?_
                    exact gx_fp (.slice a_v15 (List.length o14.1) c_v16) rfl rfl rfl rfl (fun _ h => h.sub (fun _ h => h) (st_oo (A := [])) (fun o ho => by cases ho))
                  · intro vals E' R' O' hD
                    have h3 : vals 3 = .bool false := hD 3 (memN 0 rfl)
                    have h4 : vals 4 = .slice a_v15 (List.length o14.1) c_v16 := hD 4 (memN 1 rfl)
                    refine gl_convV (E2 := (59, .bool false) :: (60, .slice a_v15 (List.length o14.1) c_v16) :: ([] ++ E')) (V2 := [] ++ ([BK 47 b24 [.int .i64 x17, .int .i64 (IntKind.i64.wrap (o21 + 1)), .int .i64 x22], SL false 2 (intS .i64) a_v15 c_v16 o14.1, SL false 9 strS a_v12 c_v13 o11, SL false 9 strS a_v2 c_v3 o1, SL false 47 FiringS a_s7_r1 c_s7_r1 s7.2.2.1] ++ [])) (by show (59, vals 3) :: (60, vals 4) :: ([] ++ E') = _; rw [h3, h4]) (by show [] ++ ([BK 47 b24 [.int .i64 x17, .int .i64 (IntKind.i64.wrap (o21 + 1)), .int .i64 x22], SL false 2 (intS .i64) a_v15 c_v16 o14.1, SL false 9 strS a_v12 c_v13 o11, SL false 9 strS a_v2 c_v3 o1, SL false 47 FiringS a_s7_r1 c_s7_r1 s7.2.2.1] ++ []) = _; rfl) ?_
                    refine gl_idxVn (k := .i64) (memV (mem_at 1 rfl)) rfl rfl Fs82 Fz2 hx28 rfl rfl ?_
                    intro p_ hp_
                    obtain rfl : p29 = p_ := Option.some.inj (hp29.symm.trans hp_)
                    refine gl_nil ?_
                    exact gx_fp (.pointer (some p29)) rfl rfl rfl rfl (fun _ h => h.sub (fun _ h => h) (st_oo (A := [])) (fun o ho => by cases ho))
                  · intro vals E' R' O' hD
                    have h3 : vals 3 = .bool false := hD 3 (memN 0 rfl)
                    have h5 : vals 5 = .pointer (some p29) := hD 5 (memN 1 rfl)
                    refine gl_convV (E2 := (59, .bool false) :: (61, .pointer (some p29)) :: ([] ++ E')) (V2 := [] ++ ([BK 47 b24 [.int .i64 x17, .int .i64 (IntKind.i64.wrap (o21 + 1)), .int .i64 x22], SL false 2 (intS .i64) a_v15 c_v16 o14.1, SL false 9 strS a_v12 c_v13 o11, SL false 9 strS a_v2 c_v3 o1, SL false 47 FiringS a_s7_r1 c_s7_r1 s7.2.2.1] ++ [])) (by show (59, vals 3) :: (61, vals 5) :: ([] ++ E') = _; rw [h3, h5]) (by show [] ++ ([BK 47 b24 [.int .i64 x17, .int .i64 (IntKind.i64.wrap (o21 + 1)), .int .i64 x22], SL false 2 (intS .i64) a_v15 c_v16 o14.1, SL false 9 strS a_v12 c_v13 o11, SL false 9 strS a_v2 c_v3 o1, SL false 47 FiringS a_s7_r1 c_s7_r1 s7.2.2.1] ++ []) = _; rfl) ?_
                    refine gl_elemVn (memV (mem_at 1 rfl)) hx28 hp29 ?_
                    refine gl_ld1 0 hasAT (memV (mem_at 0 rfl)) rfl rfl Fo2 rfl rfl rfl ?_
                    refine gl_nil ?_
                    exact gx_fp (.int .i64 x28) rfl rfl rfl rfl (fun _ h => h.sub (fun _ h => h) (st_oo (A := [])) (fun o ho => by cases ho))
                  · intro vals E' R' O' hD
                    have h3 : vals 3 = .bool false := hD 3 (memN 0 rfl)
                    refine gl_convV (E2 := (59, .bool false) :: ([(5, .int .i64 s7.1)] ++ E')) (V2 := [] ++ ([BK 47 b24 [.int .i64 x17, .int .i64 (IntKind.i64.wrap (o21 + 1)), .int .i64 x22], SL false 2 (intS .i64) a_v15 c_v16 o14.1, SL false 9 strS a_v12 c_v13 o11, SL false 9 strS a_v2 c_v3 o1, SL false 47 FiringS a_s7_r1 c_s7_r1 s7.2.2.1] ++ [])) (by show (59, vals 3) :: ([(5, .int .i64 s7.1)] ++ E') = _; rw [h3]) (by show [] ++ ([BK 47 b24 [.int .i64 x17, .int .i64 (IntKind.i64.wrap (o21 + 1)), .int .i64 x22], SL false 2 (intS .i64) a_v15 c_v16 o14.1, SL false 9 strS a_v12 c_v13 o11, SL false 9 strS a_v2 c_v3 o1, SL false 47 FiringS a_s7_r1 c_s7_r1 s7.2.2.1] ++ []) = _; rfl) ?_
                    refine gl_batch 1 [(63, .int .i64 s7.1)] rfl ?_
                    refine gl_nil ?_
                    exact gx_fp (.int .i64 s7.1) rfl rfl rfl rfl (fun _ h => h.sub (fun _ h => h) (st_oo (A := [])) (fun o ho => by cases ho))
                  · intro vals E' R' O' hD
                    have h3 : vals 3 = .bool false := hD 3 (memN 0 rfl)
                    refine gl_convV (E2 := (59, .bool false) :: ([(11, .pointer (some ⟨b24, 0, none⟩))] ++ E')) (V2 := [] ++ ([BK 47 b24 [.int .i64 x17, .int .i64 (IntKind.i64.wrap (o21 + 1)), .int .i64 x22], SL false 2 (intS .i64) a_v15 c_v16 o14.1, SL false 9 strS a_v12 c_v13 o11, SL false 9 strS a_v2 c_v3 o1, SL false 47 FiringS a_s7_r1 c_s7_r1 s7.2.2.1] ++ [])) (by show (59, vals 3) :: ([(11, .pointer (some ⟨b24, 0, none⟩))] ++ E') = _; rw [h3]) (by show [] ++ ([BK 47 b24 [.int .i64 x17, .int .i64 (IntKind.i64.wrap (o21 + 1)), .int .i64 x22], SL false 2 (intS .i64) a_v15 c_v16 o14.1, SL false 9 strS a_v12 c_v13 o11, SL false 9 strS a_v2 c_v3 o1, SL false 47 FiringS a_s7_r1 c_s7_r1 s7.2.2.1] ++ []) = _; rfl) ?_
                    refine gl_ldA (vs := [.int .i64 x17, .int .i64 (IntKind.i64.wrap (o21 + 1)), .int .i64 x22]) 0 hasBK (memV (mem_at 0 rfl)) rfl rfl Fm47 Fz47 rfl rfl rfl ?_
                    refine gl_nil ?_
                    exact gx_fp (.agg #[.int .i64 x17, .int .i64 (IntKind.i64.wrap (o21 + 1)), .int .i64 x22]) rfl rfl rfl rfl (fun _ h => h.sub (fun _ h => h) (st_oo (A := [])) (fun o ho => by cases ho))
                  · intro vals E' R' O' hD
                    have h3 : vals 3 = .bool false := hD 3 (memN 0 rfl)
                    have h7 : vals 7 = .int .i64 s7.1 := hD 7 (memN 1 rfl)
                    have h8 : vals 8 = .agg #[.int .i64 x17, .int .i64 (IntKind.i64.wrap (o21 + 1)), .int .i64 x22] := hD 8 (memN 2 rfl)
                    refine gl_convV (E2 := (59, .bool false) :: (63, .int .i64 s7.1) :: (64, .agg #[.int .i64 x17, .int .i64 (IntKind.i64.wrap (o21 + 1)), .int .i64 x22]) :: ([] ++ E')) (V2 := [] ++ ([BK 47 b24 [.int .i64 x17, .int .i64 (IntKind.i64.wrap (o21 + 1)), .int .i64 x22], SL false 2 (intS .i64) a_v15 c_v16 o14.1, SL false 9 strS a_v12 c_v13 o11, SL false 9 strS a_v2 c_v3 o1, SL false 47 FiringS a_s7_r1 c_s7_r1 s7.2.2.1] ++ [])) (by show (59, vals 3) :: (63, vals 7) :: (64, vals 8) :: ([] ++ E') = _; rw [h3, h7, h8]) (by show [] ++ ([BK 47 b24 [.int .i64 x17, .int .i64 (IntKind.i64.wrap (o21 + 1)), .int .i64 x22], SL false 2 (intS .i64) a_v15 c_v16 o14.1, SL false 9 strS a_v12 c_v13 o11, SL false 9 strS a_v2 c_v3 o1, SL false 47 FiringS a_s7_r1 c_s7_r1 s7.2.2.1] ++ []) = _; rfl) ?_
                    refine gl_call rfl rfl (fun w => by kernel_rfl) (c_spec_l28Next s7.1 (⟨x17, IntKind.i64.wrap (o21 + 1), x22⟩ : Firing) ho30) (consItem (mem_at 0 rfl) (consItem (mem_at 1 rfl) (consItem (mem_at 2 rfl) (consItem (mem_at 3 rfl) noItem)))) noItem ?_
                    rintro v outs ros ⟨rfl, rfl, rfl⟩
                    refine ⟨_, rfl, ?_⟩
                    refine gl_nil ?_
                    exact gx_fp (.int .i64 o30) rfl rfl rfl rfl (fun _ h => h.sub (fun _ h => h) (st_oo (A := [])) (fun o ho => by cases ho))
                  · intro vals E' R' O' hD
                    have h3 : vals 3 = .bool false := hD 3 (memN 0 rfl)
                    have h6 : vals 6 = .int .i64 x28 := hD 6 (memN 1 rfl)
                    have h9 : vals 9 = .int .i64 o30 := hD 9 (memN 2 rfl)
                    refine gl_convV (E2 := (59, .bool false) :: (62, .int .i64 x28) :: (65, .int .i64 o30) :: ([] ++ E')) (V2 := [] ++ ([BK 47 b24 [.int .i64 x17, .int .i64 (IntKind.i64.wrap (o21 + 1)), .int .i64 x22], SL false 2 (intS .i64) a_v15 c_v16 o14.1, SL false 9 strS a_v12 c_v13 o11, SL false 9 strS a_v2 c_v3 o1, SL false 47 FiringS a_s7_r1 c_s7_r1 s7.2.2.1] ++ [])) (by show (59, vals 3) :: (62, vals 6) :: (65, vals 9) :: ([] ++ E') = _; rw [h3, h6, h9]) (by show [] ++ ([BK 47 b24 [.int .i64 x17, .int .i64 (IntKind.i64.wrap (o21 + 1)), .int .i64 x22], SL false 2 (intS .i64) a_v15 c_v16 o14.1, SL false 9 strS a_v12 c_v13 o11, SL false 9 strS a_v2 c_v3 o1, SL false 47 FiringS a_s7_r1 c_s7_r1 s7.2.2.1] ++ []) = _; rfl) ?_
                    refine gl_batch 1 [(66, .bool (x28 != o30))] rfl ?_
                    refine gl_nil ?_
                    exact gx_fp (.bool (x28 != o30)) rfl rfl rfl rfl (fun _ h => h.sub (fun _ h => h) (st_oo (A := [])) (fun o ho => by cases ho))
                  · intro vals E' R' O' hD
                    have h3 : vals 3 = .bool false := hD 3 (memN 0 rfl)
                    have h10 : vals 10 = .bool (x28 != o30) := hD 10 (memN 1 rfl)
                    refine gl_convV (E2 := (59, .bool false) :: (66, .bool (x28 != o30)) :: ([] ++ E')) (V2 := [] ++ ([BK 47 b24 [.int .i64 x17, .int .i64 (IntKind.i64.wrap (o21 + 1)), .int .i64 x22], SL false 2 (intS .i64) a_v15 c_v16 o14.1, SL false 9 strS a_v12 c_v13 o11, SL false 9 strS a_v2 c_v3 o1, SL false 47 FiringS a_s7_r1 c_s7_r1 s7.2.2.1] ++ [])) (by show (59, vals 3) :: (66, vals 10) :: ([] ++ E') = _; rw [h3, h10]) (by show [] ++ ([BK 47 b24 [.int .i64 x17, .int .i64 (IntKind.i64.wrap (o21 + 1)), .int .i64 x22], SL false 2 (intS .i64) a_v15 c_v16 o14.1, SL false 9 strS a_v12 c_v13 o11, SL false 9 strS a_v2 c_v3 o1, SL false 47 FiringS a_s7_r1 c_s7_r1 s7.2.2.1] ++ []) = _; rfl) ?_
                    refine gl_batch 1 [(67, .bool (x28 != o30))] rfl ?_
                    refine gl_nil ?_
                    exact gx_fp (.bool (x28 != o30)) rfl rfl rfl rfl (fun _ h => h.sub (fun _ h => h) (st_oo (A := [])) (fun o ho => by cases ho))
                  · intro vals hv
                    obtain ⟨⟨⟨⟨⟨⟨⟨⟨⟨⟨⟨⟨_, h0⟩, h1⟩, h2⟩, h3⟩, h4⟩, h5⟩, h6⟩, h7⟩, h8⟩, h9⟩, h10⟩, h11⟩ := hv
                    have h0 : vals 0 = .agg #[.int .i64 x17, .int .i64 (IntKind.i64.wrap (o21 + 1)), .int .i64 x22] := h0
                    have h1 : vals 1 = .bool o26 := h1
                    have h2 : vals 2 = .bool (!o26) := h2
                    have h3 : vals 3 = .bool false := h3
                    have h4 : vals 4 = .slice a_v15 (List.length o14.1) c_v16 := h4
                    have h5 : vals 5 = .pointer (some p29) := h5
                    have h6 : vals 6 = .int .i64 x28 := h6
                    have h7 : vals 7 = .int .i64 s7.1 := h7
                    have h8 : vals 8 = .agg #[.int .i64 x17, .int .i64 (IntKind.i64.wrap (o21 + 1)), .int .i64 x22] := h8
                    have h9 : vals 9 = .int .i64 o30 := h9
                    have h10 : vals 10 = .bool (x28 != o30) := h10
                    have h11 : vals 11 = .bool (x28 != o30) := h11
                    refine gl_conv (E2 := (56, .agg #[.int .i64 x17, .int .i64 (IntKind.i64.wrap (o21 + 1)), .int .i64 x22]) :: (57, .bool o26) :: (58, .bool (!o26)) :: (59, .bool false) :: (60, .slice a_v15 (List.length o14.1) c_v16) :: (61, .pointer (some p29)) :: (62, .int .i64 x28) :: (63, .int .i64 s7.1) :: (64, .agg #[.int .i64 x17, .int .i64 (IntKind.i64.wrap (o21 + 1)), .int .i64 x22]) :: (65, .int .i64 o30) :: (66, .bool (x28 != o30)) :: (67, .bool (x28 != o30)) :: [(4, .slice a_v2 (List.length o1) c_v3), (5, .int .i64 s7.1), (6, .int .i64 s7.2.1), (7, .slice a_s7_r1 (List.length s7.2.2.1) c_s7_r1), (8, .int .i64 s7.2.2.2), (9, .slice a_v15 (List.length o14.1) c_v16), (11, .pointer (some ⟨b24, 0, none⟩))]) (R2 := [] ++ ([] ++ [BK 47 b24 [.int .i64 x17, .int .i64 (IntKind.i64.wrap (o21 + 1)), .int .i64 x22], SL false 2 (intS .i64) a_v15 c_v16 o14.1, SL false 9 strS a_v12 c_v13 o11, SL false 9 strS a_v2 c_v3 o1, SL false 47 FiringS a_s7_r1 c_s7_r1 s7.2.2.1])) (O2 := [] ++ []) (by show (56, vals 0) :: (57, vals 1) :: (58, vals 2) :: (59, vals 3) :: (60, vals 4) :: (61, vals 5) :: (62, vals 6) :: (63, vals 7) :: (64, vals 8) :: (65, vals 9) :: (66, vals 10) :: (67, vals 11) :: [(4, .slice a_v2 (List.length o1) c_v3), (5, .int .i64 s7.1), (6, .int .i64 s7.2.1), (7, .slice a_s7_r1 (List.length s7.2.2.1) c_s7_r1), (8, .int .i64 s7.2.2.2), (9, .slice a_v15 (List.length o14.1) c_v16), (11, .pointer (some ⟨b24, 0, none⟩))] = _; rw [h0, h1, h2, h3, h4, h5, h6, h7, h8, h9, h10, h11]) (by show [] ++ ([] ++ [BK 47 b24 [.int .i64 x17, .int .i64 (IntKind.i64.wrap (o21 + 1)), .int .i64 x22], SL false 2 (intS .i64) a_v15 c_v16 o14.1, SL false 9 strS a_v12 c_v13 o11, SL false 9 strS a_v2 c_v3 o1, SL false 47 FiringS a_s7_r1 c_s7_r1 s7.2.2.1]) = _; rfl) rfl ?_
                    refine gl_nil ?_
                    obtain rfl := Option.some.inj h
                    exact gx_of (fun a w hE hS => ⟨rfl, hE.sub ⟨rfl, rfl, rfl, rfl, rfl, rfl, rfl, trivial⟩, (((((hS.pick 0 rfl).pick 1 rfl).pick 4 rfl).pick 4 rfl).take 4).facts _ _ [] (consItem (mem_at 0 rfl) (consItem (mem_at 1 rfl) (consItem (mem_at 2 rfl) (consItem (mem_at 3 rfl) noItem)))) noItem noItem⟩)
              · intro e a w hm
                obtain ⟨rfl, hE, hS⟩ := hm
                refine gx_to hE hS ?_
                refine gx_seq ?_
                refine g_cond (b := o25) rfl (fun hc => ?_) (fun hc => ?_)
                · replace h := condT hc h
                  refine g_exit ?_
                  refine gx_seq_exit ?_
                  refine gx_blk_miss rfl ?_
                  refine gx_seq_exit ?_
                  obtain rfl := Option.some.inj h
                  exact gx_of (fun a w hE hS => lp_out nofun (⟨rfl, a_s7_r1, c_s7_r1, hE.sub ⟨rfl, rfl, trivial⟩, ((hS.pick 1 rfl).take 1).facts _ _ [] (consItem (mem_at 0 rfl) (consItem (mem_at 1 rfl) (consItem (mem_at 2 rfl) (consItem (mem_at 3 rfl) noItem)))) noItem noItem⟩))
                · replace h := condF hc h
                  refine g_skip ?_
                  refine gx_seq ?_
                  refine g_seq ?_
                  refine g_region ?_
                  refine gl_batch 1 [(68, .slice a_v15 (List.length o14.1) c_v16)] rfl ?_
                  obtain ⟨x31, hx31, h⟩ := bindS h
                  refine gl_idxVn (k := .i64) (mem_at 2 rfl) rfl rfl Fs82 Fz2 hx31 rfl rfl ?_
                  intro p32 hp32
                  refine gl_ld1 0 hasAT (mem_at 4 rfl) rfl rfl Fo2 rfl rfl rfl ?_
                  refine gl_batch 1 [(5, .int .i64 x31)] rfl ?_
                  refine gl_nil ?_
                  refine gx_seq ?_
                  refine g_seq ?_
                  refine g_region ?_
                  refine gl_batch 3 [(73, .int .i64 s7.2.2.2), (72, .slice a_v2 (List.length o1) c_v3), (71, .int .i64 s7.2.1)] rfl ?_
                  obtain ⟨x33, hx33, h⟩ := bindS h
                  refine gl_idxVn (k := .i64) (mem_at 0 rfl) rfl rfl Fs71 Fz9 hx33 rfl rfl ?_
                  intro p34 hp34
                  refine gl_ld1 0 hasAT (mem_at 4 rfl) rfl rfl Fo9 rfl rfl rfl ?_
                  refine gl_slen (s := x33) rfl Ft9 rfl rfl ?_
                  obtain ⟨size35, hsize35, h⟩ := letS h
                  refine gl_batch 3 [(6, .int .i64 size35), (78, .int .i64 (IntKind.i64.wrap ((IntKind.i64.wrap (s7.2.1 + (List.length x33 : Int))) + 1))), (77, .int .i64 (IntKind.i64.wrap (s7.2.1 + (List.length x33 : Int))))] (by subst hsize35; rfl) ?_
                  refine gl_nil ?_
                  refine gx_seq ?_
                  refine g_region ?_
                  refine gl_batch 1 [(79, .slice a_s7_r1 (List.length s7.2.2.1) c_s7_r1)] rfl ?_
                  refine gl_ldA (vs := [.int .i64 x17, .int .i64 (IntKind.i64.wrap (o21 + 1)), .int .i64 x22]) 0 hasBK (mem_at 3 rfl) rfl rfl Fm47 Fz47 rfl rfl rfl ?_
                  refine gl_lit (m := 3) (d := 81) (T := 47) (enc := FiringE) (hn := fun _ => rfl) false [(⟨x17, IntKind.i64.wrap (o21 + 1), x22⟩ : Firing)] rfl rfl (fun _ => rfl) nofun (Nat.le_of_ble_eq_true rfl) (fun w => by kernel_rfl) ?_
                  intro a_v36 c_v37
                  refine gl_pick 2 rfl ?_
                  obtain ⟨z38, hz38, h⟩ := bindS h
                  refine gl_appn (mem_at 1 rfl) rfl rfl Fs26 Fi47 rfl rfl (fun _ => rfl) hz38 rfl rfl ?_
                  intro a_v39 c_v40
                  refine gl_batch 1 [(7, .slice a_v39 (List.length z38) c_v40)] rfl ?_
                  refine gl_nil ?_
                  refine gx_blk ?_
                  refine gx_seq ?_
                  refine g_region ?_
                  obtain ⟨i41, hi41, h⟩ := letS h
                  refine gl_batch 3 [(8, .int .i64 i41), (26, .int .i64 (IntKind.i64.wrap (s7.2.2.2 + 1))), (25, .int .i64 s7.2.2.2)] (by subst hi41; rfl) ?_
                  refine gl_nil ?_
                  obtain rfl := Option.some.inj h
                  exact gx_of (fun a w hE hS => lp_in ⟨a_v39, c_v40, hE.sub ⟨rfl, rfl, rfl, rfl, rfl, trivial⟩, (((hS.pick 0 rfl).pick 2 rfl).take 2).facts _ _ [] (consItem (mem_at 0 rfl) (consItem (mem_at 1 rfl) (consItem (mem_at 2 rfl) (consItem (mem_at 3 rfl) noItem)))) noItem noItem⟩)
      · replace h := condF hc h
        refine g_exit ?_
        refine gx_seq_exit ?_
        obtain rfl := Option.some.inj h
        exact gx_of (fun a w hE hS => lp_out nofun (⟨rfl, a_s7_r1, c_s7_r1, hE.sub ⟨rfl, rfl, trivial⟩, ((hS.pick 1 rfl).take 1).facts _ _ [] (consItem (mem_at 0 rfl) (consItem (mem_at 1 rfl) (consItem (mem_at 2 rfl) (consItem (mem_at 3 rfl) noItem)))) noItem noItem⟩))
  · intro e a w hm
    obtain ⟨rfl, a_o6_r0, c_o6_r0, hE, hS⟩ := hm
    refine gx_to hE hS ?_
    refine gx_blk_hit ?_
    refine gx_seq ?_
    refine g_seq ?_
    refine g_region ?_
    refine gl_batch 4 [(3, .int .i64 o6.1), (2, .slice a_o6_r0 (List.length o6.2) c_o6_r0), (84, .int .i64 o6.1), (83, .slice a_o6_r0 (List.length o6.2) c_o6_r0)] rfl ?_
    refine gl_nil ?_
    refine gx_seq ?_
    refine g_ret ?_
    obtain rfl := Option.some.inj h
    exact gx_fin rfl [.slice a_o6_r0 (List.length o6.2) c_o6_r0, .int .i64 o6.1] _ _ [] ⟨_, _, rfl, rfl, _, _, rfl, rfl, rfl⟩ rfl ⟨a_o6_r0, c_o6_r0, rfl, rfl, rfl⟩ (fun w hS => (hS.take 1).facts [] [] [] noItem noItem noItem) (Or.inl rfl)

theorem c_impl_isWritable (run : List Firing) (a_run : Option Addr) (c_run : Nat) {r : Bool} (h : impl_isWritable run = some r) : CallOK Tryd.prog 45 [.slice a_run (List.length run) c_run] [] [gTab 3 pow10C, gNum 0, gErr 1, gErr 2] [SL false 47 FiringS a_run c_run run] (fun v outs ros => v = .bool r ∧ outs = [] ∧ ros = []) := by
  refine fn_ok Tryd.func45 rfl Tryd.ntmps45 rfl (fun c hF0 => ?_)
  unfold impl_isWritable at h
  refine g_seq ?_
  refine g_region ?_
  refine gl_batch 1 [(2, .bool false)] rfl ?_
  refine gl_nil ?_
  refine gx_seq ?_
  refine g_seq ?_
  refine g_region ?_
  refine gl_batch 1 [(3, .slice a_run (List.length run) c_run)] rfl ?_
  refine gl_len rfl Fs26 rfl rfl ?_
  refine gl_batch 2 [(6, .bool (decide ((List.length run : Int) ≤ 500))), (5, .bool (decide ((List.length run : Int) ≤ 500)))] rfl ?_
  obtain ⟨q1, hq1, h⟩ := bindS h
  refine gl_join (EE := [(10, .bool q1)]) (RR := []) (XX := [gTab 3 pow10C, gNum 0, gErr 1, gErr 2]) (OO := [SL false 47 FiringS a_run c_run run]) (VV := []) 4 ?_ ?_
  · replace h := hq1
    refine gl_case 6 rfl (fun hc => ?_) (fun hc => ?_)
    · replace h := condT hc h
      refine gl_batch 1 [(7, .slice a_run (List.length run) c_run)] rfl ?_
      obtain ⟨o2, ho2, h⟩ := bindS h
      refine gl_call rfl rfl (fun w => by kernel_rfl) (c_slices_ContainsFunc_Firing_isWritable_c1 run a_run c_run ho2) (consItem (mem_at 0 rfl) (consItem (mem_at 1 rfl) (consItem (mem_at 2 rfl) (consItem (mem_at 3 rfl) noItem)))) (consItem (mem_at 0 rfl) noItem) ?_
      rintro v outs ros ⟨rfl, rfl, rfl⟩
      refine ⟨_, rfl, ?_⟩
      refine gl_batch 2 [(10, .bool (!o2)), (9, .bool (!o2))] rfl ?_
      refine gl_nil ?_
      obtain rfl := Option.some.inj h
      exact gx_mid ⟨rfl, trivial⟩ (fun w hS => hS)
    · replace h := condF hc h
      refine gl_batch 4 [(10, .bool false), (9, undef), (8, undef), (7, undef)] rfl ?_
      refine gl_nil ?_
      obtain rfl := Option.some.inj h
      exact gx_mid ⟨rfl, trivial⟩ (fun w hS => hS)
  · skip
    refine gl_batch 1 [(2, .bool q1)] rfl ?_
    refine gl_nil ?_
    refine gx_seq ?_
    refine g_ret ?_
    obtain rfl := Option.some.inj h
    exact gx_fin rfl [.bool q1] _ _ [] ⟨_, _, rfl, rfl, rfl⟩ rfl ⟨rfl, rfl, rfl⟩ (fun w hS => (hS.take 0).facts [] [] [] noItem noItem noItem) (Or.inl rfl)

theorem c_spec_l30Parse (line : List UInt8)  {r : List UInt8 × List UInt8 × List Int × Bool} (h : spec_l30Parse line = some r) : CallOK Tryd.prog 57 [str line] [] [gTab 3 pow10C, gNum 0, gErr 1, gErr 2] [] (fun v outs ros => ∃ (a0 : Option Addr), ∃ (c0 : Nat), v = .tuple #[str r.1, str r.2.1, .slice a0 (List.length r.2.2.1) c0, .bool r.2.2.2] ∧ outs = [SL false 2 (intS .i64) a0 c0 r.2.2.1] ∧ ros = []) := by
  refine fn_ok Tryd.func57 rfl Tryd.ntmps57 rfl (fun c hF0 => ?_)
  unfold spec_l30Parse at h
  refine g_seq ?_
  refine g_region ?_
  refine gl_batch 4 [(5, .bool false), (4, .slice none 0 0), (3, str []), (2, str [])] rfl ?_
  refine gl_nil ?_
  refine gx_seq ?_
  refine g_seq ?_
  refine g_region ?_
  refine gl_batch 4 [(8, .bool false), (7, str []), (6, str line), (12, str line)] rfl ?_
  refine gl_nil ?_
  refine gx_seq ?_
  refine g_seq ?_
  refine g_seq ?_
  refine g_region ?_
  refine gl_batch 1 [(9, .int .i64 0)] rfl ?_
  refine gl_nil ?_
  refine gx_seq ?_
  refine g_block ?_
  obtain ⟨o1, ho1, h⟩ := bindS h
  refine g_loop (spec_l30Parse_L1 line) (fun (ss_ : Int) a w => Env a 88 [(0, str line), (6, str line), (7, str []), (8, .bool false), (9, .int .i64 ss_)] ∧ St c w [] [gTab 3 pow10C, gNum 0, gErr 1, gErr 2] [] []) ((fun (ss_ : (List UInt8) × (List UInt8) × Bool) e a w => e = (.exit 0) ∧ Env a 88 [(6, str ss_.1), (7, str ss_.2.1), (8, .bool ss_.2.2)] ∧ St c w [] [gTab 3 pow10C, gNum 0, gErr 1, gErr 2] [] []) : ((List UInt8) × (List UInt8) × Bool) → Exit → Act → World → Prop) ho1 ?_ ?_ ?_
  · exact fun a w hE hS => ⟨hE.sub ⟨rfl, rfl, rfl, rfl, rfl, trivial⟩, (hS.take 0).facts _ _ [] (consItem (mem_at 0 rfl) (consItem (mem_at 1 rfl) (consItem (mem_at 2 rfl) (consItem (mem_at 3 rfl) noItem)))) noItem noItem⟩
  · intro s2 o3 h a w hA
    obtain ⟨hE, hS⟩ := hA
    unfold spec_l30Parse_L1 at h
    refine g_enter hE hS ?_
    refine g_seq ?_
    refine g_seq ?_
    refine g_region ?_
    refine gl_batch 2 [(14, str line), (13, .int .i64 s2)] rfl ?_
    refine gl_slen (s := line) rfl Ft9 rfl rfl ?_
    refine gl_batch 1 [(16, .bool (decide (s2 < (List.length line : Int))))] rfl ?_
    refine gl_nil ?_
    refine gx_seq ?_
    refine g_cond (b := decide (s2 < (List.length line : Int))) rfl (fun hc => ?_) (fun hc => ?_)
    · replace h := condT hc h
      refine g_skip ?_
      refine gx_seq ?_
      refine g_seq ?_
      refine g_block ?_
      refine g_seq ?_
      refine g_region ?_
      refine gl_batch 2 [(20, .int .i64 s2), (19, str line)] rfl ?_
      obtain ⟨y4, hy4, h⟩ := bindS h
      refine gl_sidx (k := .i64) rfl rfl Ft9 hy4 rfl rfl ?_
      refine gl_batch 1 [(22, .bool ((y4.toNat : Int) == 32))] rfl ?_
      refine gl_nil ?_
      refine gx_seq ?_
      refine g_cond (b := (y4.toNat : Int) == 32) rfl (fun hc => ?_) (fun hc => ?_)
      · replace h := condT hc h
        refine g_seq ?_
        obtain ⟨z5, hz5, h⟩ := bindS h
        obtain ⟨z6, hz6, h⟩ := bindS h
        refine g_state (E' := [(0, str line), (9, .int .i64 s2)]) (Rs' := [] ++ []) (Xs' := [gTab 3 pow10C, gNum 0, gErr 1, gErr 2]) (Os' := []) (Vs' := []) ⟨rfl, rfl, trivial⟩ (fun w hS => hS) ?_
        refine g_draw (Rs := []) 10 (dOf [[], [], [0, 1], [], [], [4], [3, 5], [2], [6], []]) (spOf [det 0 (str line), det 1 (.int .i64 s2), det 2 (str z5), det 3 (str line), det 4 (.int .i64 s2), det 5 (.int .i64 (IntKind.i64.wrap (s2 + 1))), det 6 (str z6), det 7 (str z5), det 8 (str z6), det 9 (.bool true)]) [] (fun _ _ => []) (eOf [[(0, str line)], [(9, .int .i64 s2)], [], [(0, str line)], [(9, .int .i64 s2)], [], [], [], [], []]) mixed rfl (Or.inl rfl) ⟨⟨⟨⟨⟨⟨⟨⟨⟨⟨trivial, ⟨rfl, trivial⟩⟩, ⟨rfl, trivial⟩⟩, trivial⟩, ⟨rfl, trivial⟩⟩, ⟨rfl, trivial⟩⟩, trivial⟩, trivial⟩, trivial⟩, trivial⟩, trivial⟩ rfl ⟨⟨⟨⟨⟨⟨⟨⟨⟨⟨trivial, ?_⟩, ?_⟩, ?_⟩, ?_⟩, ?_⟩, ?_⟩, ?_⟩, ?_⟩, ?_⟩, ?_⟩ ?_
        · intro vals E' R' O' hD
          refine gl_batch 1 [(23, str line)] rfl ?_
          refine gl_nil ?_
          exact gx_fp (str line) rfl rfl rfl rfl (fun _ h => h.sub (fun _ h => h) (st_oo (A := [])) (fun o ho => by cases ho))
        · intro vals E' R' O' hD
          refine gl_batch 1 [(24, .int .i64 s2)] rfl ?_
          refine gl_nil ?_
          exact gx_fp (.int .i64 s2) rfl rfl rfl rfl (fun _ h => h.sub (fun _ h => h) (st_oo (A := [])) (fun o ho => by cases ho))
        · intro vals E' R' O' hD
          have h0 : vals 0 = str line := hD 0 (memN 0 rfl)
          have h1 : vals 1 = .int .i64 s2 := hD 1 (memN 1 rfl)
          refine gl_convV (E2 := (23, str line) :: (24, .int .i64 s2) :: ([] ++ E')) (V2 := [] ++ ([] ++ [])) (by show (23, vals 0) :: (24, vals 1) :: ([] ++ E') = _; rw [h0, h1]) (by show [] ++ ([] ++ []) = _; rfl) ?_
          refine gl_ssub (i := 0) (j := s2) (k := .i64) (k2 := .i64) rfl rfl rfl Ft9 hz5 rfl rfl ?_
          refine gl_nil ?_
          exact gx_fp (str z5) rfl rfl rfl rfl (fun _ h => h.sub (fun _ h => h) (st_oo (A := [])) (fun o ho => by cases ho))
        · intro vals E' R' O' hD
          refine gl_batch 1 [(26, str line)] rfl ?_
          refine gl_nil ?_
          exact gx_fp (str line) rfl rfl rfl rfl (fun _ h => h.sub (fun _ h => h) (st_oo (A := [])) (fun o ho => by cases ho))
        · intro vals E' R' O' hD
          refine gl_batch 1 [(27, .int .i64 s2)] rfl ?_
          refine gl_nil ?_
          exact gx_fp (.int .i64 s2) rfl rfl rfl rfl (fun _ h => h.sub (fun _ h => h) (st_oo (A := [])) (fun o ho => by cases ho))
        · intro vals E' R' O' hD
          have h4 : vals 4 = .int .i64 s2 := hD 4 (memN 0 rfl)
          refine gl_convV (E2 := (27, .int .i64 s2) :: ([] ++ E')) (V2 := [] ++ ([] ++ [])) (by show (27, vals 4) :: ([] ++ E') = _; rw [h4]) (by show [] ++ ([] ++ []) = _; rfl) ?_
          refine gl_batch 1 [(28, .int .i64 (IntKind.i64.wrap (s2 + 1)))] rfl ?_
          refine gl_nil ?_
          exact gx_fp (.int .i64 (IntKind.i64.wrap (s2 + 1))) rfl rfl rfl rfl (fun _ h => h.sub (fun _ h => h) (st_oo (A := [])) (fun o ho => by cases ho))
        · intro vals E' R' O' hD
          have h3 : vals 3 = str line := hD 3 (memN 0 rfl)
          have h5 : vals 5 = .int .i64 (IntKind.i64.wrap (s2 + 1)) := hD 5 (memN 1 rfl)
          refine gl_convV (E2 := (26, str line) :: (28, .int .i64 (IntKind.i64.wrap (s2 + 1))) :: ([] ++ E')) (V2 := [] ++ ([] ++ [])) (by show (26, vals 3) :: (28, vals 5) :: ([] ++ E') = _; rw [h3, h5]) (by show [] ++ ([] ++ []) = _; rfl) ?_
          refine gl_ssub (i := IntKind.i64.wrap (s2 + 1)) (j := (List.length line : Int)) (k := .i64) (k2 := .i64) rfl rfl rfl Ft9 hz6 rfl rfl ?_
          refine gl_nil ?_
          exact gx_fp (str z6) rfl rfl rfl rfl (fun _ h => h.sub (fun _ h => h) (st_oo (A := [])) (fun o ho => by cases ho))
        · intro vals E' R' O' hD
          have h2 : vals 2 = str z5 := hD 2 (memN 0 rfl)
          refine gl_convV (E2 := (25, str z5) :: ([] ++ E')) (V2 := [] ++ ([] ++ [])) (by show (25, vals 2) :: ([] ++ E') = _; rw [h2]) (by show [] ++ ([] ++ []) = _; rfl) ?_
          refine gl_batch 1 [(6, str z5)] rfl ?_
          refine gl_nil ?_
          exact gx_fp (str z5) rfl rfl rfl rfl (fun _ h => h.sub (fun _ h => h) (st_oo (A := [])) (fun o ho => by cases ho))
        · intro vals E' R' O' hD
          have h6 : vals 6 = str z6 := hD 6 (memN 0 rfl)
          refine gl_convV (E2 := (29, str z6) :: ([] ++ E')) (V2 := [] ++ ([] ++ [])) (by show (29, vals 6) :: ([] ++ E') = _; rw [h6]) (by show [] ++ ([] ++ []) = _; rfl) ?_
          refine gl_batch 1 [(7, str z6)] rfl ?_
          refine gl_nil ?_
          exact gx_fp (str z6) rfl rfl rfl rfl (fun _ h => h.sub (fun _ h => h) (st_oo (A := [])) (fun o ho => by cases ho))
        · intro vals E' R' O' hD
          refine gl_batch 1 [(8, .bool true)] rfl ?_
          refine gl_nil ?_
          exact gx_fp (.bool true) rfl rfl rfl rfl (fun _ h => h.sub (fun _ h => h) (st_oo (A := [])) (fun o ho => by cases ho))
        · intro vals hv
          obtain ⟨⟨⟨⟨⟨⟨⟨⟨⟨⟨_, h0⟩, h1⟩, h2⟩, h3⟩, h4⟩, h5⟩, h6⟩, h7⟩, h8⟩, h9⟩ := hv
          have h0 : vals 0 = str line := h0
          have h1 : vals 1 = .int .i64 s2 := h1
          have h2 : vals 2 = str z5 := h2
          have h3 : vals 3 = str line := h3
          have h4 : vals 4 = .int .i64 s2 := h4
          have h5 : vals 5 = .int .i64 (IntKind.i64.wrap (s2 + 1)) := h5
          have h6 : vals 6 = str z6 := h6
          have h7 : vals 7 = str z5 := h7
          have h8 : vals 8 = str z6 := h8
          have h9 : vals 9 = .bool true := h9
          refine gl_conv (E2 := (23, str line) :: (24, .int .i64 s2) :: (25, str z5) :: (26, str line) :: (27, .int .i64 s2) :: (28, .int .i64 (IntKind.i64.wrap (s2 + 1))) :: (29, str z6) :: (6, str z5) :: (7, str z6) :: (8, .bool true) :: [(0, str line), (9, .int .i64 s2)]) (R2 := [] ++ ([] ++ [])) (O2 := [] ++ []) (by show (23, vals 0) :: (24, vals 1) :: (25, vals 2) :: (26, vals 3) :: (27, vals 4) :: (28, vals 5) :: (29, vals 6) :: (6, vals 7) :: (7, vals 8) :: (8, vals 9) :: [(0, str line), (9, .int .i64 s2)] = _; rw [h0, h1, h2, h3, h4, h5, h6, h7, h8, h9]) (by show [] ++ ([] ++ []) = _; rfl) rfl ?_
          refine gl_nil ?_
          refine gx_seq ?_
          refine g_exit ?_
          refine gx_blk_miss rfl ?_
          refine gx_seq_exit ?_
          obtain rfl := Option.some.inj h
          exact gx_of (fun a w hE hS => lp_out nofun (⟨rfl, hE.sub ⟨rfl, rfl, rfl, trivial⟩, (hS.take 0).facts _ _ [] (consItem (mem_at 0 rfl) (consItem (mem_at 1 rfl) (consItem (mem_at 2 rfl) (consItem (mem_at 3 rfl) noItem)))) noItem noItem⟩))
      · replace h := condF hc h
        refine g_skip ?_
        refine gx_blk ?_
        refine gx_seq ?_
        refine g_region ?_
        refine gl_batch 3 [(9, .int .i64 (IntKind.i64.wrap (s2 + 1))), (18, .int .i64 (IntKind.i64.wrap (s2 + 1))), (17, .int .i64 s2)] rfl ?_
        refine gl_nil ?_
        obtain rfl := Option.some.inj h
        exact gx_of (fun a w hE hS => lp_in ⟨hE.sub ⟨rfl, rfl, rfl, rfl, rfl, trivial⟩, (hS.take 0).facts _ _ [] (consItem (mem_at 0 rfl) (consItem (mem_at 1 rfl) (consItem (mem_at 2 rfl) (consItem (mem_at 3 rfl) noItem)))) noItem noItem⟩)
    · replace h := condF hc h
      refine g_exit ?_
      refine gx_seq_exit ?_
      obtain rfl := Option.some.inj h
      exact gx_of (fun a w hE hS => lp_out nofun (⟨rfl, hE.sub ⟨rfl, rfl, rfl, trivial⟩, (hS.take 0).facts _ _ [] (consItem (mem_at 0 rfl) (consItem (mem_at 1 rfl) (consItem (mem_at 2 rfl) (consItem (mem_at 3 rfl) noItem)))) noItem noItem⟩))
  · intro e a w hm
    obtain ⟨rfl, hE, hS⟩ := hm
    refine gx_to hE hS ?_
    refine gx_blk_hit ?_
    refine gx_seq ?_
    refine g_seq ?_
    refine g_seq ?_
    refine g_region ?_
    refine gl_batch 1 [(30, str o1.1)] rfl ?_
    refine gl_nil ?_
    refine gx_seq ?_
    refine g_block ?_
    obtain ⟨o7, ho7, h⟩ := bindS h
    refine g_mid (M := ((fun ss_ e a w => e = .normal ∧ Env a 88 [(6, str o1.1), (7, str o1.2.1), (8, .bool o1.2.2), (30, str o1.1), (31, .bool ss_)] ∧ St c w [] [gTab 3 pow10C, gNum 0, gErr 1, gErr 2] [] []) : (Bool) → Exit → Act → World → Prop) o7) ?_ ?_
    · replace h := ho7
      refine g_seq ?_
      refine g_region ?_
      refine gl_seq (s := o1.1) (u := ([103, 114, 97, 112, 104] : List UInt8)) rfl rfl rfl rfl ?_
      refine gl_batch 1 [(31, .bool (o1.1 == ([103, 114, 97, 112, 104] : List UInt8)))] rfl ?_
      refine gl_nil ?_
      refine gx_seq ?_
      refine g_cond (b := o1.1 == ([103, 114, 97, 112, 104] : List UInt8)) rfl (fun hc => ?_) (fun hc => ?_)
      · replace h := condT hc h
        refine g_skip ?_
        obtain rfl := Option.some.inj h
        exact gx_of (fun a w hE hS => ⟨rfl, hE.sub ⟨rfl, rfl, rfl, rfl, rfl, trivial⟩, (hS.take 0).facts _ _ [] (consItem (mem_at 0 rfl) (consItem (mem_at 1 rfl) (consItem (mem_at 2 rfl) (consItem (mem_at 3 rfl) noItem)))) noItem noItem⟩)
      · replace h := condF hc h
        refine g_seq ?_
        refine g_region ?_
        refine gl_seq (s := o1.1) (u := ([108, 105, 110, 101, 115] : List UInt8)) rfl rfl rfl rfl ?_
        refine gl_batch 1 [(31, .bool (o1.1 == ([108, 105, 110, 101, 115] : List UInt8)))] rfl ?_
        refine gl_nil ?_
        refine gx_seq ?_
        refine g_cond (b := o1.1 == ([108, 105, 110, 101, 115] : List UInt8)) rfl (fun hc => ?_) (fun hc => ?_)
        · replace h := condT hc h
          refine g_skip ?_
          obtain rfl := Option.some.inj h
          exact gx_of (fun a w hE hS => ⟨rfl, hE.sub ⟨rfl, rfl, rfl, rfl, rfl, trivial⟩, (hS.take 0).facts _ _ [] (consItem (mem_at 0 rfl) (consItem (mem_at 1 rfl) (consItem (mem_at 2 rfl) (consItem (mem_at 3 rfl) noItem)))) noItem noItem⟩)
        · replace h := condF hc h
          refine g_seq ?_
          refine g_region ?_
          refine gl_seq (s := o1.1) (u := ([101, 100, 105, 116] : List UInt8)) rfl rfl rfl rfl ?_
          refine gl_batch 1 [(31, .bool (o1.1 == ([101, 100, 105, 116] : List UInt8)))] rfl ?_
          refine gl_nil ?_
          refine gx_seq ?_
          refine g_cond (b := o1.1 == ([101, 100, 105, 116] : List UInt8)) rfl (fun hc => ?_) (fun hc => ?_)
          · replace h := condT hc h
            refine g_skip ?_
            obtain rfl := Option.some.inj h
            exact gx_of (fun a w hE hS => ⟨rfl, hE.sub ⟨rfl, rfl, rfl, rfl, rfl, trivial⟩, (hS.take 0).facts _ _ [] (consItem (mem_at 0 rfl) (consItem (mem_at 1 rfl) (consItem (mem_at 2 rfl) (consItem (mem_at 3 rfl) noItem)))) noItem noItem⟩)
          · replace h := condF hc h
            refine g_region ?_
            refine gl_seq (s := o1.1) (u := ([109, 101, 97, 110] : List UInt8)) rfl rfl rfl rfl ?_
            refine gl_batch 1 [(31, .bool (o1.1 == ([109, 101, 97, 110] : List UInt8)))] rfl ?_
            refine gl_nil ?_
            obtain rfl := Option.some.inj h
            exact gx_of (fun a w hE hS => ⟨rfl, hE.sub ⟨rfl, rfl, rfl, rfl, rfl, trivial⟩, (hS.take 0).facts _ _ [] (consItem (mem_at 0 rfl) (consItem (mem_at 1 rfl) (consItem (mem_at 2 rfl) (consItem (mem_at 3 rfl) noItem)))) noItem noItem⟩)
    · intro e a w hm
      obtain ⟨rfl, hE, hS⟩ := hm
      refine gx_to hE hS ?_
      refine gx_seq ?_
      refine g_cond (b := o7) rfl (fun hc => ?_) (fun hc => ?_)
      · replace h := condT hc h
        refine g_seq ?_
        refine g_region ?_
        refine gl_batch 7 [(5, .bool o1.2.2), (4, .slice none 0 0), (3, str o1.2.1), (2, str o1.1), (38, .bool o1.2.2), (37, str o1.2.1), (36, str o1.1)] rfl ?_
        refine gl_nil ?_
        refine gx_seq ?_
        refine g_ret ?_
        refine gx_blk_ret ?_
        refine gx_seq_ret ?_
        obtain rfl := Option.some.inj h
        exact gx_fin rfl [str o1.1, str o1.2.1, .slice none 0 0, .bool o1.2.2] _ _ [] ⟨_, _, rfl, rfl, _, _, rfl, rfl, _, _, rfl, rfl, _, _, rfl, rfl, rfl⟩ rfl ⟨none, 0, rfl, rfl, rfl⟩ (fun w hS => ((hS.nil false 2 (intS .i64)).take 1).facts [] [] [] noItem noItem noItem) (Or.inl rfl)
      · replace h := condF hc h
        obtain ⟨o8, ho8, h⟩ := bindS h
        refine g_mid (M := ((fun ss_ e a w => e = .normal ∧ Env a 88 [(6, str o1.1), (7, str o1.2.1), (8, .bool o1.2.2), (39, .bool ss_)] ∧ St c w [] [gTab 3 pow10C, gNum 0, gErr 1, gErr 2] [] []) : (Bool) → Exit → Act → World → Prop) o8) ?_ ?_
        · replace h := ho8
          refine g_seq ?_
          refine g_region ?_
          refine gl_seq (s := o1.1) (u := ([117, 110, 100, 111] : List UInt8)) rfl rfl rfl rfl ?_
          refine gl_batch 1 [(39, .bool (o1.1 == ([117, 110, 100, 111] : List UInt8)))] rfl ?_
          refine gl_nil ?_
          refine gx_seq ?_
          refine g_cond (b := o1.1 == ([117, 110, 100, 111] : List UInt8)) rfl (fun hc => ?_) (fun hc => ?_)
          · replace h := condT hc h
            refine g_skip ?_
            obtain rfl := Option.some.inj h
            exact gx_of (fun a w hE hS => ⟨rfl, hE.sub ⟨rfl, rfl, rfl, rfl, trivial⟩, (hS.take 0).facts _ _ [] (consItem (mem_at 0 rfl) (consItem (mem_at 1 rfl) (consItem (mem_at 2 rfl) (consItem (mem_at 3 rfl) noItem)))) noItem noItem⟩)
          · replace h := condF hc h
            refine g_seq ?_
            refine g_region ?_
            refine gl_seq (s := o1.1) (u := ([116, 101, 120, 116] : List UInt8)) rfl rfl rfl rfl ?_
            refine gl_batch 1 [(39, .bool (o1.1 == ([116, 101, 120, 116] : List UInt8)))] rfl ?_
            refine gl_nil ?_
            refine gx_seq ?_
            refine g_cond (b := o1.1 == ([116, 101, 120, 116] : List UInt8)) rfl (fun hc => ?_) (fun hc => ?_)
            · replace h := condT hc h
              refine g_skip ?_
              obtain rfl := Option.some.inj h
              exact gx_of (fun a w hE hS => ⟨rfl, hE.sub ⟨rfl, rfl, rfl, rfl, trivial⟩, (hS.take 0).facts _ _ [] (consItem (mem_at 0 rfl) (consItem (mem_at 1 rfl) (consItem (mem_at 2 rfl) (consItem (mem_at 3 rfl) noItem)))) noItem noItem⟩)
            · replace h := condF hc h
              refine g_seq ?_
              refine g_region ?_
              refine gl_seq (s := o1.1) (u := ([108, 105, 118, 101] : List UInt8)) rfl rfl rfl rfl ?_
              refine gl_batch 1 [(39, .bool (o1.1 == ([108, 105, 118, 101] : List UInt8)))] rfl ?_
              refine gl_nil ?_
              refine gx_seq ?_
              refine g_cond (b := o1.1 == ([108, 105, 118, 101] : List UInt8)) rfl (fun hc => ?_) (fun hc => ?_)
              · replace h := condT hc h
                refine g_skip ?_
                obtain rfl := Option.some.inj h
                exact gx_of (fun a w hE hS => ⟨rfl, hE.sub ⟨rfl, rfl, rfl, rfl, trivial⟩, (hS.take 0).facts _ _ [] (consItem (mem_at 0 rfl) (consItem (mem_at 1 rfl) (consItem (mem_at 2 rfl) (consItem (mem_at 3 rfl) noItem)))) noItem noItem⟩)
              · replace h := condF hc h
                refine g_seq ?_
                refine g_region ?_
                refine gl_seq (s := o1.1) (u := ([116, 105, 109, 101] : List UInt8)) rfl rfl rfl rfl ?_
                refine gl_batch 1 [(39, .bool (o1.1 == ([116, 105, 109, 101] : List UInt8)))] rfl ?_
                refine gl_nil ?_
                refine gx_seq ?_
                refine g_cond (b := o1.1 == ([116, 105, 109, 101] : List UInt8)) rfl (fun hc => ?_) (fun hc => ?_)
                · replace h := condT hc h
                  refine g_skip ?_
                  obtain rfl := Option.some.inj h
                  exact gx_of (fun a w hE hS => ⟨rfl, hE.sub ⟨rfl, rfl, rfl, rfl, trivial⟩, (hS.take 0).facts _ _ [] (consItem (mem_at 0 rfl) (consItem (mem_at 1 rfl) (consItem (mem_at 2 rfl) (consItem (mem_at 3 rfl) noItem)))) noItem noItem⟩)
                · replace h := condF hc h
                  refine g_seq ?_
                  refine g_region ?_
                  refine gl_seq (s := o1.1) (u := ([99, 105, 114, 99, 117, 105, 116] : List UInt8)) rfl rfl rfl rfl ?_
                  refine gl_batch 1 [(39, .bool (o1.1 == ([99, 105, 114, 99, 117, 105, 116] : List UInt8)))] rfl ?_
                  refine gl_nil ?_
                  refine gx_seq ?_
                  refine g_cond (b := o1.1 == ([99, 105, 114, 99, 117, 105, 116] : List UInt8)) rfl (fun hc => ?_) (fun hc => ?_)
                  · replace h := condT hc h
                    refine g_skip ?_
                    obtain rfl := Option.some.inj h
                    exact gx_of (fun a w hE hS => ⟨rfl, hE.sub ⟨rfl, rfl, rfl, rfl, trivial⟩, (hS.take 0).facts _ _ [] (consItem (mem_at 0 rfl) (consItem (mem_at 1 rfl) (consItem (mem_at 2 rfl) (consItem (mem_at 3 rfl) noItem)))) noItem noItem⟩)
                  · replace h := condF hc h
                    refine g_seq ?_
                    refine g_region ?_
                    refine gl_seq (s := o1.1) (u := ([112, 101, 114, 105, 111, 100] : List UInt8)) rfl rfl rfl rfl ?_
                    refine gl_batch 1 [(39, .bool (o1.1 == ([112, 101, 114, 105, 111, 100] : List UInt8)))] rfl ?_
                    refine gl_nil ?_
                    refine gx_seq ?_
                    refine g_cond (b := o1.1 == ([112, 101, 114, 105, 111, 100] : List UInt8)) rfl (fun hc => ?_) (fun hc => ?_)
                    · replace h := condT hc h
                      refine g_skip ?_
                      obtain rfl := Option.some.inj h
                      exact gx_of (fun a w hE hS => ⟨rfl, hE.sub ⟨rfl, rfl, rfl, rfl, trivial⟩, (hS.take 0).facts _ _ [] (consItem (mem_at 0 rfl) (consItem (mem_at 1 rfl) (consItem (mem_at 2 rfl) (consItem (mem_at 3 rfl) noItem)))) noItem noItem⟩)
                    · replace h := condF hc h
                      refine g_region ?_
                      refine gl_seq (s := o1.1) (u := ([109, 97, 114, 103, 105, 110, 115] : List UInt8)) rfl rfl rfl rfl ?_
                      refine gl_batch 1 [(39, .bool (o1.1 == ([109, 97, 114, 103, 105, 110, 115] : List UInt8)))] rfl ?_
                      refine gl_nil ?_
                      obtain rfl := Option.some.inj h
                      exact gx_of (fun a w hE hS => ⟨rfl, hE.sub ⟨rfl, rfl, rfl, rfl, trivial⟩, (hS.take 0).facts _ _ [] (consItem (mem_at 0 rfl) (consItem (mem_at 1 rfl) (consItem (mem_at 2 rfl) (consItem (mem_at 3 rfl) noItem)))) noItem noItem⟩)
        · intro e a w hm
          obtain ⟨rfl, hE, hS⟩ := hm
          refine gx_to hE hS ?_
          refine gx_seq ?_
          refine g_cond (b := o8) rfl (fun hc => ?_) (fun hc => ?_)
          · replace h := condT hc h
            refine g_seq ?_
            refine g_region ?_
            refine gl_batch 7 [(5, .bool (!o1.2.2)), (4, .slice none 0 0), (3, str []), (2, str o1.1), (49, .bool (!o1.2.2)), (48, .bool o1.2.2), (47, str o1.1)] rfl ?_
            refine gl_nil ?_
            refine gx_seq ?_
            refine g_ret ?_
            refine gx_blk_ret ?_
            refine gx_seq_ret ?_
            obtain rfl := Option.some.inj h
            exact gx_fin rfl [str o1.1, str [], .slice none 0 0, .bool (!o1.2.2)] _ _ [] ⟨_, _, rfl, rfl, _, _, rfl, rfl, _, _, rfl, rfl, _, _, rfl, rfl, rfl⟩ rfl ⟨none, 0, rfl, rfl, rfl⟩ (fun w hS => ((hS.nil false 2 (intS .i64)).take 1).facts [] [] [] noItem noItem noItem) (Or.inl rfl)
          · replace h := condF hc h
            refine g_skip ?_
            refine gx_blk ?_
            refine gx_seq ?_
            refine g_seq ?_
            refine g_region ?_
            refine gl_batch 1 [(51, str o1.2.1)] rfl ?_
            obtain ⟨o9, ho9, h⟩ := bindS h
            refine gl_call rfl rfl (fun w => by kernel_rfl) (c_spec_l01Split o1.2.1 32 ho9) (consItem (mem_at 0 rfl) (consItem (mem_at 1 rfl) (consItem (mem_at 2 rfl) (consItem (mem_at 3 rfl) noItem)))) noItem ?_
            rintro v outs ros ⟨a_v10, c_v11, rfl, rfl, rfl⟩
            refine ⟨_, rfl, ?_⟩
            obtain ⟨o12, ho12, h⟩ := bindS h
            refine gl_call rfl rfl (fun w => by kernel_rfl) (c_spec_l01Numbers o9 a_v10 c_v11 ho12) (consItem (mem_at 0 rfl) (consItem (mem_at 1 rfl) (consItem (mem_at 2 rfl) (consItem (mem_at 3 rfl) noItem)))) (consItem (mem_at 0 rfl) noItem) ?_
            rintro v outs ros ⟨a_v13, c_v14, rfl, rfl, rfl⟩
            refine ⟨_, rfl, ?_⟩
            refine gl_batch 5 [(11, .bool o12.2), (10, .slice a_v13 (List.length o12.1) c_v14), (55, .bool o12.2), (54, .slice a_v13 (List.length o12.1) c_v14), (50, .tuple #[.slice a_v13 (List.length o12.1) c_v14, .bool o12.2])] rfl ?_
            refine gl_nil ?_
            refine gx_seq ?_
            refine g_seq ?_
            refine g_seq ?_
            refine g_region ?_
            refine gl_batch 1 [(56, str o1.1)] rfl ?_
            refine gl_nil ?_
            refine gx_seq ?_
            refine g_block ?_
            obtain ⟨o15, ho15, h⟩ := bindS h
            refine g_mid (M := ((fun ss_ e a w => e = .normal ∧ Env a 88 [(6, str o1.1), (10, .slice a_v13 (List.length o12.1) c_v14), (11, .bool o12.2), (56, str o1.1), (57, .bool ss_)] ∧ St c w [SL false 2 (intS .i64) a_v13 c_v14 o12.1] [gTab 3 pow10C, gNum 0, gErr 1, gErr 2] [] []) : (Bool) → Exit → Act → World → Prop) o15) ?_ ?_
            · replace h := ho15
              refine g_seq ?_
              refine g_region ?_
              refine gl_seq (s := o1.1) (u := ([114, 117, 110] : List UInt8)) rfl rfl rfl rfl ?_
              refine gl_batch 1 [(57, .bool (o1.1 == ([114, 117, 110] : List UInt8)))] rfl ?_
              refine gl_nil ?_
              refine gx_seq ?_
              refine g_cond (b := o1.1 == ([114, 117, 110] : List UInt8)) rfl (fun hc => ?_) (fun hc => ?_)
              · replace h := condT hc h
                refine g_skip ?_
                obtain rfl := Option.some.inj h
                exact gx_of (fun a w hE hS => ⟨rfl, hE.sub ⟨rfl, rfl, rfl, rfl, rfl, trivial⟩, (hS.take 1).facts _ _ [] (consItem (mem_at 0 rfl) (consItem (mem_at 1 rfl) (consItem (mem_at 2 rfl) (consItem (mem_at 3 rfl) noItem)))) noItem noItem⟩)
              · replace h := condF hc h
                refine g_region ?_
                refine gl_seq (s := o1.1) (u := ([115, 116, 97, 114, 116] : List UInt8)) rfl rfl rfl rfl ?_
                refine gl_batch 1 [(57, .bool (o1.1 == ([115, 116, 97, 114, 116] : List UInt8)))] rfl ?_
                refine gl_nil ?_
                obtain rfl := Option.some.inj h
                exact gx_of (fun a w hE hS => ⟨rfl, hE.sub ⟨rfl, rfl, rfl, rfl, rfl, trivial⟩, (hS.take 1).facts _ _ [] (consItem (mem_at 0 rfl) (consItem (mem_at 1 rfl) (consItem (mem_at 2 rfl) (consItem (mem_at 3 rfl) noItem)))) noItem noItem⟩)
            · intro e a w hm
              obtain ⟨rfl, hE, hS⟩ := hm
              refine gx_to hE hS ?_
              refine gx_seq ?_
              refine g_cond (b := o15) rfl (fun hc => ?_) (fun hc => ?_)
              · replace h := condT hc h
                refine g_seq ?_
                refine g_region ?_
                refine gl_batch 4 [(63, .bool o12.2), (62, .bool o12.2), (61, .slice a_v13 (List.length o12.1) c_v14), (60, str o1.1)] rfl ?_
                refine gl_join (EE := [(67, .bool (o12.2 && ((List.length o12.1 : Int) == 1))), (60, str o1.1), (61, .slice a_v13 (List.length o12.1) c_v14)]) (RR := [SL false 2 (intS .i64) a_v13 c_v14 o12.1]) (XX := [gTab 3 pow10C, gNum 0, gErr 1, gErr 2]) (OO := []) (VV := []) 4 ?_ ?_
                · skip
                  refine gl_case 63 rfl (fun hc => ?_) (fun hc => ?_)
                  · skip
                    refine gl_batch 1 [(64, .slice a_v13 (List.length o12.1) c_v14)] rfl ?_
                    refine gl_len rfl Fs82 rfl rfl ?_
                    refine gl_batch 2 [(67, .bool ((List.length o12.1 : Int) == 1)), (66, .bool ((List.length o12.1 : Int) == 1))] rfl ?_
                    refine gl_nil ?_
                    exact gx_mid ⟨congrArg (fun z => some (Value.bool z)) (and_t hc).symm, rfl, rfl, trivial⟩ (fun w hS => hS)
                  · skip
                    refine gl_batch 4 [(67, .bool false), (66, undef), (65, undef), (64, undef)] rfl ?_
                    refine gl_nil ?_
                    exact gx_mid ⟨congrArg (fun z => some (Value.bool z)) (and_f hc).symm, rfl, rfl, trivial⟩ (fun w hS => hS)
                · skip
                  refine gl_batch 4 [(5, .bool (o12.2 && ((List.length o12.1 : Int) == 1))), (4, .slice a_v13 (List.length o12.1) c_v14), (3, str []), (2, str o1.1)] rfl ?_
                  refine gl_nil ?_
                  refine gx_seq ?_
                  refine g_ret ?_
                  refine gx_blk_ret ?_
                  refine gx_seq_ret ?_
                  obtain rfl := Option.some.inj h
                  exact gx_fin rfl [str o1.1, str [], .slice a_v13 (List.length o12.1) c_v14, .bool (o12.2 && ((List.length o12.1 : Int) == 1))] _ _ [] ⟨_, _, rfl, rfl, _, _, rfl, rfl, _, _, rfl, rfl, _, _, rfl, rfl, rfl⟩ rfl ⟨a_v13, c_v14, rfl, rfl, rfl⟩ (fun w hS => (hS.take 1).facts [] [] [] noItem noItem noItem) (Or.inl rfl)
              · replace h := condF hc h
                refine g_seq ?_
                refine g_region ?_
                refine gl_seq (s := o1.1) (u := ([102, 105, 114, 101] : List UInt8)) rfl rfl rfl rfl ?_
                refine gl_batch 1 [(68, .bool (o1.1 == ([102, 105, 114, 101] : List UInt8)))] rfl ?_
                refine gl_nil ?_
                refine gx_seq ?_
                refine g_cond (b := o1.1 == ([102, 105, 114, 101] : List UInt8)) rfl (fun hc => ?_) (fun hc => ?_)
                · replace h := condT hc h
                  refine g_seq ?_
                  refine g_region ?_
                  refine gl_batch 4 [(73, .bool o12.2), (72, .bool o12.2), (71, .slice a_v13 (List.length o12.1) c_v14), (70, str o1.1)] rfl ?_
                  refine gl_join (EE := [(77, .bool (o12.2 && ((List.length o12.1 : Int) == 2))), (70, str o1.1), (71, .slice a_v13 (List.length o12.1) c_v14)]) (RR := [SL false 2 (intS .i64) a_v13 c_v14 o12.1]) (XX := [gTab 3 pow10C, gNum 0, gErr 1, gErr 2]) (OO := []) (VV := []) 4 ?_ ?_
                  · skip
                    refine gl_case 73 rfl (fun hc => ?_) (fun hc => ?_)
                    · skip
                      refine gl_batch 1 [(74, .slice a_v13 (List.length o12.1) c_v14)] rfl ?_
                      refine gl_len rfl Fs82 rfl rfl ?_
                      refine gl_batch 2 [(77, .bool ((List.length o12.1 : Int) == 2)), (76, .bool ((List.length o12.1 : Int) == 2))] rfl ?_
                      refine gl_nil ?_
                      exact gx_mid ⟨congrArg (fun z => some (Value.bool z)) (and_t hc).symm, rfl, rfl, trivial⟩ (fun w hS => hS)
                    · skip
                      refine gl_batch 4 [(77, .bool false), (76, undef), (75, undef), (74, undef)] rfl ?_
                      refine gl_nil ?_
                      exact gx_mid ⟨congrArg (fun z => some (Value.bool z)) (and_f hc).symm, rfl, rfl, trivial⟩ (fun w hS => hS)
                  · skip
                    refine gl_batch 4 [(5, .bool (o12.2 && ((List.length o12.1 : Int) == 2))), (4, .slice a_v13 (List.length o12.1) c_v14), (3, str []), (2, str o1.1)] rfl ?_
                    refine gl_nil ?_
                    refine gx_seq ?_
                    refine g_ret ?_
                    refine gx_blk_ret ?_
                    refine gx_seq_ret ?_
                    obtain rfl := Option.some.inj h
                    exact gx_fin rfl [str o1.1, str [], .slice a_v13 (List.length o12.1) c_v14, .bool (o12.2 && ((List.length o12.1 : Int) == 2))] _ _ [] ⟨_, _, rfl, rfl, _, _, rfl, rfl, _, _, rfl, rfl, _, _, rfl, rfl, rfl⟩ rfl ⟨a_v13, c_v14, rfl, rfl, rfl⟩ (fun w hS => (hS.take 1).facts [] [] [] noItem noItem noItem) (Or.inl rfl)
                · replace h := condF hc h
                  refine g_seq ?_
                  refine g_region ?_
                  refine gl_seq (s := o1.1) (u := ([114, 111, 111, 109] : List UInt8)) rfl rfl rfl rfl ?_
                  refine gl_batch 1 [(78, .bool (o1.1 == ([114, 111, 111, 109] : List UInt8)))] rfl ?_
                  refine gl_nil ?_
                  refine gx_seq ?_
                  refine g_cond (b := o1.1 == ([114, 111, 111, 109] : List UInt8)) rfl (fun hc => ?_) (fun hc => ?_)
                  · replace h := condT hc h
                    refine g_seq ?_
                    refine g_region ?_
                    refine gl_batch 4 [(83, .bool o12.2), (82, .bool o12.2), (81, .slice a_v13 (List.length o12.1) c_v14), (80, str o1.1)] rfl ?_
                    refine gl_join (EE := [(87, .bool (o12.2 && ((List.length o12.1 : Int) == 3))), (80, str o1.1), (81, .slice a_v13 (List.length o12.1) c_v14)]) (RR := [SL false 2 (intS .i64) a_v13 c_v14 o12.1]) (XX := [gTab 3 pow10C, gNum 0, gErr 1, gErr 2]) (OO := []) (VV := []) 4 ?_ ?_
                    · skip
                      refine gl_case 83 rfl (fun hc => ?_) (fun hc => ?_)
                      · skip
                        refine gl_batch 1 [(84, .slice a_v13 (List.length o12.1) c_v14)] rfl ?_
                        refine gl_len rfl Fs82 rfl rfl ?_
                        refine gl_batch 2 [(87, .bool ((List.length o12.1 : Int) == 3)), (86, .bool ((List.length o12.1 : Int) == 3))] rfl ?_
                        refine gl_nil ?_
                        exact gx_mid ⟨congrArg (fun z => some (Value.bool z)) (and_t hc).symm, rfl, rfl, trivial⟩ (fun w hS => hS)
                      · skip
                        refine gl_batch 4 [(87, .bool false), (86, undef), (85, undef), (84, undef)] rfl ?_
                        refine gl_nil ?_
                        exact gx_mid ⟨congrArg (fun z => some (Value.bool z)) (and_f hc).symm, rfl, rfl, trivial⟩ (fun w hS => hS)
                    · skip
                      refine gl_batch 4 [(5, .bool (o12.2 && ((List.length o12.1 : Int) == 3))), (4, .slice a_v13 (List.length o12.1) c_v14), (3, str []), (2, str o1.1)] rfl ?_
                      refine gl_nil ?_
                      refine gx_seq ?_
                      refine g_ret ?_
                      refine gx_blk_ret ?_
                      refine gx_seq_ret ?_
                      obtain rfl := Option.some.inj h
                      exact gx_fin rfl [str o1.1, str [], .slice a_v13 (List.length o12.1) c_v14, .bool (o12.2 && ((List.length o12.1 : Int) == 3))] _ _ [] ⟨_, _, rfl, rfl, _, _, rfl, rfl, _, _, rfl, rfl, _, _, rfl, rfl, rfl⟩ rfl ⟨a_v13, c_v14, rfl, rfl, rfl⟩ (fun w hS => (hS.take 1).facts [] [] [] noItem noItem noItem) (Or.inl rfl)
                  · replace h := condF hc h
                    refine g_skip ?_
                    refine gx_blk ?_
                    refine gx_seq ?_
                    refine g_seq ?_
                    refine g_region ?_
                    refine gl_batch 4 [(5, .bool false), (4, .slice none 0 0), (3, str []), (2, str [])] rfl ?_
                    refine gl_nil ?_
                    refine gx_seq ?_
                    refine g_ret ?_
                    obtain rfl := Option.some.inj h
                    exact gx_fin rfl [str [], str [], .slice none 0 0, .bool false] _ _ [] ⟨_, _, rfl, rfl, _, _, rfl, rfl, _, _, rfl, rfl, _, _, rfl, rfl, rfl⟩ rfl ⟨none, 0, rfl, rfl, rfl⟩ (fun w hS => ((hS.nil false 2 (intS .i64)).take 1).facts [] [] [] noItem noItem noItem) (Or.inl rfl)

theorem c_impl_IsDeskCommand (line : List UInt8)  {r : Bool} (h : impl_IsDeskCommand line = some r) : CallOK Tryd.prog 19 [str line] [] [gTab 3 pow10C, gNum 0, gErr 1, gErr 2] [] (fun v outs ros => v = .bool r ∧ outs = [] ∧ ros = []) := by
  refine fn_ok Tryd.func19 rfl Tryd.ntmps19 rfl (fun c hF0 => ?_)
  unfold impl_IsDeskCommand at h
  refine g_seq ?_
  refine g_region ?_
  refine gl_batch 1 [(2, .bool false)] rfl ?_
  refine gl_nil ?_
  refine gx_seq ?_
  refine g_seq ?_
  refine g_region ?_
  refine gl_batch 1 [(7, str line)] rfl ?_
  obtain ⟨o1, ho1, h⟩ := bindS h
  refine gl_call rfl rfl (fun w => by kernel_rfl) (c_impl_readCommand line ho1) (consItem (mem_at 0 rfl) (consItem (mem_at 1 rfl) (consItem (mem_at 2 rfl) (consItem (mem_at 3 rfl) noItem)))) noItem ?_
  rintro v outs ros ⟨a_v2, c_v3, rfl, rfl, rfl⟩
  refine ⟨_, rfl, ?_⟩
  refine gl_batch 7 [(5, .bool o1.2.2), (4, .slice a_v2 (List.length o1.2.1) c_v3), (3, str o1.1), (11, .bool o1.2.2), (10, .slice a_v2 (List.length o1.2.1) c_v3), (9, str o1.1), (6, .tuple #[str o1.1, .slice a_v2 (List.length o1.2.1) c_v3, .bool o1.2.2])] rfl ?_
  refine gl_nil ?_
  refine gx_seq ?_
  refine g_seq ?_
  refine g_region ?_
  refine gl_batch 2 [(2, .bool o1.2.2), (12, .bool o1.2.2)] rfl ?_
  refine gl_nil ?_
  refine gx_seq ?_
  refine g_ret ?_
  obtain rfl := Option.some.inj h
  exact gx_fin rfl [.bool o1.2.2] _ _ [] ⟨_, _, rfl, rfl, rfl⟩ rfl ⟨rfl, rfl, rfl⟩ (fun w hS => (hS.take 0).facts [] [] [] noItem noItem noItem) (Or.inl rfl)

end Go.Proofs.YtneifoepoccjaaaDoor
