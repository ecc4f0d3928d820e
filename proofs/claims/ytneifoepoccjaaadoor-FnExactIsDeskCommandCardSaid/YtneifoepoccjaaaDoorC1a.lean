/-
  What each function gives when it is called: the contracts, each with the walk through its code. Written by a program of ours.
-/
import Derived.Test.YtneifoepoccjaaaDoorC10
namespace Go.Proofs.YtneifoepoccjaaaDoor
open Go Go.Proofs Go.Shelf
set_option maxHeartbeats 16000000
theorem c_spec_l01Split (s : List UInt8) (by_v : Int)  {r : List (List UInt8)} (h : spec_l01Split s by_v = some r) : CallOK Tryd.prog 48 [str s, .int .u8 by_v] [] [gTab 3 pow10C, gNum 0, gErr 1, gErr 2] [] (fun v outs ros => ∃ (a0 : Option Addr), ∃ (c0 : Nat), v = .slice a0 (List.length r) c0 ∧ outs = [SL false 9 strS a0 c0 r] ∧ ros = []) := by
  refine fn_ok Tryd.func48 rfl Tryd.ntmps48 rfl (fun c hF0 => ?_)
  unfold spec_l01Split at h
  refine g_seq ?_
  refine g_region ?_
  refine gl_batch 1 [(4, .slice none 0 0)] rfl ?_
  refine gl_nil ?_
  refine gx_seq ?_
  refine g_seq ?_
  refine g_region ?_
  refine gl_lit (m := 1) (d := 8) (T := 9) (enc := fun x => [str x]) (hn := fun _ => rfl) false ([] : List (List UInt8)) rfl rfl (fun _ => rfl) nofun (Nat.le_of_ble_eq_true rfl) (fun w => by kernel_rfl) ?_
  intro a_v1 c_v2
  refine gl_batch 1 [(5, .slice a_v1 (List.length ([] : List (List UInt8))) c_v2)] rfl ?_
  refine gl_nil ?_
  refine gx_seq ?_
  refine g_seq ?_
  refine g_region ?_
  refine gl_batch 1 [(6, .int .i64 0)] rfl ?_
  refine gl_nil ?_
  refine gx_seq ?_
  refine g_seq ?_
  refine g_seq ?_
  refine g_region ?_
  refine gl_batch 1 [(7, .int .i64 0)] rfl ?_
  refine gl_nil ?_
  refine gx_seq ?_
  refine g_block ?_
  obtain ⟨o3, ho3, h⟩ := bindS h
  refine g_loop (spec_l01Split_L1 s by_v) (fun (ss_ : (List (List UInt8)) × Int × Int) a w => ∃ (a_ss__r0 : Option Addr), ∃ (c_ss__r0 : Nat), Env a 36 [(0, str s), (1, .int .u8 by_v), (5, .slice a_ss__r0 (List.length ss_.1) c_ss__r0), (6, .int .i64 ss_.2.1), (7, .int .i64 ss_.2.2)] ∧ St c w [SL false 9 strS a_ss__r0 c_ss__r0 ss_.1] [gTab 3 pow10C, gNum 0, gErr 1, gErr 2] [] []) ((fun (ss_ : (List (List UInt8))) e a w => e = (.exit 0) ∧ ∃ (a_ss__r0 : Option Addr), ∃ (c_ss__r0 : Nat), Env a 36 [(5, .slice a_ss__r0 (List.length ss_) c_ss__r0)] ∧ St c w [SL false 9 strS a_ss__r0 c_ss__r0 ss_] [gTab 3 pow10C, gNum 0, gErr 1, gErr 2] [] []) : ((List (List UInt8))) → Exit → Act → World → Prop) ho3 ?_ ?_ ?_
  · exact fun a w hE hS => ⟨a_v1, c_v2, hE.sub ⟨rfl, rfl, rfl, rfl, rfl, trivial⟩, (hS.take 1).facts _ _ [] (consItem (mem_at 0 rfl) (consItem (mem_at 1 rfl) (consItem (mem_at 2 rfl) (consItem (mem_at 3 rfl) noItem)))) noItem noItem⟩
  · intro s4 o5 h a w hA
    obtain ⟨a_s4_r0, c_s4_r0, hE, hS⟩ := hA
    unfold spec_l01Split_L1 at h
    refine g_enter hE hS ?_
    refine g_seq ?_
    refine g_seq ?_
    refine g_region ?_
    refine gl_batch 2 [(10, str s), (9, .int .i64 s4.2.2)] rfl ?_
    refine gl_slen (s := s) rfl Ft9 rfl rfl ?_
    refine gl_batch 1 [(12, .bool (decide (s4.2.2 ≤ (List.length s : Int))))] rfl ?_
    refine gl_nil ?_
    refine gx_seq ?_
    refine g_cond (b := decide (s4.2.2 ≤ (List.length s : Int))) rfl (fun hc => ?_) (fun hc => ?_)
    · replace h := condT hc h
      refine g_skip ?_
      refine gx_seq ?_
      obtain ⟨o6, ho6, h⟩ := bindS h
      refine g_mid (M := ((fun ss_ e a w => e = .normal ∧ ∃ (a_ss__r0 : Option Addr), ∃ (c_ss__r0 : Nat), Env a 36 [(0, str s), (1, .int .u8 by_v), (5, .slice a_ss__r0 (List.length ss_.1) c_ss__r0), (6, .int .i64 ss_.2), (7, .int .i64 s4.2.2)] ∧ St c w [SL false 9 strS a_ss__r0 c_ss__r0 ss_.1] [gTab 3 pow10C, gNum 0, gErr 1, gErr 2] [] []) : ((List (List UInt8)) × Int) → Exit → Act → World → Prop) o6) ?_ ?_
      · replace h := ho6
        refine g_block ?_
        refine g_seq ?_
        refine g_region ?_
        refine gl_batch 2 [(16, str s), (15, .int .i64 s4.2.2)] rfl ?_
        refine gl_slen (s := s) rfl Ft9 rfl rfl ?_
        refine gl_batch 2 [(19, .bool (s4.2.2 == (List.length s : Int))), (18, .bool (s4.2.2 == (List.length s : Int)))] rfl ?_
        obtain ⟨q7, hq7, h⟩ := bindS h
        refine gl_join (EE := [(25, .bool q7), (0, str s), (1, .int .u8 by_v), (5, .slice a_s4_r0 (List.length s4.1) c_s4_r0), (6, .int .i64 s4.2.1), (7, .int .i64 s4.2.2)]) (RR := [SL false 9 strS a_s4_r0 c_s4_r0 s4.1]) (XX := [gTab 3 pow10C, gNum 0, gErr 1, gErr 2]) (OO := []) (VV := []) 6 ?_ ?_
        · replace h := hq7
          refine gl_case 19 rfl (fun hc => ?_) (fun hc => ?_)
          · replace h := condT hc h
            refine gl_batch 6 [(25, .bool true), (24, undef), (23, undef), (22, undef), (21, undef), (20, undef)] rfl ?_
            refine gl_nil ?_
            obtain rfl := Option.some.inj h
            exact gx_mid ⟨rfl, rfl, rfl, rfl, rfl, rfl, trivial⟩ (fun w hS => hS)
          · replace h := condF hc h
            refine gl_batch 2 [(21, .int .i64 s4.2.2), (20, str s)] rfl ?_
            obtain ⟨y8, hy8, h⟩ := bindS h
            refine gl_sidx (k := .i64) rfl rfl Ft9 hy8 rfl rfl ?_
            refine gl_batch 3 [(25, .bool ((y8.toNat : Int) == by_v)), (24, .bool ((y8.toNat : Int) == by_v)), (23, .int .u8 by_v)] rfl ?_
            refine gl_nil ?_
            obtain rfl := Option.some.inj h
            exact gx_mid ⟨rfl, rfl, rfl, rfl, rfl, rfl, trivial⟩ (fun w hS => hS)
        · skip
          refine gl_nil ?_
          refine gx_seq ?_
          refine g_cond (b := q7) rfl (fun hc => ?_) (fun hc => ?_)
          · replace h := condT hc h
            refine g_seq ?_
            refine g_region ?_
            refine gl_batch 4 [(29, .int .i64 s4.2.2), (28, .int .i64 s4.2.1), (27, str s), (26, .slice a_s4_r0 (List.length s4.1) c_s4_r0)] rfl ?_
            obtain ⟨z9, hz9, h⟩ := bindS h
            refine gl_ssub (i := s4.2.1) (j := s4.2.2) (k := .i64) (k2 := .i64) rfl rfl rfl Ft9 hz9 rfl rfl ?_
            refine gl_lit (m := 1) (d := 31) (T := 9) (enc := fun x => [str x]) (hn := fun _ => rfl) false [z9] rfl rfl (fun _ => rfl) nofun (Nat.le_of_ble_eq_true rfl) (fun w => by kernel_rfl) ?_
            intro a_v10 c_v11
            refine gl_pick 1 rfl ?_
            obtain ⟨z12, hz12, h⟩ := bindS h
            refine gl_appn (mem_at 1 rfl) rfl rfl Fs71 Fi9 rfl rfl (fun _ => rfl) hz12 rfl rfl ?_
            intro a_v13 c_v14
            refine gl_batch 1 [(5, .slice a_v13 (List.length z12) c_v14)] rfl ?_
            refine gl_nil ?_
            refine gx_seq ?_
            refine g_region ?_
            refine gl_batch 3 [(6, .int .i64 (IntKind.i64.wrap (s4.2.2 + 1))), (34, .int .i64 (IntKind.i64.wrap (s4.2.2 + 1))), (33, .int .i64 s4.2.2)] rfl ?_
            refine gl_nil ?_
            refine gx_blk ?_
            obtain rfl := Option.some.inj h
            exact gx_of (fun a w hE hS => ⟨rfl, a_v13, c_v14, hE.sub ⟨rfl, rfl, rfl, rfl, rfl, trivial⟩, (hS.take 1).facts _ _ [] (consItem (mem_at 0 rfl) (consItem (mem_at 1 rfl) (consItem (mem_at 2 rfl) (consItem (mem_at 3 rfl) noItem)))) noItem noItem⟩)
          · replace h := condF hc h
            refine g_skip ?_
            refine gx_blk ?_
            obtain rfl := Option.some.inj h
            exact gx_of (fun a w hE hS => ⟨rfl, a_s4_r0, c_s4_r0, hE.sub ⟨rfl, rfl, rfl, rfl, rfl, trivial⟩, (hS.take 1).facts _ _ [] (consItem (mem_at 0 rfl) (consItem (mem_at 1 rfl) (consItem (mem_at 2 rfl) (consItem (mem_at 3 rfl) noItem)))) noItem noItem⟩)
      · intro e a w hm
        obtain ⟨rfl, a_o6_r0, c_o6_r0, hE, hS⟩ := hm
        refine gx_to hE hS ?_
        refine gx_seq ?_
        refine g_region ?_
        refine gl_batch 3 [(7, .int .i64 (IntKind.i64.wrap (s4.2.2 + 1))), (14, .int .i64 (IntKind.i64.wrap (s4.2.2 + 1))), (13, .int .i64 s4.2.2)] rfl ?_
        refine gl_nil ?_
        obtain rfl := Option.some.inj h
        exact gx_of (fun a w hE hS => lp_in ⟨a_o6_r0, c_o6_r0, hE.sub ⟨rfl, rfl, rfl, rfl, rfl, trivial⟩, (hS.take 1).facts _ _ [] (consItem (mem_at 0 rfl) (consItem (mem_at 1 rfl) (consItem (mem_at 2 rfl) (consItem (mem_at 3 rfl) noItem)))) noItem noItem⟩)
    · replace h := condF hc h
      refine g_exit ?_
      refine gx_seq_exit ?_
      obtain rfl := Option.some.inj h
      exact gx_of (fun a w hE hS => lp_out nofun (⟨rfl, a_s4_r0, c_s4_r0, hE.sub ⟨rfl, trivial⟩, (hS.take 1).facts _ _ [] (consItem (mem_at 0 rfl) (consItem (mem_at 1 rfl) (consItem (mem_at 2 rfl) (consItem (mem_at 3 rfl) noItem)))) noItem noItem⟩))
  · intro e a w hm
    obtain ⟨rfl, a_o3_r0, c_o3_r0, hE, hS⟩ := hm
    refine gx_to hE hS ?_
    refine gx_blk_hit ?_
    refine gx_seq ?_
    refine g_seq ?_
    refine g_region ?_
    refine gl_batch 2 [(4, .slice a_o3_r0 (List.length o3) c_o3_r0), (35, .slice a_o3_r0 (List.length o3) c_o3_r0)] rfl ?_
    refine gl_nil ?_
    refine gx_seq ?_
    refine g_ret ?_
    obtain rfl := Option.some.inj h
    exact gx_fin rfl [.slice a_o3_r0 (List.length o3) c_o3_r0] _ _ [] ⟨_, _, rfl, rfl, rfl⟩ rfl ⟨a_o3_r0, c_o3_r0, rfl, rfl, rfl⟩ (fun w hS => (hS.take 1).facts [] [] [] noItem noItem noItem) (Or.inl rfl)

theorem c_spec_l01Dec_F (kf : Nat) : ∀ (n_v : Int)  {r : List UInt8}, spec_l01Dec_F kf n_v = some r → CallOK Tryd.prog 79 [.int .i64 n_v] [] [gTab 3 pow10C, gNum 0, gErr 1, gErr 2] [] (fun v outs ros => v = str r ∧ outs = [] ∧ ros = []) := by
  induction kf with
  | zero => intro n_v  r h; cases h
  | succ kf ih =>
  intro n_v  r h
  refine fn_ok Tryd.func79 rfl Tryd.ntmps79 rfl (fun c hF0 => ?_)
  rw [spec_l01Dec_F] at h
  refine g_seq ?_
  refine g_region ?_
  refine gl_batch 1 [(2, str [])] rfl ?_
  refine gl_nil ?_
  refine gx_seq ?_
  refine g_seq ?_
  refine g_seq ?_
  refine g_region ?_
  refine gl_batch 2 [(4, .bool (decide (n_v < 10))), (3, .int .i64 n_v)] rfl ?_
  refine gl_nil ?_
  refine gx_seq ?_
  refine g_cond (b := decide (n_v < 10)) rfl (fun hc => ?_) (fun hc => ?_)
  · replace h := condT hc h
    refine g_seq ?_
    refine g_region ?_
    refine gl_batch 2 [(6, .int .i64 (IntKind.i64.wrap (48 + n_v))), (5, .int .i64 n_v)] rfl ?_
    refine gl_run (v := .int .u8 (IntKind.u8.wrap (IntKind.i64.wrap (48 + n_v)))) rfl rfl rfl (fun w => by kernel_rfl) ?_
    refine gl_lit (m := 1) (d := 8) (T := 5) (enc := fun x => [.int .u8 x]) (hn := fun _ => rfl) false [IntKind.u8.wrap (IntKind.i64.wrap (48 + n_v))] rfl rfl (fun _ => rfl) nofun (Nat.le_of_ble_eq_true rfl) (fun w => by kernel_rfl) ?_
    intro a_v1 c_v2
    refine gl_b2sn (mem_at 0 rfl) rfl Fs50 Fy5 Ft9 rfl rfl ?_
    refine gl_batch 1 [(2, str (toStr [IntKind.u8.wrap (IntKind.i64.wrap (48 + n_v))]))] rfl ?_
    refine gl_nil ?_
    refine gx_seq ?_
    refine g_ret ?_
    refine gx_seq_ret ?_
    obtain rfl := Option.some.inj h
    exact gx_fin rfl [str (toStr [IntKind.u8.wrap (IntKind.i64.wrap (48 + n_v))])] _ _ [] ⟨_, _, rfl, rfl, rfl⟩ rfl ⟨rfl, rfl, rfl⟩ (fun w hS => (hS.take 0).facts [] [] [] noItem noItem noItem) (Or.inl rfl)
  · replace h := condF hc h
    refine g_skip ?_
    refine gx_seq ?_
    refine g_seq ?_
    obtain ⟨o3, ho3, h⟩ := bindS h
    obtain ⟨z6, hz6, h⟩ := bindS h
    refine g_state (E' := [(0, .int .i64 n_v)]) (Rs' := [] ++ []) (Xs' := [gTab 3 pow10C, gNum 0, gErr 1, gErr 2]) (Os' := []) (Vs' := []) ⟨rfl, trivial⟩ (fun w hS => hS) ?_
    refine g_draw (Rs := []) 11 (dOf [[], [0], [1], [], [3], [4], [5], [6], [7], [2, 8], [9]]) (spOf [det 0 (.int .i64 n_v), det 1 (.int .i64 (IntKind.i64.wrap (Int.tdiv n_v 10))), det 2 (str o3), det 3 (.int .i64 n_v), det 4 (.int .i64 (Int.tmod n_v 10)), det 5 (.int .i64 (IntKind.i64.wrap (48 + (Int.tmod n_v 10)))), det 6 (.int .u8 (IntKind.u8.wrap (IntKind.i64.wrap (48 + (Int.tmod n_v 10))))), ⟨[7], fun vals => ∃ (a_v4 : Option Addr), ∃ (c_v5 : Nat), vals 7 = .slice a_v4 (List.length [IntKind.u8.wrap (IntKind.i64.wrap (48 + (Int.tmod n_v 10)))]) c_v5, fun vals => [SL false 5 (intS .u8) (slA (vals 7)) (slC (vals 7)) [IntKind.u8.wrap (IntKind.i64.wrap (48 + (Int.tmod n_v 10)))]], fun _ => []⟩, det 8 (str (toStr [IntKind.u8.wrap (IntKind.i64.wrap (48 + (Int.tmod n_v 10)))])), det 9 (str z6), det 10 (str z6)]) [] (fun _ _ => []) (eOf [[(0, .int .i64 n_v)], [], [], [(0, .int .i64 n_v)], [], [], [], [], [], [], []]) mixed rfl (Or.inl rfl) ⟨⟨⟨⟨⟨⟨⟨⟨⟨⟨⟨trivial, ⟨rfl, trivial⟩⟩, trivial⟩, trivial⟩, ⟨rfl, trivial⟩⟩, trivial⟩, trivial⟩, trivial⟩, trivial⟩, trivial⟩, trivial⟩, trivial⟩ rfl ⟨⟨⟨⟨⟨⟨⟨⟨⟨⟨⟨trivial, ?_⟩, ?_⟩, ?_⟩, ?_⟩, ?_⟩, ?_⟩, ?_⟩, ?_⟩, ?_⟩, ?_⟩, ?_⟩ ?_
    · intro vals E' R' O' hD
      refine gl_batch 1 [(10, .int .i64 n_v)] rfl ?_
      refine gl_nil ?_
      exact gx_fp (.int .i64 n_v) rfl rfl rfl rfl (fun _ h => h.sub (fun _ h => h) (st_oo (A := [])) (fun o ho => by cases ho))
    · intro vals E' R' O' hD
      have h0 : vals 0 = .int .i64 n_v := hD 0 (memN 0 rfl)
      refine gl_convV (E2 := (10, .int .i64 n_v) :: ([] ++ E')) (V2 := [] ++ ([] ++ [])) (by show (10, vals 0) :: ([] ++ E') = _; rw [h0]) (by show [] ++ ([] ++ []) = _; rfl) ?_
      refine gl_batch 1 [(11, .int .i64 (IntKind.i64.wrap (Int.tdiv n_v 10)))] rfl ?_
      refine gl_nil ?_
      exact gx_fp (.int .i64 (IntKind.i64.wrap (Int.tdiv n_v 10))) rfl rfl rfl rfl (fun _ h => h.sub (fun _ h => h) (st_oo (A := [])) (fun o ho => by cases ho))
    · intro vals E' R' O' hD
      have h1 : vals 1 = .int .i64 (IntKind.i64.wrap (Int.tdiv n_v 10)) := hD 1 (memN 0 rfl)
      refine gl_convV (E2 := (11, .int .i64 (IntKind.i64.wrap (Int.tdiv n_v 10))) :: ([] ++ E')) (V2 := [] ++ ([] ++ [])) (by show (11, vals 1) :: ([] ++ E') = _; rw [h1]) (by show [] ++ ([] ++ []) = _; rfl) ?_
      refine gl_call rfl rfl (fun w => by kernel_rfl) (ih (IntKind.i64.wrap (Int.tdiv n_v 10)) ho3) (consItem (mem_at 0 rfl) (consItem (mem_at 1 rfl) (consItem (mem_at 2 rfl) (consItem (mem_at 3 rfl) noItem)))) noItem ?_
      rintro v outs ros ⟨rfl, rfl, rfl⟩
      refine ⟨_, rfl, ?_⟩
      refine gl_nil ?_
      exact gx_fp (str o3) rfl rfl rfl rfl (fun _ h => h.sub (fun _ h => h) (st_oo (A := [])) (fun o ho => by cases ho))
    · intro vals E' R' O' hD
      refine gl_batch 1 [(13, .int .i64 n_v)] rfl ?_
      refine gl_nil ?_
      exact gx_fp (.int .i64 n_v) rfl rfl rfl rfl (fun _ h => h.sub (fun _ h => h) (st_oo (A := [])) (fun o ho => by cases ho))
    · intro vals E' R' O' hD
      have h3 : vals 3 = .int .i64 n_v := hD 3 (memN 0 rfl)
      refine gl_convV (E2 := (13, .int .i64 n_v) :: ([] ++ E')) (V2 := [] ++ ([] ++ [])) (by show (13, vals 3) :: ([] ++ E') = _; rw [h3]) (by show [] ++ ([] ++ []) = _; rfl) ?_
      refine gl_batch 1 [(14, .int .i64 (Int.tmod n_v 10))] rfl ?_
      refine gl_nil ?_
      exact gx_fp (.int .i64 (Int.tmod n_v 10)) rfl rfl rfl rfl (fun _ h => h.sub (fun _ h => h) (st_oo (A := [])) (fun o ho => by cases ho))
    · intro vals E' R' O' hD
      have h4 : vals 4 = .int .i64 (Int.tmod n_v 10) := hD 4 (memN 0 rfl)
      refine gl_convV (E2 := (14, .int .i64 (Int.tmod n_v 10)) :: ([] ++ E')) (V2 := [] ++ ([] ++ [])) (by show (14, vals 4) :: ([] ++ E') = _; rw [h4]) (by show [] ++ ([] ++ []) = _; rfl) ?_
      refine gl_batch 1 [(15, .int .i64 (IntKind.i64.wrap (48 + (Int.tmod n_v 10))))] rfl ?_
      refine gl_nil ?_
      exact gx_fp (.int .i64 (IntKind.i64.wrap (48 + (Int.tmod n_v 10)))) rfl rfl rfl rfl (fun _ h => h.sub (fun _ h => h) (st_oo (A := [])) (fun o ho => by cases ho))
    · intro vals E' R' O' hD
      have h5 : vals 5 = .int .i64 (IntKind.i64.wrap (48 + (Int.tmod n_v 10))) := hD 5 (memN 0 rfl)
      refine gl_convV (E2 := (15, .int .i64 (IntKind.i64.wrap (48 + (Int.tmod n_v 10)))) :: ([] ++ E')) (V2 := [] ++ ([] ++ [])) (by show (15, vals 5) :: ([] ++ E') = _; rw [h5]) (by show [] ++ ([] ++ []) = _; rfl) ?_
      refine gl_run (v := .int .u8 (IntKind.u8.wrap (IntKind.i64.wrap (48 + (Int.tmod n_v 10))))) rfl rfl rfl (fun w => by kernel_rfl) ?_
      refine gl_nil ?_
      exact gx_fp (.int .u8 (IntKind.u8.wrap (IntKind.i64.wrap (48 + (Int.tmod n_v 10))))) rfl rfl rfl rfl (fun _ h => h.sub (fun _ h => h) (st_oo (A := [])) (fun o ho => by cases ho))
    · intro vals E' R' O' hD
      have h6 : vals 6 = .int .u8 (IntKind.u8.wrap (IntKind.i64.wrap (48 + (Int.tmod n_v 10)))) := hD 6 (memN 0 rfl)
      refine gl_convV (E2 := (16, .int .u8 (IntKind.u8.wrap (IntKind.i64.wrap (48 + (Int.tmod n_v 10))))) :: ([] ++ E')) (V2 := [] ++ ([] ++ [])) (by show (16, vals 6) :: ([] ++ E') = _; rw [h6]) (by show [] ++ ([] ++ []) = _; rfl) ?_
      refine gl_lit (m := 1) (d := 17) (T := 5) (enc := fun x => [.int .u8 x]) (hn := fun _ => rfl) false [IntKind.u8.wrap (IntKind.i64.wrap (48 + (Int.tmod n_v 10)))] rfl rfl (fun _ => rfl) nofun (Nat.le_of_ble_eq_true rfl) (fun w => by kernel_rfl) ?_
      intro a_v4 c_v5
      refine gl_nil ?_
      exact gx_fp (.slice a_v4 (List.length [IntKind.u8.wrap (IntKind.i64.wrap (48 + (Int.tmod n_v 10)))]) c_v5) rfl rfl rfl ⟨a_v4, c_v5, rfl⟩ (fun _ h => h.sub (fun _ h => h) (st_oo (A := [])) (fun o ho => by cases ho))
    · intro vals E' R' O' hD
      obtain ⟨a_v4, c_v5, h7⟩ : ∃ (a_v4 : Option Addr), ∃ (c_v5 : Nat), vals 7 = .slice a_v4 (List.length [IntKind.u8.wrap (IntKind.i64.wrap (48 + (Int.tmod n_v 10)))]) c_v5 := hD 7 (memN 0 rfl)
      refine gl_convV (E2 := (17, .slice a_v4 (List.length [IntKind.u8.wrap (IntKind.i64.wrap (48 + (Int.tmod n_v 10)))]) c_v5) :: ([] ++ E')) (V2 := [SL false 5 (intS .u8) a_v4 c_v5 [IntKind.u8.wrap (IntKind.i64.wrap (48 + (Int.tmod n_v 10)))]] ++ ([] ++ [])) (by show (17, vals 7) :: ([] ++ E') = _; rw [h7]) (by show [SL false 5 (intS .u8) (slA (vals 7)) (slC (vals 7)) [IntKind.u8.wrap (IntKind.i64.wrap (48 + (Int.tmod n_v 10)))]] ++ ([] ++ []) = _; rw [h7] <;> rfl) ?_
      refine gl_b2sn (memV (mem_at 0 rfl)) rfl Fs50 Fy5 Ft9 rfl rfl ?_
      refine gl_nil ?_
      exact gx_fp (str (toStr [IntKind.u8.wrap (IntKind.i64.wrap (48 + (Int.tmod n_v 10)))])) rfl rfl rfl rfl (fun _ h => h.sub (fun _ h => h) (st_oo (A := [])) (fun o ho => by cases ho))
    · intro vals E' R' O' hD
      have h2 : vals 2 = str o3 := hD 2 (memN 0 rfl)
      have h8 : vals 8 = str (toStr [IntKind.u8.wrap (IntKind.i64.wrap (48 + (Int.tmod n_v 10)))]) := hD 8 (memN 1 rfl)
      refine gl_convV (E2 := (12, str o3) :: (18, str (toStr [IntKind.u8.wrap (IntKind.i64.wrap (48 + (Int.tmod n_v 10)))])) :: ([] ++ E')) (V2 := [] ++ ([] ++ [])) (by show (12, vals 2) :: (18, vals 8) :: ([] ++ E') = _; rw [h2, h8]) (by show [] ++ ([] ++ []) = _; rfl) ?_
      refine gl_scat rfl rfl hz6 rfl rfl ?_
      refine gl_nil ?_
      exact gx_fp (str z6) rfl rfl rfl rfl (fun _ h => h.sub (fun _ h => h) (st_oo (A := [])) (fun o ho => by cases ho))
    · intro vals E' R' O' hD
      have h9 : vals 9 = str z6 := hD 9 (memN 0 rfl)
      refine gl_convV (E2 := (19, str z6) :: ([] ++ E')) (V2 := [] ++ ([] ++ [])) (by show (19, vals 9) :: ([] ++ E') = _; rw [h9]) (by show [] ++ ([] ++ []) = _; rfl) ?_
      refine gl_batch 1 [(2, str z6)] rfl ?_
      refine gl_nil ?_
      exact gx_fp (str z6) rfl rfl rfl rfl (fun _ h => h.sub (fun _ h => h) (st_oo (A := [])) (fun o ho => by cases ho))
    · intro vals hv
      obtain ⟨⟨⟨⟨⟨⟨⟨⟨⟨⟨⟨_, h0⟩, h1⟩, h2⟩, h3⟩, h4⟩, h5⟩, h6⟩, h7⟩, h8⟩, h9⟩, h10⟩ := hv
      have h0 : vals 0 = .int .i64 n_v := h0
      have h1 : vals 1 = .int .i64 (IntKind.i64.wrap (Int.tdiv n_v 10)) := h1
      have h2 : vals 2 = str o3 := h2
      have h3 : vals 3 = .int .i64 n_v := h3
      have h4 : vals 4 = .int .i64 (Int.tmod n_v 10) := h4
      have h5 : vals 5 = .int .i64 (IntKind.i64.wrap (48 + (Int.tmod n_v 10))) := h5
      have h6 : vals 6 = .int .u8 (IntKind.u8.wrap (IntKind.i64.wrap (48 + (Int.tmod n_v 10)))) := h6
      obtain ⟨a_v4, c_v5, h7⟩ : ∃ (a_v4 : Option Addr), ∃ (c_v5 : Nat), vals 7 = .slice a_v4 (List.length [IntKind.u8.wrap (IntKind.i64.wrap (48 + (Int.tmod n_v 10)))]) c_v5 := h7
      have h8 : vals 8 = str (toStr [IntKind.u8.wrap (IntKind.i64.wrap (48 + (Int.tmod n_v 10)))]) := h8
      have h9 : vals 9 = str z6 := h9
      have h10 : vals 10 = str z6 := h10
      refine gl_conv (E2 := (10, .int .i64 n_v) :: (11, .int .i64 (IntKind.i64.wrap (Int.tdiv n_v 10))) :: (12, str o3) :: (13, .int .i64 n_v) :: (14, .int .i64 (Int.tmod n_v 10)) :: (15, .int .i64 (IntKind.i64.wrap (48 + (Int.tmod n_v 10)))) :: (16, .int .u8 (IntKind.u8.wrap (IntKind.i64.wrap (48 + (Int.tmod n_v 10))))) :: (17, .slice a_v4 (List.length [IntKind.u8.wrap (IntKind.i64.wrap (48 + (Int.tmod n_v 10)))]) c_v5) :: (18, str (toStr [IntKind.u8.wrap (IntKind.i64.wrap (48 + (Int.tmod n_v 10)))])) :: (19, str z6) :: (2, str z6) :: [(0, .int .i64 n_v)]) (R2 := [] ++ ([SL false 5 (intS .u8) a_v4 c_v5 [IntKind.u8.wrap (IntKind.i64.wrap (48 + (Int.tmod n_v 10)))]] ++ [])) (O2 := [] ++ []) (by show (10, vals 0) :: (11, vals 1) :: (12, vals 2) :: (13, vals 3) :: (14, vals 4) :: (15, vals 5) :: (16, vals 6) :: (17, vals 7) :: (18, vals 8) :: (19, vals 9) :: (2, vals 10) :: [(0, .int .i64 n_v)] = _; rw [h0, h1, h2, h3, h4, h5, h6, h7, h8, h9, h10]) (by show [] ++ ([SL false 5 (intS .u8) (slA (vals 7)) (slC (vals 7)) [IntKind.u8.wrap (IntKind.i64.wrap (48 + (Int.tmod n_v 10)))]] ++ []) = _; rw [h7] <;> rfl) rfl ?_
      refine gl_nil ?_
      refine gx_seq ?_
      refine g_ret ?_
      obtain rfl := Option.some.inj h
      exact gx_fin rfl [str z6] _ _ [] ⟨_, _, rfl, rfl, rfl⟩ rfl ⟨rfl, rfl, rfl⟩ (fun w hS => (hS.take 0).facts [] [] [] noItem noItem noItem) (Or.inl rfl)
theorem c_spec_l01Dec (n_v : Int)  {r : List UInt8} (h : spec_l01Dec n_v = some r) : CallOK Tryd.prog 79 [.int .i64 n_v] [] [gTab 3 pow10C, gNum 0, gErr 1, gErr 2] [] (fun v outs ros => v = str r ∧ outs = [] ∧ ros = []) := by
  obtain ⟨k, hk⟩ := lim_some h
  exact c_spec_l01Dec_F k n_v  hk

theorem c_spec_l14Count (run : List Firing) (event : Int) (a_run : Option Addr) (c_run : Nat) {r : Int} (h : spec_l14Count run event = some r) : CallOK Tryd.prog 95 [.slice a_run (List.length run) c_run, .int .i64 event] [] [gTab 3 pow10C, gNum 0, gErr 1, gErr 2] [SL false 47 FiringS a_run c_run run] (fun v outs ros => v = .int .i64 r ∧ outs = [] ∧ ros = []) := by
  refine fn_ok Tryd.func95 rfl Tryd.ntmps95 rfl (fun c hF0 => ?_)
  unfold spec_l14Count at h
  refine g_seq ?_
  refine g_region ?_
  refine gl_batch 1 [(4, .int .i64 0)] rfl ?_
  refine gl_nil ?_
  refine gx_seq ?_
  refine g_seq ?_
  refine g_region ?_
  refine gl_batch 1 [(5, .int .i64 0)] rfl ?_
  refine gl_nil ?_
  refine gx_seq ?_
  refine g_seq ?_
  refine g_seq ?_
  refine g_region ?_
  refine gl_batch 1 [(6, .int .i64 0)] rfl ?_
  refine gl_nil ?_
  refine gx_seq ?_
  refine g_block ?_
  obtain ⟨o1, ho1, h⟩ := bindS h
  refine g_loop (spec_l14Count_L1 run event) (fun (ss_ : Int × Int) a w => Env a 23 [(0, .slice a_run (List.length run) c_run), (1, .int .i64 event), (5, .int .i64 ss_.1), (6, .int .i64 ss_.2)] ∧ St c w [] [gTab 3 pow10C, gNum 0, gErr 1, gErr 2] [SL false 47 FiringS a_run c_run run] []) ((fun (ss_ : Int) e a w => e = (.exit 0) ∧ Env a 23 [(5, .int .i64 ss_)] ∧ St c w [] [gTab 3 pow10C, gNum 0, gErr 1, gErr 2] [SL false 47 FiringS a_run c_run run] []) : (Int) → Exit → Act → World → Prop) ho1 ?_ ?_ ?_
  · exact fun a w hE hS => ⟨hE.sub ⟨rfl, rfl, rfl, rfl, trivial⟩, (hS.take 0).facts _ _ [] (consItem (mem_at 0 rfl) (consItem (mem_at 1 rfl) (consItem (mem_at 2 rfl) (consItem (mem_at 3 rfl) noItem)))) (consItem (mem_at 0 rfl) noItem) noItem⟩
  · intro s2 o3 h a w hA
    obtain ⟨hE, hS⟩ := hA
    unfold spec_l14Count_L1 at h
    refine g_enter hE hS ?_
    refine g_seq ?_
    refine g_seq ?_
    refine g_region ?_
    refine gl_batch 2 [(8, .slice a_run (List.length run) c_run), (7, .int .i64 s2.2)] rfl ?_
    refine gl_len rfl Fs26 rfl rfl ?_
    refine gl_batch 1 [(10, .bool (decide (s2.2 < (List.length run : Int))))] rfl ?_
    refine gl_nil ?_
    refine gx_seq ?_
    refine g_cond (b := decide (s2.2 < (List.length run : Int))) rfl (fun hc => ?_) (fun hc => ?_)
    · replace h := condT hc h
      refine g_skip ?_
      refine gx_seq ?_
      obtain ⟨o4, ho4, h⟩ := bindS h
      refine g_mid (M := ((fun ss_ e a w => e = .normal ∧ Env a 23 [(0, .slice a_run (List.length run) c_run), (1, .int .i64 event), (5, .int .i64 ss_), (6, .int .i64 s2.2)] ∧ St c w [] [gTab 3 pow10C, gNum 0, gErr 1, gErr 2] [SL false 47 FiringS a_run c_run run] []) : (Int) → Exit → Act → World → Prop) o4) ?_ ?_
      · replace h := ho4
        refine g_block ?_
        refine g_seq ?_
        refine g_region ?_
        refine gl_batch 2 [(14, .int .i64 s2.2), (13, .slice a_run (List.length run) c_run)] rfl ?_
        obtain ⟨x5, hx5, h⟩ := bindS h
        refine gl_idxOn (k := .i64) (mem_at 0 rfl) rfl rfl Fs26 Fz47 hx5 rfl rfl ?_
        intro p6
        refine gl_run (v := .pointer (some p6)) rfl rfl rfl (fun w => by kernel_rfl) ?_
        refine gl_ld1 0 hasAT (mem_at 0 rfl) rfl rfl Fo2 rfl rfl rfl ?_
        refine gl_batch 2 [(19, .bool (x5.Event == event)), (18, .int .i64 event)] rfl ?_
        refine gl_nil ?_
        refine gx_seq ?_
        refine g_cond (b := x5.Event == event) rfl (fun hc => ?_) (fun hc => ?_)
        · replace h := condT hc h
          refine g_region ?_
          refine gl_batch 3 [(5, .int .i64 (IntKind.i64.wrap (s2.1 + 1))), (21, .int .i64 (IntKind.i64.wrap (s2.1 + 1))), (20, .int .i64 s2.1)] rfl ?_
          refine gl_nil ?_
          refine gx_blk ?_
          obtain rfl := Option.some.inj h
          exact gx_of (fun a w hE hS => ⟨rfl, hE.sub ⟨rfl, rfl, rfl, rfl, trivial⟩, (hS.take 0).facts _ _ [] (consItem (mem_at 0 rfl) (consItem (mem_at 1 rfl) (consItem (mem_at 2 rfl) (consItem (mem_at 3 rfl) noItem)))) (consItem (mem_at 1 rfl) noItem) noItem⟩)
        · replace h := condF hc h
          refine g_skip ?_
          refine gx_blk ?_
          obtain rfl := Option.some.inj h
          exact gx_of (fun a w hE hS => ⟨rfl, hE.sub ⟨rfl, rfl, rfl, rfl, trivial⟩, (hS.take 0).facts _ _ [] (consItem (mem_at 0 rfl) (consItem (mem_at 1 rfl) (consItem (mem_at 2 rfl) (consItem (mem_at 3 rfl) noItem)))) (consItem (mem_at 1 rfl) noItem) noItem⟩)
      · intro e a w hm
        obtain ⟨rfl, hE, hS⟩ := hm
        refine gx_to hE hS ?_
        refine gx_seq ?_
        refine g_region ?_
        refine gl_batch 3 [(6, .int .i64 (IntKind.i64.wrap (s2.2 + 1))), (12, .int .i64 (IntKind.i64.wrap (s2.2 + 1))), (11, .int .i64 s2.2)] rfl ?_
        refine gl_nil ?_
        obtain rfl := Option.some.inj h
        exact gx_of (fun a w hE hS => lp_in ⟨hE.sub ⟨rfl, rfl, rfl, rfl, trivial⟩, (hS.take 0).facts _ _ [] (consItem (mem_at 0 rfl) (consItem (mem_at 1 rfl) (consItem (mem_at 2 rfl) (consItem (mem_at 3 rfl) noItem)))) (consItem (mem_at 0 rfl) noItem) noItem⟩)
    · replace h := condF hc h
      refine g_exit ?_
      refine gx_seq_exit ?_
      obtain rfl := Option.some.inj h
      exact gx_of (fun a w hE hS => lp_out nofun (⟨rfl, hE.sub ⟨rfl, trivial⟩, (hS.take 0).facts _ _ [] (consItem (mem_at 0 rfl) (consItem (mem_at 1 rfl) (consItem (mem_at 2 rfl) (consItem (mem_at 3 rfl) noItem)))) (consItem (mem_at 0 rfl) noItem) noItem⟩))
  · intro e a w hm
    obtain ⟨rfl, hE, hS⟩ := hm
    refine gx_to hE hS ?_
    refine gx_blk_hit ?_
    refine gx_seq ?_
    refine g_seq ?_
    refine g_region ?_
    refine gl_batch 2 [(4, .int .i64 o1), (22, .int .i64 o1)] rfl ?_
    refine gl_nil ?_
    refine gx_seq ?_
    refine g_ret ?_
    obtain rfl := Option.some.inj h
    exact gx_fin rfl [.int .i64 o1] _ _ [] ⟨_, _, rfl, rfl, rfl⟩ rfl ⟨rfl, rfl, rfl⟩ (fun w hS => (hS.take 0).facts [] [] [] noItem noItem noItem) (Or.inl rfl)

theorem c_spec_l01In (n_v : Int) (low : Int) (high : Int)  {r : Bool} (h : spec_l01In n_v low high = r) : CallOK Tryd.prog 77 [.int .i64 n_v, .int .i64 low, .int .i64 high] [] [gTab 3 pow10C, gNum 0, gErr 1, gErr 2] [] (fun v outs ros => v = .bool r ∧ outs = [] ∧ ros = []) := by
  refine fn_ok Tryd.func77 rfl Tryd.ntmps77 rfl (fun c hF0 => ?_)
  unfold spec_l01In at h
  refine g_seq ?_
  refine g_region ?_
  refine gl_batch 1 [(6, .bool false)] rfl ?_
  refine gl_nil ?_
  refine gx_seq ?_
  refine g_seq ?_
  refine g_region ?_
  refine gl_batch 4 [(10, .bool (decide (n_v ≥ low))), (9, .bool (decide (n_v ≥ low))), (8, .int .i64 low), (7, .int .i64 n_v)] rfl ?_
  refine gl_join (EE := [(14, .bool ((decide (n_v ≥ low)) && (decide (n_v ≤ high))))]) (RR := []) (XX := [gTab 3 pow10C, gNum 0, gErr 1, gErr 2]) (OO := []) (VV := []) 4 ?_ ?_
  · skip
    refine gl_case 10 rfl (fun hc => ?_) (fun hc => ?_)
    · skip
      refine gl_batch 4 [(14, .bool (decide (n_v ≤ high))), (13, .bool (decide (n_v ≤ high))), (12, .int .i64 high), (11, .int .i64 n_v)] rfl ?_
      refine gl_nil ?_
      exact gx_mid ⟨congrArg (fun z => some (Value.bool z)) (and_t hc).symm, trivial⟩ (fun w hS => hS)
    · skip
      refine gl_batch 4 [(14, .bool false), (13, undef), (12, undef), (11, undef)] rfl ?_
      refine gl_nil ?_
      exact gx_mid ⟨congrArg (fun z => some (Value.bool z)) (and_f hc).symm, trivial⟩ (fun w hS => hS)
  · skip
    refine gl_batch 1 [(6, .bool ((decide (n_v ≥ low)) && (decide (n_v ≤ high))))] rfl ?_
    refine gl_nil ?_
    refine gx_seq ?_
    refine g_ret ?_
    subst h
    exact gx_fin rfl [.bool ((decide (n_v ≥ low)) && (decide (n_v ≤ high)))] _ _ [] ⟨_, _, rfl, rfl, rfl⟩ rfl ⟨rfl, rfl, rfl⟩ (fun w hS => (hS.take 0).facts [] [] [] noItem noItem noItem) (Or.inl rfl)

theorem c_spec_l28Next (chain : Int) (f : Firing)  {r : Int} (h : spec_l28Next chain f = r) : CallOK Tryd.prog 43 [.int .i64 chain, .agg #[.int .i64 f.Event, .int .i64 f.Number, .int .i64 f.Time]] [] [gTab 3 pow10C, gNum 0, gErr 1, gErr 2] [] (fun v outs ros => v = .int .i64 r ∧ outs = [] ∧ ros = []) := by
  refine fn_ok Tryd.func43 rfl Tryd.ntmps43 rfl (fun c hF0 => ?_)
  unfold spec_l28Next at h
  refine g_seq ?_
  refine g_region ?_
  refine gl_new (d := 3) (T := 47) [.int .i64 f.Event, .int .i64 f.Number, .int .i64 f.Time] rfl rfl (fun _ => rfl) (fun w => by kernel_rfl) ?_
  intro b1
  refine gl_batch 1 [(4, .int .i64 0)] rfl ?_
  refine gl_nil ?_
  refine gx_seq ?_
  refine g_seq ?_
  refine g_region ?_
  refine gl_batch 2 [(6, .int .i64 (IntKind.i64.wrap (31 * chain))), (5, .int .i64 chain)] rfl ?_
  refine gl_run (v := .pointer (some ⟨b1, 0, none⟩)) rfl rfl rfl (fun w => by kernel_rfl) ?_
  refine gl_ld1 0 hasBK (mem_at 0 rfl) rfl rfl Fo2 rfl rfl rfl ?_
  refine gl_batch 2 [(10, .int .i64 (IntKind.i64.wrap ((IntKind.i64.wrap (31 * chain)) + (IntKind.i64.wrap (7 * f.Event))))), (9, .int .i64 (IntKind.i64.wrap (7 * f.Event)))] rfl ?_
  refine gl_run (v := .pointer (some ⟨b1, 2, none⟩)) rfl rfl rfl (fun w => by kernel_rfl) ?_
  refine gl_ld1 2 hasBK (mem_at 0 rfl) rfl rfl Fo2 rfl rfl rfl ?_
  refine gl_batch 3 [(4, .int .i64 (Int.tmod (IntKind.i64.wrap ((IntKind.i64.wrap ((IntKind.i64.wrap (31 * chain)) + (IntKind.i64.wrap (7 * f.Event)))) + f.Time)) 9973)), (14, .int .i64 (Int.tmod (IntKind.i64.wrap ((IntKind.i64.wrap ((IntKind.i64.wrap (31 * chain)) + (IntKind.i64.wrap (7 * f.Event)))) + f.Time)) 9973)), (13, .int .i64 (IntKind.i64.wrap ((IntKind.i64.wrap ((IntKind.i64.wrap (31 * chain)) + (IntKind.i64.wrap (7 * f.Event)))) + f.Time)))] rfl ?_
  refine gl_nil ?_
  refine gx_seq ?_
  refine g_ret ?_
  subst h
  exact gx_fin rfl [.int .i64 (Int.tmod (IntKind.i64.wrap ((IntKind.i64.wrap ((IntKind.i64.wrap (31 * chain)) + (IntKind.i64.wrap (7 * f.Event)))) + f.Time)) 9973)] _ _ [] ⟨_, _, rfl, rfl, rfl⟩ rfl ⟨rfl, rfl, rfl⟩ (fun w hS => (hS.take 0).facts [] [] [] noItem noItem noItem) (Or.inl rfl)

theorem c_strings_Cut (s : List UInt8) (sep : List UInt8)  {r : List UInt8 × List UInt8 × Bool} (h : strings_Cut s sep = some r) : CallOK Tryd.prog 52 [str s, str sep] [] [gTab 3 pow10C, gNum 0, gErr 1, gErr 2] [] (fun v outs ros => v = .tuple #[str r.1, str r.2.1, .bool r.2.2] ∧ outs = [] ∧ ros = []) := by
  unfold strings_Cut at h
  split at h
  · rename_i hc
    obtain rfl := Option.some.inj h
    refine ok_flat (fun w hX => ?_)
    obtain ⟨m, hm⟩ := gNum_cell (hX _ (mem_at 1 rfl))
    refine (Any.strings_Cut Tryd.lay145 ⟨s.toArray⟩ ⟨sep.toArray⟩ m w hc hm).mono ?_
    rintro e w' ⟨rfl, k, rfl⟩
    exact ⟨rfl, Keep.drewN w k []⟩
  · cases h

theorem c_strings_Split (s : List UInt8) (sep : List UInt8)  {r : List (List UInt8)} (h : strings_Split s sep = some r) : CallOK Tryd.prog 93 [str s, str sep] [] [gTab 3 pow10C, gNum 0, gErr 1, gErr 2] [] (fun v outs ros => ∃ (a0 : Option Addr), ∃ (c0 : Nat), v = .slice a0 (List.length r) c0 ∧ outs = [SL false 9 strS a0 c0 r] ∧ ros = []) := by
  unfold strings_Split at h
  split at h
  · rename_i hc
    obtain ⟨h0, h1, h2, h3⟩ := hc
    obtain rfl := Option.some.inj h
    refine ok_row (m := 1) (enc := fun x => [str x]) (hn := fun _ => rfl) (T := 9) (fun w hX => ?_)
    obtain ⟨m, hm⟩ := gNum_cell (hX _ (mem_at 1 rfl))
    refine (Any.strings_Split { Tryd.lay146 with } (Tryd.lay146).i9 ⟨s.toArray⟩ ⟨sep.toArray⟩ m w h0 hm h1).mono ?_
    rintro e w' ⟨rfl, rfl⟩
    generalize Lib.splitB ⟨sep.toArray⟩ 0 (Lib.countB ⟨s.toArray⟩ ⟨sep.toArray⟩) ⟨s.toArray⟩ = l at h2 ⊢
    have hl : (l.map (·.data.toList)).length = Lib.countB ⟨s.toArray⟩ ⟨sep.toArray⟩ + 1 := by rw [List.length_map]; exact h2
    have hcells : (l.map Value.string) = (l.map (·.data.toList)).flatMap (fun x => [str x]) := by
      rw [List.flatMap_map, List.map_eq_flatMap]
    rw [hcells]
    refine ⟨_, _, by rw [hl], Keep.alloc w _ [], [w.heap.size], fun S => ?_, by simp, fun b hb => ?_⟩
    · have := own_made (hn := fun _ => rfl) (enc := fun x => [str x]) false 9 (l.map (·.data.toList)) w S nofun (by rw [hl]; unfold maxLen; omega)
      rw [hl] at this
      exact this
    · have e : b = w.heap.size := by simpa using hb
      subst e
      simp
  · cases h

theorem c_strconv_ParseInt (s : List UInt8) (base : Int) (bitSize : Int)  {r : Int × Bool} (h : strconv_ParseInt s base bitSize = some r) : CallOK Tryd.prog 91 [str s, .int .i64 base, .int .i64 bitSize] [] [gTab 3 pow10C, gNum 0, gErr 1, gErr 2] [] (fun v outs ros => ∃ (ev0 : Value), ErrIs r.2 ev0 ∧ v = .tuple #[.int .i64 r.1, ev0] ∧ outs = [] ∧ ros = []) := by
  unfold strconv_ParseInt at h
  split at h
  · rename_i hc
    obtain ⟨rfl, rfl, h0⟩ := hc
    obtain rfl := Option.some.inj h
    refine ok_err (fun w hX => ?_)
    cases hp : Lib.parseIntB 64 s with
    | ok v =>
      refine (Any.strconv_ParseInt_10_at64_ok Tryd.lay174 ⟨s.toArray⟩ (by have : (ByteArray.mk s.toArray).size = s.length := rfl; omega) v hp w).mono ?_
      rintro e w' ⟨rfl, hw⟩
      refine ⟨.nilIface, Or.inl ⟨rfl, rfl⟩, rfl, ?_⟩
      rcases hw with rfl | ⟨t, rfl⟩
      · exact Keep.refl _ _
      · exact Keep.below (Lib.bytesWorld_below _ _ _)
    | range =>
      obtain ⟨ev, hv, hev⟩ := gErr_cell (hX _ (mem_at 3 rfl))
      refine (Any.strconv_ParseInt_10_at64_range Tryd.lay174 ⟨s.toArray⟩ h0 hp ev w hv hev).mono ?_
      rintro e w' ⟨N, rfl, _, _, hb⟩
      exact ⟨_, Or.inr ⟨rfl, _, _, rfl⟩, rfl, Keep.below hb⟩
    | _ =>
      obtain ⟨ev, hv, hev⟩ := gErr_cell (hX _ (mem_at 2 rfl))
      refine (Any.strconv_ParseInt_10_at64_syntax Tryd.lay174 ⟨s.toArray⟩ h0 hp ev w hv hev).mono ?_
      rintro e w' ⟨N, rfl, _, _, hb⟩
      exact ⟨_, Or.inr ⟨rfl, _, _, rfl⟩, rfl, Keep.below hb⟩
  · cases h

theorem c_strconv_FormatInt (i : Int) (base : Int)  {r : List UInt8} (h : strconv_FormatInt i base = some r) : CallOK Tryd.prog 102 [.int .i64 i, .int .i64 base] [] [gTab 3 pow10C, gNum 0, gErr 1, gErr 2] [] (fun v outs ros => v = str r ∧ outs = [] ∧ ros = []) := by
  unfold strconv_FormatInt at h
  split at h
  · rename_i hc
    obtain ⟨rfl, h0, h1⟩ := hc
    obtain rfl := Option.some.inj h
    refine ok_flat (fun w hX => (Any.strconv_FormatInt_10 Tryd.lay173 i h0 h1 w (pow10_tab gn_pow10 (hX _ (mem_at 0 rfl)))).mono ?_)
    rintro e w' ⟨rfl, k, os, rfl⟩
    exact ⟨rfl, (Keep.drewN w k []).trans (Keep.grow _ os []) (fun x hx => by cases hx)⟩
  · cases h

theorem c_impl_within (n_v : Int) (low : Int) (high : Int)  {r : Bool} (h : impl_within n_v low high = r) : CallOK Tryd.prog 80 [.int .i64 n_v, .int .i64 low, .int .i64 high] [] [gTab 3 pow10C, gNum 0, gErr 1, gErr 2] [] (fun v outs ros => v = .bool r ∧ outs = [] ∧ ros = []) := by
  refine fn_ok Tryd.func80 rfl Tryd.ntmps80 rfl (fun c hF0 => ?_)
  unfold impl_within at h
  refine g_seq ?_
  refine g_region ?_
  refine gl_batch 1 [(6, .bool false)] rfl ?_
  refine gl_nil ?_
  refine gx_seq ?_
  refine g_seq ?_
  refine g_region ?_
  refine gl_batch 4 [(10, .bool (decide (n_v ≥ low))), (9, .bool (decide (n_v ≥ low))), (8, .int .i64 low), (7, .int .i64 n_v)] rfl ?_
  refine gl_join (EE := [(14, .bool ((decide (n_v ≥ low)) && (decide (n_v ≤ high))))]) (RR := []) (XX := [gTab 3 pow10C, gNum 0, gErr 1, gErr 2]) (OO := []) (VV := []) 4 ?_ ?_
  · skip
    refine gl_case 10 rfl (fun hc => ?_) (fun hc => ?_)
    · skip
      refine gl_batch 4 [(14, .bool (decide (n_v ≤ high))), (13, .bool (decide (n_v ≤ high))), (12, .int .i64 high), (11, .int .i64 n_v)] rfl ?_
      refine gl_nil ?_
      exact gx_mid ⟨congrArg (fun z => some (Value.bool z)) (and_t hc).symm, trivial⟩ (fun w hS => hS)
    · skip
      refine gl_batch 4 [(14, .bool false), (13, undef), (12, undef), (11, undef)] rfl ?_
      refine gl_nil ?_
      exact gx_mid ⟨congrArg (fun z => some (Value.bool z)) (and_f hc).symm, trivial⟩ (fun w hS => hS)
  · skip
    refine gl_batch 1 [(6, .bool ((decide (n_v ≥ low)) && (decide (n_v ≤ high))))] rfl ?_
    refine gl_nil ?_
    refine gx_seq ?_
    refine g_ret ?_
    subst h
    exact gx_fin rfl [.bool ((decide (n_v ≥ low)) && (decide (n_v ≤ high)))] _ _ [] ⟨_, _, rfl, rfl, rfl⟩ rfl ⟨rfl, rfl, rfl⟩ (fun w hS => (hS.take 0).facts [] [] [] noItem noItem noItem) (Or.inl rfl)

theorem c_laws_eqFiring (a_v : Firing) (b : Firing)  {r : Bool} (h : laws_eqFiring a_v b = r) : CallOK Tryd.prog 47 [.agg #[.int .i64 a_v.Event, .int .i64 a_v.Number, .int .i64 a_v.Time], .agg #[.int .i64 b.Event, .int .i64 b.Number, .int .i64 b.Time]] [] [gTab 3 pow10C, gNum 0, gErr 1, gErr 2] [] (fun v outs ros => v = .bool r ∧ outs = [] ∧ ros = []) := by
  refine fn_ok Tryd.func47 rfl Tryd.ntmps47 rfl (fun c hF0 => ?_)
  unfold laws_eqFiring at h
  refine g_seq ?_
  refine g_region ?_
  refine gl_new (d := 2) (T := 47) [.int .i64 a_v.Event, .int .i64 a_v.Number, .int .i64 a_v.Time] rfl rfl (fun _ => rfl) (fun w => by kernel_rfl) ?_
  intro b1
  refine gl_new (d := 3) (T := 47) [.int .i64 b.Event, .int .i64 b.Number, .int .i64 b.Time] rfl rfl (fun _ => rfl) (fun w => by kernel_rfl) ?_
  intro b2
  refine gl_batch 1 [(4, .bool false)] rfl ?_
  refine gl_nil ?_
  refine gx_seq ?_
  refine g_seq ?_
  refine g_seq ?_
  refine g_region ?_
  refine gl_run (v := .pointer (some ⟨b1, 0, none⟩)) rfl rfl rfl (fun w => by kernel_rfl) ?_
  refine gl_ld1 0 hasBK (mem_at 1 rfl) rfl rfl Fo2 rfl rfl rfl ?_
  refine gl_run (v := .pointer (some ⟨b2, 0, none⟩)) rfl rfl rfl (fun w => by kernel_rfl) ?_
  refine gl_ld1 0 hasBK (mem_at 0 rfl) rfl rfl Fo2 rfl rfl rfl ?_
  refine gl_batch 1 [(9, .bool (a_v.Event != b.Event))] rfl ?_
  refine gl_nil ?_
  refine gx_seq ?_
  refine g_cond (b := a_v.Event != b.Event) rfl (fun hc => ?_) (fun hc => ?_)
  · replace h := condTt hc h
    refine g_seq ?_
    refine g_region ?_
    refine gl_batch 1 [(4, .bool false)] rfl ?_
    refine gl_nil ?_
    refine gx_seq ?_
    refine g_ret ?_
    refine gx_seq_ret ?_
    subst h
    exact gx_fin rfl [.bool false] _ _ [] ⟨_, _, rfl, rfl, rfl⟩ rfl ⟨rfl, rfl, rfl⟩ (fun w hS => (hS.take 0).facts [] [] [] noItem noItem noItem) (Or.inl rfl)
  · replace h := condFt hc h
    refine g_skip ?_
    refine gx_seq ?_
    refine g_seq ?_
    refine g_seq ?_
    refine g_region ?_
    refine gl_run (v := .pointer (some ⟨b1, 1, none⟩)) rfl rfl rfl (fun w => by kernel_rfl) ?_
    refine gl_ld1 1 hasBK (mem_at 1 rfl) rfl rfl Fo2 rfl rfl rfl ?_
    refine gl_run (v := .pointer (some ⟨b2, 1, none⟩)) rfl rfl rfl (fun w => by kernel_rfl) ?_
    refine gl_ld1 1 hasBK (mem_at 0 rfl) rfl rfl Fo2 rfl rfl rfl ?_
    refine gl_batch 1 [(14, .bool (a_v.Number != b.Number))] rfl ?_
    refine gl_nil ?_
    refine gx_seq ?_
    refine g_cond (b := a_v.Number != b.Number) rfl (fun hc => ?_) (fun hc => ?_)
    · replace h := condTt hc h
      refine g_seq ?_
      refine g_region ?_
      refine gl_batch 1 [(4, .bool false)] rfl ?_
      refine gl_nil ?_
      refine gx_seq ?_
      refine g_ret ?_
      refine gx_seq_ret ?_
      subst h
      exact gx_fin rfl [.bool false] _ _ [] ⟨_, _, rfl, rfl, rfl⟩ rfl ⟨rfl, rfl, rfl⟩ (fun w hS => (hS.take 0).facts [] [] [] noItem noItem noItem) (Or.inl rfl)
    · replace h := condFt hc h
      refine g_skip ?_
      refine gx_seq ?_
      refine g_seq ?_
      refine g_seq ?_
      refine g_region ?_
      refine gl_run (v := .pointer (some ⟨b1, 2, none⟩)) rfl rfl rfl (fun w => by kernel_rfl) ?_
      refine gl_ld1 2 hasBK (mem_at 1 rfl) rfl rfl Fo2 rfl rfl rfl ?_
      refine gl_run (v := .pointer (some ⟨b2, 2, none⟩)) rfl rfl rfl (fun w => by kernel_rfl) ?_
      refine gl_ld1 2 hasBK (mem_at 0 rfl) rfl rfl Fo2 rfl rfl rfl ?_
      refine gl_batch 1 [(19, .bool (a_v.Time != b.Time))] rfl ?_
      refine gl_nil ?_
      refine gx_seq ?_
      refine g_cond (b := a_v.Time != b.Time) rfl (fun hc => ?_) (fun hc => ?_)
      · replace h := condTt hc h
        refine g_seq ?_
        refine g_region ?_
        refine gl_batch 1 [(4, .bool false)] rfl ?_
        refine gl_nil ?_
        refine gx_seq ?_
        refine g_ret ?_
        refine gx_seq_ret ?_
        subst h
        exact gx_fin rfl [.bool false] _ _ [] ⟨_, _, rfl, rfl, rfl⟩ rfl ⟨rfl, rfl, rfl⟩ (fun w hS => (hS.take 0).facts [] [] [] noItem noItem noItem) (Or.inl rfl)
      · replace h := condFt hc h
        refine g_skip ?_
        refine gx_seq ?_
        refine g_seq ?_
        refine g_region ?_
        refine gl_batch 1 [(4, .bool true)] rfl ?_
        refine gl_nil ?_
        refine gx_seq ?_
        refine g_ret ?_
        subst h
        exact gx_fin rfl [.bool true] _ _ [] ⟨_, _, rfl, rfl, rfl⟩ rfl ⟨rfl, rfl, rfl⟩ (fun w hS => (hS.take 0).facts [] [] [] noItem noItem noItem) (Or.inl rfl)

theorem c_laws_markFiringS (a_v : List Firing) (k : Int) (a_a_v : Option Addr) (c_a_v : Nat) {r : Int × List Firing} (h : laws_markFiringS a_v k = some r) : CallOK Tryd.prog 24 [.slice a_a_v (List.length a_v) c_a_v, .int .i64 k] [SN false 47 FiringS a_a_v (List.length a_v) c_a_v a_v] [gTab 3 pow10C, gNum 0, gErr 1, gErr 2] [] (fun v outs ros => v = .int .i64 r.1 ∧ outs = [SN false 47 FiringS a_a_v (List.length a_v) c_a_v r.2] ∧ ros = []) := by
  refine fn_ok Tryd.func24 rfl Tryd.ntmps24 rfl (fun c hF0 => ?_)
  unfold laws_markFiringS at h
  refine g_seq ?_
  refine g_region ?_
  refine gl_batch 1 [(4, .int .i64 0)] rfl ?_
  refine gl_nil ?_
  refine gx_seq ?_
  refine g_seq ?_
  refine g_seq ?_
  refine g_region ?_
  refine gl_batch 1 [(5, .int .i64 0)] rfl ?_
  refine gl_nil ?_
  refine gx_seq ?_
  refine g_block ?_
  obtain ⟨o1, ho1, h⟩ := bindS h
  refine g_loop (laws_markFiringS_L1 a_v) (fun (ss_ : (List Firing) × Int × Int) a w => Env a 34 [(0, .slice a_a_v (List.length a_v) c_a_v), (1, .int .i64 ss_.2.1), (5, .int .i64 ss_.2.2)] ∧ St c w [SN false 47 FiringS a_a_v (List.length a_v) c_a_v ss_.1] [gTab 3 pow10C, gNum 0, gErr 1, gErr 2] [] []) ((fun (ss_ : Int × (List Firing)) e a w => e = (.exit 0) ∧ Env a 34 [(1, .int .i64 ss_.1)] ∧ St c w [SN false 47 FiringS a_a_v (List.length a_v) c_a_v ss_.2] [gTab 3 pow10C, gNum 0, gErr 1, gErr 2] [] []) : (Int × (List Firing)) → Exit → Act → World → Prop) ho1 ?_ ?_ ?_
  · exact fun a w hE hS => ⟨hE.sub ⟨rfl, rfl, rfl, trivial⟩, (hS.take 1).facts _ _ [] (consItem (mem_at 0 rfl) (consItem (mem_at 1 rfl) (consItem (mem_at 2 rfl) (consItem (mem_at 3 rfl) noItem)))) noItem noItem⟩
  · intro s2 o3 h a w hA
    obtain ⟨hE, hS⟩ := hA
    unfold laws_markFiringS_L1 at h
    refine g_enter hE hS ?_
    refine g_seq ?_
    refine g_seq ?_
    refine g_region ?_
    refine gl_batch 2 [(7, .slice a_a_v (List.length a_v) c_a_v), (6, .int .i64 s2.2.2)] rfl ?_
    refine gl_len rfl Fs26 rfl rfl ?_
    refine gl_batch 1 [(9, .bool (decide (s2.2.2 < (List.length a_v : Int))))] rfl ?_
    refine gl_nil ?_
    refine gx_seq ?_
    refine g_cond (b := decide (s2.2.2 < (List.length a_v : Int))) rfl (fun hc => ?_) (fun hc => ?_)
    · replace h := condT hc h
      refine g_skip ?_
      refine gx_seq ?_
      refine g_seq ?_
      refine g_block ?_
      refine g_seq ?_
      refine g_region ?_
      refine gl_batch 3 [(14, .int .i64 s2.2.1), (13, .int .i64 s2.2.2), (12, .slice a_a_v (List.length a_v) c_a_v)] rfl ?_
      obtain ⟨x4, hx4, h⟩ := bindS h
      refine gl_idxVn (k := .i64) (mem_at 0 rfl) rfl rfl Fs26 Fz47 hx4 rfl rfl ?_
      intro p5 hp5
      refine gl_run (v := .pointer (some p5)) rfl rfl rfl (fun w => by kernel_rfl) ?_
      obtain ⟨u6, hu6, h⟩ := letS h
      refine gl_stEn 0 [.int .i64 s2.2.1] (⟨s2.2.1, x4.Number, x4.Time⟩ : Firing) hp5 hx4 rfl rfl rfl rfl Fz2 rfl rfl rfl rfl ?_
      rw [hu6]
      refine gl_nil ?_
      refine gx_seq ?_
      refine g_seq ?_
      refine g_region ?_
      refine gl_batch 3 [(1, .int .i64 (IntKind.i64.wrap (s2.2.1 + 1))), (18, .int .i64 (IntKind.i64.wrap (s2.2.1 + 1))), (17, .int .i64 s2.2.1)] rfl ?_
      refine gl_nil ?_
      refine gx_seq ?_
      refine g_seq ?_
      refine g_region ?_
      refine gl_batch 3 [(21, .int .i64 (IntKind.i64.wrap (s2.2.1 + 1))), (20, .int .i64 s2.2.2), (19, .slice a_a_v (List.length a_v) c_a_v)] rfl ?_
      obtain ⟨x7, hx7, h⟩ := bindS h
      refine gl_idxVn (k := .i64) (mem_at 0 rfl) rfl rfl Fs26 Fz47 hx7 rfl rfl ?_
      intro p8 hp8
      refine gl_run (v := .pointer (some (Addr.add p8 1))) rfl rfl rfl (fun w => by kernel_rfl) ?_
      obtain ⟨u9, hu9, h⟩ := letS h
      refine gl_stEn 1 [.int .i64 (IntKind.i64.wrap (s2.2.1 + 1))] (⟨x7.Event, IntKind.i64.wrap (s2.2.1 + 1), x7.Time⟩ : Firing) hp8 hx7 rfl rfl rfl rfl Fz2 rfl rfl rfl rfl ?_
      rw [hu9]
      refine gl_nil ?_
      refine gx_seq ?_
      refine g_seq ?_
      refine g_region ?_
      obtain ⟨k10, hk10, h⟩ := letS h
      refine gl_batch 3 [(1, .int .i64 k10), (25, .int .i64 (IntKind.i64.wrap ((IntKind.i64.wrap (s2.2.1 + 1)) + 1))), (24, .int .i64 (IntKind.i64.wrap (s2.2.1 + 1)))] (by subst hk10; rfl) ?_
      refine gl_nil ?_
      refine gx_seq ?_
      refine g_seq ?_
      refine g_region ?_
      refine gl_batch 3 [(28, .int .i64 k10), (27, .int .i64 s2.2.2), (26, .slice a_a_v (List.length a_v) c_a_v)] rfl ?_
      obtain ⟨x11, hx11, h⟩ := bindS h
      refine gl_idxVn (k := .i64) (mem_at 0 rfl) rfl rfl Fs26 Fz47 hx11 rfl rfl ?_
      intro p12 hp12
      refine gl_run (v := .pointer (some (Addr.add p12 2))) rfl rfl rfl (fun w => by kernel_rfl) ?_
      obtain ⟨u13, hu13, h⟩ := letS h
      refine gl_stEn 2 [.int .i64 k10] (⟨x11.Event, x11.Number, k10⟩ : Firing) hp12 hx11 rfl rfl rfl rfl Fz2 rfl rfl rfl rfl ?_
      rw [hu13]
      refine gl_nil ?_
      refine gx_seq ?_
      refine g_region ?_
      refine gl_batch 3 [(1, .int .i64 (IntKind.i64.wrap (k10 + 1))), (32, .int .i64 (IntKind.i64.wrap (k10 + 1))), (31, .int .i64 k10)] rfl ?_
      refine gl_nil ?_
      refine gx_blk ?_
      refine gx_seq ?_
      refine g_region ?_
      refine gl_batch 3 [(5, .int .i64 (IntKind.i64.wrap (s2.2.2 + 1))), (11, .int .i64 (IntKind.i64.wrap (s2.2.2 + 1))), (10, .int .i64 s2.2.2)] rfl ?_
      refine gl_nil ?_
      obtain rfl := Option.some.inj h
      exact gx_of (fun a w hE hS => lp_in ⟨hE.sub ⟨rfl, rfl, rfl, trivial⟩, (hS.take 1).facts _ _ [] (consItem (mem_at 0 rfl) (consItem (mem_at 1 rfl) (consItem (mem_at 2 rfl) (consItem (mem_at 3 rfl) noItem)))) noItem noItem⟩)
    · replace h := condF hc h
      refine g_exit ?_
      refine gx_seq_exit ?_
      obtain rfl := Option.some.inj h
      exact gx_of (fun a w hE hS => lp_out nofun (⟨rfl, hE.sub ⟨rfl, trivial⟩, (hS.take 1).facts _ _ [] (consItem (mem_at 0 rfl) (consItem (mem_at 1 rfl) (consItem (mem_at 2 rfl) (consItem (mem_at 3 rfl) noItem)))) noItem noItem⟩))
  · intro e a w hm
    obtain ⟨rfl, hE, hS⟩ := hm
    refine gx_to hE hS ?_
    refine gx_blk_hit ?_
    refine gx_seq ?_
    refine g_seq ?_
    refine g_region ?_
    refine gl_batch 2 [(4, .int .i64 o1.1), (33, .int .i64 o1.1)] rfl ?_
    refine gl_nil ?_
    refine gx_seq ?_
    refine g_ret ?_
    obtain rfl := Option.some.inj h
    exact gx_fin rfl [.int .i64 o1.1] _ _ [] ⟨_, _, rfl, rfl, rfl⟩ rfl ⟨rfl, rfl, rfl⟩ (fun w hS => (hS.take 1).facts [] [] [] noItem noItem noItem) (Or.inl rfl)

theorem c_laws_heldFiringS (a_v : List Firing) (k : Int) (a_a_v : Option Addr) (c_a_v : Nat) {r : Int} (h : laws_heldFiringS a_v k = some r) : CallOK Tryd.prog 25 [.slice a_a_v (List.length a_v) c_a_v, .int .i64 k] [] [gTab 3 pow10C, gNum 0, gErr 1, gErr 2] [SL false 47 FiringS a_a_v c_a_v a_v] (fun v outs ros => v = .int .i64 r ∧ outs = [] ∧ ros = []) := by
  refine fn_ok Tryd.func25 rfl Tryd.ntmps25 rfl (fun c hF0 => ?_)
  unfold laws_heldFiringS at h
  refine g_seq ?_
  refine g_region ?_
  refine gl_batch 1 [(4, .int .i64 0)] rfl ?_
  refine gl_nil ?_
  refine gx_seq ?_
  refine g_seq ?_
  refine g_seq ?_
  refine g_region ?_
  refine gl_batch 1 [(5, .int .i64 0)] rfl ?_
  refine gl_nil ?_
  refine gx_seq ?_
  refine g_block ?_
  obtain ⟨o1, ho1, h⟩ := bindS h
  refine g_loop (laws_heldFiringS_L1 a_v) (fun (ss_ : Int × Int) a w => Env a 40 [(0, .slice a_a_v (List.length a_v) c_a_v), (1, .int .i64 ss_.1), (5, .int .i64 ss_.2)] ∧ St c w [] [gTab 3 pow10C, gNum 0, gErr 1, gErr 2] [SL false 47 FiringS a_a_v c_a_v a_v] []) (Sum.elim (fun (ss_ : Unit) e a w => e = .ret ∧ Env a 40 [(4, .int .i64 (-1))] ∧ St c w [] [gTab 3 pow10C, gNum 0, gErr 1, gErr 2] [SL false 47 FiringS a_a_v c_a_v a_v] []) (fun (ss_ : Int) e a w => e = (.exit 0) ∧ Env a 40 [(1, .int .i64 ss_)] ∧ St c w [] [gTab 3 pow10C, gNum 0, gErr 1, gErr 2] [SL false 47 FiringS a_a_v c_a_v a_v] []) : (Sum Unit Int) → Exit → Act → World → Prop) ho1 ?_ ?_ ?_
  · exact fun a w hE hS => ⟨hE.sub ⟨rfl, rfl, rfl, trivial⟩, (hS.take 0).facts _ _ [] (consItem (mem_at 0 rfl) (consItem (mem_at 1 rfl) (consItem (mem_at 2 rfl) (consItem (mem_at 3 rfl) noItem)))) (consItem (mem_at 0 rfl) noItem) noItem⟩
  · intro s2 o3 h a w hA
    obtain ⟨hE, hS⟩ := hA
    unfold laws_heldFiringS_L1 at h
    refine g_enter hE hS ?_
    refine g_seq ?_
    refine g_seq ?_
    refine g_region ?_
    refine gl_batch 2 [(7, .slice a_a_v (List.length a_v) c_a_v), (6, .int .i64 s2.2)] rfl ?_
    refine gl_len rfl Fs26 rfl rfl ?_
    refine gl_batch 1 [(9, .bool (decide (s2.2 < (List.length a_v : Int))))] rfl ?_
    refine gl_nil ?_
    refine gx_seq ?_
    refine g_cond (b := decide (s2.2 < (List.length a_v : Int))) rfl (fun hc => ?_) (fun hc => ?_)
    · replace h := condT hc h
      refine g_skip ?_
      refine gx_seq ?_
      refine g_seq ?_
      refine g_block ?_
      refine g_seq ?_
      refine g_seq ?_
      refine g_region ?_
      refine gl_batch 2 [(13, .int .i64 s2.2), (12, .slice a_a_v (List.length a_v) c_a_v)] rfl ?_
      obtain ⟨x4, hx4, h⟩ := bindS h
      refine gl_idxOn (k := .i64) (mem_at 0 rfl) rfl rfl Fs26 Fz47 hx4 rfl rfl ?_
      intro p5
      refine gl_run (v := .pointer (some p5)) rfl rfl rfl (fun w => by kernel_rfl) ?_
      refine gl_ld1 0 hasAT (mem_at 0 rfl) rfl rfl Fo2 rfl rfl rfl ?_
      refine gl_batch 2 [(18, .bool (x4.Event != s2.1)), (17, .int .i64 s2.1)] rfl ?_
      refine gl_nil ?_
      refine gx_seq ?_
      refine g_cond (b := x4.Event != s2.1) rfl (fun hc => ?_) (fun hc => ?_)
      · replace h := condT hc h
        refine g_seq ?_
        refine g_region ?_
        refine gl_batch 1 [(4, .int .i64 (-1))] rfl ?_
        refine gl_nil ?_
        refine gx_seq ?_
        refine g_ret ?_
        refine gx_seq_ret ?_
        refine gx_blk_ret ?_
        refine gx_seq_ret ?_
        obtain rfl := Option.some.inj h
        exact gx_of (fun a w hE hS => lp_out nofun (inL ⟨rfl, hE.sub ⟨rfl, trivial⟩, (hS.take 0).facts _ _ [] (consItem (mem_at 0 rfl) (consItem (mem_at 1 rfl) (consItem (mem_at 2 rfl) (consItem (mem_at 3 rfl) noItem)))) (consItem (mem_at 1 rfl) noItem) noItem⟩))
      · replace h := condF hc h
        refine g_skip ?_
        refine gx_seq ?_
        refine g_seq ?_
        refine g_region ?_
        refine gl_batch 3 [(1, .int .i64 (IntKind.i64.wrap (s2.1 + 1))), (20, .int .i64 (IntKind.i64.wrap (s2.1 + 1))), (19, .int .i64 s2.1)] rfl ?_
        refine gl_nil ?_
        refine gx_seq ?_
        refine g_seq ?_
        refine g_seq ?_
        refine g_region ?_
        refine gl_batch 2 [(22, .int .i64 s2.2), (21, .slice a_a_v (List.length a_v) c_a_v)] rfl ?_
        obtain ⟨x6, hx6, h⟩ := bindS h
        refine gl_idxOn (k := .i64) (mem_at 1 rfl) rfl rfl Fs26 Fz47 hx6 rfl rfl ?_
        intro p7
        refine gl_run (v := .pointer (some (Addr.add p7 1))) rfl rfl rfl (fun w => by kernel_rfl) ?_
        refine gl_ld1 1 hasAT (mem_at 0 rfl) rfl rfl Fo2 rfl rfl rfl ?_
        refine gl_batch 2 [(27, .bool (x6.Number != (IntKind.i64.wrap (s2.1 + 1)))), (26, .int .i64 (IntKind.i64.wrap (s2.1 + 1)))] rfl ?_
        refine gl_nil ?_
        refine gx_seq ?_
        refine g_cond (b := x6.Number != (IntKind.i64.wrap (s2.1 + 1))) rfl (fun hc => ?_) (fun hc => ?_)
        · replace h := condT hc h
          refine g_seq ?_
          refine g_region ?_
          refine gl_batch 1 [(4, .int .i64 (-1))] rfl ?_
          refine gl_nil ?_
          refine gx_seq ?_
          refine g_ret ?_
          refine gx_seq_ret ?_
          refine gx_blk_ret ?_
          refine gx_seq_ret ?_
          obtain rfl := Option.some.inj h
          exact gx_of (fun a w hE hS => lp_out nofun (inL ⟨rfl, hE.sub ⟨rfl, trivial⟩, (hS.take 0).facts _ _ [] (consItem (mem_at 0 rfl) (consItem (mem_at 1 rfl) (consItem (mem_at 2 rfl) (consItem (mem_at 3 rfl) noItem)))) (consItem (mem_at 2 rfl) noItem) noItem⟩))
        · replace h := condF hc h
          refine g_skip ?_
          refine gx_seq ?_
          refine g_seq ?_
          refine g_region ?_
          obtain ⟨k8, hk8, h⟩ := letS h
          refine gl_batch 3 [(1, .int .i64 k8), (29, .int .i64 (IntKind.i64.wrap ((IntKind.i64.wrap (s2.1 + 1)) + 1))), (28, .int .i64 (IntKind.i64.wrap (s2.1 + 1)))] (by subst hk8; rfl) ?_
          refine gl_nil ?_
          refine gx_seq ?_
          refine g_seq ?_
          refine g_seq ?_
          refine g_region ?_
          refine gl_batch 2 [(31, .int .i64 s2.2), (30, .slice a_a_v (List.length a_v) c_a_v)] rfl ?_
          obtain ⟨x9, hx9, h⟩ := bindS h
          refine gl_idxOn (k := .i64) (mem_at 2 rfl) rfl rfl Fs26 Fz47 hx9 rfl rfl ?_
          intro p10
          refine gl_run (v := .pointer (some (Addr.add p10 2))) rfl rfl rfl (fun w => by kernel_rfl) ?_
          refine gl_ld1 2 hasAT (mem_at 0 rfl) rfl rfl Fo2 rfl rfl rfl ?_
          refine gl_batch 2 [(36, .bool (x9.Time != k8)), (35, .int .i64 k8)] rfl ?_
          refine gl_nil ?_
          refine gx_seq ?_
          refine g_cond (b := x9.Time != k8) rfl (fun hc => ?_) (fun hc => ?_)
          · replace h := condT hc h
            refine g_seq ?_
            refine g_region ?_
            refine gl_batch 1 [(4, .int .i64 (-1))] rfl ?_
            refine gl_nil ?_
            refine gx_seq ?_
            refine g_ret ?_
            refine gx_seq_ret ?_
            refine gx_blk_ret ?_
            refine gx_seq_ret ?_
            obtain rfl := Option.some.inj h
            exact gx_of (fun a w hE hS => lp_out nofun (inL ⟨rfl, hE.sub ⟨rfl, trivial⟩, (hS.take 0).facts _ _ [] (consItem (mem_at 0 rfl) (consItem (mem_at 1 rfl) (consItem (mem_at 2 rfl) (consItem (mem_at 3 rfl) noItem)))) (consItem (mem_at 3 rfl) noItem) noItem⟩))
          · replace h := condF hc h
            refine g_skip ?_
            refine gx_seq ?_
            refine g_region ?_
            refine gl_batch 3 [(1, .int .i64 (IntKind.i64.wrap (k8 + 1))), (38, .int .i64 (IntKind.i64.wrap (k8 + 1))), (37, .int .i64 k8)] rfl ?_
            refine gl_nil ?_
            refine gx_blk ?_
            refine gx_seq ?_
            refine g_region ?_
            refine gl_batch 3 [(5, .int .i64 (IntKind.i64.wrap (s2.2 + 1))), (11, .int .i64 (IntKind.i64.wrap (s2.2 + 1))), (10, .int .i64 s2.2)] rfl ?_
            refine gl_nil ?_
            obtain rfl := Option.some.inj h
            exact gx_of (fun a w hE hS => lp_in ⟨hE.sub ⟨rfl, rfl, rfl, trivial⟩, (hS.take 0).facts _ _ [] (consItem (mem_at 0 rfl) (consItem (mem_at 1 rfl) (consItem (mem_at 2 rfl) (consItem (mem_at 3 rfl) noItem)))) (consItem (mem_at 3 rfl) noItem) noItem⟩)
    · replace h := condF hc h
      refine g_exit ?_
      refine gx_seq_exit ?_
      obtain rfl := Option.some.inj h
      exact gx_of (fun a w hE hS => lp_out nofun (inR ⟨rfl, hE.sub ⟨rfl, trivial⟩, (hS.take 0).facts _ _ [] (consItem (mem_at 0 rfl) (consItem (mem_at 1 rfl) (consItem (mem_at 2 rfl) (consItem (mem_at 3 rfl) noItem)))) (consItem (mem_at 0 rfl) noItem) noItem⟩))
  · intro e a w hm
    rcases o1 with s11 | s12
    · replace h := elimL h
      obtain ⟨rfl, hE, hS⟩ := hm
      refine gx_to hE hS ?_
      refine gx_blk_ret ?_
      refine gx_seq_ret ?_
      obtain rfl := Option.some.inj h
      exact gx_fin rfl [.int .i64 (-1)] _ _ [] ⟨_, _, rfl, rfl, rfl⟩ rfl ⟨rfl, rfl, rfl⟩ (fun w hS => (hS.take 0).facts [] [] [] noItem noItem noItem) (Or.inl rfl)
    · replace h := elimR h
      obtain ⟨rfl, hE, hS⟩ := hm
      refine gx_to hE hS ?_
      refine gx_blk_hit ?_
      refine gx_seq ?_
      refine g_seq ?_
      refine g_region ?_
      refine gl_batch 2 [(4, .int .i64 s12), (39, .int .i64 s12)] rfl ?_
      refine gl_nil ?_
      refine gx_seq ?_
      refine g_ret ?_
      obtain rfl := Option.some.inj h
      exact gx_fin rfl [.int .i64 s12] _ _ [] ⟨_, _, rfl, rfl, rfl⟩ rfl ⟨rfl, rfl, rfl⟩ (fun w hS => (hS.take 0).facts [] [] [] noItem noItem noItem) (Or.inl rfl)

theorem c_laws_toFiring (a_v : Firing)  {r : Firing} (h : laws_toFiring a_v = r) : CallOK Tryd.prog 27 [.agg #[.int .i64 a_v.Event, .int .i64 a_v.Number, .int .i64 a_v.Time]] [] [gTab 3 pow10C, gNum 0, gErr 1, gErr 2] [] (fun v outs ros => v = .agg #[.int .i64 r.Event, .int .i64 r.Number, .int .i64 r.Time] ∧ outs = [] ∧ ros = []) := by
  refine fn_ok Tryd.func27 rfl Tryd.ntmps27 rfl (fun c hF0 => ?_)
  unfold laws_toFiring at h
  refine g_seq ?_
  refine g_region ?_
  refine gl_new (d := 1) (T := 45) [.int .i64 a_v.Event, .int .i64 a_v.Number, .int .i64 a_v.Time] rfl rfl (fun _ => rfl) (fun w => by kernel_rfl) ?_
  intro b1
  refine gl_new (d := 2) (T := 47) [.int .i64 0, .int .i64 0, .int .i64 0] rfl rfl (fun _ => rfl) (fun w => by kernel_rfl) ?_
  intro b2
  refine gl_nil ?_
  refine gx_seq ?_
  refine g_seq ?_
  refine g_region ?_
  refine gl_new (d := 3) (T := 47) [.int .i64 0, .int .i64 0, .int .i64 0] rfl rfl (fun _ => rfl) (fun w => by kernel_rfl) ?_
  intro b3
  refine gl_nil ?_
  refine gx_seq ?_
  refine g_seq ?_
  refine g_region ?_
  refine gl_run (v := .pointer (some ⟨b1, 0, none⟩)) rfl rfl rfl (fun w => by kernel_rfl) ?_
  refine gl_ld1 0 hasBK (mem_at 2 rfl) rfl rfl Fo2 rfl rfl rfl ?_
  refine gl_run (v := .pointer (some ⟨b3, 0, none⟩)) rfl rfl rfl (fun w => by kernel_rfl) ?_
  refine gl_stB (cells' := [.int .i64 a_v.Event, .int .i64 0, .int .i64 0]) 0 [.int .i64 a_v.Event] rfl rfl rfl Fz2 rfl rfl rfl rfl ?_
  refine gl_nil ?_
  refine gx_seq ?_
  refine g_seq ?_
  refine g_region ?_
  refine gl_run (v := .pointer (some ⟨b1, 1, none⟩)) rfl rfl rfl (fun w => by kernel_rfl) ?_
  refine gl_ld1 1 hasBK (mem_at 2 rfl) rfl rfl Fo2 rfl rfl rfl ?_
  refine gl_run (v := .pointer (some ⟨b3, 1, none⟩)) rfl rfl rfl (fun w => by kernel_rfl) ?_
  refine gl_stB (cells' := [.int .i64 a_v.Event, .int .i64 a_v.Number, .int .i64 0]) 1 [.int .i64 a_v.Number] rfl rfl rfl Fz2 rfl rfl rfl rfl ?_
  refine gl_nil ?_
  refine gx_seq ?_
  refine g_seq ?_
  refine g_region ?_
  refine gl_run (v := .pointer (some ⟨b1, 2, none⟩)) rfl rfl rfl (fun w => by kernel_rfl) ?_
  refine gl_ld1 2 hasBK (mem_at 2 rfl) rfl rfl Fo2 rfl rfl rfl ?_
  refine gl_run (v := .pointer (some ⟨b3, 2, none⟩)) rfl rfl rfl (fun w => by kernel_rfl) ?_
  refine gl_stB (cells' := [.int .i64 a_v.Event, .int .i64 a_v.Number, .int .i64 a_v.Time]) 2 [.int .i64 a_v.Time] rfl rfl rfl Fz2 rfl rfl rfl rfl ?_
  refine gl_nil ?_
  refine gx_seq ?_
  refine g_seq ?_
  refine g_region ?_
  refine gl_ldA (vs := [.int .i64 a_v.Event, .int .i64 a_v.Number, .int .i64 a_v.Time]) 0 hasBK (mem_at 0 rfl) rfl rfl Fm47 Fz47 rfl rfl rfl ?_
  refine gl_pick 1 rfl ?_
  refine gl_stB (cells' := [.int .i64 a_v.Event, .int .i64 a_v.Number, .int .i64 a_v.Time]) 0 [.int .i64 a_v.Event, .int .i64 a_v.Number, .int .i64 a_v.Time] rfl rfl rfl Fz47 rfl rfl rfl rfl ?_
  refine gl_nil ?_
  refine gx_seq ?_
  refine g_ret ?_
  subst h
  exact gx_fin rfl [.agg #[.int .i64 a_v.Event, .int .i64 a_v.Number, .int .i64 a_v.Time]] _ _ [] ⟨_, _, rfl, ⟨_, _, _, rfl, mem_at 0 rfl, hasBK, Or.inl ⟨Fm47, Fz47, rfl⟩⟩, rfl⟩ rfl ⟨rfl, rfl, rfl⟩ (fun w hS => (hS.take 0).facts [] [] [] noItem noItem noItem) (Or.inl rfl)

theorem c_strings_Builder_WriteString (x : List UInt8) (s : List UInt8) (b : Nat) {r : Int × Unit × List UInt8} (h : strings_Builder_WriteString x s = some r) : CallOK Tryd.prog 87 [.pointer (some ⟨b, 0, none⟩), str s] [BLD 109 5 b x] [gTab 3 pow10C, gNum 0, gErr 1, gErr 2] [] (fun v outs ros => v = .tuple #[.int .i64 r.1, .nilIface] ∧ outs = [BLD 109 5 b r.2.2] ∧ ros = []) := by
  unfold strings_Builder_WriteString at h
  split at h
  case isFalse => cases h
  rename_i hlen
  obtain rfl := Option.some.inj h
  have hz : appsO (toBytes x) s = some (toBytes (x ++ s)) := by
    unfold appsO
    rw [if_pos hlen]
    simp [toBytes]
  refine fn_ok Tryd.func87 rfl Tryd.ntmps87 rfl (fun c hF0 => ?_)
  refine g_openB ?_
  intro p a cp hp hcp
  refine g_seq ?_
  refine g_region ?_
  refine gl_batch 2 [(5, .nilIface), (4, .int .i64 0)] rfl ?_
  refine gl_nil ?_
  refine gx_seq ?_
  refine g_seq ?_
  refine g_region ?_
  refine gl_batch 1 [(6, .pointer (some ⟨b, 0, none⟩))] rfl ?_
  refine gl_callIn rfl rfl (fun w => by kernel_rfl) (c_copyCheck b p _ hp) (consItem (mem_at 0 rfl) (consItem (mem_at 1 rfl) (consItem (mem_at 2 rfl) (consItem (mem_at 3 rfl) noItem)))) noItem ?_
  rintro v outs ros ⟨rfl, rfl, rfl⟩
  refine ⟨_, rfl, ?_⟩
  refine gl_nil ?_
  refine gx_seq ?_
  refine g_seq ?_
  refine g_region ?_
  refine gl_batch 3 [(10, .pointer (some ⟨b, 0, none⟩)), (9, .pointer (some ⟨b, 0, none⟩)), (8, .pointer (some ⟨b, 0, none⟩))] rfl ?_
  refine gl_run (v := .pointer (some ⟨b, 1, none⟩)) rfl rfl rfl (fun w => by kernel_rfl) ?_
  refine gl_ld1 1 hasBK (mem_at 0 rfl) rfl rfl Fo50 rfl rfl rfl ?_
  refine gl_batch 1 [(13, str s)] rfl ?_
  refine gl_pick 1 rfl ?_
  refine gl_apps rfl rfl Fs50 Ft9 Fi5 hz rfl rfl ?_
  intro a2 c2
  refine gl_batch 1 [(15, .pointer (some ⟨b, 0, none⟩))] rfl ?_
  refine gl_run (v := .pointer (some ⟨b, 1, none⟩)) rfl rfl rfl (fun w => by kernel_rfl) ?_
  refine gl_pick 1 rfl ?_
  refine gl_stB (cells' := [.pointer (some ⟨b, 0, none⟩), .slice a2 (toBytes (x ++ s)).length c2]) 1 [.slice a2 (toBytes (x ++ s)).length c2] rfl rfl rfl Fz50 rfl rfl rfl rfl ?_
  refine gl_nil ?_
  refine gx_seq ?_
  refine g_seq ?_
  refine g_region ?_
  refine gl_batch 1 [(17, str s)] rfl ?_
  refine gl_slen (s := s) rfl Ft9 rfl rfl ?_
  refine gl_batch 2 [(5, .nilIface), (4, .int .i64 (List.length s : Int))] rfl ?_
  refine gl_nil ?_
  refine gx_seq ?_
  refine g_ret ?_
  exact gx_fin rfl [.int .i64 (List.length s : Int), .nilIface] _ _ [] ⟨_, _, rfl, rfl, _, _, rfl, rfl, rfl⟩ rfl ⟨rfl, rfl, rfl⟩ (fun w hS => ((St.closeB rfl (Or.inr rfl) hS).take 1).facts [] [] [] noItem noItem noItem) (Or.inl rfl)

theorem c_strings_Builder_String (x : List UInt8) (b : Nat) {r : List UInt8} (h : strings_Builder_String x = r) : CallOK Tryd.prog 88 [.pointer (some ⟨b, 0, none⟩)] [BLD 109 5 b x] [gTab 3 pow10C, gNum 0, gErr 1, gErr 2] [] (fun v outs ros => v = str r ∧ outs = [] ∧ ros = []) := by
  have hr : x = r := h
  subst hr
  refine fn_ok Tryd.func88 rfl Tryd.ntmps88 rfl (fun c hF0 => ?_)
  refine g_openB ?_
  intro p a cp hp hcp
  refine g_seq ?_
  refine g_region ?_
  refine gl_batch 1 [(2, str [])] rfl ?_
  refine gl_nil ?_
  refine gx_seq ?_
  refine g_seq ?_
  refine g_state (E' := [(2, str []), (0, .pointer (some ⟨b, 0, none⟩))]) (Rs' := [SL true 5 (intS .u8) a cp (toBytes x)] ++ [BK 109 b [p, .slice a (toBytes x).length cp]]) (Xs' := [gTab 3 pow10C, gNum 0, gErr 1, gErr 2]) (Os' := []) (Vs' := []) ⟨rfl, rfl, trivial⟩ (fun w hS => hS.pick 1 rfl) ?_
  refine g_draw (Rs := [BK 109 b [p, .slice a (toBytes x).length cp]]) 11 (dOf [[], [0], [1], [2], [3], [], [5], [6], [7], [8], [4, 9]]) (spOf [det 0 (.pointer (some ⟨b, 0, none⟩)), det 1 (.pointer (some ⟨b, 0, none⟩)), det 2 (.pointer (some ⟨b, 1, none⟩)), det 3 (.slice a (toBytes x).length cp), det 4 (.pointer a), det 5 (.pointer (some ⟨b, 0, none⟩)), det 6 (.pointer (some ⟨b, 0, none⟩)), det 7 (.pointer (some ⟨b, 1, none⟩)), det 8 (.slice a (toBytes x).length cp), det 9 (.int .i64 (List.length (toBytes x) : Int)), det 10 (str x)]) [10] (fun k _ => match k with | 0 => [SL true 5 (intS .u8) a cp (toBytes x)] | _ => []) (fun _ => [(2, str []), (0, .pointer (some ⟨b, 0, none⟩))]) mixed rfl (Or.inr rfl) ⟨⟨⟨⟨⟨⟨⟨⟨⟨⟨⟨trivial, ⟨rfl, rfl, trivial⟩⟩, ⟨rfl, rfl, trivial⟩⟩, ⟨rfl, rfl, trivial⟩⟩, ⟨rfl, rfl, trivial⟩⟩, ⟨rfl, rfl, trivial⟩⟩, ⟨rfl, rfl, trivial⟩⟩, ⟨rfl, rfl, trivial⟩⟩, ⟨rfl, rfl, trivial⟩⟩, ⟨rfl, rfl, trivial⟩⟩, ⟨rfl, rfl, trivial⟩⟩, ⟨rfl, rfl, trivial⟩⟩ rfl ⟨⟨⟨⟨⟨⟨⟨⟨⟨⟨⟨trivial, ?_⟩, ?_⟩, ?_⟩, ?_⟩, ?_⟩, ?_⟩, ?_⟩, ?_⟩, ?_⟩, ?_⟩, ?_⟩ ?_
  · intro vals E' R' O' hD
    refine gl_batch 1 [(3, .pointer (some ⟨b, 0, none⟩))] rfl ?_
    refine gl_nil ?_
    exact gx_fp _ rfl rfl rfl rfl st_det0
  · intro vals E' R' O' hD
    have h0 : vals 0 = .pointer (some ⟨b, 0, none⟩) := hD 0 (memN 0 rfl)
    refine gl_convV (E2 := (3, .pointer (some ⟨b, 0, none⟩)) :: ([(2, str []), (0, .pointer (some ⟨b, 0, none⟩))] ++ E')) (V2 := [BK 109 b [p, .slice a (toBytes x).length cp]]) (by show (3, vals 0) :: ([(2, str []), (0, .pointer (some ⟨b, 0, none⟩))] ++ E') = _; rw [h0]) rfl ?_
    refine gl_batch 1 [(4, .pointer (some ⟨b, 0, none⟩))] rfl ?_
    refine gl_nil ?_
    exact gx_fp _ rfl rfl rfl rfl st_det0
  · intro vals E' R' O' hD
    have h1 : vals 1 = .pointer (some ⟨b, 0, none⟩) := hD 1 (memN 0 rfl)
    refine gl_convV (E2 := (4, .pointer (some ⟨b, 0, none⟩)) :: ([(2, str []), (0, .pointer (some ⟨b, 0, none⟩))] ++ E')) (V2 := [BK 109 b [p, .slice a (toBytes x).length cp]]) (by show (4, vals 1) :: ([(2, str []), (0, .pointer (some ⟨b, 0, none⟩))] ++ E') = _; rw [h1]) rfl ?_
    refine gl_run (v := .pointer (some ⟨b, 1, none⟩)) rfl rfl rfl (fun w => by kernel_rfl) ?_
    refine gl_nil ?_
    exact gx_fp _ rfl rfl rfl rfl st_det0
  · intro vals E' R' O' hD
    have h2 : vals 2 = .pointer (some ⟨b, 1, none⟩) := hD 2 (memN 0 rfl)
    refine gl_convV (E2 := (5, .pointer (some ⟨b, 1, none⟩)) :: ([(2, str []), (0, .pointer (some ⟨b, 0, none⟩))] ++ E')) (V2 := [BK 109 b [p, .slice a (toBytes x).length cp]]) (by show (5, vals 2) :: ([(2, str []), (0, .pointer (some ⟨b, 0, none⟩))] ++ E') = _; rw [h2]) rfl ?_
    refine gl_ld1 1 hasBK (memV (mem_at 0 rfl)) rfl rfl Fo50 rfl rfl rfl ?_
    refine gl_nil ?_
    exact gx_fp _ rfl rfl rfl rfl st_det0
  · intro vals E' R' O' hD
    have h3 : vals 3 = .slice a (toBytes x).length cp := hD 3 (memN 0 rfl)
    refine gl_convV (E2 := (6, .slice a (toBytes x).length cp) :: ([(2, str []), (0, .pointer (some ⟨b, 0, none⟩))] ++ E')) (V2 := [BK 109 b [p, .slice a (toBytes x).length cp]]) (by show (6, vals 3) :: ([(2, str []), (0, .pointer (some ⟨b, 0, none⟩))] ++ E') = _; rw [h3]) rfl ?_
    refine gl_usd rfl hcp rfl rfl ?_
    refine gl_nil ?_
    exact gx_fp _ rfl rfl rfl rfl st_det0
  · intro vals E' R' O' hD
    refine gl_batch 1 [(8, .pointer (some ⟨b, 0, none⟩))] rfl ?_
    refine gl_nil ?_
    exact gx_fp _ rfl rfl rfl rfl st_det0
  · intro vals E' R' O' hD
    have h5 : vals 5 = .pointer (some ⟨b, 0, none⟩) := hD 5 (memN 0 rfl)
    refine gl_convV (E2 := (8, .pointer (some ⟨b, 0, none⟩)) :: ([(2, str []), (0, .pointer (some ⟨b, 0, none⟩))] ++ E')) (V2 := [BK 109 b [p, .slice a (toBytes x).length cp]]) (by show (8, vals 5) :: ([(2, str []), (0, .pointer (some ⟨b, 0, none⟩))] ++ E') = _; rw [h5]) rfl ?_
    refine gl_batch 1 [(9, .pointer (some ⟨b, 0, none⟩))] rfl ?_
    refine gl_nil ?_
    exact gx_fp _ rfl rfl rfl rfl st_det0
  · intro vals E' R' O' hD
    have h6 : vals 6 = .pointer (some ⟨b, 0, none⟩) := hD 6 (memN 0 rfl)
    refine gl_convV (E2 := (9, .pointer (some ⟨b, 0, none⟩)) :: ([(2, str []), (0, .pointer (some ⟨b, 0, none⟩))] ++ E')) (V2 := [BK 109 b [p, .slice a (toBytes x).length cp]]) (by show (9, vals 6) :: ([(2, str []), (0, .pointer (some ⟨b, 0, none⟩))] ++ E') = _; rw [h6]) rfl ?_
    refine gl_run (v := .pointer (some ⟨b, 1, none⟩)) rfl rfl rfl (fun w => by kernel_rfl) ?_
    refine gl_nil ?_
    exact gx_fp _ rfl rfl rfl rfl st_det0
  · intro vals E' R' O' hD
    have h7 : vals 7 = .pointer (some ⟨b, 1, none⟩) := hD 7 (memN 0 rfl)
    refine gl_convV (E2 := (10, .pointer (some ⟨b, 1, none⟩)) :: ([(2, str []), (0, .pointer (some ⟨b, 0, none⟩))] ++ E')) (V2 := [BK 109 b [p, .slice a (toBytes x).length cp]]) (by show (10, vals 7) :: ([(2, str []), (0, .pointer (some ⟨b, 0, none⟩))] ++ E') = _; rw [h7]) rfl ?_
    refine gl_ld1 1 hasBK (memV (mem_at 0 rfl)) rfl rfl Fo50 rfl rfl rfl ?_
    refine gl_nil ?_
    exact gx_fp _ rfl rfl rfl rfl st_det0
  · intro vals E' R' O' hD
    have h8 : vals 8 = .slice a (toBytes x).length cp := hD 8 (memN 0 rfl)
    refine gl_convV (E2 := (11, .slice a (toBytes x).length cp) :: ([(2, str []), (0, .pointer (some ⟨b, 0, none⟩))] ++ E')) (V2 := [BK 109 b [p, .slice a (toBytes x).length cp]]) (by show (11, vals 8) :: ([(2, str []), (0, .pointer (some ⟨b, 0, none⟩))] ++ E') = _; rw [h8]) rfl ?_
    refine gl_len rfl Fs50 rfl rfl ?_
    refine gl_nil ?_
    exact gx_fp _ rfl rfl rfl rfl st_det0
  · intro vals E' R' O' hD hR
    have h4 : vals 4 = .pointer a := hD 4 (memN 0 rfl)
    have h9 : vals 9 = .int .i64 (List.length (toBytes x) : Int) := hD 9 (memN 1 rfl)
    refine gl_convV (E2 := (7, .pointer a) :: (12, .int .i64 (List.length (toBytes x) : Int)) :: ([(2, str []), (0, .pointer (some ⟨b, 0, none⟩))] ++ E')) (V2 := [BK 109 b [p, .slice a (toBytes x).length cp]]) (by show (7, vals 4) :: (12, vals 9) :: ([(2, str []), (0, .pointer (some ⟨b, 0, none⟩))] ++ E') = _; rw [h4, h9]) rfl ?_
    refine gl_ustr rfl rfl Fp136 Fq5 rfl rfl ?_
    refine gl_nil ?_
    exact gx_fp _ rfl rfl rfl rfl st_det0
  · intro vals hv
    obtain ⟨⟨⟨⟨⟨⟨⟨⟨⟨⟨⟨_, h0⟩, h1⟩, h2⟩, h3⟩, h4⟩, h5⟩, h6⟩, h7⟩, h8⟩, h9⟩, h10⟩ := hv
    have h0 : vals 0 = .pointer (some ⟨b, 0, none⟩) := h0
    have h1 : vals 1 = .pointer (some ⟨b, 0, none⟩) := h1
    have h2 : vals 2 = .pointer (some ⟨b, 1, none⟩) := h2
    have h3 : vals 3 = .slice a (toBytes x).length cp := h3
    have h4 : vals 4 = .pointer a := h4
    have h5 : vals 5 = .pointer (some ⟨b, 0, none⟩) := h5
    have h6 : vals 6 = .pointer (some ⟨b, 0, none⟩) := h6
    have h7 : vals 7 = .pointer (some ⟨b, 1, none⟩) := h7
    have h8 : vals 8 = .slice a (toBytes x).length cp := h8
    have h9 : vals 9 = .int .i64 (List.length (toBytes x) : Int) := h9
    have h10 : vals 10 = str x := h10
    refine gl_conv (E2 := (3, .pointer (some ⟨b, 0, none⟩)) :: (4, .pointer (some ⟨b, 0, none⟩)) :: (5, .pointer (some ⟨b, 1, none⟩)) :: (6, .slice a (toBytes x).length cp) :: (7, .pointer a) :: (8, .pointer (some ⟨b, 0, none⟩)) :: (9, .pointer (some ⟨b, 0, none⟩)) :: (10, .pointer (some ⟨b, 1, none⟩)) :: (11, .slice a (toBytes x).length cp) :: (12, .int .i64 (List.length (toBytes x) : Int)) :: (13, str x) :: [(2, str []), (0, .pointer (some ⟨b, 0, none⟩))]) (R2 := [BK 109 b [p, .slice a (toBytes x).length cp]]) (O2 := []) (by show (3, vals 0) :: (4, vals 1) :: (5, vals 2) :: (6, vals 3) :: (7, vals 4) :: (8, vals 5) :: (9, vals 6) :: (10, vals 7) :: (11, vals 8) :: (12, vals 9) :: (13, vals 10) :: [(2, str []), (0, .pointer (some ⟨b, 0, none⟩))] = _; rw [h0, h1, h2, h3, h4, h5, h6, h7, h8, h9, h10]) rfl rfl ?_
    refine gl_batch 1 [(2, str x)] rfl ?_
    refine gl_nil ?_
    refine gx_seq ?_
    refine g_ret ?_
    exact gx_fin rfl [str x] _ _ [] ⟨_, _, rfl, rfl, rfl⟩ rfl ⟨rfl, rfl, rfl⟩ (fun w hS => (hS.take 0).facts [] [] [] noItem noItem noItem) (Or.inl rfl)

theorem c_impl_commandForm (name : List UInt8)  {r : Int} (h : impl_commandForm name = r) : CallOK Tryd.prog 92 [str name] [] [gTab 3 pow10C, gNum 0, gErr 1, gErr 2] [] (fun v outs ros => v = .int .i64 r ∧ outs = [] ∧ ros = []) := by
  refine fn_ok Tryd.func92 rfl Tryd.ntmps92 rfl (fun c hF0 => ?_)
  unfold impl_commandForm at h
  refine g_seq ?_
  refine g_region ?_
  refine gl_batch 1 [(2, .int .i64 0)] rfl ?_
  refine gl_nil ?_
  refine gx_seq ?_
  refine g_seq ?_
  refine g_seq ?_
  refine g_region ?_
  refine gl_batch 1 [(3, str name)] rfl ?_
  refine gl_nil ?_
  refine gx_seq ?_
  refine g_block ?_
  obtain ⟨o1, ho1, h⟩ := letS h
  refine g_mid (M := ((fun ss_ e a w => e = .normal ∧ Env a 24 [(3, str name), (4, .bool ss_)] ∧ St c w [] [gTab 3 pow10C, gNum 0, gErr 1, gErr 2] [] []) : (Bool) → Exit → Act → World → Prop) o1) ?_ ?_
  · replace h := ho1
    refine g_seq ?_
    refine g_region ?_
    refine gl_seq (s := name) (u := ([103, 114, 97, 112, 104] : List UInt8)) rfl rfl rfl rfl ?_
    refine gl_batch 1 [(4, .bool (name == ([103, 114, 97, 112, 104] : List UInt8)))] rfl ?_
    refine gl_nil ?_
    refine gx_seq ?_
    refine g_cond (b := name == ([103, 114, 97, 112, 104] : List UInt8)) rfl (fun hc => ?_) (fun hc => ?_)
    · replace h := condTt hc h
      refine g_skip ?_
      subst h
      exact gx_of (fun a w hE hS => ⟨rfl, hE.sub ⟨rfl, rfl, trivial⟩, (hS.take 0).facts _ _ [] (consItem (mem_at 0 rfl) (consItem (mem_at 1 rfl) (consItem (mem_at 2 rfl) (consItem (mem_at 3 rfl) noItem)))) noItem noItem⟩)
    · replace h := condFt hc h
      refine g_seq ?_
      refine g_region ?_
      refine gl_seq (s := name) (u := ([108, 105, 110, 101, 115] : List UInt8)) rfl rfl rfl rfl ?_
      refine gl_batch 1 [(4, .bool (name == ([108, 105, 110, 101, 115] : List UInt8)))] rfl ?_
      refine gl_nil ?_
      refine gx_seq ?_
      refine g_cond (b := name == ([108, 105, 110, 101, 115] : List UInt8)) rfl (fun hc => ?_) (fun hc => ?_)
      · replace h := condTt hc h
        refine g_skip ?_
        subst h
        exact gx_of (fun a w hE hS => ⟨rfl, hE.sub ⟨rfl, rfl, trivial⟩, (hS.take 0).facts _ _ [] (consItem (mem_at 0 rfl) (consItem (mem_at 1 rfl) (consItem (mem_at 2 rfl) (consItem (mem_at 3 rfl) noItem)))) noItem noItem⟩)
      · replace h := condFt hc h
        refine g_seq ?_
        refine g_region ?_
        refine gl_seq (s := name) (u := ([101, 100, 105, 116] : List UInt8)) rfl rfl rfl rfl ?_
        refine gl_batch 1 [(4, .bool (name == ([101, 100, 105, 116] : List UInt8)))] rfl ?_
        refine gl_nil ?_
        refine gx_seq ?_
        refine g_cond (b := name == ([101, 100, 105, 116] : List UInt8)) rfl (fun hc => ?_) (fun hc => ?_)
        · replace h := condTt hc h
          refine g_skip ?_
          subst h
          exact gx_of (fun a w hE hS => ⟨rfl, hE.sub ⟨rfl, rfl, trivial⟩, (hS.take 0).facts _ _ [] (consItem (mem_at 0 rfl) (consItem (mem_at 1 rfl) (consItem (mem_at 2 rfl) (consItem (mem_at 3 rfl) noItem)))) noItem noItem⟩)
        · replace h := condFt hc h
          refine g_region ?_
          refine gl_seq (s := name) (u := ([109, 101, 97, 110] : List UInt8)) rfl rfl rfl rfl ?_
          refine gl_batch 1 [(4, .bool (name == ([109, 101, 97, 110] : List UInt8)))] rfl ?_
          refine gl_nil ?_
          subst h
          exact gx_of (fun a w hE hS => ⟨rfl, hE.sub ⟨rfl, rfl, trivial⟩, (hS.take 0).facts _ _ [] (consItem (mem_at 0 rfl) (consItem (mem_at 1 rfl) (consItem (mem_at 2 rfl) (consItem (mem_at 3 rfl) noItem)))) noItem noItem⟩)
  · intro e a w hm
    obtain ⟨rfl, hE, hS⟩ := hm
    refine gx_to hE hS ?_
    refine gx_seq ?_
    refine g_cond (b := o1) rfl (fun hc => ?_) (fun hc => ?_)
    · replace h := condTt hc h
      refine g_seq ?_
      refine g_region ?_
      refine gl_batch 1 [(2, .int .i64 (-1))] rfl ?_
      refine gl_nil ?_
      refine gx_seq ?_
      refine g_ret ?_
      refine gx_blk_ret ?_
      refine gx_seq_ret ?_
      subst h
      exact gx_fin rfl [.int .i64 (-1)] _ _ [] ⟨_, _, rfl, rfl, rfl⟩ rfl ⟨rfl, rfl, rfl⟩ (fun w hS => (hS.take 0).facts [] [] [] noItem noItem noItem) (Or.inl rfl)
    · replace h := condFt hc h
      obtain ⟨o2, ho2, h⟩ := letS h
      refine g_mid (M := ((fun ss_ e a w => e = .normal ∧ Env a 24 [(3, str name), (9, .bool ss_)] ∧ St c w [] [gTab 3 pow10C, gNum 0, gErr 1, gErr 2] [] []) : (Bool) → Exit → Act → World → Prop) o2) ?_ ?_
      · replace h := ho2
        refine g_seq ?_
        refine g_region ?_
        refine gl_seq (s := name) (u := ([117, 110, 100, 111] : List UInt8)) rfl rfl rfl rfl ?_
        refine gl_batch 1 [(9, .bool (name == ([117, 110, 100, 111] : List UInt8)))] rfl ?_
        refine gl_nil ?_
        refine gx_seq ?_
        refine g_cond (b := name == ([117, 110, 100, 111] : List UInt8)) rfl (fun hc => ?_) (fun hc => ?_)
        · replace h := condTt hc h
          refine g_skip ?_
          subst h
          exact gx_of (fun a w hE hS => ⟨rfl, hE.sub ⟨rfl, rfl, trivial⟩, (hS.take 0).facts _ _ [] (consItem (mem_at 0 rfl) (consItem (mem_at 1 rfl) (consItem (mem_at 2 rfl) (consItem (mem_at 3 rfl) noItem)))) noItem noItem⟩)
        · replace h := condFt hc h
          refine g_seq ?_
          refine g_region ?_
          refine gl_seq (s := name) (u := ([116, 101, 120, 116] : List UInt8)) rfl rfl rfl rfl ?_
          refine gl_batch 1 [(9, .bool (name == ([116, 101, 120, 116] : List UInt8)))] rfl ?_
          refine gl_nil ?_
          refine gx_seq ?_
          refine g_cond (b := name == ([116, 101, 120, 116] : List UInt8)) rfl (fun hc => ?_) (fun hc => ?_)
          · replace h := condTt hc h
            refine g_skip ?_
            subst h
            exact gx_of (fun a w hE hS => ⟨rfl, hE.sub ⟨rfl, rfl, trivial⟩, (hS.take 0).facts _ _ [] (consItem (mem_at 0 rfl) (consItem (mem_at 1 rfl) (consItem (mem_at 2 rfl) (consItem (mem_at 3 rfl) noItem)))) noItem noItem⟩)
          · replace h := condFt hc h
            refine g_seq ?_
            refine g_region ?_
            refine gl_seq (s := name) (u := ([108, 105, 118, 101] : List UInt8)) rfl rfl rfl rfl ?_
            refine gl_batch 1 [(9, .bool (name == ([108, 105, 118, 101] : List UInt8)))] rfl ?_
            refine gl_nil ?_
            refine gx_seq ?_
            refine g_cond (b := name == ([108, 105, 118, 101] : List UInt8)) rfl (fun hc => ?_) (fun hc => ?_)
            · replace h := condTt hc h
              refine g_skip ?_
              subst h
              exact gx_of (fun a w hE hS => ⟨rfl, hE.sub ⟨rfl, rfl, trivial⟩, (hS.take 0).facts _ _ [] (consItem (mem_at 0 rfl) (consItem (mem_at 1 rfl) (consItem (mem_at 2 rfl) (consItem (mem_at 3 rfl) noItem)))) noItem noItem⟩)
            · replace h := condFt hc h
              refine g_seq ?_
              refine g_region ?_
              refine gl_seq (s := name) (u := ([116, 105, 109, 101] : List UInt8)) rfl rfl rfl rfl ?_
              refine gl_batch 1 [(9, .bool (name == ([116, 105, 109, 101] : List UInt8)))] rfl ?_
              refine gl_nil ?_
              refine gx_seq ?_
              refine g_cond (b := name == ([116, 105, 109, 101] : List UInt8)) rfl (fun hc => ?_) (fun hc => ?_)
              · replace h := condTt hc h
                refine g_skip ?_
                subst h
                exact gx_of (fun a w hE hS => ⟨rfl, hE.sub ⟨rfl, rfl, trivial⟩, (hS.take 0).facts _ _ [] (consItem (mem_at 0 rfl) (consItem (mem_at 1 rfl) (consItem (mem_at 2 rfl) (consItem (mem_at 3 rfl) noItem)))) noItem noItem⟩)
              · replace h := condFt hc h
                refine g_seq ?_
                refine g_region ?_
                refine gl_seq (s := name) (u := ([99, 105, 114, 99, 117, 105, 116] : List UInt8)) rfl rfl rfl rfl ?_
                refine gl_batch 1 [(9, .bool (name == ([99, 105, 114, 99, 117, 105, 116] : List UInt8)))] rfl ?_
                refine gl_nil ?_
                refine gx_seq ?_
                refine g_cond (b := name == ([99, 105, 114, 99, 117, 105, 116] : List UInt8)) rfl (fun hc => ?_) (fun hc => ?_)
                · replace h := condTt hc h
                  refine g_skip ?_
                  subst h
                  exact gx_of (fun a w hE hS => ⟨rfl, hE.sub ⟨rfl, rfl, trivial⟩, (hS.take 0).facts _ _ [] (consItem (mem_at 0 rfl) (consItem (mem_at 1 rfl) (consItem (mem_at 2 rfl) (consItem (mem_at 3 rfl) noItem)))) noItem noItem⟩)
                · replace h := condFt hc h
                  refine g_seq ?_
                  refine g_region ?_
                  refine gl_seq (s := name) (u := ([112, 101, 114, 105, 111, 100] : List UInt8)) rfl rfl rfl rfl ?_
                  refine gl_batch 1 [(9, .bool (name == ([112, 101, 114, 105, 111, 100] : List UInt8)))] rfl ?_
                  refine gl_nil ?_
                  refine gx_seq ?_
                  refine g_cond (b := name == ([112, 101, 114, 105, 111, 100] : List UInt8)) rfl (fun hc => ?_) (fun hc => ?_)
                  · replace h := condTt hc h
                    refine g_skip ?_
                    subst h
                    exact gx_of (fun a w hE hS => ⟨rfl, hE.sub ⟨rfl, rfl, trivial⟩, (hS.take 0).facts _ _ [] (consItem (mem_at 0 rfl) (consItem (mem_at 1 rfl) (consItem (mem_at 2 rfl) (consItem (mem_at 3 rfl) noItem)))) noItem noItem⟩)
                  · replace h := condFt hc h
                    refine g_region ?_
                    refine gl_seq (s := name) (u := ([109, 97, 114, 103, 105, 110, 115] : List UInt8)) rfl rfl rfl rfl ?_
                    refine gl_batch 1 [(9, .bool (name == ([109, 97, 114, 103, 105, 110, 115] : List UInt8)))] rfl ?_
                    refine gl_nil ?_
                    subst h
                    exact gx_of (fun a w hE hS => ⟨rfl, hE.sub ⟨rfl, rfl, trivial⟩, (hS.take 0).facts _ _ [] (consItem (mem_at 0 rfl) (consItem (mem_at 1 rfl) (consItem (mem_at 2 rfl) (consItem (mem_at 3 rfl) noItem)))) noItem noItem⟩)
      · intro e a w hm
        obtain ⟨rfl, hE, hS⟩ := hm
        refine gx_to hE hS ?_
        refine gx_seq ?_
        refine g_cond (b := o2) rfl (fun hc => ?_) (fun hc => ?_)
        · replace h := condTt hc h
          refine g_seq ?_
          refine g_region ?_
          refine gl_batch 1 [(2, .int .i64 0)] rfl ?_
          refine gl_nil ?_
          refine gx_seq ?_
          refine g_ret ?_
          refine gx_blk_ret ?_
          refine gx_seq_ret ?_
          subst h
          exact gx_fin rfl [.int .i64 0] _ _ [] ⟨_, _, rfl, rfl, rfl⟩ rfl ⟨rfl, rfl, rfl⟩ (fun w hS => (hS.take 0).facts [] [] [] noItem noItem noItem) (Or.inl rfl)
        · replace h := condFt hc h
          obtain ⟨o3, ho3, h⟩ := letS h
          refine g_mid (M := ((fun ss_ e a w => e = .normal ∧ Env a 24 [(3, str name), (17, .bool ss_)] ∧ St c w [] [gTab 3 pow10C, gNum 0, gErr 1, gErr 2] [] []) : (Bool) → Exit → Act → World → Prop) o3) ?_ ?_
          · replace h := ho3
            refine g_seq ?_
            refine g_region ?_
            refine gl_seq (s := name) (u := ([114, 117, 110] : List UInt8)) rfl rfl rfl rfl ?_
            refine gl_batch 1 [(17, .bool (name == ([114, 117, 110] : List UInt8)))] rfl ?_
            refine gl_nil ?_
            refine gx_seq ?_
            refine g_cond (b := name == ([114, 117, 110] : List UInt8)) rfl (fun hc => ?_) (fun hc => ?_)
            · replace h := condTt hc h
              refine g_skip ?_
              subst h
              exact gx_of (fun a w hE hS => ⟨rfl, hE.sub ⟨rfl, rfl, trivial⟩, (hS.take 0).facts _ _ [] (consItem (mem_at 0 rfl) (consItem (mem_at 1 rfl) (consItem (mem_at 2 rfl) (consItem (mem_at 3 rfl) noItem)))) noItem noItem⟩)
            · replace h := condFt hc h
              refine g_region ?_
              refine gl_seq (s := name) (u := ([115, 116, 97, 114, 116] : List UInt8)) rfl rfl rfl rfl ?_
              refine gl_batch 1 [(17, .bool (name == ([115, 116, 97, 114, 116] : List UInt8)))] rfl ?_
              refine gl_nil ?_
              subst h
              exact gx_of (fun a w hE hS => ⟨rfl, hE.sub ⟨rfl, rfl, trivial⟩, (hS.take 0).facts _ _ [] (consItem (mem_at 0 rfl) (consItem (mem_at 1 rfl) (consItem (mem_at 2 rfl) (consItem (mem_at 3 rfl) noItem)))) noItem noItem⟩)
          · intro e a w hm
            obtain ⟨rfl, hE, hS⟩ := hm
            refine gx_to hE hS ?_
            refine gx_seq ?_
            refine g_cond (b := o3) rfl (fun hc => ?_) (fun hc => ?_)
            · replace h := condTt hc h
              refine g_seq ?_
              refine g_region ?_
              refine gl_batch 1 [(2, .int .i64 1)] rfl ?_
              refine gl_nil ?_
              refine gx_seq ?_
              refine g_ret ?_
              refine gx_blk_ret ?_
              refine gx_seq_ret ?_
              subst h
              exact gx_fin rfl [.int .i64 1] _ _ [] ⟨_, _, rfl, rfl, rfl⟩ rfl ⟨rfl, rfl, rfl⟩ (fun w hS => (hS.take 0).facts [] [] [] noItem noItem noItem) (Or.inl rfl)
            · replace h := condFt hc h
              refine g_seq ?_
              refine g_region ?_
              refine gl_seq (s := name) (u := ([102, 105, 114, 101] : List UInt8)) rfl rfl rfl rfl ?_
              refine gl_batch 1 [(20, .bool (name == ([102, 105, 114, 101] : List UInt8)))] rfl ?_
              refine gl_nil ?_
              refine gx_seq ?_
              refine g_cond (b := name == ([102, 105, 114, 101] : List UInt8)) rfl (fun hc => ?_) (fun hc => ?_)
              · replace h := condTt hc h
                refine g_seq ?_
                refine g_region ?_
                refine gl_batch 1 [(2, .int .i64 2)] rfl ?_
                refine gl_nil ?_
                refine gx_seq ?_
                refine g_ret ?_
                refine gx_blk_ret ?_
                refine gx_seq_ret ?_
                subst h
                exact gx_fin rfl [.int .i64 2] _ _ [] ⟨_, _, rfl, rfl, rfl⟩ rfl ⟨rfl, rfl, rfl⟩ (fun w hS => (hS.take 0).facts [] [] [] noItem noItem noItem) (Or.inl rfl)
              · replace h := condFt hc h
                refine g_seq ?_
                refine g_region ?_
                refine gl_seq (s := name) (u := ([114, 111, 111, 109] : List UInt8)) rfl rfl rfl rfl ?_
                refine gl_batch 1 [(22, .bool (name == ([114, 111, 111, 109] : List UInt8)))] rfl ?_
                refine gl_nil ?_
                refine gx_seq ?_
                refine g_cond (b := name == ([114, 111, 111, 109] : List UInt8)) rfl (fun hc => ?_) (fun hc => ?_)
                · replace h := condTt hc h
                  refine g_seq ?_
                  refine g_region ?_
                  refine gl_batch 1 [(2, .int .i64 3)] rfl ?_
                  refine gl_nil ?_
                  refine gx_seq ?_
                  refine g_ret ?_
                  refine gx_blk_ret ?_
                  refine gx_seq_ret ?_
                  subst h
                  exact gx_fin rfl [.int .i64 3] _ _ [] ⟨_, _, rfl, rfl, rfl⟩ rfl ⟨rfl, rfl, rfl⟩ (fun w hS => (hS.take 0).facts [] [] [] noItem noItem noItem) (Or.inl rfl)
                · replace h := condFt hc h
                  refine g_skip ?_
                  refine gx_blk ?_
                  refine gx_seq ?_
                  refine g_seq ?_
                  refine g_region ?_
                  refine gl_batch 1 [(2, .int .i64 (-2))] rfl ?_
                  refine gl_nil ?_
                  refine gx_seq ?_
                  refine g_ret ?_
                  subst h
                  exact gx_fin rfl [.int .i64 (-2)] _ _ [] ⟨_, _, rfl, rfl, rfl⟩ rfl ⟨rfl, rfl, rfl⟩ (fun w hS => (hS.take 0).facts [] [] [] noItem noItem noItem) (Or.inl rfl)

theorem c_internal_stringslite_HasPrefix (s : List UInt8) (prefix_v : List UInt8)  {r : Bool} (h : internal_stringslite_HasPrefix s prefix_v = some r) : CallOK Tryd.prog 130 [str s, str prefix_v] [] [gTab 3 pow10C, gNum 0, gErr 1, gErr 2] [] (fun v outs ros => v = .bool r ∧ outs = [] ∧ ros = []) := by
  refine fn_ok Tryd.func130 rfl Tryd.ntmps130 rfl (fun c hF0 => ?_)
  unfold internal_stringslite_HasPrefix at h
  refine g_seq ?_
  refine g_region ?_
  refine gl_batch 1 [(4, .bool false)] rfl ?_
  refine gl_nil ?_
  refine gx_seq ?_
  refine g_seq ?_
  refine g_region ?_
  refine gl_batch 1 [(5, str s)] rfl ?_
  refine gl_slen (s := s) rfl Ft9 rfl rfl ?_
  refine gl_batch 1 [(7, str prefix_v)] rfl ?_
  refine gl_slen (s := prefix_v) rfl Ft9 rfl rfl ?_
  refine gl_batch 2 [(10, .bool (decide ((List.length s : Int) ≥ (List.length prefix_v : Int)))), (9, .bool (decide ((List.length s : Int) ≥ (List.length prefix_v : Int))))] rfl ?_
  obtain ⟨q1, hq1, h⟩ := bindS h
  refine gl_join (EE := [(17, .bool q1)]) (RR := []) (XX := [gTab 3 pow10C, gNum 0, gErr 1, gErr 2]) (OO := []) (VV := []) 7 ?_ ?_
  · replace h := hq1
    refine gl_case 10 rfl (fun hc => ?_) (fun hc => ?_)
    · replace h := condT hc h
      refine gl_batch 2 [(12, str prefix_v), (11, str s)] rfl ?_
      refine gl_slen (s := prefix_v) rfl Ft9 rfl rfl ?_
      obtain ⟨z2, hz2, h⟩ := bindS h
      refine gl_ssub (i := 0) (j := (List.length prefix_v : Int)) (k := .i64) (k2 := .i64) rfl rfl rfl Ft9 hz2 rfl rfl ?_
      refine gl_batch 1 [(15, str prefix_v)] rfl ?_
      refine gl_seq (s := z2) (u := prefix_v) rfl rfl rfl rfl ?_
      refine gl_batch 1 [(17, .bool (z2 == prefix_v))] rfl ?_
      refine gl_nil ?_
      obtain rfl := Option.some.inj h
      exact gx_mid ⟨rfl, trivial⟩ (fun w hS => hS)
    · replace h := condF hc h
      refine gl_batch 7 [(17, .bool false), (16, undef), (15, undef), (14, undef), (13, undef), (12, undef), (11, undef)] rfl ?_
      refine gl_nil ?_
      obtain rfl := Option.some.inj h
      exact gx_mid ⟨rfl, trivial⟩ (fun w hS => hS)
  · skip
    refine gl_batch 1 [(4, .bool q1)] rfl ?_
    refine gl_nil ?_
    refine gx_seq ?_
    refine g_ret ?_
    obtain rfl := Option.some.inj h
    exact gx_fin rfl [.bool q1] _ _ [] ⟨_, _, rfl, rfl, rfl⟩ rfl ⟨rfl, rfl, rfl⟩ (fun w hS => (hS.take 0).facts [] [] [] noItem noItem noItem) (Or.inl rfl)

end Go.Proofs.YtneifoepoccjaaaDoor
