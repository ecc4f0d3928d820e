/-
  What each function gives when it is called: the contracts, each with the walk through its code. Written by a program of ours.
-/
import Derived.Test.YtneifoepoccjaaaDoorC30
namespace Go.Proofs.YtneifoepoccjaaaDoor
open Go Go.Proofs Go.Shelf
set_option maxHeartbeats 16000000
theorem c_spec_l01Split (s : List UInt8) (by_v : Int)  {r : List (List UInt8)} (h : spec_l01Split s by_v = some r) : CallOK Tryd.prog 48 [str s, .int .u8 by_v] [] [gTab 3 pow10C, gNum 0, gErr 1, gErr 2] [] (fun v outs ros => ∃ (a0 : Option Addr), ∃ (c0 : Nat), v = .slice a0 (List.length r) c0 ∧ outs = [SL false 9 strS a0 c0 r] ∧ ros = []) := by
  refine fn_ok Tryd.func48 rfl Tryd.ntmps48 rfl (fun c hF0 => ?_)
  unfold spec_l01Split at h
  refine g_sr ?_
  refine gl_batch 1 [(4, .slice none 0 0)] rfl ?_
  refine gl_nx ?_
  refine gl_lit (m := 1) (d := 8) (T := 9) (enc := fun x => [str x]) (hn := fun _ => rfl) false ([] : List (List UInt8)) rfl rfl (fun _ => rfl) nofun (Nat.le_of_ble_eq_true rfl) (fun w => by kernel_rfl) ?_
  intro a_v1 c_v2
  refine gl_batch 1 [(5, .slice a_v1 (List.length ([] : List (List UInt8))) c_v2)] rfl ?_
  refine gl_nx ?_
  refine gl_batch 1 [(6, .int .i64 0)] rfl ?_
  refine gl_ns ?_
  refine g_seq ?_
  refine g_sr ?_
  refine gl_batch 1 [(7, .int .i64 0)] rfl ?_
  refine gl_ns ?_
  refine g_block ?_
  obtain ⟨o3, ho3, h⟩ := bindS h
  refine g_loop (spec_l01Split_L1 s by_v) (fun (ss_ : (List (List UInt8)) × Int × Int) a w => ∃ (a_ss__r0 : Option Addr), ∃ (c_ss__r0 : Nat), Env a 36 [(0, str s), (1, .int .u8 by_v), (5, .slice a_ss__r0 (List.length ss_.1) c_ss__r0), (6, .int .i64 ss_.2.1), (7, .int .i64 ss_.2.2)] ∧ St c w [SL false 9 strS a_ss__r0 c_ss__r0 ss_.1] [gTab 3 pow10C, gNum 0, gErr 1, gErr 2] [] []) ((fun (ss_ : (List (List UInt8))) e a w => e = (.exit 0) ∧ ∃ (a_ss__r0 : Option Addr), ∃ (c_ss__r0 : Nat), Env a 36 [(5, .slice a_ss__r0 (List.length ss_) c_ss__r0)] ∧ St c w [SL false 9 strS a_ss__r0 c_ss__r0 ss_] [gTab 3 pow10C, gNum 0, gErr 1, gErr 2] [] []) : ((List (List UInt8))) → Exit → Act → World → Prop) ho3 ?_ ?_ ?_
  · exact fun a w hE hS => ⟨a_v1, c_v2, hE.sub ⟨rfl, rfl, rfl, rfl, rfl, trivial⟩, (hS.take 1).facts _ _ [] (consItem (mem_at 0 rfl) (consItem (mem_at 1 rfl) (consItem (mem_at 2 rfl) (consItem (mem_at 3 rfl) noItem)))) noItem noItem⟩
  · intro s4 o5 h a w hA
    obtain ⟨a_s4_r0, c_s4_r0, hE, hS⟩ := hA
    unfold spec_l01Split_L1 at h
    refine g_enter hE hS ?_
    refine g_seq ?_
    refine g_sr ?_
    refine gl_batch 2 [(10, str s), (9, .int .i64 s4.2.2)] rfl ?_
    refine gl_slen (s := s) rfl Ft9 rfl rfl ?_
    refine gl_batch 1 [(12, .bool (decide (s4.2.2 ≤ (List.length s : Int))))] rfl ?_
    refine gl_ns ?_
    refine g_cond (b := decide (s4.2.2 ≤ (List.length s : Int))) rfl (fun hc => ?_) (fun hc => ?_)
    · replace h := condT hc h
      refine g_skip ?_
      refine gx_seq ?_
      obtain ⟨o6, ho6, h⟩ := bindS h
      refine g_mid (M := ((fun ss_ e a w => e = .normal ∧ ∃ (a_ss__r0 : Option Addr), ∃ (c_ss__r0 : Nat), Env a 36 [(0, str s), (1, .int .u8 by_v), (5, .slice a_ss__r0 (List.length ss_.1) c_ss__r0), (6, .int .i64 ss_.2), (7, .int .i64 s4.2.2)] ∧ St c w [SL false 9 strS a_ss__r0 c_ss__r0 ss_.1] [gTab 3 pow10C, gNum 0, gErr 1, gErr 2] [] []) : ((List (List UInt8)) × Int) → Exit → Act → World → Prop) o6) ?_ ?_
      · replace h := ho6
        refine g_block ?_
        refine g_sr ?_
        refine gl_batch 2 [(16, str s), (15, .int .i64 s4.2.2)] rfl ?_
        refine gl_slen (s := s) rfl Ft9 rfl rfl ?_
        refine gl_batch 2 [(19, .bool (s4.2.2 == (List.length s : Int))), (18, .bool (s4.2.2 == (List.length s : Int)))] rfl ?_
        obtain ⟨q7, hq7, h⟩ := bindS h
        refine gl_join (EE := [(25, .bool q7), (0, str s), (1, .int .u8 by_v), (5, .slice a_s4_r0 (List.length s4.1) c_s4_r0), (6, .int .i64 s4.2.1), (7, .int .i64 s4.2.2)]) (RR := [SL false 9 strS a_s4_r0 c_s4_r0 s4.1]) (XX := [gTab 3 pow10C, gNum 0, gErr 1, gErr 2]) (OO := []) (VV := []) 6 ?_ ?_
        · replace h := hq7
          refine gl_case 19 rfl (fun hc => ?_) (fun hc => ?_)
          · replace h := condT hc h
            refine gl_batch 6 [(25, .bool true), (24, undef), (23, undef), (22, undef), (21, undef), (20, undef)] rfl ?_
            refine gl_nil ?_
            obtain rfl := Option.some.inj h
            exact gx_mid ⟨rfl, rfl, rfl, rfl, rfl, rfl, trivial⟩ (fun w hS => hS)
          · replace h := condF hc h
            refine gl_batch 2 [(21, .int .i64 s4.2.2), (20, str s)] rfl ?_
            obtain ⟨y8, hy8, h⟩ := bindS h
            refine gl_sidx (k := .i64) rfl rfl Ft9 hy8 rfl rfl ?_
            refine gl_batch 3 [(25, .bool ((y8.toNat : Int) == by_v)), (24, .bool ((y8.toNat : Int) == by_v)), (23, .int .u8 by_v)] rfl ?_
            refine gl_nil ?_
            obtain rfl := Option.some.inj h
            exact gx_mid ⟨rfl, rfl, rfl, rfl, rfl, rfl, trivial⟩ (fun w hS => hS)
        · skip
          refine gl_ns ?_
          refine g_cond (b := q7) rfl (fun hc => ?_) (fun hc => ?_)
          · replace h := condT hc h
            refine g_sr ?_
            refine gl_batch 4 [(29, .int .i64 s4.2.2), (28, .int .i64 s4.2.1), (27, str s), (26, .slice a_s4_r0 (List.length s4.1) c_s4_r0)] rfl ?_
            obtain ⟨z9, hz9, h⟩ := bindS h
            refine gl_ssub (i := s4.2.1) (j := s4.2.2) (k := .i64) (k2 := .i64) rfl rfl rfl Ft9 hz9 rfl rfl ?_
            refine gl_lit (m := 1) (d := 31) (T := 9) (enc := fun x => [str x]) (hn := fun _ => rfl) false [z9] rfl rfl (fun _ => rfl) nofun (Nat.le_of_ble_eq_true rfl) (fun w => by kernel_rfl) ?_
            intro a_v10 c_v11
            refine gl_pick 1 rfl ?_
            obtain ⟨z12, hz12, h⟩ := bindS h
            refine gl_appn (mem_at 1 rfl) rfl rfl Fs71 Fi9 rfl rfl (fun _ => rfl) hz12 rfl rfl ?_
            intro a_v13 c_v14
            refine gl_batch 1 [(5, .slice a_v13 (List.length z12) c_v14)] rfl ?_
            refine gl_ns ?_
            refine g_region ?_
            refine gl_batch 3 [(6, .int .i64 (IntKind.i64.wrap (s4.2.2 + 1))), (34, .int .i64 (IntKind.i64.wrap (s4.2.2 + 1))), (33, .int .i64 s4.2.2)] rfl ?_
            refine gl_nil ?_
            refine gx_blk ?_
            obtain rfl := Option.some.inj h
            exact gx_of (fun a w hE hS => ⟨rfl, a_v13, c_v14, hE.sub ⟨rfl, rfl, rfl, rfl, rfl, trivial⟩, (hS.take 1).facts _ _ [] (consItem (mem_at 0 rfl) (consItem (mem_at 1 rfl) (consItem (mem_at 2 rfl) (consItem (mem_at 3 rfl) noItem)))) noItem noItem⟩)
          · replace h := condF hc h
            refine g_skip ?_
            refine gx_blk ?_
            obtain rfl := Option.some.inj h
            exact gx_of (fun a w hE hS => ⟨rfl, a_s4_r0, c_s4_r0, hE.sub ⟨rfl, rfl, rfl, rfl, rfl, trivial⟩, (hS.take 1).facts _ _ [] (consItem (mem_at 0 rfl) (consItem (mem_at 1 rfl) (consItem (mem_at 2 rfl) (consItem (mem_at 3 rfl) noItem)))) noItem noItem⟩)
      · intro e a w hm
        obtain ⟨rfl, a_o6_r0, c_o6_r0, hE, hS⟩ := hm
        refine gx_to hE hS ?_
        refine gx_seq ?_
        refine g_region ?_
        refine gl_batch 3 [(7, .int .i64 (IntKind.i64.wrap (s4.2.2 + 1))), (14, .int .i64 (IntKind.i64.wrap (s4.2.2 + 1))), (13, .int .i64 s4.2.2)] rfl ?_
        refine gl_nil ?_
        obtain rfl := Option.some.inj h
        exact gx_of (fun a w hE hS => lp_in ⟨a_o6_r0, c_o6_r0, hE.sub ⟨rfl, rfl, rfl, rfl, rfl, trivial⟩, (hS.take 1).facts _ _ [] (consItem (mem_at 0 rfl) (consItem (mem_at 1 rfl) (consItem (mem_at 2 rfl) (consItem (mem_at 3 rfl) noItem)))) noItem noItem⟩)
    · replace h := condF hc h
      refine g_exit ?_
      refine gx_seq_exit ?_
      obtain rfl := Option.some.inj h
      exact gx_of (fun a w hE hS => lp_out nofun (⟨rfl, a_s4_r0, c_s4_r0, hE.sub ⟨rfl, trivial⟩, (hS.take 1).facts _ _ [] (consItem (mem_at 0 rfl) (consItem (mem_at 1 rfl) (consItem (mem_at 2 rfl) (consItem (mem_at 3 rfl) noItem)))) noItem noItem⟩))
  · intro e a w hm
    obtain ⟨rfl, a_o3_r0, c_o3_r0, hE, hS⟩ := hm
    refine gx_to hE hS ?_
    refine gx_blk_hit ?_
    refine gx_seq ?_
    refine g_sr ?_
    refine gl_batch 2 [(4, .slice a_o3_r0 (List.length o3) c_o3_r0), (35, .slice a_o3_r0 (List.length o3) c_o3_r0)] rfl ?_
    refine gl_ns ?_
    refine g_ret ?_
    obtain rfl := Option.some.inj h
    exact gx_fin rfl [.slice a_o3_r0 (List.length o3) c_o3_r0] _ _ [] ⟨_, _, rfl, rfl, rfl⟩ rfl ⟨a_o3_r0, c_o3_r0, rfl, rfl, rfl⟩ (fun w hS => (hS.take 1).facts [] [] [] noItem noItem noItem) (Or.inl rfl)

theorem c_spec_l01Dec_F (kf : Nat) : ∀ (n_v : Int)  {r : List UInt8}, spec_l01Dec_F kf n_v = some r → CallOK Tryd.prog 79 [.int .i64 n_v] [] [gTab 3 pow10C, gNum 0, gErr 1, gErr 2] [] (fun v outs ros => v = str r ∧ outs = [] ∧ ros = []) := by
  induction kf with
  | zero => intro n_v  r h; cases h
  | succ kf ih =>
  intro n_v  r h
  refine fn_ok Tryd.func79 rfl Tryd.ntmps79 rfl (fun c hF0 => ?_)
  rw [spec_l01Dec_F] at h
  refine g_sr ?_
  refine gl_batch 1 [(2, str [])] rfl ?_
  refine gl_ns ?_
  refine g_seq ?_
  refine g_sr ?_
  refine gl_batch 2 [(4, .bool (decide (n_v < 10))), (3, .int .i64 n_v)] rfl ?_
  refine gl_ns ?_
  refine g_cond (b := decide (n_v < 10)) rfl (fun hc => ?_) (fun hc => ?_)
  · replace h := condT hc h
    refine g_sr ?_
    refine gl_batch 2 [(6, .int .i64 (IntKind.i64.wrap (48 + n_v))), (5, .int .i64 n_v)] rfl ?_
    refine gl_run (v := .int .u8 (IntKind.u8.wrap (IntKind.i64.wrap (48 + n_v)))) rfl rfl rfl (fun w => by kernel_rfl) ?_
    refine gl_lit (m := 1) (d := 8) (T := 5) (enc := fun x => [.int .u8 x]) (hn := fun _ => rfl) false [IntKind.u8.wrap (IntKind.i64.wrap (48 + n_v))] rfl rfl (fun _ => rfl) nofun (Nat.le_of_ble_eq_true rfl) (fun w => by kernel_rfl) ?_
    intro a_v1 c_v2
    refine gl_b2sn (mem_at 0 rfl) rfl Fs50 Fy5 Ft9 rfl rfl ?_
    refine gl_batch 1 [(2, str (toStr [IntKind.u8.wrap (IntKind.i64.wrap (48 + n_v))]))] rfl ?_
    refine gl_ns ?_
    refine g_ret ?_
    refine gx_seq_ret ?_
    obtain rfl := Option.some.inj h
    exact gx_fin rfl [str (toStr [IntKind.u8.wrap (IntKind.i64.wrap (48 + n_v))])] _ _ [] ⟨_, _, rfl, rfl, rfl⟩ rfl ⟨rfl, rfl, rfl⟩ (fun w hS => (hS.take 0).facts [] [] [] noItem noItem noItem) (Or.inl rfl)
  · replace h := condF hc h
    refine g_skip ?_
    refine gx_seq ?_
    refine g_seq ?_
    obtain ⟨o3, ho3, h⟩ := bindS h
    obtain ⟨z6, hz6, h⟩ := bindS h
    refine g_state (E' := [(0, .int .i64 n_v)]) (Rs' := [] ++ []) (Xs' := [gTab 3 pow10C, gNum 0, gErr 1, gErr 2]) (Os' := []) (Vs' := []) ⟨rfl, trivial⟩ (fun w hS => hS) ?_
    refine g_drawM (Rs := []) 11 [[], [0], [1], [], [3], [4], [5], [6], [7], [2, 8], [9]] [[0], [], [], [0], [], [], [], [], [], [], []] [.int .i64 n_v, .int .i64 (IntKind.i64.wrap (Int.tdiv n_v 10)), str o3, .int .i64 n_v, .int .i64 (Int.tmod n_v 10), .int .i64 (IntKind.i64.wrap (48 + (Int.tmod n_v 10))), .int .u8 (IntKind.u8.wrap (IntKind.i64.wrap (48 + (Int.tmod n_v 10)))), undef, str (toStr [IntKind.u8.wrap (IntKind.i64.wrap (48 + (Int.tmod n_v 10)))]), str z6, str z6] [(7, ⟨[7], fun vals => ∃ (a_v4 : Option Addr), ∃ (c_v5 : Nat), vals 7 = .slice a_v4 (List.length [IntKind.u8.wrap (IntKind.i64.wrap (48 + (Int.tmod n_v 10)))]) c_v5, fun vals => [SL false 5 (intS .u8) (slA (vals 7)) (slC (vals 7)) [IntKind.u8.wrap (IntKind.i64.wrap (48 + (Int.tmod n_v 10)))]], fun _ => []⟩)] [] (fun _ _ => []) mixed rfl rfl ⟨⟨⟨⟨⟨⟨⟨⟨⟨⟨⟨trivial, ?_⟩, ?_⟩, ?_⟩, ?_⟩, ?_⟩, ?_⟩, ?_⟩, ?_⟩, ?_⟩, ?_⟩, ?_⟩ ?_
    · exact obl_pure rfl rfl rfl rfl rfl rfl rfl rfl
    · exact obl_pure rfl rfl rfl rfl rfl rfl rfl rfl
    · refine obl_in rfl rfl rfl rfl (fun R' O' => ?_)
      refine gl_call rfl rfl (fun w => by kernel_rfl) (ih (IntKind.i64.wrap (Int.tdiv n_v 10)) ho3) (consItem (mem_at 0 rfl) (consItem (mem_at 1 rfl) (consItem (mem_at 2 rfl) (consItem (mem_at 3 rfl) noItem)))) noItem ?_
      rintro v outs ros ⟨rfl, rfl, rfl⟩
      refine ⟨_, rfl, ?_⟩
      exact gl_dp rfl rfl rfl
    · exact obl_pure rfl rfl rfl rfl rfl rfl rfl rfl
    · exact obl_pure rfl rfl rfl rfl rfl rfl rfl rfl
    · exact obl_pure rfl rfl rfl rfl rfl rfl rfl rfl
    · refine obl_in rfl rfl rfl rfl (fun R' O' => ?_)
      refine gl_run (v := .int .u8 (IntKind.u8.wrap (IntKind.i64.wrap (48 + (Int.tmod n_v 10))))) rfl rfl rfl (fun w => by kernel_rfl) ?_
      exact gl_dp rfl rfl rfl
    · intro vals E' R' O' hD
      have h6 : vals 6 = .int .u8 (IntKind.u8.wrap (IntKind.i64.wrap (48 + (Int.tmod n_v 10)))) := hD 6 (memN 0 rfl)
      refine gl_convV (E2 := (16, .int .u8 (IntKind.u8.wrap (IntKind.i64.wrap (48 + (Int.tmod n_v 10))))) :: ([] ++ E')) (V2 := [] ++ ([] ++ [])) (by show (16, vals 6) :: ([] ++ E') = _; rw [h6]) (by show [] ++ ([] ++ []) = _; rfl) ?_
      refine gl_lit (m := 1) (d := 17) (T := 5) (enc := fun x => [.int .u8 x]) (hn := fun _ => rfl) false [IntKind.u8.wrap (IntKind.i64.wrap (48 + (Int.tmod n_v 10)))] rfl rfl (fun _ => rfl) nofun (Nat.le_of_ble_eq_true rfl) (fun w => by kernel_rfl) ?_
      intro a_v4 c_v5
      refine gl_nil ?_
      exact gx_fp (.slice a_v4 (List.length [IntKind.u8.wrap (IntKind.i64.wrap (48 + (Int.tmod n_v 10)))]) c_v5) rfl rfl rfl ⟨a_v4, c_v5, rfl⟩ (fun _ h => h.sub (fun _ h => h) (st_oo (A := [])) (fun o ho => by cases ho))
    · intro vals E' R' O' hD
      obtain ⟨a_v4, c_v5, h7⟩ : ∃ (a_v4 : Option Addr), ∃ (c_v5 : Nat), vals 7 = .slice a_v4 (List.length [IntKind.u8.wrap (IntKind.i64.wrap (48 + (Int.tmod n_v 10)))]) c_v5 := hD 7 (memN 0 rfl)
      refine gl_convV (E2 := (17, .slice a_v4 (List.length [IntKind.u8.wrap (IntKind.i64.wrap (48 + (Int.tmod n_v 10)))]) c_v5) :: ([] ++ E')) (V2 := [SL false 5 (intS .u8) a_v4 c_v5 [IntKind.u8.wrap (IntKind.i64.wrap (48 + (Int.tmod n_v 10)))]] ++ ([] ++ [])) (by show (17, vals 7) :: ([] ++ E') = _; rw [h7]) (by show [SL false 5 (intS .u8) (slA (vals 7)) (slC (vals 7)) [IntKind.u8.wrap (IntKind.i64.wrap (48 + (Int.tmod n_v 10)))]] ++ ([] ++ []) = _; rw [h7] <;> rfl) ?_
      refine gl_b2sn (memV (mem_at 0 rfl)) rfl Fs50 Fy5 Ft9 rfl rfl ?_
      refine gl_nil ?_
      exact gx_fp (str (toStr [IntKind.u8.wrap (IntKind.i64.wrap (48 + (Int.tmod n_v 10)))])) rfl rfl rfl rfl (fun _ h => h.sub (fun _ h => h) (st_oo (A := [])) (fun o ho => by cases ho))
    · refine obl_in rfl rfl rfl rfl (fun R' O' => ?_)
      refine gl_scat rfl rfl hz6 rfl rfl ?_
      exact gl_dp rfl rfl rfl
    · exact obl_pure rfl rfl rfl rfl rfl rfl rfl rfl
    · intro vals hv
      obtain ⟨⟨⟨⟨⟨⟨⟨⟨⟨⟨⟨_, h0⟩, h1⟩, h2⟩, h3⟩, h4⟩, h5⟩, h6⟩, h7⟩, h8⟩, h9⟩, h10⟩ := hv
      have h0 : vals 0 = .int .i64 n_v := h0
      have h1 : vals 1 = .int .i64 (IntKind.i64.wrap (Int.tdiv n_v 10)) := h1
      have h2 : vals 2 = str o3 := h2
      have h3 : vals 3 = .int .i64 n_v := h3
      have h4 : vals 4 = .int .i64 (Int.tmod n_v 10) := h4
      have h5 : vals 5 = .int .i64 (IntKind.i64.wrap (48 + (Int.tmod n_v 10))) := h5
      have h6 : vals 6 = .int .u8 (IntKind.u8.wrap (IntKind.i64.wrap (48 + (Int.tmod n_v 10)))) := h6
      obtain ⟨a_v4, c_v5, h7⟩ : ∃ (a_v4 : Option Addr), ∃ (c_v5 : Nat), vals 7 = .slice a_v4 (List.length [IntKind.u8.wrap (IntKind.i64.wrap (48 + (Int.tmod n_v 10)))]) c_v5 := h7
      have h8 : vals 8 = str (toStr [IntKind.u8.wrap (IntKind.i64.wrap (48 + (Int.tmod n_v 10)))]) := h8
      have h9 : vals 9 = str z6 := h9
      have h10 : vals 10 = str z6 := h10
      refine gl_conv (E2 := (10, .int .i64 n_v) :: (11, .int .i64 (IntKind.i64.wrap (Int.tdiv n_v 10))) :: (12, str o3) :: (13, .int .i64 n_v) :: (14, .int .i64 (Int.tmod n_v 10)) :: (15, .int .i64 (IntKind.i64.wrap (48 + (Int.tmod n_v 10)))) :: (16, .int .u8 (IntKind.u8.wrap (IntKind.i64.wrap (48 + (Int.tmod n_v 10))))) :: (17, .slice a_v4 (List.length [IntKind.u8.wrap (IntKind.i64.wrap (48 + (Int.tmod n_v 10)))]) c_v5) :: (18, str (toStr [IntKind.u8.wrap (IntKind.i64.wrap (48 + (Int.tmod n_v 10)))])) :: (19, str z6) :: (2, str z6) :: [(0, .int .i64 n_v)]) (R2 := [] ++ ([SL false 5 (intS .u8) a_v4 c_v5 [IntKind.u8.wrap (IntKind.i64.wrap (48 + (Int.tmod n_v 10)))]] ++ [])) (O2 := [] ++ []) (by show (10, vals 0) :: (11, vals 1) :: (12, vals 2) :: (13, vals 3) :: (14, vals 4) :: (15, vals 5) :: (16, vals 6) :: (17, vals 7) :: (18, vals 8) :: (19, vals 9) :: (2, vals 10) :: [(0, .int .i64 n_v)] = _; rw [h0, h1, h2, h3, h4, h5, h6, h7, h8, h9, h10]) (by show [] ++ ([SL false 5 (intS .u8) (slA (vals 7)) (slC (vals 7)) [IntKind.u8.wrap (IntKind.i64.wrap (48 + (Int.tmod n_v 10)))]] ++ []) = _; rw [h7] <;> rfl) rfl ?_
      refine gl_ns ?_
      refine g_ret ?_
      obtain rfl := Option.some.inj h
      exact gx_fin rfl [str z6] _ _ [] ⟨_, _, rfl, rfl, rfl⟩ rfl ⟨rfl, rfl, rfl⟩ (fun w hS => (hS.take 0).facts [] [] [] noItem noItem noItem) (Or.inl rfl)
theorem c_spec_l01Dec (n_v : Int)  {r : List UInt8} (h : spec_l01Dec n_v = some r) : CallOK Tryd.prog 79 [.int .i64 n_v] [] [gTab 3 pow10C, gNum 0, gErr 1, gErr 2] [] (fun v outs ros => v = str r ∧ outs = [] ∧ ros = []) := by
  obtain ⟨k, hk⟩ := lim_some h
  exact c_spec_l01Dec_F k n_v  hk

theorem c_spec_l01Digits (s : List UInt8)  {r : Int × Bool} (h : spec_l01Digits s = some r) : CallOK Tryd.prog 49 [str s] [] [gTab 3 pow10C, gNum 0, gErr 1, gErr 2] [] (fun v outs ros => v = .tuple #[.int .i64 r.1, .bool r.2] ∧ outs = [] ∧ ros = []) := by
  refine fn_ok Tryd.func49 rfl Tryd.ntmps49 rfl (fun c hF0 => ?_)
  unfold spec_l01Digits at h
  refine g_sr ?_
  refine gl_batch 2 [(3, .bool false), (2, .int .i64 0)] rfl ?_
  refine gl_ns ?_
  refine g_seq ?_
  refine g_sr ?_
  refine gl_batch 1 [(6, str s)] rfl ?_
  refine gl_slen (s := s) rfl Ft9 rfl rfl ?_
  refine gl_batch 2 [(9, .bool (decide ((List.length s : Int) < 1))), (8, .bool (decide ((List.length s : Int) < 1)))] rfl ?_
  refine gl_join (EE := [(13, .bool ((decide ((List.length s : Int) < 1)) || (decide ((List.length s : Int) > 10)))), (0, str s)]) (RR := []) (XX := [gTab 3 pow10C, gNum 0, gErr 1, gErr 2]) (OO := []) (VV := []) 4 ?_ ?_
  · skip
    refine gl_case 9 rfl (fun hc => ?_) (fun hc => ?_)
    · skip
      refine gl_batch 4 [(13, .bool true), (12, undef), (11, undef), (10, undef)] rfl ?_
      refine gl_nil ?_
      exact gx_mid ⟨congrArg (fun z => some (Value.bool z)) (or_t hc).symm, rfl, trivial⟩ (fun w hS => hS)
    · skip
      refine gl_batch 1 [(10, str s)] rfl ?_
      refine gl_slen (s := s) rfl Ft9 rfl rfl ?_
      refine gl_batch 2 [(13, .bool (decide ((List.length s : Int) > 10))), (12, .bool (decide ((List.length s : Int) > 10)))] rfl ?_
      refine gl_nil ?_
      exact gx_mid ⟨congrArg (fun z => some (Value.bool z)) (or_f hc).symm, rfl, trivial⟩ (fun w hS => hS)
  · skip
    refine gl_ns ?_
    refine g_cond (b := (decide ((List.length s : Int) < 1)) || (decide ((List.length s : Int) > 10))) rfl (fun hc => ?_) (fun hc => ?_)
    · replace h := condT hc h
      refine g_sr ?_
      refine gl_batch 2 [(3, .bool false), (2, .int .i64 0)] rfl ?_
      refine gl_ns ?_
      refine g_ret ?_
      refine gx_seq_ret ?_
      obtain rfl := Option.some.inj h
      exact gx_fin rfl [.int .i64 0, .bool false] _ _ [] ⟨_, _, rfl, rfl, _, _, rfl, rfl, rfl⟩ rfl ⟨rfl, rfl, rfl⟩ (fun w hS => (hS.take 0).facts [] [] [] noItem noItem noItem) (Or.inl rfl)
    · replace h := condF hc h
      refine g_skip ?_
      refine gx_seq ?_
      refine g_sr ?_
      refine gl_batch 1 [(4, .int .i64 0)] rfl ?_
      refine gl_ns ?_
      refine g_seq ?_
      refine g_sr ?_
      refine gl_batch 1 [(5, .int .i64 0)] rfl ?_
      refine gl_ns ?_
      refine g_block ?_
      obtain ⟨o1, ho1, h⟩ := bindS h
      refine g_loop (spec_l01Digits_L1 s) (fun (ss_ : Int × Int) a w => Env a 43 [(0, str s), (4, .int .i64 ss_.1), (5, .int .i64 ss_.2)] ∧ St c w [] [gTab 3 pow10C, gNum 0, gErr 1, gErr 2] [] []) (Sum.elim (fun (ss_ : Unit) e a w => e = .ret ∧ Env a 43 [(2, .int .i64 0), (3, .bool false)] ∧ St c w [] [gTab 3 pow10C, gNum 0, gErr 1, gErr 2] [] []) (fun (ss_ : Int) e a w => e = (.exit 0) ∧ Env a 43 [(0, str s), (4, .int .i64 ss_)] ∧ St c w [] [gTab 3 pow10C, gNum 0, gErr 1, gErr 2] [] []) : (Sum Unit Int) → Exit → Act → World → Prop) ho1 ?_ ?_ ?_
      · exact fun a w hE hS => ⟨hE.sub ⟨rfl, rfl, rfl, trivial⟩, (hS.take 0).facts _ _ [] (consItem (mem_at 0 rfl) (consItem (mem_at 1 rfl) (consItem (mem_at 2 rfl) (consItem (mem_at 3 rfl) noItem)))) noItem noItem⟩
      · intro s2 o3 h a w hA
        obtain ⟨hE, hS⟩ := hA
        unfold spec_l01Digits_L1 at h
        refine g_enter hE hS ?_
        refine g_seq ?_
        refine g_sr ?_
        refine gl_batch 2 [(15, str s), (14, .int .i64 s2.2)] rfl ?_
        refine gl_slen (s := s) rfl Ft9 rfl rfl ?_
        refine gl_batch 1 [(17, .bool (decide (s2.2 < (List.length s : Int))))] rfl ?_
        refine gl_ns ?_
        refine g_cond (b := decide (s2.2 < (List.length s : Int))) rfl (fun hc => ?_) (fun hc => ?_)
        · replace h := condT hc h
          refine g_skip ?_
          refine gx_seq ?_
          refine g_seq ?_
          refine g_block ?_
          refine g_seq ?_
          refine g_sr ?_
          refine gl_batch 2 [(21, .int .i64 s2.2), (20, str s)] rfl ?_
          obtain ⟨y4, hy4, h⟩ := bindS h
          refine gl_sidx (k := .i64) rfl rfl Ft9 hy4 rfl rfl ?_
          refine gl_batch 2 [(24, .bool (decide ((y4.toNat : Int) < 48))), (23, .bool (decide ((y4.toNat : Int) < 48)))] rfl ?_
          obtain ⟨q5, hq5, h⟩ := bindS h
          refine gl_join (EE := [(29, .bool q5), (0, str s), (4, .int .i64 s2.1), (5, .int .i64 s2.2)]) (RR := []) (XX := [gTab 3 pow10C, gNum 0, gErr 1, gErr 2]) (OO := []) (VV := []) 5 ?_ ?_
          · replace h := hq5
            refine gl_case 24 rfl (fun hc => ?_) (fun hc => ?_)
            · replace h := condT hc h
              refine gl_batch 5 [(29, .bool true), (28, undef), (27, undef), (26, undef), (25, undef)] rfl ?_
              refine gl_nil ?_
              obtain rfl := Option.some.inj h
              exact gx_mid ⟨rfl, rfl, rfl, rfl, trivial⟩ (fun w hS => hS)
            · replace h := condF hc h
              refine gl_batch 2 [(26, .int .i64 s2.2), (25, str s)] rfl ?_
              obtain ⟨y6, hy6, h⟩ := bindS h
              refine gl_sidx (k := .i64) rfl rfl Ft9 hy6 rfl rfl ?_
              refine gl_batch 2 [(29, .bool (decide ((y6.toNat : Int) > 57))), (28, .bool (decide ((y6.toNat : Int) > 57)))] rfl ?_
              refine gl_nil ?_
              obtain rfl := Option.some.inj h
              exact gx_mid ⟨rfl, rfl, rfl, rfl, trivial⟩ (fun w hS => hS)
          · skip
            refine gl_ns ?_
            refine g_cond (b := q5) rfl (fun hc => ?_) (fun hc => ?_)
            · replace h := condT hc h
              refine g_sr ?_
              refine gl_batch 2 [(3, .bool false), (2, .int .i64 0)] rfl ?_
              refine gl_ns ?_
              refine g_ret ?_
              refine gx_seq_ret ?_
              refine gx_blk_ret ?_
              refine gx_seq_ret ?_
              obtain rfl := Option.some.inj h
              exact gx_of (fun a w hE hS => lp_out nofun (inL ⟨rfl, hE.sub ⟨rfl, rfl, trivial⟩, (hS.take 0).facts _ _ [] (consItem (mem_at 0 rfl) (consItem (mem_at 1 rfl) (consItem (mem_at 2 rfl) (consItem (mem_at 3 rfl) noItem)))) noItem noItem⟩))
            · replace h := condF hc h
              refine g_skip ?_
              refine gx_seq ?_
              refine g_region ?_
              refine gl_batch 4 [(33, .int .i64 s2.2), (32, str s), (31, .int .i64 (IntKind.i64.wrap (10 * s2.1))), (30, .int .i64 s2.1)] rfl ?_
              obtain ⟨y7, hy7, h⟩ := bindS h
              refine gl_sidx (k := .i64) rfl rfl Ft9 hy7 rfl rfl ?_
              refine gl_batch 1 [(35, .int .u8 (IntKind.u8.wrap ((y7.toNat : Int) - 48)))] rfl ?_
              refine gl_run (v := .int .i64 (IntKind.i64.wrap (IntKind.u8.wrap ((y7.toNat : Int) - 48)))) rfl rfl rfl (fun w => by kernel_rfl) ?_
              obtain ⟨n_v8, hn_v8, h⟩ := letS h
              refine gl_batch 2 [(4, .int .i64 n_v8), (37, .int .i64 (IntKind.i64.wrap ((IntKind.i64.wrap (10 * s2.1)) + (IntKind.i64.wrap (IntKind.u8.wrap ((y7.toNat : Int) - 48))))))] (by subst hn_v8; rfl) ?_
              refine gl_nil ?_
              refine gx_blk ?_
              refine gx_seq ?_
              refine g_region ?_
              refine gl_batch 3 [(5, .int .i64 (IntKind.i64.wrap (s2.2 + 1))), (19, .int .i64 (IntKind.i64.wrap (s2.2 + 1))), (18, .int .i64 s2.2)] rfl ?_
              refine gl_nil ?_
              obtain rfl := Option.some.inj h
              exact gx_of (fun a w hE hS => lp_in ⟨hE.sub ⟨rfl, rfl, rfl, trivial⟩, (hS.take 0).facts _ _ [] (consItem (mem_at 0 rfl) (consItem (mem_at 1 rfl) (consItem (mem_at 2 rfl) (consItem (mem_at 3 rfl) noItem)))) noItem noItem⟩)
        · replace h := condF hc h
          refine g_exit ?_
          refine gx_seq_exit ?_
          obtain rfl := Option.some.inj h
          exact gx_of (fun a w hE hS => lp_out nofun (inR ⟨rfl, hE.sub ⟨rfl, rfl, trivial⟩, (hS.take 0).facts _ _ [] (consItem (mem_at 0 rfl) (consItem (mem_at 1 rfl) (consItem (mem_at 2 rfl) (consItem (mem_at 3 rfl) noItem)))) noItem noItem⟩))
      · intro e a w hm
        rcases o1 with s9 | s10
        · replace h := elimL h
          obtain ⟨rfl, hE, hS⟩ := hm
          refine gx_to hE hS ?_
          refine gx_blk_ret ?_
          refine gx_seq_ret ?_
          obtain rfl := Option.some.inj h
          exact gx_fin rfl [.int .i64 0, .bool false] _ _ [] ⟨_, _, rfl, rfl, _, _, rfl, rfl, rfl⟩ rfl ⟨rfl, rfl, rfl⟩ (fun w hS => (hS.take 0).facts [] [] [] noItem noItem noItem) (Or.inl rfl)
        · replace h := elimR h
          obtain ⟨rfl, hE, hS⟩ := hm
          refine gx_to hE hS ?_
          refine gx_blk_hit ?_
          refine gx_seq ?_
          refine g_sr ?_
          refine gl_batch 2 [(39, .int .i64 s10), (38, .int .i64 s10)] rfl ?_
          obtain ⟨o11, ho11, h⟩ := bindS h
          refine gl_call rfl rfl (fun w => by kernel_rfl) (c_spec_l01Dec s10 ho11) (consItem (mem_at 0 rfl) (consItem (mem_at 1 rfl) (consItem (mem_at 2 rfl) (consItem (mem_at 3 rfl) noItem)))) noItem ?_
          rintro v outs ros ⟨rfl, rfl, rfl⟩
          refine ⟨_, rfl, ?_⟩
          refine gl_batch 1 [(41, str s)] rfl ?_
          refine gl_seq (s := o11) (u := s) rfl rfl rfl rfl ?_
          refine gl_batch 2 [(3, .bool (o11 == s)), (2, .int .i64 s10)] rfl ?_
          refine gl_ns ?_
          refine g_ret ?_
          obtain rfl := Option.some.inj h
          exact gx_fin rfl [.int .i64 s10, .bool (o11 == s)] _ _ [] ⟨_, _, rfl, rfl, _, _, rfl, rfl, rfl⟩ rfl ⟨rfl, rfl, rfl⟩ (fun w hS => (hS.take 0).facts [] [] [] noItem noItem noItem) (Or.inl rfl)

theorem c_spec_l29Sign (kind : Int)  {r : List UInt8} (h : spec_l29Sign kind = some r) : CallOK Tryd.prog 50 [.int .i64 kind] [] [gTab 3 pow10C, gNum 0, gErr 1, gErr 2] [] (fun v outs ros => v = str r ∧ outs = [] ∧ ros = []) := by
  refine fn_ok Tryd.func50 rfl Tryd.ntmps50 rfl (fun c hF0 => ?_)
  unfold spec_l29Sign at h
  refine g_sr ?_
  refine gl_batch 1 [(2, str [])] rfl ?_
  refine gl_nx ?_
  refine gl_batch 3 [(5, .int .i64 kind), (4, .int .i64 (IntKind.i64.wrap (kind - 1))), (3, .int .i64 kind)] rfl ?_
  obtain ⟨z1, hz1, h⟩ := bindS h
  refine gl_ssub (i := IntKind.i64.wrap (kind - 1)) (j := kind) (k := .i64) (k2 := .i64) rfl rfl rfl Ft9 hz1 rfl rfl ?_
  refine gl_batch 1 [(2, str z1)] rfl ?_
  refine gl_ns ?_
  refine g_ret ?_
  obtain rfl := Option.some.inj h
  exact gx_fin rfl [str z1] _ _ [] ⟨_, _, rfl, rfl, rfl⟩ rfl ⟨rfl, rfl, rfl⟩ (fun w hS => (hS.take 0).facts [] [] [] noItem noItem noItem) (Or.inl rfl)

theorem c_spec_l01Signed (s : List UInt8)  {r : Int × Bool} (h : spec_l01Signed s = some r) : CallOK Tryd.prog 107 [str s] [] [gTab 3 pow10C, gNum 0, gErr 1, gErr 2] [] (fun v outs ros => v = .tuple #[.int .i64 r.1, .bool r.2] ∧ outs = [] ∧ ros = []) := by
  refine fn_ok Tryd.func107 rfl Tryd.ntmps107 rfl (fun c hF0 => ?_)
  unfold spec_l01Signed at h
  refine g_sr ?_
  refine gl_batch 2 [(3, .bool false), (2, .int .i64 0)] rfl ?_
  refine gl_ns ?_
  refine g_seq ?_
  refine g_sr ?_
  refine gl_batch 1 [(6, str s)] rfl ?_
  refine gl_slen (s := s) rfl Ft9 rfl rfl ?_
  refine gl_batch 2 [(9, .bool (decide ((List.length s : Int) > 0))), (8, .bool (decide ((List.length s : Int) > 0)))] rfl ?_
  obtain ⟨q1, hq1, h⟩ := bindS h
  refine gl_join (EE := [(13, .bool q1), (0, str s)]) (RR := []) (XX := [gTab 3 pow10C, gNum 0, gErr 1, gErr 2]) (OO := []) (VV := []) 4 ?_ ?_
  · replace h := hq1
    refine gl_case 9 rfl (fun hc => ?_) (fun hc => ?_)
    · replace h := condT hc h
      refine gl_batch 1 [(10, str s)] rfl ?_
      obtain ⟨y2, hy2, h⟩ := bindS h
      refine gl_sidx (k := .i64) rfl rfl Ft9 hy2 rfl rfl ?_
      refine gl_batch 2 [(13, .bool ((y2.toNat : Int) == 45)), (12, .bool ((y2.toNat : Int) == 45))] rfl ?_
      refine gl_nil ?_
      obtain rfl := Option.some.inj h
      exact gx_mid ⟨rfl, rfl, trivial⟩ (fun w hS => hS)
    · replace h := condF hc h
      refine gl_batch 4 [(13, .bool false), (12, undef), (11, undef), (10, undef)] rfl ?_
      refine gl_nil ?_
      obtain rfl := Option.some.inj h
      exact gx_mid ⟨rfl, rfl, trivial⟩ (fun w hS => hS)
  · skip
    refine gl_ns ?_
    refine g_cond (b := q1) rfl (fun hc => ?_) (fun hc => ?_)
    · replace h := condT hc h
      refine g_sr ?_
      refine gl_batch 1 [(15, str s)] rfl ?_
      obtain ⟨z3, hz3, h⟩ := bindS h
      refine gl_ssub (i := 1) (j := (List.length s : Int)) (k := .i64) (k2 := .i64) rfl rfl rfl Ft9 hz3 rfl rfl ?_
      obtain ⟨o4, ho4, h⟩ := bindS h
      refine gl_call rfl rfl (fun w => by kernel_rfl) (c_spec_l01Digits z3 ho4) (consItem (mem_at 0 rfl) (consItem (mem_at 1 rfl) (consItem (mem_at 2 rfl) (consItem (mem_at 3 rfl) noItem)))) noItem ?_
      rintro v outs ros ⟨rfl, rfl, rfl⟩
      refine ⟨_, rfl, ?_⟩
      refine gl_batch 5 [(5, .bool o4.2), (4, .int .i64 o4.1), (19, .bool o4.2), (18, .int .i64 o4.1), (14, .tuple #[.int .i64 o4.1, .bool o4.2])] rfl ?_
      refine gl_nx ?_
      refine gl_batch 4 [(23, .bool o4.2), (22, .bool o4.2), (21, .int .i64 (IntKind.i64.wrap (0 - o4.1))), (20, .int .i64 o4.1)] rfl ?_
      refine gl_join (EE := [(26, .bool (o4.2 && (decide (o4.1 > 0)))), (21, .int .i64 (IntKind.i64.wrap (0 - o4.1)))]) (RR := []) (XX := [gTab 3 pow10C, gNum 0, gErr 1, gErr 2]) (OO := []) (VV := []) 3 ?_ ?_
      · skip
        refine gl_case 23 rfl (fun hc => ?_) (fun hc => ?_)
        · skip
          refine gl_batch 3 [(26, .bool (decide (o4.1 > 0))), (25, .bool (decide (o4.1 > 0))), (24, .int .i64 o4.1)] rfl ?_
          refine gl_nil ?_
          exact gx_mid ⟨congrArg (fun z => some (Value.bool z)) (and_t hc).symm, rfl, trivial⟩ (fun w hS => hS)
        · skip
          refine gl_batch 3 [(26, .bool false), (25, undef), (24, undef)] rfl ?_
          refine gl_nil ?_
          exact gx_mid ⟨congrArg (fun z => some (Value.bool z)) (and_f hc).symm, rfl, trivial⟩ (fun w hS => hS)
      · skip
        refine gl_batch 2 [(3, .bool (o4.2 && (decide (o4.1 > 0)))), (2, .int .i64 (IntKind.i64.wrap (0 - o4.1)))] rfl ?_
        refine gl_ns ?_
        refine g_ret ?_
        refine gx_seq_ret ?_
        obtain rfl := Option.some.inj h
        exact gx_fin rfl [.int .i64 (IntKind.i64.wrap (0 - o4.1)), .bool (o4.2 && (decide (o4.1 > 0)))] _ _ [] ⟨_, _, rfl, rfl, _, _, rfl, rfl, rfl⟩ rfl ⟨rfl, rfl, rfl⟩ (fun w hS => (hS.take 0).facts [] [] [] noItem noItem noItem) (Or.inl rfl)
    · replace h := condF hc h
      refine g_skip ?_
      refine gx_seq ?_
      refine g_sr ?_
      refine gl_batch 1 [(27, str s)] rfl ?_
      obtain ⟨o5, ho5, h⟩ := bindS h
      refine gl_call rfl rfl (fun w => by kernel_rfl) (c_spec_l01Digits s ho5) (consItem (mem_at 0 rfl) (consItem (mem_at 1 rfl) (consItem (mem_at 2 rfl) (consItem (mem_at 3 rfl) noItem)))) noItem ?_
      rintro v outs ros ⟨rfl, rfl, rfl⟩
      refine ⟨_, rfl, ?_⟩
      refine gl_batch 4 [(3, .bool o5.2), (2, .int .i64 o5.1), (30, .bool o5.2), (29, .int .i64 o5.1)] rfl ?_
      refine gl_ns ?_
      refine g_ret ?_
      obtain rfl := Option.some.inj h
      exact gx_fin rfl [.int .i64 o5.1, .bool o5.2] _ _ [] ⟨_, _, rfl, rfl, _, _, rfl, rfl, rfl⟩ rfl ⟨rfl, rfl, rfl⟩ (fun w hS => (hS.take 0).facts [] [] [] noItem noItem noItem) (Or.inl rfl)

theorem c_spec_l01In (n_v : Int) (low : Int) (high : Int)  {r : Bool} (h : spec_l01In n_v low high = r) : CallOK Tryd.prog 77 [.int .i64 n_v, .int .i64 low, .int .i64 high] [] [gTab 3 pow10C, gNum 0, gErr 1, gErr 2] [] (fun v outs ros => v = .bool r ∧ outs = [] ∧ ros = []) := by
  refine fn_ok Tryd.func77 rfl Tryd.ntmps77 rfl (fun c hF0 => ?_)
  unfold spec_l01In at h
  refine g_sr ?_
  refine gl_batch 1 [(6, .bool false)] rfl ?_
  refine gl_nx ?_
  refine gl_batch 4 [(10, .bool (decide (n_v ≥ low))), (9, .bool (decide (n_v ≥ low))), (8, .int .i64 low), (7, .int .i64 n_v)] rfl ?_
  refine gl_join (EE := [(14, .bool ((decide (n_v ≥ low)) && (decide (n_v ≤ high))))]) (RR := []) (XX := [gTab 3 pow10C, gNum 0, gErr 1, gErr 2]) (OO := []) (VV := []) 4 ?_ ?_
  · skip
    refine gl_case 10 rfl (fun hc => ?_) (fun hc => ?_)
    · skip
      refine gl_batch 4 [(14, .bool (decide (n_v ≤ high))), (13, .bool (decide (n_v ≤ high))), (12, .int .i64 high), (11, .int .i64 n_v)] rfl ?_
      refine gl_nil ?_
      exact gx_mid ⟨congrArg (fun z => some (Value.bool z)) (and_t hc).symm, trivial⟩ (fun w hS => hS)
    · skip
      refine gl_batch 4 [(14, .bool false), (13, undef), (12, undef), (11, undef)] rfl ?_
      refine gl_nil ?_
      exact gx_mid ⟨congrArg (fun z => some (Value.bool z)) (and_f hc).symm, trivial⟩ (fun w hS => hS)
  · skip
    refine gl_batch 1 [(6, .bool ((decide (n_v ≥ low)) && (decide (n_v ≤ high))))] rfl ?_
    refine gl_ns ?_
    refine g_ret ?_
    subst h
    exact gx_fin rfl [.bool ((decide (n_v ≥ low)) && (decide (n_v ≤ high)))] _ _ [] ⟨_, _, rfl, rfl, rfl⟩ rfl ⟨rfl, rfl, rfl⟩ (fun w hS => (hS.take 0).facts [] [] [] noItem noItem noItem) (Or.inl rfl)

theorem c_spec_l11Place (p : Place) (events : Int)  {r : Bool} (h : spec_l11Place p events = r) : CallOK Tryd.prog 78 [.agg #[.int .i64 p.From, .int .i64 p.To, .int .i64 p.Delay, .int .i64 p.Tokens], .int .i64 events] [] [gTab 3 pow10C, gNum 0, gErr 1, gErr 2] [] (fun v outs ros => v = .bool r ∧ outs = [] ∧ ros = []) := by
  refine fn_ok Tryd.func78 rfl Tryd.ntmps78 rfl (fun c hF0 => ?_)
  unfold spec_l11Place at h
  refine g_sr ?_
  refine gl_new (d := 2) (T := 31) [.int .i64 p.From, .int .i64 p.To, .int .i64 p.Delay, .int .i64 p.Tokens] rfl rfl (fun _ => rfl) (fun w => by kernel_rfl) ?_
  intro b1
  refine gl_batch 1 [(4, .bool false)] rfl ?_
  refine gl_nx ?_
  refine gl_run (v := .pointer (some ⟨b1, 0, none⟩)) rfl rfl rfl (fun w => by kernel_rfl) ?_
  refine gl_ld1 0 hasBK (mem_at 0 rfl) rfl rfl Fo2 rfl rfl rfl ?_
  refine gl_batch 2 [(8, .int .i64 (IntKind.i64.wrap (events - 1))), (7, .int .i64 events)] rfl ?_
  refine gl_call rfl rfl (fun w => by kernel_rfl) (c_spec_l01In p.From 0 (IntKind.i64.wrap (events - 1)) rfl) (consItem (mem_at 0 rfl) (consItem (mem_at 1 rfl) (consItem (mem_at 2 rfl) (consItem (mem_at 3 rfl) noItem)))) noItem ?_
  rintro v outs ros ⟨rfl, rfl, rfl⟩
  refine ⟨_, rfl, ?_⟩
  refine gl_batch 1 [(10, .bool (spec_l01In p.From 0 (IntKind.i64.wrap (events - 1))))] rfl ?_
  refine gl_join (EE := [(16, .bool ((spec_l01In p.From 0 (IntKind.i64.wrap (events - 1))) && (spec_l01In p.To 0 (IntKind.i64.wrap (events - 1))))), (2, .pointer (some ⟨b1, 0, none⟩))]) (RR := [BK 31 b1 [.int .i64 p.From, .int .i64 p.To, .int .i64 p.Delay, .int .i64 p.Tokens]]) (XX := [gTab 3 pow10C, gNum 0, gErr 1, gErr 2]) (OO := []) (VV := []) 6 ?_ ?_
  · skip
    refine gl_case 10 rfl (fun hc => ?_) (fun hc => ?_)
    · skip
      refine gl_run (v := .pointer (some ⟨b1, 1, none⟩)) rfl rfl rfl (fun w => by kernel_rfl) ?_
      refine gl_ld1 1 hasBK (mem_at 0 rfl) rfl rfl Fo2 rfl rfl rfl ?_
      refine gl_batch 2 [(14, .int .i64 (IntKind.i64.wrap (events - 1))), (13, .int .i64 events)] rfl ?_
      refine gl_call rfl rfl (fun w => by kernel_rfl) (c_spec_l01In p.To 0 (IntKind.i64.wrap (events - 1)) rfl) (consItem (mem_at 0 rfl) (consItem (mem_at 1 rfl) (consItem (mem_at 2 rfl) (consItem (mem_at 3 rfl) noItem)))) noItem ?_
      rintro v outs ros ⟨rfl, rfl, rfl⟩
      refine ⟨_, rfl, ?_⟩
      refine gl_batch 1 [(16, .bool (spec_l01In p.To 0 (IntKind.i64.wrap (events - 1))))] rfl ?_
      refine gl_nil ?_
      exact gx_mid ⟨congrArg (fun z => some (Value.bool z)) (and_t hc).symm, rfl, trivial⟩ (fun w hS => hS)
    · skip
      refine gl_batch 6 [(16, .bool false), (15, undef), (14, undef), (13, undef), (12, undef), (11, undef)] rfl ?_
      refine gl_nil ?_
      exact gx_mid ⟨congrArg (fun z => some (Value.bool z)) (and_f hc).symm, rfl, trivial⟩ (fun w hS => hS)
  · skip
    refine gl_batch 1 [(17, .bool ((spec_l01In p.From 0 (IntKind.i64.wrap (events - 1))) && (spec_l01In p.To 0 (IntKind.i64.wrap (events - 1)))))] rfl ?_
    refine gl_join (EE := [(21, .bool (((spec_l01In p.From 0 (IntKind.i64.wrap (events - 1))) && (spec_l01In p.To 0 (IntKind.i64.wrap (events - 1)))) && (spec_l01In p.Delay 0 1000))), (2, .pointer (some ⟨b1, 0, none⟩))]) (RR := [BK 31 b1 [.int .i64 p.From, .int .i64 p.To, .int .i64 p.Delay, .int .i64 p.Tokens]]) (XX := [gTab 3 pow10C, gNum 0, gErr 1, gErr 2]) (OO := []) (VV := []) 4 ?_ ?_
    · skip
      refine gl_case 17 rfl (fun hc => ?_) (fun hc => ?_)
      · skip
        refine gl_run (v := .pointer (some ⟨b1, 2, none⟩)) rfl rfl rfl (fun w => by kernel_rfl) ?_
        refine gl_ld1 2 hasBK (mem_at 0 rfl) rfl rfl Fo2 rfl rfl rfl ?_
        refine gl_call rfl rfl (fun w => by kernel_rfl) (c_spec_l01In p.Delay 0 1000 rfl) (consItem (mem_at 0 rfl) (consItem (mem_at 1 rfl) (consItem (mem_at 2 rfl) (consItem (mem_at 3 rfl) noItem)))) noItem ?_
        rintro v outs ros ⟨rfl, rfl, rfl⟩
        refine ⟨_, rfl, ?_⟩
        refine gl_batch 1 [(21, .bool (spec_l01In p.Delay 0 1000))] rfl ?_
        refine gl_nil ?_
        exact gx_mid ⟨congrArg (fun z => some (Value.bool z)) (and_t hc).symm, rfl, trivial⟩ (fun w hS => hS)
      · skip
        refine gl_batch 4 [(21, .bool false), (20, undef), (19, undef), (18, undef)] rfl ?_
        refine gl_nil ?_
        exact gx_mid ⟨congrArg (fun z => some (Value.bool z)) (and_f hc).symm, rfl, trivial⟩ (fun w hS => hS)
    · skip
      refine gl_batch 1 [(22, .bool (((spec_l01In p.From 0 (IntKind.i64.wrap (events - 1))) && (spec_l01In p.To 0 (IntKind.i64.wrap (events - 1)))) && (spec_l01In p.Delay 0 1000)))] rfl ?_
      refine gl_join (EE := [(26, .bool ((((spec_l01In p.From 0 (IntKind.i64.wrap (events - 1))) && (spec_l01In p.To 0 (IntKind.i64.wrap (events - 1)))) && (spec_l01In p.Delay 0 1000)) && (spec_l01In p.Tokens 0 5)))]) (RR := [BK 31 b1 [.int .i64 p.From, .int .i64 p.To, .int .i64 p.Delay, .int .i64 p.Tokens]]) (XX := [gTab 3 pow10C, gNum 0, gErr 1, gErr 2]) (OO := []) (VV := []) 4 ?_ ?_
      · skip
        refine gl_case 22 rfl (fun hc => ?_) (fun hc => ?_)
        · skip
          refine gl_run (v := .pointer (some ⟨b1, 3, none⟩)) rfl rfl rfl (fun w => by kernel_rfl) ?_
          refine gl_ld1 3 hasBK (mem_at 0 rfl) rfl rfl Fo2 rfl rfl rfl ?_
          refine gl_call rfl rfl (fun w => by kernel_rfl) (c_spec_l01In p.Tokens 0 5 rfl) (consItem (mem_at 0 rfl) (consItem (mem_at 1 rfl) (consItem (mem_at 2 rfl) (consItem (mem_at 3 rfl) noItem)))) noItem ?_
          rintro v outs ros ⟨rfl, rfl, rfl⟩
          refine ⟨_, rfl, ?_⟩
          refine gl_batch 1 [(26, .bool (spec_l01In p.Tokens 0 5))] rfl ?_
          refine gl_nil ?_
          exact gx_mid ⟨congrArg (fun z => some (Value.bool z)) (and_t hc).symm, trivial⟩ (fun w hS => hS)
        · skip
          refine gl_batch 4 [(26, .bool false), (25, undef), (24, undef), (23, undef)] rfl ?_
          refine gl_nil ?_
          exact gx_mid ⟨congrArg (fun z => some (Value.bool z)) (and_f hc).symm, trivial⟩ (fun w hS => hS)
      · skip
        refine gl_batch 1 [(4, .bool ((((spec_l01In p.From 0 (IntKind.i64.wrap (events - 1))) && (spec_l01In p.To 0 (IntKind.i64.wrap (events - 1)))) && (spec_l01In p.Delay 0 1000)) && (spec_l01In p.Tokens 0 5)))] rfl ?_
        refine gl_ns ?_
        refine g_ret ?_
        subst h
        exact gx_fin rfl [.bool ((((spec_l01In p.From 0 (IntKind.i64.wrap (events - 1))) && (spec_l01In p.To 0 (IntKind.i64.wrap (events - 1)))) && (spec_l01In p.Delay 0 1000)) && (spec_l01In p.Tokens 0 5))] _ _ [] ⟨_, _, rfl, rfl, rfl⟩ rfl ⟨rfl, rfl, rfl⟩ (fun w hS => (hS.take 0).facts [] [] [] noItem noItem noItem) (Or.inl rfl)

theorem c_spec_EditText (e_v : Edit)  {r : List UInt8} (h : spec_EditText e_v = some r) : CallOK Tryd.prog 39 [.agg #[.int .i64 e_v.Kind, .int .i64 e_v.Index, .int .i64 e_v.Place.From, .int .i64 e_v.Place.To, .int .i64 e_v.Place.Delay, .int .i64 e_v.Place.Tokens]] [] [gTab 3 pow10C, gNum 0, gErr 1, gErr 2] [] (fun v outs ros => v = str r ∧ outs = [] ∧ ros = []) := by
  refine fn_ok Tryd.func39 rfl Tryd.ntmps39 rfl (fun c hF0 => ?_)
  unfold spec_EditText at h
  refine g_sr ?_
  refine gl_new (d := 1) (T := 33) [.int .i64 e_v.Kind, .int .i64 e_v.Index, .int .i64 e_v.Place.From, .int .i64 e_v.Place.To, .int .i64 e_v.Place.Delay, .int .i64 e_v.Place.Tokens] rfl rfl (fun _ => rfl) (fun w => by kernel_rfl) ?_
  intro b1
  refine gl_batch 1 [(2, str [])] rfl ?_
  refine gl_ns ?_
  refine g_seq ?_
  refine g_sr ?_
  refine gl_run (v := .pointer (some ⟨b1, 0, none⟩)) rfl rfl rfl (fun w => by kernel_rfl) ?_
  refine gl_ld1 0 hasBK (mem_at 0 rfl) rfl rfl Fo2 rfl rfl rfl ?_
  refine gl_call rfl rfl (fun w => by kernel_rfl) (c_spec_l01In e_v.Kind 1 3 rfl) (consItem (mem_at 0 rfl) (consItem (mem_at 1 rfl) (consItem (mem_at 2 rfl) (consItem (mem_at 3 rfl) noItem)))) noItem ?_
  rintro v outs ros ⟨rfl, rfl, rfl⟩
  refine ⟨_, rfl, ?_⟩
  refine gl_batch 2 [(8, .bool (!(spec_l01In e_v.Kind 1 3))), (7, .bool (!(spec_l01In e_v.Kind 1 3)))] rfl ?_
  refine gl_join (EE := [(13, .bool ((!(spec_l01In e_v.Kind 1 3)) || (!(spec_l01In e_v.Index 0 30)))), (1, .pointer (some ⟨b1, 0, none⟩))]) (RR := [BK 33 b1 [.int .i64 e_v.Kind, .int .i64 e_v.Index, .int .i64 e_v.Place.From, .int .i64 e_v.Place.To, .int .i64 e_v.Place.Delay, .int .i64 e_v.Place.Tokens]]) (XX := [gTab 3 pow10C, gNum 0, gErr 1, gErr 2]) (OO := []) (VV := []) 5 ?_ ?_
  · skip
    refine gl_case 8 rfl (fun hc => ?_) (fun hc => ?_)
    · skip
      refine gl_batch 5 [(13, .bool true), (12, undef), (11, undef), (10, undef), (9, undef)] rfl ?_
      refine gl_nil ?_
      exact gx_mid ⟨congrArg (fun z => some (Value.bool z)) (or_t hc).symm, rfl, trivial⟩ (fun w hS => hS)
    · skip
      refine gl_run (v := .pointer (some ⟨b1, 1, none⟩)) rfl rfl rfl (fun w => by kernel_rfl) ?_
      refine gl_ld1 1 hasBK (mem_at 0 rfl) rfl rfl Fo2 rfl rfl rfl ?_
      refine gl_call rfl rfl (fun w => by kernel_rfl) (c_spec_l01In e_v.Index 0 30 rfl) (consItem (mem_at 0 rfl) (consItem (mem_at 1 rfl) (consItem (mem_at 2 rfl) (consItem (mem_at 3 rfl) noItem)))) noItem ?_
      rintro v outs ros ⟨rfl, rfl, rfl⟩
      refine ⟨_, rfl, ?_⟩
      refine gl_batch 2 [(13, .bool (!(spec_l01In e_v.Index 0 30))), (12, .bool (!(spec_l01In e_v.Index 0 30)))] rfl ?_
      refine gl_nil ?_
      exact gx_mid ⟨congrArg (fun z => some (Value.bool z)) (or_f hc).symm, rfl, trivial⟩ (fun w hS => hS)
  · skip
    refine gl_batch 1 [(14, .bool ((!(spec_l01In e_v.Kind 1 3)) || (!(spec_l01In e_v.Index 0 30))))] rfl ?_
    refine gl_join (EE := [(19, .bool (((!(spec_l01In e_v.Kind 1 3)) || (!(spec_l01In e_v.Index 0 30))) || (!(spec_l11Place e_v.Place 10)))), (1, .pointer (some ⟨b1, 0, none⟩))]) (RR := [BK 33 b1 [.int .i64 e_v.Kind, .int .i64 e_v.Index, .int .i64 e_v.Place.From, .int .i64 e_v.Place.To, .int .i64 e_v.Place.Delay, .int .i64 e_v.Place.Tokens]]) (XX := [gTab 3 pow10C, gNum 0, gErr 1, gErr 2]) (OO := []) (VV := []) 5 ?_ ?_
    · skip
      refine gl_case 14 rfl (fun hc => ?_) (fun hc => ?_)
      · skip
        refine gl_batch 5 [(19, .bool true), (18, undef), (17, undef), (16, undef), (15, undef)] rfl ?_
        refine gl_nil ?_
        exact gx_mid ⟨congrArg (fun z => some (Value.bool z)) (or_t hc).symm, rfl, trivial⟩ (fun w hS => hS)
      · skip
        refine gl_run (v := .pointer (some ⟨b1, 2, none⟩)) rfl rfl rfl (fun w => by kernel_rfl) ?_
        refine gl_ldA (vs := [.int .i64 e_v.Place.From, .int .i64 e_v.Place.To, .int .i64 e_v.Place.Delay, .int .i64 e_v.Place.Tokens]) 2 hasBK (mem_at 0 rfl) rfl rfl Fm31 Fz31 rfl rfl rfl ?_
        refine gl_call rfl rfl (fun w => by kernel_rfl) (c_spec_l11Place e_v.Place 10 rfl) (consItem (mem_at 0 rfl) (consItem (mem_at 1 rfl) (consItem (mem_at 2 rfl) (consItem (mem_at 3 rfl) noItem)))) noItem ?_
        rintro v outs ros ⟨rfl, rfl, rfl⟩
        refine ⟨_, rfl, ?_⟩
        refine gl_batch 2 [(19, .bool (!(spec_l11Place e_v.Place 10))), (18, .bool (!(spec_l11Place e_v.Place 10)))] rfl ?_
        refine gl_nil ?_
        exact gx_mid ⟨congrArg (fun z => some (Value.bool z)) (or_f hc).symm, rfl, trivial⟩ (fun w hS => hS)
    · skip
      refine gl_ns ?_
      refine g_cond (b := ((!(spec_l01In e_v.Kind 1 3)) || (!(spec_l01In e_v.Index 0 30))) || (!(spec_l11Place e_v.Place 10))) rfl (fun hc => ?_) (fun hc => ?_)
      · replace h := condT hc h
        refine g_sr ?_
        refine gl_batch 1 [(2, str [])] rfl ?_
        refine gl_ns ?_
        refine g_ret ?_
        refine gx_seq_ret ?_
        obtain rfl := Option.some.inj h
        exact gx_fin rfl [str []] _ _ [] ⟨_, _, rfl, rfl, rfl⟩ rfl ⟨rfl, rfl, rfl⟩ (fun w hS => (hS.take 0).facts [] [] [] noItem noItem noItem) (Or.inl rfl)
      · replace h := condF hc h
        refine g_skip ?_
        refine gx_seq ?_
        refine g_sr ?_
        refine gl_run (v := .pointer (some ⟨b1, 2, none⟩)) rfl rfl rfl (fun w => by kernel_rfl) ?_
        refine gl_ldA (vs := [.int .i64 e_v.Place.From, .int .i64 e_v.Place.To, .int .i64 e_v.Place.Delay, .int .i64 e_v.Place.Tokens]) 2 hasBK (mem_at 0 rfl) rfl rfl Fm31 Fz31 rfl rfl rfl ?_
        refine gl_new (d := 3) (T := 31) [.int .i64 0, .int .i64 0, .int .i64 0, .int .i64 0] rfl rfl (fun _ => rfl) (fun w => by kernel_rfl) ?_
        intro b2
        refine gl_stB (cells' := [.int .i64 e_v.Place.From, .int .i64 e_v.Place.To, .int .i64 e_v.Place.Delay, .int .i64 e_v.Place.Tokens]) 0 [.int .i64 e_v.Place.From, .int .i64 e_v.Place.To, .int .i64 e_v.Place.Delay, .int .i64 e_v.Place.Tokens] rfl rfl rfl Fz31 rfl rfl rfl rfl ?_
        refine gl_ns ?_
        refine g_seq ?_
        refine g_sr ?_
        refine gl_run (v := .pointer (some ⟨b1, 0, none⟩)) rfl rfl rfl (fun w => by kernel_rfl) ?_
        refine gl_ld1 0 hasBK (mem_at 1 rfl) rfl rfl Fo2 rfl rfl rfl ?_
        refine gl_batch 1 [(24, .bool (e_v.Kind == 2))] rfl ?_
        refine gl_ns ?_
        refine g_cond (b := e_v.Kind == 2) rfl (fun hc => ?_) (fun hc => ?_)
        · replace h := condT hc h
          refine g_seq ?_
          refine g_sr ?_
          refine gl_ldA (vs := [.int .i64 e_v.Place.From, .int .i64 e_v.Place.To, .int .i64 e_v.Place.Delay, .int .i64 e_v.Place.Tokens]) 0 hasBK (mem_at 0 rfl) rfl rfl Fm31 Fz31 rfl rfl rfl ?_
          refine gl_run (v := .agg #[.int .i64 0, .int .i64 0, .int .i64 0, .int .i64 0]) rfl rfl rfl (fun w => by kernel_rfl) ?_
          refine gl_ane (r := (e_v.Place.From == 0) && ((e_v.Place.To == 0) && ((e_v.Place.Delay == 0) && ((e_v.Place.Tokens == 0) && true)))) rfl rfl (by kernel_rfl) (by kernel_rfl) rfl rfl ?_
          refine gl_ns ?_
          refine g_cond (b := !((e_v.Place.From == 0) && ((e_v.Place.To == 0) && ((e_v.Place.Delay == 0) && ((e_v.Place.Tokens == 0) && true))))) rfl (fun hc => ?_) (fun hc => ?_)
          · replace h := condT hc h
            refine g_sr ?_
            refine gl_batch 1 [(2, str [])] rfl ?_
            refine gl_ns ?_
            refine g_ret ?_
            refine gx_seq_ret ?_
            refine gx_seq_ret ?_
            obtain rfl := Option.some.inj h
            exact gx_fin rfl [str []] _ _ [] ⟨_, _, rfl, rfl, rfl⟩ rfl ⟨rfl, rfl, rfl⟩ (fun w hS => (hS.take 0).facts [] [] [] noItem noItem noItem) (Or.inl rfl)
          · replace h := condF hc h
            refine g_skip ?_
            refine gx_seq ?_
            refine g_sr ?_
            refine gl_run (v := .pointer (some ⟨b1, 1, none⟩)) rfl rfl rfl (fun w => by kernel_rfl) ?_
            refine gl_ld1 1 hasBK (mem_at 1 rfl) rfl rfl Fo2 rfl rfl rfl ?_
            obtain ⟨o3, ho3, h⟩ := bindS h
            refine gl_call rfl rfl (fun w => by kernel_rfl) (c_spec_l01Dec e_v.Index ho3) (consItem (mem_at 0 rfl) (consItem (mem_at 1 rfl) (consItem (mem_at 2 rfl) (consItem (mem_at 3 rfl) noItem)))) noItem ?_
            rintro v outs ros ⟨rfl, rfl, rfl⟩
            refine ⟨_, rfl, ?_⟩
            obtain ⟨z4, hz4, h⟩ := bindS h
            refine gl_scat rfl rfl hz4 rfl rfl ?_
            refine gl_batch 1 [(2, str z4)] rfl ?_
            refine gl_ns ?_
            refine g_ret ?_
            refine gx_seq_ret ?_
            obtain rfl := Option.some.inj h
            exact gx_fin rfl [str z4] _ _ [] ⟨_, _, rfl, rfl, rfl⟩ rfl ⟨rfl, rfl, rfl⟩ (fun w hS => (hS.take 0).facts [] [] [] noItem noItem noItem) (Or.inl rfl)
        · replace h := condF hc h
          refine g_skip ?_
          refine gx_seq ?_
          refine g_seq ?_
          obtain ⟨o5, ho5, h⟩ := bindS h
          obtain ⟨o6, ho6, h⟩ := bindS h
          obtain ⟨z7, hz7, h⟩ := bindS h
          obtain ⟨z8, hz8, h⟩ := bindS h
          obtain ⟨o9, ho9, h⟩ := bindS h
          obtain ⟨z10, hz10, h⟩ := bindS h
          obtain ⟨z11, hz11, h⟩ := bindS h
          obtain ⟨o12, ho12, h⟩ := bindS h
          obtain ⟨z13, hz13, h⟩ := bindS h
          obtain ⟨z14, hz14, h⟩ := bindS h
          obtain ⟨o15, ho15, h⟩ := bindS h
          obtain ⟨z16, hz16, h⟩ := bindS h
          obtain ⟨z17, hz17, h⟩ := bindS h
          obtain ⟨o18, ho18, h⟩ := bindS h
          obtain ⟨z19, hz19, h⟩ := bindS h
          refine g_drawD 28 [[], [0], [1], [], [3], [4], [2, 5], [6], [], [8], [9], [7, 10], [11], [], [13], [14], [12, 15], [16], [], [18], [19], [17, 20], [21], [], [23], [24], [22, 25], [26]] [[1], [], [], [1], [], [], [], [], [3], [], [], [], [], [3], [], [], [], [], [3], [], [], [], [], [3], [], [], [], []] [.pointer (some ⟨b1, 0, none⟩), .int .i64 e_v.Kind, str o5, .pointer (some ⟨b1, 1, none⟩), .int .i64 e_v.Index, str o6, str z7, str z8, .pointer (some ⟨b2, 0, none⟩), .int .i64 e_v.Place.From, str o9, str z10, str z11, .pointer (some ⟨b2, 1, none⟩), .int .i64 e_v.Place.To, str o12, str z13, str z14, .pointer (some ⟨b2, 2, none⟩), .int .i64 e_v.Place.Delay, str o15, str z16, str z17, .pointer (some ⟨b2, 3, none⟩), .int .i64 e_v.Place.Tokens, str o18, str z19, str z19] mixed rfl rfl ⟨⟨⟨⟨⟨⟨⟨⟨⟨⟨⟨⟨⟨⟨⟨⟨⟨⟨⟨⟨⟨⟨⟨⟨⟨⟨⟨⟨trivial, ?_⟩, ?_⟩, ?_⟩, ?_⟩, ?_⟩, ?_⟩, ?_⟩, ?_⟩, ?_⟩, ?_⟩, ?_⟩, ?_⟩, ?_⟩, ?_⟩, ?_⟩, ?_⟩, ?_⟩, ?_⟩, ?_⟩, ?_⟩, ?_⟩, ?_⟩, ?_⟩, ?_⟩, ?_⟩, ?_⟩, ?_⟩, ?_⟩ ?_
          · refine obl_in rfl rfl rfl rfl (fun R' O' => ?_)
            refine gl_run (v := .pointer (some ⟨b1, 0, none⟩)) rfl rfl rfl (fun w => by kernel_rfl) ?_
            exact gl_dp rfl rfl rfl
          · refine obl_in rfl rfl rfl rfl (fun R' O' => ?_)
            refine gl_ld1 0 hasBK (memV (mem_at 1 rfl)) rfl rfl Fo2 rfl rfl rfl ?_
            exact gl_dp rfl rfl rfl
          · refine obl_in rfl rfl rfl rfl (fun R' O' => ?_)
            refine gl_call rfl rfl (fun w => by kernel_rfl) (c_spec_l29Sign e_v.Kind ho5) (consItem (mem_at 0 rfl) (consItem (mem_at 1 rfl) (consItem (mem_at 2 rfl) (consItem (mem_at 3 rfl) noItem)))) noItem ?_
            rintro v outs ros ⟨rfl, rfl, rfl⟩
            refine ⟨_, rfl, ?_⟩
            exact gl_dp rfl rfl rfl
          · refine obl_in rfl rfl rfl rfl (fun R' O' => ?_)
            refine gl_run (v := .pointer (some ⟨b1, 1, none⟩)) rfl rfl rfl (fun w => by kernel_rfl) ?_
            exact gl_dp rfl rfl rfl
          · refine obl_in rfl rfl rfl rfl (fun R' O' => ?_)
            refine gl_ld1 1 hasBK (memV (mem_at 1 rfl)) rfl rfl Fo2 rfl rfl rfl ?_
            exact gl_dp rfl rfl rfl
          · refine obl_in rfl rfl rfl rfl (fun R' O' => ?_)
            refine gl_call rfl rfl (fun w => by kernel_rfl) (c_spec_l01Dec e_v.Index ho6) (consItem (mem_at 0 rfl) (consItem (mem_at 1 rfl) (consItem (mem_at 2 rfl) (consItem (mem_at 3 rfl) noItem)))) noItem ?_
            rintro v outs ros ⟨rfl, rfl, rfl⟩
            refine ⟨_, rfl, ?_⟩
            exact gl_dp rfl rfl rfl
          · refine obl_in rfl rfl rfl rfl (fun R' O' => ?_)
            refine gl_scat rfl rfl hz7 rfl rfl ?_
            exact gl_dp rfl rfl rfl
          · refine obl_in rfl rfl rfl rfl (fun R' O' => ?_)
            refine gl_scat rfl rfl hz8 rfl rfl ?_
            exact gl_dp rfl rfl rfl
          · refine obl_in rfl rfl rfl rfl (fun R' O' => ?_)
            refine gl_run (v := .pointer (some ⟨b2, 0, none⟩)) rfl rfl rfl (fun w => by kernel_rfl) ?_
            exact gl_dp rfl rfl rfl
          · refine obl_in rfl rfl rfl rfl (fun R' O' => ?_)
            refine gl_ld1 0 hasBK (memV (mem_at 0 rfl)) rfl rfl Fo2 rfl rfl rfl ?_
            exact gl_dp rfl rfl rfl
          · refine obl_in rfl rfl rfl rfl (fun R' O' => ?_)
            refine gl_call rfl rfl (fun w => by kernel_rfl) (c_spec_l01Dec e_v.Place.From ho9) (consItem (mem_at 0 rfl) (consItem (mem_at 1 rfl) (consItem (mem_at 2 rfl) (consItem (mem_at 3 rfl) noItem)))) noItem ?_
            rintro v outs ros ⟨rfl, rfl, rfl⟩
            refine ⟨_, rfl, ?_⟩
            exact gl_dp rfl rfl rfl
          · refine obl_in rfl rfl rfl rfl (fun R' O' => ?_)
            refine gl_scat rfl rfl hz10 rfl rfl ?_
            exact gl_dp rfl rfl rfl
          · refine obl_in rfl rfl rfl rfl (fun R' O' => ?_)
            refine gl_scat rfl rfl hz11 rfl rfl ?_
            exact gl_dp rfl rfl rfl
          · refine obl_in rfl rfl rfl rfl (fun R' O' => ?_)
            refine gl_run (v := .pointer (some ⟨b2, 1, none⟩)) rfl rfl rfl (fun w => by kernel_rfl) ?_
            exact gl_dp rfl rfl rfl
          · refine obl_in rfl rfl rfl rfl (fun R' O' => ?_)
            refine gl_ld1 1 hasBK (memV (mem_at 0 rfl)) rfl rfl Fo2 rfl rfl rfl ?_
            exact gl_dp rfl rfl rfl
          · refine obl_in rfl rfl rfl rfl (fun R' O' => ?_)
            refine gl_call rfl rfl (fun w => by kernel_rfl) (c_spec_l01Dec e_v.Place.To ho12) (consItem (mem_at 0 rfl) (consItem (mem_at 1 rfl) (consItem (mem_at 2 rfl) (consItem (mem_at 3 rfl) noItem)))) noItem ?_
            rintro v outs ros ⟨rfl, rfl, rfl⟩
            refine ⟨_, rfl, ?_⟩
            exact gl_dp rfl rfl rfl
          · refine obl_in rfl rfl rfl rfl (fun R' O' => ?_)
            refine gl_scat rfl rfl hz13 rfl rfl ?_
            exact gl_dp rfl rfl rfl
          · refine obl_in rfl rfl rfl rfl (fun R' O' => ?_)
            refine gl_scat rfl rfl hz14 rfl rfl ?_
            exact gl_dp rfl rfl rfl
          · refine obl_in rfl rfl rfl rfl (fun R' O' => ?_)
            refine gl_run (v := .pointer (some ⟨b2, 2, none⟩)) rfl rfl rfl (fun w => by kernel_rfl) ?_
            exact gl_dp rfl rfl rfl
          · refine obl_in rfl rfl rfl rfl (fun R' O' => ?_)
            refine gl_ld1 2 hasBK (memV (mem_at 0 rfl)) rfl rfl Fo2 rfl rfl rfl ?_
            exact gl_dp rfl rfl rfl
          · refine obl_in rfl rfl rfl rfl (fun R' O' => ?_)
            refine gl_call rfl rfl (fun w => by kernel_rfl) (c_spec_l01Dec e_v.Place.Delay ho15) (consItem (mem_at 0 rfl) (consItem (mem_at 1 rfl) (consItem (mem_at 2 rfl) (consItem (mem_at 3 rfl) noItem)))) noItem ?_
            rintro v outs ros ⟨rfl, rfl, rfl⟩
            refine ⟨_, rfl, ?_⟩
            exact gl_dp rfl rfl rfl
          · refine obl_in rfl rfl rfl rfl (fun R' O' => ?_)
            refine gl_scat rfl rfl hz16 rfl rfl ?_
            exact gl_dp rfl rfl rfl
          · refine obl_in rfl rfl rfl rfl (fun R' O' => ?_)
            refine gl_scat rfl rfl hz17 rfl rfl ?_
            exact gl_dp rfl rfl rfl
          · refine obl_in rfl rfl rfl rfl (fun R' O' => ?_)
            refine gl_run (v := .pointer (some ⟨b2, 3, none⟩)) rfl rfl rfl (fun w => by kernel_rfl) ?_
            exact gl_dp rfl rfl rfl
          · refine obl_in rfl rfl rfl rfl (fun R' O' => ?_)
            refine gl_ld1 3 hasBK (memV (mem_at 0 rfl)) rfl rfl Fo2 rfl rfl rfl ?_
            exact gl_dp rfl rfl rfl
          · refine obl_in rfl rfl rfl rfl (fun R' O' => ?_)
            refine gl_call rfl rfl (fun w => by kernel_rfl) (c_spec_l01Dec e_v.Place.Tokens ho18) (consItem (mem_at 0 rfl) (consItem (mem_at 1 rfl) (consItem (mem_at 2 rfl) (consItem (mem_at 3 rfl) noItem)))) noItem ?_
            rintro v outs ros ⟨rfl, rfl, rfl⟩
            refine ⟨_, rfl, ?_⟩
            exact gl_dp rfl rfl rfl
          · refine obl_in rfl rfl rfl rfl (fun R' O' => ?_)
            refine gl_scat rfl rfl hz19 rfl rfl ?_
            exact gl_dp rfl rfl rfl
          · exact obl_pure rfl rfl rfl rfl rfl rfl rfl rfl
          · skip
            refine gl_ns ?_
            refine g_ret ?_
            obtain rfl := Option.some.inj h
            exact gx_fin rfl [str z19] _ _ [] ⟨_, _, rfl, rfl, rfl⟩ rfl ⟨rfl, rfl, rfl⟩ (fun w hS => (hS.take 0).facts [] [] [] noItem noItem noItem) (Or.inl rfl)

theorem c_strings_Cut (s : List UInt8) (sep : List UInt8)  {r : List UInt8 × List UInt8 × Bool} (h : strings_Cut s sep = some r) : CallOK Tryd.prog 52 [str s, str sep] [] [gTab 3 pow10C, gNum 0, gErr 1, gErr 2] [] (fun v outs ros => v = .tuple #[str r.1, str r.2.1, .bool r.2.2] ∧ outs = [] ∧ ros = []) := by
  unfold strings_Cut at h
  split at h
  · rename_i hc
    obtain rfl := Option.some.inj h
    refine ok_flat (fun w hX => ?_)
    obtain ⟨m, hm⟩ := gNum_cell (hX _ (mem_at 1 rfl))
    refine (Any.strings_Cut Tryd.lay145 ⟨s.toArray⟩ ⟨sep.toArray⟩ m w hc hm).mono ?_
    rintro e w' ⟨rfl, k, rfl⟩
    exact ⟨rfl, Keep.drewN w k []⟩
  · cases h

theorem c_strconv_ParseInt (s : List UInt8) (base : Int) (bitSize : Int)  {r : Int × Bool} (h : strconv_ParseInt s base bitSize = some r) : CallOK Tryd.prog 91 [str s, .int .i64 base, .int .i64 bitSize] [] [gTab 3 pow10C, gNum 0, gErr 1, gErr 2] [] (fun v outs ros => ∃ (ev0 : Value), ErrIs r.2 ev0 ∧ v = .tuple #[.int .i64 r.1, ev0] ∧ outs = [] ∧ ros = []) := by
  unfold strconv_ParseInt at h
  split at h
  · rename_i hc
    obtain ⟨rfl, rfl, h0⟩ := hc
    obtain rfl := Option.some.inj h
    refine ok_err (fun w hX => ?_)
    cases hp : Lib.parseIntB 64 s with
    | ok v =>
      refine (Any.strconv_ParseInt_10_at64_ok Tryd.lay174 ⟨s.toArray⟩ (by have : (ByteArray.mk s.toArray).size = s.length := rfl; omega) v hp w).mono ?_
      rintro e w' ⟨rfl, hw⟩
      refine ⟨.nilIface, Or.inl ⟨rfl, rfl⟩, rfl, ?_⟩
      rcases hw with rfl | ⟨t, rfl⟩
      · exact Keep.refl _ _
      · exact Keep.below (Lib.bytesWorld_below _ _ _)
    | range =>
      obtain ⟨ev, hv, hev⟩ := gErr_cell (hX _ (mem_at 3 rfl))
      refine (Any.strconv_ParseInt_10_at64_range Tryd.lay174 ⟨s.toArray⟩ h0 hp ev w hv hev).mono ?_
      rintro e w' ⟨N, rfl, _, _, hb⟩
      exact ⟨_, Or.inr ⟨rfl, _, _, rfl⟩, rfl, Keep.below hb⟩
    | _ =>
      obtain ⟨ev, hv, hev⟩ := gErr_cell (hX _ (mem_at 2 rfl))
      refine (Any.strconv_ParseInt_10_at64_syntax Tryd.lay174 ⟨s.toArray⟩ h0 hp ev w hv hev).mono ?_
      rintro e w' ⟨N, rfl, _, _, hb⟩
      exact ⟨_, Or.inr ⟨rfl, _, _, rfl⟩, rfl, Keep.below hb⟩
  · cases h

theorem c_strconv_FormatInt (i : Int) (base : Int)  {r : List UInt8} (h : strconv_FormatInt i base = some r) : CallOK Tryd.prog 102 [.int .i64 i, .int .i64 base] [] [gTab 3 pow10C, gNum 0, gErr 1, gErr 2] [] (fun v outs ros => v = str r ∧ outs = [] ∧ ros = []) := by
  unfold strconv_FormatInt at h
  split at h
  · rename_i hc
    obtain ⟨rfl, h0, h1⟩ := hc
    obtain rfl := Option.some.inj h
    refine ok_flat (fun w hX => (Any.strconv_FormatInt_10 Tryd.lay173 i h0 h1 w (pow10_tab gn_pow10 (hX _ (mem_at 0 rfl)))).mono ?_)
    rintro e w' ⟨rfl, k, os, rfl⟩
    exact ⟨rfl, (Keep.drewN w k []).trans (Keep.grow _ os []) (fun x hx => by cases hx)⟩
  · cases h

theorem c_impl_decimal (n_v : Int)  {r : List UInt8} (h : impl_decimal n_v = some r) : CallOK Tryd.prog 73 [.int .i64 n_v] [] [gTab 3 pow10C, gNum 0, gErr 1, gErr 2] [] (fun v outs ros => v = str r ∧ outs = [] ∧ ros = []) := by
  refine fn_ok Tryd.func73 rfl Tryd.ntmps73 rfl (fun c hF0 => ?_)
  unfold impl_decimal at h
  refine g_sr ?_
  refine gl_batch 1 [(2, str [])] rfl ?_
  refine gl_nx ?_
  refine gl_batch 1 [(3, .int .i64 n_v)] rfl ?_
  obtain ⟨o1, ho1, h⟩ := bindS h
  refine gl_call rfl rfl (fun w => by kernel_rfl) (c_strconv_FormatInt n_v 10 ho1) (consItem (mem_at 0 rfl) (consItem (mem_at 1 rfl) (consItem (mem_at 2 rfl) (consItem (mem_at 3 rfl) noItem)))) noItem ?_
  rintro v outs ros ⟨rfl, rfl, rfl⟩
  refine ⟨_, rfl, ?_⟩
  refine gl_batch 1 [(2, str o1)] rfl ?_
  refine gl_ns ?_
  refine g_ret ?_
  obtain rfl := Option.some.inj h
  exact gx_fin rfl [str o1] _ _ [] ⟨_, _, rfl, rfl, rfl⟩ rfl ⟨rfl, rfl, rfl⟩ (fun w hS => (hS.take 0).facts [] [] [] noItem noItem noItem) (Or.inl rfl)

theorem c_impl_readNumber (s : List UInt8)  {r : Int × Bool} (h : impl_readNumber s = some r) : CallOK Tryd.prog 53 [str s] [] [gTab 3 pow10C, gNum 0, gErr 1, gErr 2] [] (fun v outs ros => v = .tuple #[.int .i64 r.1, .bool r.2] ∧ outs = [] ∧ ros = []) := by
  refine fn_ok Tryd.func53 rfl Tryd.ntmps53 rfl (fun c hF0 => ?_)
  unfold impl_readNumber at h
  refine g_sr ?_
  refine gl_batch 2 [(3, .bool false), (2, .int .i64 0)] rfl ?_
  refine gl_nx ?_
  refine gl_batch 1 [(7, str s)] rfl ?_
  obtain ⟨o1, ho1, h⟩ := bindS h
  refine gl_call rfl rfl (fun w => by kernel_rfl) (c_strconv_ParseInt s 10 64 ho1) (consItem (mem_at 0 rfl) (consItem (mem_at 1 rfl) (consItem (mem_at 2 rfl) (consItem (mem_at 3 rfl) noItem)))) noItem ?_
  rintro v outs ros ⟨ev2, hev2, rfl, rfl, rfl⟩
  refine ⟨_, rfl, ?_⟩
  refine gl_batch 5 [(5, ev2), (4, .int .i64 o1.1), (10, ev2), (9, .int .i64 o1.1), (6, .tuple #[.int .i64 o1.1, ev2])] rfl ?_
  refine gl_ns ?_
  refine g_seq ?_
  refine g_sr ?_
  refine gl_batch 1 [(11, ev2)] rfl ?_
  refine gl_ene rfl hev2 (by kernel_rfl) rfl rfl ?_
  refine gl_batch 1 [(13, .bool o1.2)] rfl ?_
  obtain ⟨q3, hq3, h⟩ := bindS h
  refine gl_join (EE := [(18, .bool q3), (4, .int .i64 o1.1)]) (RR := []) (XX := [gTab 3 pow10C, gNum 0, gErr 1, gErr 2]) (OO := []) (VV := []) 5 ?_ ?_
  · replace h := hq3
    refine gl_case 13 rfl (fun hc => ?_) (fun hc => ?_)
    · replace h := condT hc h
      refine gl_batch 5 [(18, .bool true), (17, undef), (16, undef), (15, undef), (14, undef)] rfl ?_
      refine gl_nil ?_
      obtain rfl := Option.some.inj h
      exact gx_mid ⟨rfl, rfl, trivial⟩ (fun w hS => hS)
    · replace h := condF hc h
      refine gl_batch 1 [(14, .int .i64 o1.1)] rfl ?_
      obtain ⟨o4, ho4, h⟩ := bindS h
      refine gl_call rfl rfl (fun w => by kernel_rfl) (c_impl_decimal o1.1 ho4) (consItem (mem_at 0 rfl) (consItem (mem_at 1 rfl) (consItem (mem_at 2 rfl) (consItem (mem_at 3 rfl) noItem)))) noItem ?_
      rintro v outs ros ⟨rfl, rfl, rfl⟩
      refine ⟨_, rfl, ?_⟩
      refine gl_batch 1 [(16, str s)] rfl ?_
      refine gl_sne (s := o4) (u := s) rfl rfl rfl rfl ?_
      refine gl_batch 1 [(18, .bool (!(o4 == s)))] rfl ?_
      refine gl_nil ?_
      obtain rfl := Option.some.inj h
      exact gx_mid ⟨rfl, rfl, trivial⟩ (fun w hS => hS)
  · skip
    refine gl_ns ?_
    refine g_cond (b := q3) rfl (fun hc => ?_) (fun hc => ?_)
    · replace h := condT hc h
      refine g_sr ?_
      refine gl_batch 2 [(3, .bool false), (2, .int .i64 0)] rfl ?_
      refine gl_ns ?_
      refine g_ret ?_
      refine gx_seq_ret ?_
      obtain rfl := Option.some.inj h
      exact gx_fin rfl [.int .i64 0, .bool false] _ _ [] ⟨_, _, rfl, rfl, _, _, rfl, rfl, rfl⟩ rfl ⟨rfl, rfl, rfl⟩ (fun w hS => (hS.take 0).facts [] [] [] noItem noItem noItem) (Or.inl rfl)
    · replace h := condF hc h
      refine g_skip ?_
      refine gx_seq ?_
      refine g_sr ?_
      refine gl_batch 3 [(3, .bool true), (2, .int .i64 o1.1), (19, .int .i64 o1.1)] rfl ?_
      refine gl_ns ?_
      refine g_ret ?_
      obtain rfl := Option.some.inj h
      exact gx_fin rfl [.int .i64 o1.1, .bool true] _ _ [] ⟨_, _, rfl, rfl, _, _, rfl, rfl, rfl⟩ rfl ⟨rfl, rfl, rfl⟩ (fun w hS => (hS.take 0).facts [] [] [] noItem noItem noItem) (Or.inl rfl)

theorem c_impl_within (n_v : Int) (low : Int) (high : Int)  {r : Bool} (h : impl_within n_v low high = r) : CallOK Tryd.prog 80 [.int .i64 n_v, .int .i64 low, .int .i64 high] [] [gTab 3 pow10C, gNum 0, gErr 1, gErr 2] [] (fun v outs ros => v = .bool r ∧ outs = [] ∧ ros = []) := by
  refine fn_ok Tryd.func80 rfl Tryd.ntmps80 rfl (fun c hF0 => ?_)
  unfold impl_within at h
  refine g_sr ?_
  refine gl_batch 1 [(6, .bool false)] rfl ?_
  refine gl_nx ?_
  refine gl_batch 4 [(10, .bool (decide (n_v ≥ low))), (9, .bool (decide (n_v ≥ low))), (8, .int .i64 low), (7, .int .i64 n_v)] rfl ?_
  refine gl_join (EE := [(14, .bool ((decide (n_v ≥ low)) && (decide (n_v ≤ high))))]) (RR := []) (XX := [gTab 3 pow10C, gNum 0, gErr 1, gErr 2]) (OO := []) (VV := []) 4 ?_ ?_
  · skip
    refine gl_case 10 rfl (fun hc => ?_) (fun hc => ?_)
    · skip
      refine gl_batch 4 [(14, .bool (decide (n_v ≤ high))), (13, .bool (decide (n_v ≤ high))), (12, .int .i64 high), (11, .int .i64 n_v)] rfl ?_
      refine gl_nil ?_
      exact gx_mid ⟨congrArg (fun z => some (Value.bool z)) (and_t hc).symm, trivial⟩ (fun w hS => hS)
    · skip
      refine gl_batch 4 [(14, .bool false), (13, undef), (12, undef), (11, undef)] rfl ?_
      refine gl_nil ?_
      exact gx_mid ⟨congrArg (fun z => some (Value.bool z)) (and_f hc).symm, trivial⟩ (fun w hS => hS)
  · skip
    refine gl_batch 1 [(6, .bool ((decide (n_v ≥ low)) && (decide (n_v ≤ high))))] rfl ?_
    refine gl_ns ?_
    refine g_ret ?_
    subst h
    exact gx_fin rfl [.bool ((decide (n_v ≥ low)) && (decide (n_v ≤ high)))] _ _ [] ⟨_, _, rfl, rfl, rfl⟩ rfl ⟨rfl, rfl, rfl⟩ (fun w hS => (hS.take 0).facts [] [] [] noItem noItem noItem) (Or.inl rfl)

theorem c_impl_isEvent (g : EventGraph) (event : Int) (a_g_Places : Option Addr) (c_g_Places : Nat) {r : Bool} (h : impl_isEvent g event = r) : CallOK Tryd.prog 104 [.agg #[.int .i64 g.Events, .slice a_g_Places (List.length g.Places) c_g_Places], .int .i64 event] [] [gTab 3 pow10C, gNum 0, gErr 1, gErr 2] [SL false 31 PlaceS a_g_Places c_g_Places g.Places] (fun v outs ros => v = .bool r ∧ outs = [] ∧ ros = []) := by
  refine fn_ok Tryd.func104 rfl Tryd.ntmps104 rfl (fun c hF0 => ?_)
  unfold impl_isEvent at h
  refine g_sr ?_
  refine gl_new (d := 2) (T := 54) [.int .i64 g.Events, .slice a_g_Places (List.length g.Places) c_g_Places] rfl rfl (fun _ => rfl) (fun w => by kernel_rfl) ?_
  intro b1
  refine gl_batch 1 [(4, .bool false)] rfl ?_
  refine gl_nx ?_
  refine gl_batch 1 [(5, .int .i64 event)] rfl ?_
  refine gl_run (v := .pointer (some ⟨b1, 0, none⟩)) rfl rfl rfl (fun w => by kernel_rfl) ?_
  refine gl_ld1 0 hasBK (mem_at 0 rfl) rfl rfl Fo2 rfl rfl rfl ?_
  refine gl_batch 1 [(8, .int .i64 (IntKind.i64.wrap (g.Events - 1)))] rfl ?_
  refine gl_call rfl rfl (fun w => by kernel_rfl) (c_impl_within event 0 (IntKind.i64.wrap (g.Events - 1)) rfl) (consItem (mem_at 0 rfl) (consItem (mem_at 1 rfl) (consItem (mem_at 2 rfl) (consItem (mem_at 3 rfl) noItem)))) noItem ?_
  rintro v outs ros ⟨rfl, rfl, rfl⟩
  refine ⟨_, rfl, ?_⟩
  refine gl_batch 1 [(4, .bool (impl_within event 0 (IntKind.i64.wrap (g.Events - 1))))] rfl ?_
  refine gl_ns ?_
  refine g_ret ?_
  subst h
  exact gx_fin rfl [.bool (impl_within event 0 (IntKind.i64.wrap (g.Events - 1)))] _ _ [] ⟨_, _, rfl, rfl, rfl⟩ rfl ⟨rfl, rfl, rfl⟩ (fun w hS => (hS.take 0).facts [] [] [] noItem noItem noItem) (Or.inl rfl)

theorem c_impl_isPlace (g : EventGraph) (p : Place) (a_g_Places : Option Addr) (c_g_Places : Nat) {r : Bool} (h : impl_isPlace g p = r) : CallOK Tryd.prog 83 [.agg #[.int .i64 g.Events, .slice a_g_Places (List.length g.Places) c_g_Places], .agg #[.int .i64 p.From, .int .i64 p.To, .int .i64 p.Delay, .int .i64 p.Tokens]] [] [gTab 3 pow10C, gNum 0, gErr 1, gErr 2] [SL false 31 PlaceS a_g_Places c_g_Places g.Places] (fun v outs ros => v = .bool r ∧ outs = [] ∧ ros = []) := by
  refine fn_ok Tryd.func83 rfl Tryd.ntmps83 rfl (fun c hF0 => ?_)
  unfold impl_isPlace at h
  refine g_sr ?_
  refine gl_new (d := 2) (T := 54) [.int .i64 g.Events, .slice a_g_Places (List.length g.Places) c_g_Places] rfl rfl (fun _ => rfl) (fun w => by kernel_rfl) ?_
  intro b1
  refine gl_new (d := 3) (T := 31) [.int .i64 p.From, .int .i64 p.To, .int .i64 p.Delay, .int .i64 p.Tokens] rfl rfl (fun _ => rfl) (fun w => by kernel_rfl) ?_
  intro b2
  refine gl_batch 1 [(4, .bool false)] rfl ?_
  refine gl_nx ?_
  refine gl_ldA (vs := [.int .i64 g.Events, .slice a_g_Places (List.length g.Places) c_g_Places]) 0 hasBK (mem_at 1 rfl) rfl rfl Fm54 Fz54 rfl rfl rfl ?_
  refine gl_run (v := .pointer (some ⟨b2, 0, none⟩)) rfl rfl rfl (fun w => by kernel_rfl) ?_
  refine gl_ld1 0 hasBK (mem_at 0 rfl) rfl rfl Fo2 rfl rfl rfl ?_
  refine gl_call rfl rfl (fun w => by kernel_rfl) (c_impl_isEvent g p.From a_g_Places c_g_Places rfl) (consItem (mem_at 0 rfl) (consItem (mem_at 1 rfl) (consItem (mem_at 2 rfl) (consItem (mem_at 3 rfl) noItem)))) (consItem (mem_at 2 rfl) noItem) ?_
  rintro v outs ros ⟨rfl, rfl, rfl⟩
  refine ⟨_, rfl, ?_⟩
  refine gl_batch 1 [(9, .bool (impl_isEvent g p.From))] rfl ?_
  refine gl_join (EE := [(14, .bool ((impl_isEvent g p.From) && (impl_isEvent g p.To))), (3, .pointer (some ⟨b2, 0, none⟩))]) (RR := [BK 31 b2 [.int .i64 p.From, .int .i64 p.To, .int .i64 p.Delay, .int .i64 p.Tokens], BK 54 b1 [.int .i64 g.Events, .slice a_g_Places (List.length g.Places) c_g_Places]]) (XX := [gTab 3 pow10C, gNum 0, gErr 1, gErr 2]) (OO := [SL false 31 PlaceS a_g_Places c_g_Places g.Places]) (VV := []) 5 ?_ ?_
  · skip
    refine gl_case 9 rfl (fun hc => ?_) (fun hc => ?_)
    · skip
      refine gl_ldA (vs := [.int .i64 g.Events, .slice a_g_Places (List.length g.Places) c_g_Places]) 0 hasBK (mem_at 1 rfl) rfl rfl Fm54 Fz54 rfl rfl rfl ?_
      refine gl_run (v := .pointer (some ⟨b2, 1, none⟩)) rfl rfl rfl (fun w => by kernel_rfl) ?_
      refine gl_ld1 1 hasBK (mem_at 0 rfl) rfl rfl Fo2 rfl rfl rfl ?_
      refine gl_call rfl rfl (fun w => by kernel_rfl) (c_impl_isEvent g p.To a_g_Places c_g_Places rfl) (consItem (mem_at 0 rfl) (consItem (mem_at 1 rfl) (consItem (mem_at 2 rfl) (consItem (mem_at 3 rfl) noItem)))) (consItem (mem_at 2 rfl) noItem) ?_
      rintro v outs ros ⟨rfl, rfl, rfl⟩
      refine ⟨_, rfl, ?_⟩
      refine gl_batch 1 [(14, .bool (impl_isEvent g p.To))] rfl ?_
      refine gl_nil ?_
      exact gx_mid ⟨congrArg (fun z => some (Value.bool z)) (and_t hc).symm, rfl, trivial⟩ (fun w hS => hS)
    · skip
      refine gl_batch 5 [(14, .bool false), (13, undef), (12, undef), (11, undef), (10, undef)] rfl ?_
      refine gl_nil ?_
      exact gx_mid ⟨congrArg (fun z => some (Value.bool z)) (and_f hc).symm, rfl, trivial⟩ (fun w hS => hS)
  · skip
    refine gl_batch 1 [(15, .bool ((impl_isEvent g p.From) && (impl_isEvent g p.To)))] rfl ?_
    refine gl_join (EE := [(19, .bool (((impl_isEvent g p.From) && (impl_isEvent g p.To)) && (impl_within p.Delay 0 1000))), (3, .pointer (some ⟨b2, 0, none⟩))]) (RR := [BK 31 b2 [.int .i64 p.From, .int .i64 p.To, .int .i64 p.Delay, .int .i64 p.Tokens], BK 54 b1 [.int .i64 g.Events, .slice a_g_Places (List.length g.Places) c_g_Places]]) (XX := [gTab 3 pow10C, gNum 0, gErr 1, gErr 2]) (OO := [SL false 31 PlaceS a_g_Places c_g_Places g.Places]) (VV := []) 4 ?_ ?_
    · skip
      refine gl_case 15 rfl (fun hc => ?_) (fun hc => ?_)
      · skip
        refine gl_run (v := .pointer (some ⟨b2, 2, none⟩)) rfl rfl rfl (fun w => by kernel_rfl) ?_
        refine gl_ld1 2 hasBK (mem_at 0 rfl) rfl rfl Fo2 rfl rfl rfl ?_
        refine gl_call rfl rfl (fun w => by kernel_rfl) (c_impl_within p.Delay 0 1000 rfl) (consItem (mem_at 0 rfl) (consItem (mem_at 1 rfl) (consItem (mem_at 2 rfl) (consItem (mem_at 3 rfl) noItem)))) noItem ?_
        rintro v outs ros ⟨rfl, rfl, rfl⟩
        refine ⟨_, rfl, ?_⟩
        refine gl_batch 1 [(19, .bool (impl_within p.Delay 0 1000))] rfl ?_
        refine gl_nil ?_
        exact gx_mid ⟨congrArg (fun z => some (Value.bool z)) (and_t hc).symm, rfl, trivial⟩ (fun w hS => hS)
      · skip
        refine gl_batch 4 [(19, .bool false), (18, undef), (17, undef), (16, undef)] rfl ?_
        refine gl_nil ?_
        exact gx_mid ⟨congrArg (fun z => some (Value.bool z)) (and_f hc).symm, rfl, trivial⟩ (fun w hS => hS)
    · skip
      refine gl_batch 1 [(20, .bool (((impl_isEvent g p.From) && (impl_isEvent g p.To)) && (impl_within p.Delay 0 1000)))] rfl ?_
      refine gl_join (EE := [(24, .bool ((((impl_isEvent g p.From) && (impl_isEvent g p.To)) && (impl_within p.Delay 0 1000)) && (impl_within p.Tokens 0 5)))]) (RR := [BK 31 b2 [.int .i64 p.From, .int .i64 p.To, .int .i64 p.Delay, .int .i64 p.Tokens], BK 54 b1 [.int .i64 g.Events, .slice a_g_Places (List.length g.Places) c_g_Places]]) (XX := [gTab 3 pow10C, gNum 0, gErr 1, gErr 2]) (OO := [SL false 31 PlaceS a_g_Places c_g_Places g.Places]) (VV := []) 4 ?_ ?_
      · skip
        refine gl_case 20 rfl (fun hc => ?_) (fun hc => ?_)
        · skip
          refine gl_run (v := .pointer (some ⟨b2, 3, none⟩)) rfl rfl rfl (fun w => by kernel_rfl) ?_
          refine gl_ld1 3 hasBK (mem_at 0 rfl) rfl rfl Fo2 rfl rfl rfl ?_
          refine gl_call rfl rfl (fun w => by kernel_rfl) (c_impl_within p.Tokens 0 5 rfl) (consItem (mem_at 0 rfl) (consItem (mem_at 1 rfl) (consItem (mem_at 2 rfl) (consItem (mem_at 3 rfl) noItem)))) noItem ?_
          rintro v outs ros ⟨rfl, rfl, rfl⟩
          refine ⟨_, rfl, ?_⟩
          refine gl_batch 1 [(24, .bool (impl_within p.Tokens 0 5))] rfl ?_
          refine gl_nil ?_
          exact gx_mid ⟨congrArg (fun z => some (Value.bool z)) (and_t hc).symm, trivial⟩ (fun w hS => hS)
        · skip
          refine gl_batch 4 [(24, .bool false), (23, undef), (22, undef), (21, undef)] rfl ?_
          refine gl_nil ?_
          exact gx_mid ⟨congrArg (fun z => some (Value.bool z)) (and_f hc).symm, trivial⟩ (fun w hS => hS)
      · skip
        refine gl_batch 1 [(4, .bool ((((impl_isEvent g p.From) && (impl_isEvent g p.To)) && (impl_within p.Delay 0 1000)) && (impl_within p.Tokens 0 5)))] rfl ?_
        refine gl_ns ?_
        refine g_ret ?_
        subst h
        exact gx_fin rfl [.bool ((((impl_isEvent g p.From) && (impl_isEvent g p.To)) && (impl_within p.Delay 0 1000)) && (impl_within p.Tokens 0 5))] _ _ [] ⟨_, _, rfl, rfl, rfl⟩ rfl ⟨rfl, rfl, rfl⟩ (fun w hS => (hS.take 0).facts [] [] [] noItem noItem noItem) (Or.inl rfl)

theorem c_laws_eqPlace (a_v : Place) (b : Place)  {r : Bool} (h : laws_eqPlace a_v b = r) : CallOK Tryd.prog 56 [.agg #[.int .i64 a_v.From, .int .i64 a_v.To, .int .i64 a_v.Delay, .int .i64 a_v.Tokens], .agg #[.int .i64 b.From, .int .i64 b.To, .int .i64 b.Delay, .int .i64 b.Tokens]] [] [gTab 3 pow10C, gNum 0, gErr 1, gErr 2] [] (fun v outs ros => v = .bool r ∧ outs = [] ∧ ros = []) := by
  refine fn_ok Tryd.func56 rfl Tryd.ntmps56 rfl (fun c hF0 => ?_)
  unfold laws_eqPlace at h
  refine g_sr ?_
  refine gl_new (d := 2) (T := 31) [.int .i64 a_v.From, .int .i64 a_v.To, .int .i64 a_v.Delay, .int .i64 a_v.Tokens] rfl rfl (fun _ => rfl) (fun w => by kernel_rfl) ?_
  intro b1
  refine gl_new (d := 3) (T := 31) [.int .i64 b.From, .int .i64 b.To, .int .i64 b.Delay, .int .i64 b.Tokens] rfl rfl (fun _ => rfl) (fun w => by kernel_rfl) ?_
  intro b2
  refine gl_batch 1 [(4, .bool false)] rfl ?_
  refine gl_ns ?_
  refine g_seq ?_
  refine g_sr ?_
  refine gl_run (v := .pointer (some ⟨b1, 0, none⟩)) rfl rfl rfl (fun w => by kernel_rfl) ?_
  refine gl_ld1 0 hasBK (mem_at 1 rfl) rfl rfl Fo2 rfl rfl rfl ?_
  refine gl_run (v := .pointer (some ⟨b2, 0, none⟩)) rfl rfl rfl (fun w => by kernel_rfl) ?_
  refine gl_ld1 0 hasBK (mem_at 0 rfl) rfl rfl Fo2 rfl rfl rfl ?_
  refine gl_batch 1 [(9, .bool (a_v.From != b.From))] rfl ?_
  refine gl_ns ?_
  refine g_cond (b := a_v.From != b.From) rfl (fun hc => ?_) (fun hc => ?_)
  · replace h := condTt hc h
    refine g_sr ?_
    refine gl_batch 1 [(4, .bool false)] rfl ?_
    refine gl_ns ?_
    refine g_ret ?_
    refine gx_seq_ret ?_
    subst h
    exact gx_fin rfl [.bool false] _ _ [] ⟨_, _, rfl, rfl, rfl⟩ rfl ⟨rfl, rfl, rfl⟩ (fun w hS => (hS.take 0).facts [] [] [] noItem noItem noItem) (Or.inl rfl)
  · replace h := condFt hc h
    refine g_skip ?_
    refine gx_seq ?_
    refine g_seq ?_
    refine g_sr ?_
    refine gl_run (v := .pointer (some ⟨b1, 1, none⟩)) rfl rfl rfl (fun w => by kernel_rfl) ?_
    refine gl_ld1 1 hasBK (mem_at 1 rfl) rfl rfl Fo2 rfl rfl rfl ?_
    refine gl_run (v := .pointer (some ⟨b2, 1, none⟩)) rfl rfl rfl (fun w => by kernel_rfl) ?_
    refine gl_ld1 1 hasBK (mem_at 0 rfl) rfl rfl Fo2 rfl rfl rfl ?_
    refine gl_batch 1 [(14, .bool (a_v.To != b.To))] rfl ?_
    refine gl_ns ?_
    refine g_cond (b := a_v.To != b.To) rfl (fun hc => ?_) (fun hc => ?_)
    · replace h := condTt hc h
      refine g_sr ?_
      refine gl_batch 1 [(4, .bool false)] rfl ?_
      refine gl_ns ?_
      refine g_ret ?_
      refine gx_seq_ret ?_
      subst h
      exact gx_fin rfl [.bool false] _ _ [] ⟨_, _, rfl, rfl, rfl⟩ rfl ⟨rfl, rfl, rfl⟩ (fun w hS => (hS.take 0).facts [] [] [] noItem noItem noItem) (Or.inl rfl)
    · replace h := condFt hc h
      refine g_skip ?_
      refine gx_seq ?_
      refine g_seq ?_
      refine g_sr ?_
      refine gl_run (v := .pointer (some ⟨b1, 2, none⟩)) rfl rfl rfl (fun w => by kernel_rfl) ?_
      refine gl_ld1 2 hasBK (mem_at 1 rfl) rfl rfl Fo2 rfl rfl rfl ?_
      refine gl_run (v := .pointer (some ⟨b2, 2, none⟩)) rfl rfl rfl (fun w => by kernel_rfl) ?_
      refine gl_ld1 2 hasBK (mem_at 0 rfl) rfl rfl Fo2 rfl rfl rfl ?_
      refine gl_batch 1 [(19, .bool (a_v.Delay != b.Delay))] rfl ?_
      refine gl_ns ?_
      refine g_cond (b := a_v.Delay != b.Delay) rfl (fun hc => ?_) (fun hc => ?_)
      · replace h := condTt hc h
        refine g_sr ?_
        refine gl_batch 1 [(4, .bool false)] rfl ?_
        refine gl_ns ?_
        refine g_ret ?_
        refine gx_seq_ret ?_
        subst h
        exact gx_fin rfl [.bool false] _ _ [] ⟨_, _, rfl, rfl, rfl⟩ rfl ⟨rfl, rfl, rfl⟩ (fun w hS => (hS.take 0).facts [] [] [] noItem noItem noItem) (Or.inl rfl)
      · replace h := condFt hc h
        refine g_skip ?_
        refine gx_seq ?_
        refine g_seq ?_
        refine g_sr ?_
        refine gl_run (v := .pointer (some ⟨b1, 3, none⟩)) rfl rfl rfl (fun w => by kernel_rfl) ?_
        refine gl_ld1 3 hasBK (mem_at 1 rfl) rfl rfl Fo2 rfl rfl rfl ?_
        refine gl_run (v := .pointer (some ⟨b2, 3, none⟩)) rfl rfl rfl (fun w => by kernel_rfl) ?_
        refine gl_ld1 3 hasBK (mem_at 0 rfl) rfl rfl Fo2 rfl rfl rfl ?_
        refine gl_batch 1 [(24, .bool (a_v.Tokens != b.Tokens))] rfl ?_
        refine gl_ns ?_
        refine g_cond (b := a_v.Tokens != b.Tokens) rfl (fun hc => ?_) (fun hc => ?_)
        · replace h := condTt hc h
          refine g_sr ?_
          refine gl_batch 1 [(4, .bool false)] rfl ?_
          refine gl_ns ?_
          refine g_ret ?_
          refine gx_seq_ret ?_
          subst h
          exact gx_fin rfl [.bool false] _ _ [] ⟨_, _, rfl, rfl, rfl⟩ rfl ⟨rfl, rfl, rfl⟩ (fun w hS => (hS.take 0).facts [] [] [] noItem noItem noItem) (Or.inl rfl)
        · replace h := condFt hc h
          refine g_skip ?_
          refine gx_seq ?_
          refine g_sr ?_
          refine gl_batch 1 [(4, .bool true)] rfl ?_
          refine gl_ns ?_
          refine g_ret ?_
          subst h
          exact gx_fin rfl [.bool true] _ _ [] ⟨_, _, rfl, rfl, rfl⟩ rfl ⟨rfl, rfl, rfl⟩ (fun w hS => (hS.take 0).facts [] [] [] noItem noItem noItem) (Or.inl rfl)

theorem c_laws_eqEdit (a_v : Edit) (b : Edit)  {r : Bool} (h : laws_eqEdit a_v b = r) : CallOK Tryd.prog 17 [.agg #[.int .i64 a_v.Kind, .int .i64 a_v.Index, .int .i64 a_v.Place.From, .int .i64 a_v.Place.To, .int .i64 a_v.Place.Delay, .int .i64 a_v.Place.Tokens], .agg #[.int .i64 b.Kind, .int .i64 b.Index, .int .i64 b.Place.From, .int .i64 b.Place.To, .int .i64 b.Place.Delay, .int .i64 b.Place.Tokens]] [] [gTab 3 pow10C, gNum 0, gErr 1, gErr 2] [] (fun v outs ros => v = .bool r ∧ outs = [] ∧ ros = []) := by
  refine fn_ok Tryd.func17 rfl Tryd.ntmps17 rfl (fun c hF0 => ?_)
  unfold laws_eqEdit at h
  refine g_sr ?_
  refine gl_new (d := 2) (T := 33) [.int .i64 a_v.Kind, .int .i64 a_v.Index, .int .i64 a_v.Place.From, .int .i64 a_v.Place.To, .int .i64 a_v.Place.Delay, .int .i64 a_v.Place.Tokens] rfl rfl (fun _ => rfl) (fun w => by kernel_rfl) ?_
  intro b1
  refine gl_new (d := 3) (T := 33) [.int .i64 b.Kind, .int .i64 b.Index, .int .i64 b.Place.From, .int .i64 b.Place.To, .int .i64 b.Place.Delay, .int .i64 b.Place.Tokens] rfl rfl (fun _ => rfl) (fun w => by kernel_rfl) ?_
  intro b2
  refine gl_batch 1 [(4, .bool false)] rfl ?_
  refine gl_ns ?_
  refine g_seq ?_
  refine g_sr ?_
  refine gl_run (v := .pointer (some ⟨b1, 0, none⟩)) rfl rfl rfl (fun w => by kernel_rfl) ?_
  refine gl_ld1 0 hasBK (mem_at 1 rfl) rfl rfl Fo2 rfl rfl rfl ?_
  refine gl_run (v := .pointer (some ⟨b2, 0, none⟩)) rfl rfl rfl (fun w => by kernel_rfl) ?_
  refine gl_ld1 0 hasBK (mem_at 0 rfl) rfl rfl Fo2 rfl rfl rfl ?_
  refine gl_batch 1 [(9, .bool (a_v.Kind != b.Kind))] rfl ?_
  refine gl_ns ?_
  refine g_cond (b := a_v.Kind != b.Kind) rfl (fun hc => ?_) (fun hc => ?_)
  · replace h := condTt hc h
    refine g_sr ?_
    refine gl_batch 1 [(4, .bool false)] rfl ?_
    refine gl_ns ?_
    refine g_ret ?_
    refine gx_seq_ret ?_
    subst h
    exact gx_fin rfl [.bool false] _ _ [] ⟨_, _, rfl, rfl, rfl⟩ rfl ⟨rfl, rfl, rfl⟩ (fun w hS => (hS.take 0).facts [] [] [] noItem noItem noItem) (Or.inl rfl)
  · replace h := condFt hc h
    refine g_skip ?_
    refine gx_seq ?_
    refine g_seq ?_
    refine g_sr ?_
    refine gl_run (v := .pointer (some ⟨b1, 1, none⟩)) rfl rfl rfl (fun w => by kernel_rfl) ?_
    refine gl_ld1 1 hasBK (mem_at 1 rfl) rfl rfl Fo2 rfl rfl rfl ?_
    refine gl_run (v := .pointer (some ⟨b2, 1, none⟩)) rfl rfl rfl (fun w => by kernel_rfl) ?_
    refine gl_ld1 1 hasBK (mem_at 0 rfl) rfl rfl Fo2 rfl rfl rfl ?_
    refine gl_batch 1 [(14, .bool (a_v.Index != b.Index))] rfl ?_
    refine gl_ns ?_
    refine g_cond (b := a_v.Index != b.Index) rfl (fun hc => ?_) (fun hc => ?_)
    · replace h := condTt hc h
      refine g_sr ?_
      refine gl_batch 1 [(4, .bool false)] rfl ?_
      refine gl_ns ?_
      refine g_ret ?_
      refine gx_seq_ret ?_
      subst h
      exact gx_fin rfl [.bool false] _ _ [] ⟨_, _, rfl, rfl, rfl⟩ rfl ⟨rfl, rfl, rfl⟩ (fun w hS => (hS.take 0).facts [] [] [] noItem noItem noItem) (Or.inl rfl)
    · replace h := condFt hc h
      refine g_skip ?_
      refine gx_seq ?_
      refine g_seq ?_
      refine g_sr ?_
      refine gl_run (v := .pointer (some ⟨b1, 2, none⟩)) rfl rfl rfl (fun w => by kernel_rfl) ?_
      refine gl_ldA (vs := [.int .i64 a_v.Place.From, .int .i64 a_v.Place.To, .int .i64 a_v.Place.Delay, .int .i64 a_v.Place.Tokens]) 2 hasBK (mem_at 1 rfl) rfl rfl Fm31 Fz31 rfl rfl rfl ?_
      refine gl_run (v := .pointer (some ⟨b2, 2, none⟩)) rfl rfl rfl (fun w => by kernel_rfl) ?_
      refine gl_ldA (vs := [.int .i64 b.Place.From, .int .i64 b.Place.To, .int .i64 b.Place.Delay, .int .i64 b.Place.Tokens]) 2 hasBK (mem_at 0 rfl) rfl rfl Fm31 Fz31 rfl rfl rfl ?_
      refine gl_call rfl rfl (fun w => by kernel_rfl) (c_laws_eqPlace a_v.Place b.Place rfl) (consItem (mem_at 0 rfl) (consItem (mem_at 1 rfl) (consItem (mem_at 2 rfl) (consItem (mem_at 3 rfl) noItem)))) noItem ?_
      rintro v outs ros ⟨rfl, rfl, rfl⟩
      refine ⟨_, rfl, ?_⟩
      refine gl_batch 1 [(20, .bool (!(laws_eqPlace a_v.Place b.Place)))] rfl ?_
      refine gl_ns ?_
      refine g_cond (b := !(laws_eqPlace a_v.Place b.Place)) rfl (fun hc => ?_) (fun hc => ?_)
      · replace h := condTt hc h
        refine g_sr ?_
        refine gl_batch 1 [(4, .bool false)] rfl ?_
        refine gl_ns ?_
        refine g_ret ?_
        refine gx_seq_ret ?_
        subst h
        exact gx_fin rfl [.bool false] _ _ [] ⟨_, _, rfl, rfl, rfl⟩ rfl ⟨rfl, rfl, rfl⟩ (fun w hS => (hS.take 0).facts [] [] [] noItem noItem noItem) (Or.inl rfl)
      · replace h := condFt hc h
        refine g_skip ?_
        refine gx_seq ?_
        refine g_sr ?_
        refine gl_batch 1 [(4, .bool true)] rfl ?_
        refine gl_ns ?_
        refine g_ret ?_
        subst h
        exact gx_fin rfl [.bool true] _ _ [] ⟨_, _, rfl, rfl, rfl⟩ rfl ⟨rfl, rfl, rfl⟩ (fun w hS => (hS.take 0).facts [] [] [] noItem noItem noItem) (Or.inl rfl)

end Go.Proofs.YtneifoepoccjaaaDoor
