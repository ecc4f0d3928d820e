/-
  What each function gives when it is called: the contracts, each with the walk through its code. Written by a program of ours.
-/
import Derived.Test.YtneifoepoccjaaaGreatDoorC20
import Derived.Test.YtneifoepoccjaaaGreatDoorC2a
import Derived.Test.YtneifoepoccjaaaGreatDoorC2b
namespace Go.Proofs.YtneifoepoccjaaaGreatDoor
open Go Go.Proofs Go.Shelf
set_option maxHeartbeats 16000000
theorem c_spec_l11Draw (s : Src) (b_s : Nat) (a_s_code : Option Addr) (c_s_code : Nat) {r : EventGraph × Src} (h : spec_l11Draw s = some r) : CallOK Tryz.prog 81 [.pointer (some ⟨b_s, 0, none⟩)] [BK 89 b_s [.slice a_s_code (List.length s.code) c_s_code, .int .i64 s.at_v, .int .i64 s.seed]] [gTab 3 pow10C, gNum 0, gErr 1, gErr 2] [SL false 5 (intS .u8) a_s_code c_s_code s.code] (fun v outs ros => ∃ (a0 : Option Addr), ∃ (c0 : Nat), v = .agg #[.int .i64 r.1.Events, .slice a0 (List.length r.1.Places) c0] ∧ outs = [SL false 114 PlaceS a0 c0 r.1.Places, BK 89 b_s [.slice a_s_code (List.length s.code) c_s_code, .int .i64 r.2.at_v, .int .i64 r.2.seed]] ∧ ros = []) := by
  refine fn_ok Tryz.func81 rfl Tryz.ntmps81 rfl (fun c hF0 => ?_)
  unfold spec_l11Draw at h
  refine g_sr ?_
  refine gl_new (d := 2) (T := 49) [.int .i64 0, .slice none 0 0] rfl rfl (fun _ => rfl) (fun w => by kernel_rfl) ?_
  intro b1
  refine gl_nx ?_
  refine gl_batch 1 [(7, .pointer (some ⟨b_s, 0, none⟩))] rfl ?_
  obtain ⟨o2, ho2, h⟩ := bindS h
  refine gl_pick 1 rfl ?_
  refine gl_callR rfl rfl (fun w => by kernel_rfl) (c_spec_l01Next s 5 b_s a_s_code c_s_code ho2) rfl (consItem (mem_at 0 rfl) (consItem (mem_at 1 rfl) (consItem (mem_at 2 rfl) (consItem (mem_at 3 rfl) noItem)))) (consItem (mem_at 1 rfl) noItem) ?_
  rintro v outs ros ⟨rfl, rfl, rfl⟩
  refine ⟨_, rfl, ?_⟩
  refine gl_batch 1 [(9, .int .i64 (IntKind.i64.wrap (1 + o2.1)))] rfl ?_
  refine gl_lit (m := 4) (d := 10) (T := 114) (enc := PlaceE) (hn := fun _ => rfl) false ([] : List Place) rfl rfl (fun _ => rfl) nofun (Nat.le_of_ble_eq_true rfl) (fun w => by kernel_rfl) ?_
  intro a_v3 c_v4
  refine gl_run (v := .agg #[.int .i64 (IntKind.i64.wrap (1 + o2.1)), .slice a_v3 (List.length ([] : List Place)) c_v4]) rfl rfl rfl (fun w => by kernel_rfl) ?_
  refine gl_new (d := 3) (T := 49) [.int .i64 0, .slice none 0 0] rfl rfl (fun _ => rfl) (fun w => by kernel_rfl) ?_
  intro b5
  refine gl_stB (cells' := [.int .i64 (IntKind.i64.wrap (1 + o2.1)), .slice a_v3 (List.length ([] : List Place)) c_v4]) 0 [.int .i64 (IntKind.i64.wrap (1 + o2.1)), .slice a_v3 (List.length ([] : List Place)) c_v4] rfl rfl rfl Fz49 rfl rfl rfl rfl ?_
  refine gl_ns ?_
  refine g_seq ?_
  refine g_sr ?_
  refine gl_batch 1 [(12, .pointer (some ⟨b_s, 0, none⟩))] rfl ?_
  obtain ⟨o6, ho6, h⟩ := bindS h
  refine gl_pick 2 rfl ?_
  refine gl_callR rfl rfl (fun w => by kernel_rfl) (c_spec_l01Next (⟨s.code, o2.2.at_v, o2.2.seed⟩ : Src) 9 b_s a_s_code c_s_code ho6) rfl (consItem (mem_at 0 rfl) (consItem (mem_at 1 rfl) (consItem (mem_at 2 rfl) (consItem (mem_at 3 rfl) noItem)))) (consItem (mem_at 3 rfl) noItem) ?_
  rintro v outs ros ⟨rfl, rfl, rfl⟩
  refine ⟨_, rfl, ?_⟩
  refine gl_batch 1 [(4, .int .i64 o6.1)] rfl ?_
  refine gl_ns ?_
  refine g_block ?_
  obtain ⟨o7, ho7, h⟩ := bindS h
  refine g_loop (spec_l11Draw_L1 s o2) (fun (ss_ : Int × Int × (List Place) × Int) a w => ∃ (a_ss__r3 : Option Addr), ∃ (c_ss__r3 : Nat), Env a 108 [(0, .pointer (some ⟨b_s, 0, none⟩)), (2, .pointer (some ⟨b1, 0, none⟩)), (3, .pointer (some ⟨b5, 0, none⟩)), (4, .int .i64 ss_.2.2.2)] ∧ St c w [BK 89 b_s [.slice a_s_code (List.length s.code) c_s_code, .int .i64 ss_.1, .int .i64 ss_.2.1], BK 49 b1 [.int .i64 0, .slice none 0 0], BK 49 b5 [.int .i64 (IntKind.i64.wrap (1 + o2.1)), .slice a_ss__r3 (List.length ss_.2.2.1) c_ss__r3], SL false 114 PlaceS a_ss__r3 c_ss__r3 ss_.2.2.1] [gTab 3 pow10C, gNum 0, gErr 1, gErr 2] [SL false 5 (intS .u8) a_s_code c_s_code s.code] []) ((fun (ss_ : Int × Int × (List Place)) e a w => e = (.exit 0) ∧ ∃ (a_ss__r3 : Option Addr), ∃ (c_ss__r3 : Nat), Env a 108 [(0, .pointer (some ⟨b_s, 0, none⟩)), (2, .pointer (some ⟨b1, 0, none⟩)), (3, .pointer (some ⟨b5, 0, none⟩))] ∧ St c w [BK 89 b_s [.slice a_s_code (List.length s.code) c_s_code, .int .i64 ss_.1, .int .i64 ss_.2.1], BK 49 b1 [.int .i64 0, .slice none 0 0], BK 49 b5 [.int .i64 (IntKind.i64.wrap (1 + o2.1)), .slice a_ss__r3 (List.length ss_.2.2) c_ss__r3], SL false 114 PlaceS a_ss__r3 c_ss__r3 ss_.2.2] [gTab 3 pow10C, gNum 0, gErr 1, gErr 2] [SL false 5 (intS .u8) a_s_code c_s_code s.code] []) : (Int × Int × (List Place)) → Exit → Act → World → Prop) ho7 ?_ ?_ ?_
  · exact fun a w hE hS => ⟨a_v3, c_v4, hE.sub ⟨rfl, rfl, rfl, rfl, trivial⟩, (((((hS.pick 2 rfl).pick 2 rfl).pick 3 rfl).pick 3 rfl).take 4).facts _ _ [] (consItem (mem_at 0 rfl) (consItem (mem_at 1 rfl) (consItem (mem_at 2 rfl) (consItem (mem_at 3 rfl) noItem)))) (consItem (mem_at 0 rfl) noItem) noItem⟩
  · intro s8 o9 h a w hA
    obtain ⟨a_s8_r3, c_s8_r3, hE, hS⟩ := hA
    unfold spec_l11Draw_L1 at h
    refine g_enter hE hS ?_
    refine g_seq ?_
    refine g_sr ?_
    refine gl_batch 2 [(15, .bool (decide (s8.2.2.2 > 0))), (14, .int .i64 s8.2.2.2)] rfl ?_
    refine gl_ns ?_
    refine g_cond (b := decide (s8.2.2.2 > 0)) rfl (fun hc => ?_) (fun hc => ?_)
    · replace h := condT hc h
      refine g_skip ?_
      refine gx_seq ?_
      refine g_seq ?_
      refine g_block ?_
      refine g_seq ?_
      obtain ⟨o10, ho10, h⟩ := bindS h
      obtain ⟨o11, ho11, h⟩ := bindS h
      obtain ⟨o12, ho12, h⟩ := bindS h
      refine g_state (E' := [(0, .pointer (some ⟨b_s, 0, none⟩)), (2, .pointer (some ⟨b1, 0, none⟩)), (3, .pointer (some ⟨b5, 0, none⟩)), (4, .int .i64 s8.2.2.2)]) (Rs' := [BK 89 b_s [.slice a_s_code (List.length s.code) c_s_code, .int .i64 s8.1, .int .i64 s8.2.1]] ++ [BK 49 b1 [.int .i64 0, .slice none 0 0], BK 49 b5 [.int .i64 (IntKind.i64.wrap (1 + o2.1)), .slice a_s8_r3 (List.length s8.2.2.1) c_s8_r3], SL false 114 PlaceS a_s8_r3 c_s8_r3 s8.2.2.1]) (Xs' := [gTab 3 pow10C, gNum 0, gErr 1, gErr 2]) (Os' := [SL false 5 (intS .u8) a_s_code c_s_code s.code]) (Vs' := []) ⟨rfl, rfl, rfl, rfl, trivial⟩ (fun w hS => hS) ?_
      refine g_drawM (Rs := [BK 49 b1 [.int .i64 0, .slice none 0 0], BK 49 b5 [.int .i64 (IntKind.i64.wrap (1 + o2.1)), .slice a_s8_r3 (List.length s8.2.2.1) c_s8_r3], SL false 114 PlaceS a_s8_r3 c_s8_r3 s8.2.2.1]) 12 [[], [], [1], [0, 2], [], [], [5], [3, 4, 6], [], [3, 7, 8], [3, 7, 9], []] [[0], [3], [], [], [0], [3], [], [], [0], [], [], []] [.pointer (some ⟨b_s, 0, none⟩), .pointer (some ⟨b5, 0, none⟩), .int .i64 (IntKind.i64.wrap (1 + o2.1)), .int .i64 o10.1, .pointer (some ⟨b_s, 0, none⟩), .pointer (some ⟨b5, 0, none⟩), .int .i64 (IntKind.i64.wrap (1 + o2.1)), .int .i64 o11.1, .pointer (some ⟨b_s, 0, none⟩), .int .i64 o12.1, .agg #[.int .i64 o10.1, .int .i64 o11.1, .int .i64 o12.1, .int .i64 0], undef] [(11, ⟨[11], fun vals => ∃ (b13 : Nat), vals 11 = .pointer (some ⟨b13, 0, none⟩), fun vals => [BK 114 (ptB (vals 11)) [.int .i64 0, .int .i64 0, .int .i64 0, .int .i64 0]], fun _ => []⟩)] [3, 7, 9] (fun k _ => match k with | 0 => [BK 89 b_s [.slice a_s_code (List.length s.code) c_s_code, .int .i64 s8.1, .int .i64 s8.2.1]] | 1 => [BK 89 b_s [.slice a_s_code (List.length s.code) c_s_code, .int .i64 o10.2.at_v, .int .i64 o10.2.seed]] | 2 => [BK 89 b_s [.slice a_s_code (List.length s.code) c_s_code, .int .i64 o11.2.at_v, .int .i64 o11.2.seed]] | _ => [BK 89 b_s [.slice a_s_code (List.length s.code) c_s_code, .int .i64 o12.2.at_v, .int .i64 o12.2.seed]]) mixed rfl rfl ⟨⟨⟨⟨⟨⟨⟨⟨⟨⟨⟨⟨trivial, ?_⟩, ?_⟩, ?_⟩, ?_⟩, ?_⟩, ?_⟩, ?_⟩, ?_⟩, ?_⟩, ?_⟩, ?_⟩, ?_⟩ ?_
      · exact obl_pure rfl rfl rfl rfl rfl rfl rfl rfl
      · refine obl_in rfl rfl rfl rfl (fun R' O' => ?_)
        refine gl_run (v := .pointer (some ⟨b5, 0, none⟩)) rfl rfl rfl (fun w => by kernel_rfl) ?_
        exact gl_dp rfl rfl rfl
      · refine obl_in rfl rfl rfl rfl (fun R' O' => ?_)
        refine gl_ld1 0 hasBK (memV (mem_at 1 rfl)) rfl rfl Fo2 rfl rfl rfl ?_
        exact gl_dp rfl rfl rfl
      · intro vals E' R' O' hD hR
        have h0 : vals 0 = .pointer (some ⟨b_s, 0, none⟩) := hD 0 (memN 0 rfl)
        have h2 : vals 2 = .int .i64 (IntKind.i64.wrap (1 + o2.1)) := hD 2 (memN 1 rfl)
        refine gl_convV (E2 := (18, .pointer (some ⟨b_s, 0, none⟩)) :: (20, .int .i64 (IntKind.i64.wrap (1 + o2.1))) :: ([] ++ E')) (V2 := [] ++ [BK 49 b1 [.int .i64 0, .slice none 0 0], BK 49 b5 [.int .i64 (IntKind.i64.wrap (1 + o2.1)), .slice a_s8_r3 (List.length s8.2.2.1) c_s8_r3], SL false 114 PlaceS a_s8_r3 c_s8_r3 s8.2.2.1]) (by show (18, vals 0) :: (20, vals 2) :: ([] ++ E') = _; rw [h0, h2]) (by show [] ++ [BK 49 b1 [.int .i64 0, .slice none 0 0], BK 49 b5 [.int .i64 (IntKind.i64.wrap (1 + o2.1)), .slice a_s8_r3 (List.length s8.2.2.1) c_s8_r3], SL false 114 PlaceS a_s8_r3 c_s8_r3 s8.2.2.1] = _; rfl) ?_
        refine gl_callR rfl rfl (fun w => by kernel_rfl) (c_spec_l01Next (⟨s.code, s8.1, s8.2.1⟩ : Src) (IntKind.i64.wrap (1 + o2.1)) b_s a_s_code c_s_code ho10) rfl (consItem (mem_at 0 rfl) (consItem (mem_at 1 rfl) (consItem (mem_at 2 rfl) (consItem (mem_at 3 rfl) noItem)))) (consItem (memRestO (A := []) (mem_at 0 rfl)) noItem) ?_
        rintro v outs ros ⟨rfl, rfl, rfl⟩
        refine ⟨_, rfl, ?_⟩
        refine gl_nil ?_
        exact gx_fp (.int .i64 o10.1) rfl rfl rfl rfl (fun _ h => h.sub (fun _ h => h) (st_oo (A := [])) (fun o ho => by cases ho))
      · exact obl_pure rfl rfl rfl rfl rfl rfl rfl rfl
      · refine obl_in rfl rfl rfl rfl (fun R' O' => ?_)
        refine gl_run (v := .pointer (some ⟨b5, 0, none⟩)) rfl rfl rfl (fun w => by kernel_rfl) ?_
        exact gl_dp rfl rfl rfl
      · refine obl_in rfl rfl rfl rfl (fun R' O' => ?_)
        refine gl_ld1 0 hasBK (memV (mem_at 1 rfl)) rfl rfl Fo2 rfl rfl rfl ?_
        exact gl_dp rfl rfl rfl
      · intro vals E' R' O' hD hR
        have h3 : vals 3 = .int .i64 o10.1 := hD 3 (memN 0 rfl)
        have h4 : vals 4 = .pointer (some ⟨b_s, 0, none⟩) := hD 4 (memN 1 rfl)
        have h6 : vals 6 = .int .i64 (IntKind.i64.wrap (1 + o2.1)) := hD 6 (memN 2 rfl)
        refine gl_convV (E2 := (21, .int .i64 o10.1) :: (22, .pointer (some ⟨b_s, 0, none⟩)) :: (24, .int .i64 (IntKind.i64.wrap (1 + o2.1))) :: ([] ++ E')) (V2 := [] ++ [BK 49 b1 [.int .i64 0, .slice none 0 0], BK 49 b5 [.int .i64 (IntKind.i64.wrap (1 + o2.1)), .slice a_s8_r3 (List.length s8.2.2.1) c_s8_r3], SL false 114 PlaceS a_s8_r3 c_s8_r3 s8.2.2.1]) (by show (21, vals 3) :: (22, vals 4) :: (24, vals 6) :: ([] ++ E') = _; rw [h3, h4, h6]) (by show [] ++ [BK 49 b1 [.int .i64 0, .slice none 0 0], BK 49 b5 [.int .i64 (IntKind.i64.wrap (1 + o2.1)), .slice a_s8_r3 (List.length s8.2.2.1) c_s8_r3], SL false 114 PlaceS a_s8_r3 c_s8_r3 s8.2.2.1] = _; rfl) ?_
        refine gl_callR rfl rfl (fun w => by kernel_rfl) (c_spec_l01Next (⟨s.code, o10.2.at_v, o10.2.seed⟩ : Src) (IntKind.i64.wrap (1 + o2.1)) b_s a_s_code c_s_code ho11) rfl (consItem (mem_at 0 rfl) (consItem (mem_at 1 rfl) (consItem (mem_at 2 rfl) (consItem (mem_at 3 rfl) noItem)))) (consItem (memRestO (A := []) (mem_at 0 rfl)) noItem) ?_
        rintro v outs ros ⟨rfl, rfl, rfl⟩
        refine ⟨_, rfl, ?_⟩
        refine gl_nil ?_
        exact gx_fp (.int .i64 o11.1) rfl rfl rfl rfl (fun _ h => h.sub (fun _ h => h) (st_oo (A := [])) (fun o ho => by cases ho))
      · exact obl_pure rfl rfl rfl rfl rfl rfl rfl rfl
      · intro vals E' R' O' hD hR
        have h3 : vals 3 = .int .i64 o10.1 := hD 3 (memN 0 rfl)
        have h7 : vals 7 = .int .i64 o11.1 := hD 7 (memN 1 rfl)
        have h8 : vals 8 = .pointer (some ⟨b_s, 0, none⟩) := hD 8 (memN 2 rfl)
        refine gl_convV (E2 := (21, .int .i64 o10.1) :: (25, .int .i64 o11.1) :: (26, .pointer (some ⟨b_s, 0, none⟩)) :: ([] ++ E')) (V2 := [] ++ [BK 49 b1 [.int .i64 0, .slice none 0 0], BK 49 b5 [.int .i64 (IntKind.i64.wrap (1 + o2.1)), .slice a_s8_r3 (List.length s8.2.2.1) c_s8_r3], SL false 114 PlaceS a_s8_r3 c_s8_r3 s8.2.2.1]) (by show (21, vals 3) :: (25, vals 7) :: (26, vals 8) :: ([] ++ E') = _; rw [h3, h7, h8]) (by show [] ++ [BK 49 b1 [.int .i64 0, .slice none 0 0], BK 49 b5 [.int .i64 (IntKind.i64.wrap (1 + o2.1)), .slice a_s8_r3 (List.length s8.2.2.1) c_s8_r3], SL false 114 PlaceS a_s8_r3 c_s8_r3 s8.2.2.1] = _; rfl) ?_
        refine gl_callR rfl rfl (fun w => by kernel_rfl) (c_spec_l01Next (⟨s.code, o11.2.at_v, o11.2.seed⟩ : Src) 12 b_s a_s_code c_s_code ho12) rfl (consItem (mem_at 0 rfl) (consItem (mem_at 1 rfl) (consItem (mem_at 2 rfl) (consItem (mem_at 3 rfl) noItem)))) (consItem (memRestO (A := []) (mem_at 0 rfl)) noItem) ?_
        rintro v outs ros ⟨rfl, rfl, rfl⟩
        refine ⟨_, rfl, ?_⟩
        refine gl_nil ?_
        exact gx_fp (.int .i64 o12.1) rfl rfl rfl rfl (fun _ h => h.sub (fun _ h => h) (st_oo (A := [])) (fun o ho => by cases ho))
      · refine obl_in rfl rfl rfl rfl (fun R' O' => ?_)
        refine gl_run (v := .agg #[.int .i64 o10.1, .int .i64 o11.1, .int .i64 o12.1, .int .i64 0]) rfl rfl rfl (fun w => by kernel_rfl) ?_
        exact gl_dp rfl rfl rfl
      · intro vals E' R' O' hD
        refine gl_new (d := 5) (T := 114) [.int .i64 0, .int .i64 0, .int .i64 0, .int .i64 0] rfl rfl (fun _ => rfl) (fun w => by kernel_rfl) ?_
        intro b13
        refine gl_nil ?_
        exact gx_fp (.pointer (some ⟨b13, 0, none⟩)) rfl rfl rfl ⟨b13, rfl⟩ (fun _ h => h.sub (fun _ h => h) (st_oo (A := [])) (fun o ho => by cases ho))
      · intro vals hv
        obtain ⟨⟨⟨⟨⟨⟨⟨⟨⟨⟨⟨⟨_, h0⟩, h1⟩, h2⟩, h3⟩, h4⟩, h5⟩, h6⟩, h7⟩, h8⟩, h9⟩, h10⟩, h11⟩ := hv
        have h0 : vals 0 = .pointer (some ⟨b_s, 0, none⟩) := h0
        have h1 : vals 1 = .pointer (some ⟨b5, 0, none⟩) := h1
        have h2 : vals 2 = .int .i64 (IntKind.i64.wrap (1 + o2.1)) := h2
        have h3 : vals 3 = .int .i64 o10.1 := h3
        have h4 : vals 4 = .pointer (some ⟨b_s, 0, none⟩) := h4
        have h5 : vals 5 = .pointer (some ⟨b5, 0, none⟩) := h5
        have h6 : vals 6 = .int .i64 (IntKind.i64.wrap (1 + o2.1)) := h6
        have h7 : vals 7 = .int .i64 o11.1 := h7
        have h8 : vals 8 = .pointer (some ⟨b_s, 0, none⟩) := h8
        have h9 : vals 9 = .int .i64 o12.1 := h9
        have h10 : vals 10 = .agg #[.int .i64 o10.1, .int .i64 o11.1, .int .i64 o12.1, .int .i64 0] := h10
        obtain ⟨b13, h11⟩ : ∃ (b13 : Nat), vals 11 = .pointer (some ⟨b13, 0, none⟩) := h11
        refine gl_conv (E2 := (18, .pointer (some ⟨b_s, 0, none⟩)) :: (19, .pointer (some ⟨b5, 0, none⟩)) :: (20, .int .i64 (IntKind.i64.wrap (1 + o2.1))) :: (21, .int .i64 o10.1) :: (22, .pointer (some ⟨b_s, 0, none⟩)) :: (23, .pointer (some ⟨b5, 0, none⟩)) :: (24, .int .i64 (IntKind.i64.wrap (1 + o2.1))) :: (25, .int .i64 o11.1) :: (26, .pointer (some ⟨b_s, 0, none⟩)) :: (27, .int .i64 o12.1) :: (28, .agg #[.int .i64 o10.1, .int .i64 o11.1, .int .i64 o12.1, .int .i64 0]) :: (5, .pointer (some ⟨b13, 0, none⟩)) :: [(0, .pointer (some ⟨b_s, 0, none⟩)), (2, .pointer (some ⟨b1, 0, none⟩)), (3, .pointer (some ⟨b5, 0, none⟩)), (4, .int .i64 s8.2.2.2)]) (R2 := [BK 89 b_s [.slice a_s_code (List.length s.code) c_s_code, .int .i64 o12.2.at_v, .int .i64 o12.2.seed]] ++ ([BK 114 b13 [.int .i64 0, .int .i64 0, .int .i64 0, .int .i64 0]] ++ [BK 49 b1 [.int .i64 0, .slice none 0 0], BK 49 b5 [.int .i64 (IntKind.i64.wrap (1 + o2.1)), .slice a_s8_r3 (List.length s8.2.2.1) c_s8_r3], SL false 114 PlaceS a_s8_r3 c_s8_r3 s8.2.2.1])) (O2 := [] ++ [SL false 5 (intS .u8) a_s_code c_s_code s.code]) (by show (18, vals 0) :: (19, vals 1) :: (20, vals 2) :: (21, vals 3) :: (22, vals 4) :: (23, vals 5) :: (24, vals 6) :: (25, vals 7) :: (26, vals 8) :: (27, vals 9) :: (28, vals 10) :: (5, vals 11) :: [(0, .pointer (some ⟨b_s, 0, none⟩)), (2, .pointer (some ⟨b1, 0, none⟩)), (3, .pointer (some ⟨b5, 0, none⟩)), (4, .int .i64 s8.2.2.2)] = _; rw [h0, h1, h2, h3, h4, h5, h6, h7, h8, h9, h10, h11]) (by show [BK 89 b_s [.slice a_s_code (List.length s.code) c_s_code, .int .i64 o12.2.at_v, .int .i64 o12.2.seed]] ++ ([BK 114 (ptB (vals 11)) [.int .i64 0, .int .i64 0, .int .i64 0, .int .i64 0]] ++ [BK 49 b1 [.int .i64 0, .slice none 0 0], BK 49 b5 [.int .i64 (IntKind.i64.wrap (1 + o2.1)), .slice a_s8_r3 (List.length s8.2.2.1) c_s8_r3], SL false 114 PlaceS a_s8_r3 c_s8_r3 s8.2.2.1]) = _; rw [h11] <;> rfl) rfl ?_
        refine gl_pick 1 rfl ?_
        refine gl_stB (cells' := [.int .i64 o10.1, .int .i64 o11.1, .int .i64 o12.1, .int .i64 0]) 0 [.int .i64 o10.1, .int .i64 o11.1, .int .i64 o12.1, .int .i64 0] rfl rfl rfl Fz114 rfl rfl rfl rfl ?_
        refine gl_ns ?_
        obtain ⟨o14, ho14, h⟩ := bindS h
        refine g_mid (M := ((fun ss_ e a w => e = .normal ∧ Env a 108 [(0, .pointer (some ⟨b_s, 0, none⟩)), (2, .pointer (some ⟨b1, 0, none⟩)), (3, .pointer (some ⟨b5, 0, none⟩)), (4, .int .i64 s8.2.2.2), (5, .pointer (some ⟨b13, 0, none⟩))] ∧ St c w [BK 89 b_s [.slice a_s_code (List.length s.code) c_s_code, .int .i64 ss_.1, .int .i64 ss_.2.1], BK 49 b1 [.int .i64 0, .slice none 0 0], BK 49 b5 [.int .i64 (IntKind.i64.wrap (1 + o2.1)), .slice a_s8_r3 (List.length s8.2.2.1) c_s8_r3], SL false 114 PlaceS a_s8_r3 c_s8_r3 s8.2.2.1, BK 114 b13 [.int .i64 o10.1, .int .i64 o11.1, .int .i64 o12.1, .int .i64 ss_.2.2]] [gTab 3 pow10C, gNum 0, gErr 1, gErr 2] [SL false 5 (intS .u8) a_s_code c_s_code s.code] []) : (Int × Int × Int) → Exit → Act → World → Prop) o14) ?_ ?_
        · replace h := ho14
          refine g_sr ?_
          refine gl_run (v := .pointer (some ⟨b13, 0, none⟩)) rfl rfl rfl (fun w => by kernel_rfl) ?_
          refine gl_ld1 0 hasBK (mem_at 0 rfl) rfl rfl Fo2 rfl rfl rfl ?_
          refine gl_run (v := .pointer (some ⟨b13, 1, none⟩)) rfl rfl rfl (fun w => by kernel_rfl) ?_
          refine gl_ld1 1 hasBK (mem_at 0 rfl) rfl rfl Fo2 rfl rfl rfl ?_
          refine gl_batch 2 [(34, .bool (decide (o10.1 ≥ o11.1))), (33, .bool (decide (o10.1 ≥ o11.1)))] rfl ?_
          obtain ⟨q15, hq15, h⟩ := bindS h
          refine gl_join (EE := [(0, .pointer (some ⟨b_s, 0, none⟩)), (2, .pointer (some ⟨b1, 0, none⟩)), (3, .pointer (some ⟨b5, 0, none⟩)), (4, .int .i64 s8.2.2.2), (5, .pointer (some ⟨b13, 0, none⟩)), (38, .bool q15.2.2)]) (RR := [BK 89 b_s [.slice a_s_code (List.length s.code) c_s_code, .int .i64 q15.1, .int .i64 q15.2.1], BK 49 b1 [.int .i64 0, .slice none 0 0], BK 49 b5 [.int .i64 (IntKind.i64.wrap (1 + o2.1)), .slice a_s8_r3 (List.length s8.2.2.1) c_s8_r3], SL false 114 PlaceS a_s8_r3 c_s8_r3 s8.2.2.1, BK 114 b13 [.int .i64 o10.1, .int .i64 o11.1, .int .i64 o12.1, .int .i64 0]]) (XX := [gTab 3 pow10C, gNum 0, gErr 1, gErr 2]) (OO := [SL false 5 (intS .u8) a_s_code c_s_code s.code]) (VV := []) 4 ?_ ?_
          · replace h := hq15
            refine gl_case 34 rfl (fun hc => ?_) (fun hc => ?_)
            · replace h := condT hc h
              refine gl_batch 4 [(38, .bool true), (37, undef), (36, undef), (35, undef)] rfl ?_
              refine gl_nil ?_
              obtain rfl := Option.some.inj h
              exact gx_mid ⟨rfl, rfl, rfl, rfl, rfl, rfl, trivial⟩ (fun w hS => ((((((hS.pick 0 rfl).pick 4 rfl).pick 4 rfl).pick 4 rfl).pick 4 rfl).take 5).facts _ _ [] (consItem (mem_at 0 rfl) (consItem (mem_at 1 rfl) (consItem (mem_at 2 rfl) (consItem (mem_at 3 rfl) noItem)))) (consItem (mem_at 0 rfl) noItem) noItem)
            · replace h := condF hc h
              refine gl_batch 1 [(35, .pointer (some ⟨b_s, 0, none⟩))] rfl ?_
              obtain ⟨o16, ho16, h⟩ := bindS h
              refine gl_pick 1 rfl ?_
              refine gl_callR rfl rfl (fun w => by kernel_rfl) (c_spec_l01Next (⟨s.code, o12.2.at_v, o12.2.seed⟩ : Src) 4 b_s a_s_code c_s_code ho16) rfl (consItem (mem_at 0 rfl) (consItem (mem_at 1 rfl) (consItem (mem_at 2 rfl) (consItem (mem_at 3 rfl) noItem)))) (consItem (mem_at 4 rfl) noItem) ?_
              rintro v outs ros ⟨rfl, rfl, rfl⟩
              refine ⟨_, rfl, ?_⟩
              refine gl_batch 2 [(38, .bool (o16.1 == 0)), (37, .bool (o16.1 == 0))] rfl ?_
              refine gl_nil ?_
              obtain rfl := Option.some.inj h
              exact gx_mid ⟨rfl, rfl, rfl, rfl, rfl, rfl, trivial⟩ (fun w hS => ((((((hS.pick 1 rfl).pick 4 rfl).pick 4 rfl).pick 4 rfl).pick 4 rfl).take 5).facts _ _ [] (consItem (mem_at 0 rfl) (consItem (mem_at 1 rfl) (consItem (mem_at 2 rfl) (consItem (mem_at 3 rfl) noItem)))) (consItem (mem_at 0 rfl) noItem) noItem)
          · skip
            refine gl_ns ?_
            refine g_cond (b := q15.2.2) rfl (fun hc => ?_) (fun hc => ?_)
            · replace h := condT hc h
              refine g_region ?_
              refine gl_batch 1 [(39, .pointer (some ⟨b_s, 0, none⟩))] rfl ?_
              obtain ⟨o17, ho17, h⟩ := bindS h
              refine gl_callR rfl rfl (fun w => by kernel_rfl) (c_spec_l01Next (⟨s.code, q15.1, q15.2.1⟩ : Src) 2 b_s a_s_code c_s_code ho17) rfl (consItem (mem_at 0 rfl) (consItem (mem_at 1 rfl) (consItem (mem_at 2 rfl) (consItem (mem_at 3 rfl) noItem)))) (consItem (mem_at 4 rfl) noItem) ?_
              rintro v outs ros ⟨rfl, rfl, rfl⟩
              refine ⟨_, rfl, ?_⟩
              refine gl_batch 1 [(41, .pointer (some ⟨b_s, 0, none⟩))] rfl ?_
              obtain ⟨o18, ho18, h⟩ := bindS h
              refine gl_callR rfl rfl (fun w => by kernel_rfl) (c_spec_l01Next (⟨s.code, o17.2.at_v, o17.2.seed⟩ : Src) 3 b_s a_s_code c_s_code ho18) rfl (consItem (mem_at 0 rfl) (consItem (mem_at 1 rfl) (consItem (mem_at 2 rfl) (consItem (mem_at 3 rfl) noItem)))) (consItem (mem_at 4 rfl) noItem) ?_
              rintro v outs ros ⟨rfl, rfl, rfl⟩
              refine ⟨_, rfl, ?_⟩
              refine gl_batch 2 [(44, .int .i64 (IntKind.i64.wrap (1 + (IntKind.i64.wrap (o17.1 * o18.1))))), (43, .int .i64 (IntKind.i64.wrap (o17.1 * o18.1)))] rfl ?_
              refine gl_run (v := .pointer (some ⟨b13, 3, none⟩)) rfl rfl rfl (fun w => by kernel_rfl) ?_
              refine gl_pick 4 rfl ?_
              refine gl_stB (cells' := [.int .i64 o10.1, .int .i64 o11.1, .int .i64 o12.1, .int .i64 (IntKind.i64.wrap (1 + (IntKind.i64.wrap (o17.1 * o18.1))))]) 3 [.int .i64 (IntKind.i64.wrap (1 + (IntKind.i64.wrap (o17.1 * o18.1))))] rfl rfl rfl Fz2 rfl rfl rfl rfl ?_
              refine gl_nil ?_
              obtain rfl := Option.some.inj h
              exact gx_of (fun a w hE hS => ⟨rfl, hE.sub ⟨rfl, rfl, rfl, rfl, rfl, trivial⟩, ((((((hS.pick 0 rfl).pick 4 rfl).pick 4 rfl).pick 4 rfl).pick 4 rfl).take 5).facts _ _ [] (consItem (mem_at 0 rfl) (consItem (mem_at 1 rfl) (consItem (mem_at 2 rfl) (consItem (mem_at 3 rfl) noItem)))) (consItem (mem_at 0 rfl) noItem) noItem⟩)
            · replace h := condF hc h
              refine g_skip ?_
              obtain rfl := Option.some.inj h
              exact gx_of (fun a w hE hS => ⟨rfl, hE.sub ⟨rfl, rfl, rfl, rfl, rfl, trivial⟩, (hS.take 5).facts _ _ [] (consItem (mem_at 0 rfl) (consItem (mem_at 1 rfl) (consItem (mem_at 2 rfl) (consItem (mem_at 3 rfl) noItem)))) (consItem (mem_at 0 rfl) noItem) noItem⟩)
        · intro e a w hm
          obtain ⟨rfl, hE, hS⟩ := hm
          refine gx_to hE hS ?_
          refine gx_seq ?_
          obtain ⟨o19, ho19, h⟩ := bindS h
          refine g_mid (M := ((fun ss_ e a w => e = .normal ∧ Env a 108 [(0, .pointer (some ⟨b_s, 0, none⟩)), (2, .pointer (some ⟨b1, 0, none⟩)), (3, .pointer (some ⟨b5, 0, none⟩)), (4, .int .i64 s8.2.2.2), (5, .pointer (some ⟨b13, 0, none⟩))] ∧ St c w [BK 89 b_s [.slice a_s_code (List.length s.code) c_s_code, .int .i64 ss_.1, .int .i64 ss_.2.1], BK 49 b1 [.int .i64 0, .slice none 0 0], BK 49 b5 [.int .i64 (IntKind.i64.wrap (1 + o2.1)), .slice a_s8_r3 (List.length s8.2.2.1) c_s8_r3], SL false 114 PlaceS a_s8_r3 c_s8_r3 s8.2.2.1, BK 114 b13 [.int .i64 o10.1, .int .i64 o11.1, .int .i64 o12.1, .int .i64 ss_.2.2]] [gTab 3 pow10C, gNum 0, gErr 1, gErr 2] [SL false 5 (intS .u8) a_s_code c_s_code s.code] []) : (Int × Int × Int) → Exit → Act → World → Prop) o19) ?_ ?_
          · replace h := ho19
            refine g_sr ?_
            refine gl_batch 1 [(46, .pointer (some ⟨b_s, 0, none⟩))] rfl ?_
            obtain ⟨o20, ho20, h⟩ := bindS h
            refine gl_callR rfl rfl (fun w => by kernel_rfl) (c_spec_l01Next (⟨s.code, o14.1, o14.2.1⟩ : Src) 30 b_s a_s_code c_s_code ho20) rfl (consItem (mem_at 0 rfl) (consItem (mem_at 1 rfl) (consItem (mem_at 2 rfl) (consItem (mem_at 3 rfl) noItem)))) (consItem (mem_at 4 rfl) noItem) ?_
            rintro v outs ros ⟨rfl, rfl, rfl⟩
            refine ⟨_, rfl, ?_⟩
            refine gl_batch 1 [(48, .bool (o20.1 == 0))] rfl ?_
            refine gl_ns ?_
            refine g_cond (b := o20.1 == 0) rfl (fun hc => ?_) (fun hc => ?_)
            · replace h := condT hc h
              refine g_region ?_
              refine gl_run (v := .pointer (some ⟨b13, 3, none⟩)) rfl rfl rfl (fun w => by kernel_rfl) ?_
              refine gl_pick 4 rfl ?_
              refine gl_stB (cells' := [.int .i64 o10.1, .int .i64 o11.1, .int .i64 o12.1, .int .i64 0]) 3 [.int .i64 0] rfl rfl rfl Fz2 rfl rfl rfl rfl ?_
              refine gl_nil ?_
              obtain rfl := Option.some.inj h
              exact gx_of (fun a w hE hS => ⟨rfl, hE.sub ⟨rfl, rfl, rfl, rfl, rfl, trivial⟩, ((((((hS.pick 0 rfl).pick 4 rfl).pick 4 rfl).pick 4 rfl).pick 4 rfl).take 5).facts _ _ [] (consItem (mem_at 0 rfl) (consItem (mem_at 1 rfl) (consItem (mem_at 2 rfl) (consItem (mem_at 3 rfl) noItem)))) (consItem (mem_at 0 rfl) noItem) noItem⟩)
            · replace h := condF hc h
              refine g_skip ?_
              obtain rfl := Option.some.inj h
              exact gx_of (fun a w hE hS => ⟨rfl, hE.sub ⟨rfl, rfl, rfl, rfl, rfl, trivial⟩, (hS.take 5).facts _ _ [] (consItem (mem_at 0 rfl) (consItem (mem_at 1 rfl) (consItem (mem_at 2 rfl) (consItem (mem_at 3 rfl) noItem)))) (consItem (mem_at 0 rfl) noItem) noItem⟩)
          · intro e a w hm
            obtain ⟨rfl, hE, hS⟩ := hm
            refine gx_to hE hS ?_
            refine gx_seq ?_
            refine g_region ?_
            refine gl_run (v := .pointer (some ⟨b5, 1, none⟩)) rfl rfl rfl (fun w => by kernel_rfl) ?_
            refine gl_ld1 1 hasBK (mem_at 2 rfl) rfl rfl Fo47 rfl rfl rfl ?_
            refine gl_ldA (vs := [.int .i64 o10.1, .int .i64 o11.1, .int .i64 o12.1, .int .i64 o19.2.2]) 0 hasBK (mem_at 4 rfl) rfl rfl Fm114 Fz114 rfl rfl rfl ?_
            refine gl_lit (m := 4) (d := 53) (T := 114) (enc := PlaceE) (hn := fun _ => rfl) false [(⟨o10.1, o11.1, o12.1, o19.2.2⟩ : Place)] rfl rfl (fun _ => rfl) nofun (Nat.le_of_ble_eq_true rfl) (fun w => by kernel_rfl) ?_
            intro a_v21 c_v22
            refine gl_pick 4 rfl ?_
            obtain ⟨z23, hz23, h⟩ := bindS h
            refine gl_appn (mem_at 1 rfl) rfl rfl Fs47 Fi114 rfl rfl (fun _ => rfl) hz23 rfl rfl ?_
            intro a_v24 c_v25
            refine gl_run (v := .pointer (some ⟨b5, 1, none⟩)) rfl rfl rfl (fun w => by kernel_rfl) ?_
            refine gl_pick 4 rfl ?_
            refine gl_stB (cells' := [.int .i64 (IntKind.i64.wrap (1 + o2.1)), .slice a_v24 (List.length z23) c_v25]) 1 [.slice a_v24 (List.length z23) c_v25] rfl rfl rfl Fz47 rfl rfl rfl rfl ?_
            refine gl_nil ?_
            refine gx_blk ?_
            refine gx_seq ?_
            refine g_region ?_
            obtain ⟨n_v26, hn_v26, h⟩ := letS h
            refine gl_batch 3 [(4, .int .i64 n_v26), (17, .int .i64 (IntKind.i64.wrap (s8.2.2.2 - 1))), (16, .int .i64 s8.2.2.2)] (by subst hn_v26; rfl) ?_
            refine gl_nil ?_
            obtain rfl := Option.some.inj h
            exact gx_of (fun a w hE hS => lp_in ⟨a_v24, c_v25, hE.sub ⟨rfl, rfl, rfl, rfl, trivial⟩, (((((hS.pick 1 rfl).pick 1 rfl).pick 4 rfl).pick 4 rfl).take 4).facts _ _ [] (consItem (mem_at 0 rfl) (consItem (mem_at 1 rfl) (consItem (mem_at 2 rfl) (consItem (mem_at 3 rfl) noItem)))) (consItem (mem_at 0 rfl) noItem) noItem⟩)
    · replace h := condF hc h
      refine g_exit ?_
      refine gx_seq_exit ?_
      obtain rfl := Option.some.inj h
      exact gx_of (fun a w hE hS => lp_out nofun (⟨rfl, a_s8_r3, c_s8_r3, hE.sub ⟨rfl, rfl, rfl, trivial⟩, (hS.take 4).facts _ _ [] (consItem (mem_at 0 rfl) (consItem (mem_at 1 rfl) (consItem (mem_at 2 rfl) (consItem (mem_at 3 rfl) noItem)))) (consItem (mem_at 0 rfl) noItem) noItem⟩))
  · intro e a w hm
    obtain ⟨rfl, a_o7_r3, c_o7_r3, hE, hS⟩ := hm
    refine gx_to hE hS ?_
    refine gx_blk_hit ?_
    refine gx_seq ?_
    obtain ⟨o27, ho27, h⟩ := bindS h
    refine g_mid (M := ((fun ss_ e a w => e = .normal ∧ ∃ (a_ss__r2 : Option Addr), ∃ (c_ss__r2 : Nat), Env a 108 [(2, .pointer (some ⟨b1, 0, none⟩)), (3, .pointer (some ⟨b5, 0, none⟩))] ∧ St c w [BK 49 b1 [.int .i64 0, .slice none 0 0], BK 49 b5 [.int .i64 ss_.1, .slice a_ss__r2 (List.length ss_.2.1) c_ss__r2], SL false 114 PlaceS a_ss__r2 c_ss__r2 ss_.2.1, BK 89 b_s [.slice a_s_code (List.length s.code) c_s_code, .int .i64 ss_.2.2.1, .int .i64 ss_.2.2.2]] [gTab 3 pow10C, gNum 0, gErr 1, gErr 2] [SL false 5 (intS .u8) a_s_code c_s_code s.code] []) : (Int × (List Place) × Int × Int) → Exit → Act → World → Prop) o27) ?_ ?_
    · replace h := ho27
      refine g_sr ?_
      refine gl_batch 1 [(56, .pointer (some ⟨b_s, 0, none⟩))] rfl ?_
      obtain ⟨o28, ho28, h⟩ := bindS h
      refine gl_callR rfl rfl (fun w => by kernel_rfl) (c_spec_l01Next (⟨s.code, o7.1, o7.2.1⟩ : Src) 60 b_s a_s_code c_s_code ho28) rfl (consItem (mem_at 0 rfl) (consItem (mem_at 1 rfl) (consItem (mem_at 2 rfl) (consItem (mem_at 3 rfl) noItem)))) (consItem (mem_at 3 rfl) noItem) ?_
      rintro v outs ros ⟨rfl, rfl, rfl⟩
      refine ⟨_, rfl, ?_⟩
      refine gl_ns ?_
      refine g_block ?_
      refine g_sr ?_
      refine gl_batch 2 [(58, .bool (o28.1 == 0)), (59, .bool (o28.1 == 0))] rfl ?_
      refine gl_ns ?_
      refine g_cond (b := o28.1 == 0) rfl (fun hc => ?_) (fun hc => ?_)
      · replace h := condT hc h
        refine g_region ?_
        refine gl_batch 1 [(60, .pointer (some ⟨b_s, 0, none⟩))] rfl ?_
        refine gl_lit (m := 1) (d := 61) (T := 2) (enc := fun x => [.int .i64 x]) (hn := fun _ => rfl) false [0, 10, 11] rfl rfl (fun _ => rfl) nofun (Nat.le_of_ble_eq_true rfl) (fun w => by kernel_rfl) ?_
        intro a_v29 c_v30
        obtain ⟨o31, ho31, h⟩ := bindS h
        refine gl_pick 1 rfl ?_
        refine gl_callR rfl rfl (fun w => by kernel_rfl) (c_spec_l01Pick (⟨s.code, o28.2.at_v, o28.2.seed⟩ : Src) [0, 10, 11] b_s a_s_code c_s_code a_v29 c_v30 ho31) rfl (consItem (mem_at 0 rfl) (consItem (mem_at 1 rfl) (consItem (mem_at 2 rfl) (consItem (mem_at 3 rfl) noItem)))) (consItem (mem_at 4 rfl) (consItem (mem_at 0 rfl) noItem)) ?_
        rintro v outs ros ⟨rfl, rfl, rfl⟩
        refine ⟨_, rfl, ?_⟩
        refine gl_run (v := .pointer (some ⟨b5, 0, none⟩)) rfl rfl rfl (fun w => by kernel_rfl) ?_
        refine gl_pick 3 rfl ?_
        refine gl_stB (cells' := [.int .i64 o31.1, .slice a_o7_r3 (List.length o7.2.2) c_o7_r3]) 0 [.int .i64 o31.1] rfl rfl rfl Fz2 rfl rfl rfl rfl ?_
        refine gl_nil ?_
        refine gx_blk ?_
        obtain rfl := Option.some.inj h
        exact gx_of (fun a w hE hS => ⟨rfl, a_o7_r3, c_o7_r3, hE.sub ⟨rfl, rfl, trivial⟩, (((((hS.pick 1 rfl).pick 4 rfl).pick 2 rfl).pick 4 rfl).take 4).facts _ _ [] (consItem (mem_at 0 rfl) (consItem (mem_at 1 rfl) (consItem (mem_at 2 rfl) (consItem (mem_at 3 rfl) noItem)))) (consItem (mem_at 0 rfl) noItem) noItem⟩)
      · replace h := condF hc h
        refine g_sr ?_
        refine gl_batch 2 [(64, .bool (o28.1 == 1)), (65, .bool (o28.1 == 1))] rfl ?_
        refine gl_ns ?_
        refine g_cond (b := o28.1 == 1) rfl (fun hc => ?_) (fun hc => ?_)
        · replace h := condT hc h
          obtain ⟨o34, ho34, h⟩ := bindS h
          obtain ⟨o37, ho37, h⟩ := bindS h
          refine g_state (E' := [(0, .pointer (some ⟨b_s, 0, none⟩)), (2, .pointer (some ⟨b1, 0, none⟩)), (3, .pointer (some ⟨b5, 0, none⟩))]) (Rs' := [BK 89 b_s [.slice a_s_code (List.length s.code) c_s_code, .int .i64 o28.2.at_v, .int .i64 o28.2.seed]] ++ [BK 49 b1 [.int .i64 0, .slice none 0 0], BK 49 b5 [.int .i64 (IntKind.i64.wrap (1 + o2.1)), .slice a_o7_r3 (List.length o7.2.2) c_o7_r3], SL false 114 PlaceS a_o7_r3 c_o7_r3 o7.2.2]) (Xs' := [gTab 3 pow10C, gNum 0, gErr 1, gErr 2]) (Os' := [SL false 5 (intS .u8) a_s_code c_s_code s.code]) (Vs' := []) ⟨rfl, rfl, rfl, trivial⟩ (fun w hS => hS) ?_
          refine g_drawM (Rs := [BK 49 b1 [.int .i64 0, .slice none 0 0], BK 49 b5 [.int .i64 (IntKind.i64.wrap (1 + o2.1)), .slice a_o7_r3 (List.length o7.2.2) c_o7_r3], SL false 114 PlaceS a_o7_r3 c_o7_r3 o7.2.2]) 12 [[], [0], [], [], [3], [3, 4], [2, 3, 4, 5], [], [], [3, 4, 6, 7, 8], [2, 3, 4, 5, 6, 9], [2, 3, 4, 5, 10]] [[3], [], [0], [3], [], [], [], [0], [], [], [], []] [.pointer (some ⟨b5, 1, none⟩), .slice a_o7_r3 (List.length o7.2.2) c_o7_r3, .pointer (some ⟨b_s, 0, none⟩), .pointer (some ⟨b5, 0, none⟩), .int .i64 (IntKind.i64.wrap (1 + o2.1)), undef, .int .i64 o34.1, .pointer (some ⟨b_s, 0, none⟩), undef, .int .i64 o37.1, .agg #[.int .i64 o34.1, .int .i64 0, .int .i64 o37.1, .int .i64 1], undef] [(5, ⟨[5], fun vals => ∃ (a_v32 : Option Addr), ∃ (c_v33 : Nat), vals 5 = .slice a_v32 (List.length [(-1), 0, IntKind.i64.wrap (1 + o2.1)]) c_v33, fun vals => [SL false 2 (intS .i64) (slA (vals 5)) (slC (vals 5)) [(-1), 0, IntKind.i64.wrap (1 + o2.1)]], fun _ => []⟩), (8, ⟨[8], fun vals => ∃ (a_v35 : Option Addr), ∃ (c_v36 : Nat), vals 8 = .slice a_v35 (List.length [(-1), 1000, 1001]) c_v36, fun vals => [SL false 2 (intS .i64) (slA (vals 8)) (slC (vals 8)) [(-1), 1000, 1001]], fun _ => []⟩), (11, ⟨[11], fun vals => ∃ (a_v38 : Option Addr), ∃ (c_v39 : Nat), vals 11 = .slice a_v38 (List.length [(⟨o34.1, 0, o37.1, 1⟩ : Place)]) c_v39, fun vals => [SL false 114 PlaceS (slA (vals 11)) (slC (vals 11)) [(⟨o34.1, 0, o37.1, 1⟩ : Place)]], fun _ => []⟩)] [6, 9] (fun k _ => match k with | 0 => [BK 89 b_s [.slice a_s_code (List.length s.code) c_s_code, .int .i64 o28.2.at_v, .int .i64 o28.2.seed]] | 1 => [BK 89 b_s [.slice a_s_code (List.length s.code) c_s_code, .int .i64 o34.2.at_v, .int .i64 o34.2.seed]] | _ => [BK 89 b_s [.slice a_s_code (List.length s.code) c_s_code, .int .i64 o37.2.at_v, .int .i64 o37.2.seed]]) mixed rfl rfl ⟨⟨⟨⟨⟨⟨⟨⟨⟨⟨⟨⟨trivial, ?_⟩, ?_⟩, ?_⟩, ?_⟩, ?_⟩, ?_⟩, ?_⟩, ?_⟩, ?_⟩, ?_⟩, ?_⟩, ?_⟩ ?_
          · refine obl_in rfl rfl rfl rfl (fun R' O' => ?_)
            refine gl_run (v := .pointer (some ⟨b5, 1, none⟩)) rfl rfl rfl (fun w => by kernel_rfl) ?_
            exact gl_dp rfl rfl rfl
          · refine obl_in rfl rfl rfl rfl (fun R' O' => ?_)
            refine gl_ld1 1 hasBK (memV (mem_at 1 rfl)) rfl rfl Fo47 rfl rfl rfl ?_
            exact gl_dp rfl rfl rfl
          · exact obl_pure rfl rfl rfl rfl rfl rfl rfl rfl
          · refine obl_in rfl rfl rfl rfl (fun R' O' => ?_)
            refine gl_run (v := .pointer (some ⟨b5, 0, none⟩)) rfl rfl rfl (fun w => by kernel_rfl) ?_
            exact gl_dp rfl rfl rfl
          · refine obl_in rfl rfl rfl rfl (fun R' O' => ?_)
            refine gl_ld1 0 hasBK (memV (mem_at 1 rfl)) rfl rfl Fo2 rfl rfl rfl ?_
            exact gl_dp rfl rfl rfl
          · intro vals E' R' O' hD
            have h3 : vals 3 = .pointer (some ⟨b5, 0, none⟩) := hD 3 (memN 0 rfl)
            have h4 : vals 4 = .int .i64 (IntKind.i64.wrap (1 + o2.1)) := hD 4 (memN 1 rfl)
            refine gl_convV (E2 := (69, .pointer (some ⟨b5, 0, none⟩)) :: (70, .int .i64 (IntKind.i64.wrap (1 + o2.1))) :: ([] ++ E')) (V2 := [] ++ ([BK 49 b1 [.int .i64 0, .slice none 0 0], BK 49 b5 [.int .i64 (IntKind.i64.wrap (1 + o2.1)), .slice a_o7_r3 (List.length o7.2.2) c_o7_r3], SL false 114 PlaceS a_o7_r3 c_o7_r3 o7.2.2] ++ [])) (by show (69, vals 3) :: (70, vals 4) :: ([] ++ E') = _; rw [h3, h4]) (by show [] ++ ([BK 49 b1 [.int .i64 0, .slice none 0 0], BK 49 b5 [.int .i64 (IntKind.i64.wrap (1 + o2.1)), .slice a_o7_r3 (List.length o7.2.2) c_o7_r3], SL false 114 PlaceS a_o7_r3 c_o7_r3 o7.2.2] ++ []) = _; rfl) ?_
            refine gl_lit (m := 1) (d := 71) (T := 2) (enc := fun x => [.int .i64 x]) (hn := fun _ => rfl) false [(-1), 0, IntKind.i64.wrap (1 + o2.1)] rfl rfl (fun _ => rfl) nofun (Nat.le_of_ble_eq_true rfl) (fun w => by kernel_rfl) ?_
            intro a_v32 c_v33
            refine gl_nil ?_
            exact gx_fp (.slice a_v32 (List.length [(-1), 0, IntKind.i64.wrap (1 + o2.1)]) c_v33) rfl rfl rfl ⟨a_v32, c_v33, rfl⟩ (fun _ h => h.sub (fun _ h => h) (st_oo (A := [])) (fun o ho => by cases ho))
          · intro vals E' R' O' hD hR
            have h2 : vals 2 = .pointer (some ⟨b_s, 0, none⟩) := hD 2 (memN 0 rfl)
            have h3 : vals 3 = .pointer (some ⟨b5, 0, none⟩) := hD 3 (memN 1 rfl)
            have h4 : vals 4 = .int .i64 (IntKind.i64.wrap (1 + o2.1)) := hD 4 (memN 2 rfl)
            obtain ⟨a_v32, c_v33, h5⟩ : ∃ (a_v32 : Option Addr), ∃ (c_v33 : Nat), vals 5 = .slice a_v32 (List.length [(-1), 0, IntKind.i64.wrap (1 + o2.1)]) c_v33 := hD 5 (memN 3 rfl)
            replace hR : ∀ it, it ∈ [SL false 2 (intS .i64) a_v32 c_v33 [(-1), 0, IntKind.i64.wrap (1 + o2.1)]] ++ [BK 49 b1 [.int .i64 0, .slice none 0 0], BK 49 b5 [.int .i64 (IntKind.i64.wrap (1 + o2.1)), .slice a_o7_r3 (List.length o7.2.2) c_o7_r3], SL false 114 PlaceS a_o7_r3 c_o7_r3 o7.2.2] → it ∈ R' := fun it hit => hR it (by show it ∈ [SL false 2 (intS .i64) (slA (vals 5)) (slC (vals 5)) [(-1), 0, IntKind.i64.wrap (1 + o2.1)]] ++ [BK 49 b1 [.int .i64 0, .slice none 0 0], BK 49 b5 [.int .i64 (IntKind.i64.wrap (1 + o2.1)), .slice a_o7_r3 (List.length o7.2.2) c_o7_r3], SL false 114 PlaceS a_o7_r3 c_o7_r3 o7.2.2]; rw [h5]; exact hit)
            refine gl_convV (E2 := (68, .pointer (some ⟨b_s, 0, none⟩)) :: (69, .pointer (some ⟨b5, 0, none⟩)) :: (70, .int .i64 (IntKind.i64.wrap (1 + o2.1))) :: (71, .slice a_v32 (List.length [(-1), 0, IntKind.i64.wrap (1 + o2.1)]) c_v33) :: ([] ++ E')) (V2 := [SL false 2 (intS .i64) a_v32 c_v33 [(-1), 0, IntKind.i64.wrap (1 + o2.1)]] ++ [BK 49 b1 [.int .i64 0, .slice none 0 0], BK 49 b5 [.int .i64 (IntKind.i64.wrap (1 + o2.1)), .slice a_o7_r3 (List.length o7.2.2) c_o7_r3], SL false 114 PlaceS a_o7_r3 c_o7_r3 o7.2.2]) (by show (68, vals 2) :: (69, vals 3) :: (70, vals 4) :: (71, vals 5) :: ([] ++ E') = _; rw [h2, h3, h4, h5]) (by show [SL false 2 (intS .i64) (slA (vals 5)) (slC (vals 5)) [(-1), 0, IntKind.i64.wrap (1 + o2.1)]] ++ [BK 49 b1 [.int .i64 0, .slice none 0 0], BK 49 b5 [.int .i64 (IntKind.i64.wrap (1 + o2.1)), .slice a_o7_r3 (List.length o7.2.2) c_o7_r3], SL false 114 PlaceS a_o7_r3 c_o7_r3 o7.2.2] = _; rw [h5] <;> rfl) ?_
            refine gl_callR rfl rfl (fun w => by kernel_rfl) (c_spec_l01Pick (⟨s.code, o28.2.at_v, o28.2.seed⟩ : Src) [(-1), 0, IntKind.i64.wrap (1 + o2.1)] b_s a_s_code c_s_code a_v32 c_v33 ho34) rfl (consItem (mem_at 0 rfl) (consItem (mem_at 1 rfl) (consItem (mem_at 2 rfl) (consItem (mem_at 3 rfl) noItem)))) (consItem (memRestO (A := []) (mem_at 0 rfl)) (consItem (memRest (A := []) (hR _ (mem_at 0 rfl))) noItem)) ?_
            rintro v outs ros ⟨rfl, rfl, rfl⟩
            refine ⟨_, rfl, ?_⟩
            refine gl_nil ?_
            exact gx_fp (.int .i64 o34.1) rfl rfl rfl rfl (fun _ h => h.sub (fun _ h => h) (st_oo (A := [])) (fun o ho => by cases ho))
          · exact obl_pure rfl rfl rfl rfl rfl rfl rfl rfl
          · intro vals E' R' O' hD
            refine gl_lit (m := 1) (d := 74) (T := 2) (enc := fun x => [.int .i64 x]) (hn := fun _ => rfl) false [(-1), 1000, 1001] rfl rfl (fun _ => rfl) nofun (Nat.le_of_ble_eq_true rfl) (fun w => by kernel_rfl) ?_
            intro a_v35 c_v36
            refine gl_nil ?_
            exact gx_fp (.slice a_v35 (List.length [(-1), 1000, 1001]) c_v36) rfl rfl rfl ⟨a_v35, c_v36, rfl⟩ (fun _ h => h.sub (fun _ h => h) (st_oo (A := [])) (fun o ho => by cases ho))
          · intro vals E' R' O' hD hR
            have h3 : vals 3 = .pointer (some ⟨b5, 0, none⟩) := hD 3 (memN 0 rfl)
            have h4 : vals 4 = .int .i64 (IntKind.i64.wrap (1 + o2.1)) := hD 4 (memN 1 rfl)
            have h6 : vals 6 = .int .i64 o34.1 := hD 6 (memN 2 rfl)
            have h7 : vals 7 = .pointer (some ⟨b_s, 0, none⟩) := hD 7 (memN 3 rfl)
            obtain ⟨a_v35, c_v36, h8⟩ : ∃ (a_v35 : Option Addr), ∃ (c_v36 : Nat), vals 8 = .slice a_v35 (List.length [(-1), 1000, 1001]) c_v36 := hD 8 (memN 4 rfl)
            replace hR : ∀ it, it ∈ [SL false 2 (intS .i64) a_v35 c_v36 [(-1), 1000, 1001]] ++ [BK 49 b1 [.int .i64 0, .slice none 0 0], BK 49 b5 [.int .i64 (IntKind.i64.wrap (1 + o2.1)), .slice a_o7_r3 (List.length o7.2.2) c_o7_r3], SL false 114 PlaceS a_o7_r3 c_o7_r3 o7.2.2] → it ∈ R' := fun it hit => hR it (by show it ∈ [SL false 2 (intS .i64) (slA (vals 8)) (slC (vals 8)) [(-1), 1000, 1001]] ++ [BK 49 b1 [.int .i64 0, .slice none 0 0], BK 49 b5 [.int .i64 (IntKind.i64.wrap (1 + o2.1)), .slice a_o7_r3 (List.length o7.2.2) c_o7_r3], SL false 114 PlaceS a_o7_r3 c_o7_r3 o7.2.2]; rw [h8]; exact hit)
            refine gl_convV (E2 := (69, .pointer (some ⟨b5, 0, none⟩)) :: (70, .int .i64 (IntKind.i64.wrap (1 + o2.1))) :: (72, .int .i64 o34.1) :: (73, .pointer (some ⟨b_s, 0, none⟩)) :: (74, .slice a_v35 (List.length [(-1), 1000, 1001]) c_v36) :: ([] ++ E')) (V2 := [SL false 2 (intS .i64) a_v35 c_v36 [(-1), 1000, 1001]] ++ [BK 49 b1 [.int .i64 0, .slice none 0 0], BK 49 b5 [.int .i64 (IntKind.i64.wrap (1 + o2.1)), .slice a_o7_r3 (List.length o7.2.2) c_o7_r3], SL false 114 PlaceS a_o7_r3 c_o7_r3 o7.2.2]) (by show (69, vals 3) :: (70, vals 4) :: (72, vals 6) :: (73, vals 7) :: (74, vals 8) :: ([] ++ E') = _; rw [h3, h4, h6, h7, h8]) (by show [SL false 2 (intS .i64) (slA (vals 8)) (slC (vals 8)) [(-1), 1000, 1001]] ++ [BK 49 b1 [.int .i64 0, .slice none 0 0], BK 49 b5 [.int .i64 (IntKind.i64.wrap (1 + o2.1)), .slice a_o7_r3 (List.length o7.2.2) c_o7_r3], SL false 114 PlaceS a_o7_r3 c_o7_r3 o7.2.2] = _; rw [h8] <;> rfl) ?_
            refine gl_callR rfl rfl (fun w => by kernel_rfl) (c_spec_l01Pick (⟨s.code, o34.2.at_v, o34.2.seed⟩ : Src) [(-1), 1000, 1001] b_s a_s_code c_s_code a_v35 c_v36 ho37) rfl (consItem (mem_at 0 rfl) (consItem (mem_at 1 rfl) (consItem (mem_at 2 rfl) (consItem (mem_at 3 rfl) noItem)))) (consItem (memRestO (A := []) (mem_at 0 rfl)) (consItem (memRest (A := []) (hR _ (mem_at 0 rfl))) noItem)) ?_
            rintro v outs ros ⟨rfl, rfl, rfl⟩
            refine ⟨_, rfl, ?_⟩
            refine gl_nil ?_
            exact gx_fp (.int .i64 o37.1) rfl rfl rfl rfl (fun _ h => h.sub (fun _ h => h) (st_oo (A := [])) (fun o ho => by cases ho))
          · intro vals E' R' O' hD
            have h2 : vals 2 = .pointer (some ⟨b_s, 0, none⟩) := hD 2 (memN 0 rfl)
            have h3 : vals 3 = .pointer (some ⟨b5, 0, none⟩) := hD 3 (memN 1 rfl)
            have h4 : vals 4 = .int .i64 (IntKind.i64.wrap (1 + o2.1)) := hD 4 (memN 2 rfl)
            obtain ⟨a_v32, c_v33, h5⟩ : ∃ (a_v32 : Option Addr), ∃ (c_v33 : Nat), vals 5 = .slice a_v32 (List.length [(-1), 0, IntKind.i64.wrap (1 + o2.1)]) c_v33 := hD 5 (memN 3 rfl)
            have h6 : vals 6 = .int .i64 o34.1 := hD 6 (memN 4 rfl)
            have h9 : vals 9 = .int .i64 o37.1 := hD 9 (memN 5 rfl)
            refine gl_convV (E2 := (68, .pointer (some ⟨b_s, 0, none⟩)) :: (69, .pointer (some ⟨b5, 0, none⟩)) :: (70, .int .i64 (IntKind.i64.wrap (1 + o2.1))) :: (71, .slice a_v32 (List.length [(-1), 0, IntKind.i64.wrap (1 + o2.1)]) c_v33) :: (72, .int .i64 o34.1) :: (75, .int .i64 o37.1) :: ([] ++ E')) (V2 := [SL false 2 (intS .i64) a_v32 c_v33 [(-1), 0, IntKind.i64.wrap (1 + o2.1)]] ++ ([BK 49 b1 [.int .i64 0, .slice none 0 0], BK 49 b5 [.int .i64 (IntKind.i64.wrap (1 + o2.1)), .slice a_o7_r3 (List.length o7.2.2) c_o7_r3], SL false 114 PlaceS a_o7_r3 c_o7_r3 o7.2.2] ++ [])) (by show (68, vals 2) :: (69, vals 3) :: (70, vals 4) :: (71, vals 5) :: (72, vals 6) :: (75, vals 9) :: ([] ++ E') = _; rw [h2, h3, h4, h5, h6, h9]) (by show [SL false 2 (intS .i64) (slA (vals 5)) (slC (vals 5)) [(-1), 0, IntKind.i64.wrap (1 + o2.1)]] ++ ([BK 49 b1 [.int .i64 0, .slice none 0 0], BK 49 b5 [.int .i64 (IntKind.i64.wrap (1 + o2.1)), .slice a_o7_r3 (List.length o7.2.2) c_o7_r3], SL false 114 PlaceS a_o7_r3 c_o7_r3 o7.2.2] ++ []) = _; rw [h5] <;> rfl) ?_
            refine gl_run (v := .agg #[.int .i64 o34.1, .int .i64 0, .int .i64 o37.1, .int .i64 1]) rfl rfl rfl (fun w => by kernel_rfl) ?_
            refine gl_nil ?_
            exact gx_fp (.agg #[.int .i64 o34.1, .int .i64 0, .int .i64 o37.1, .int .i64 1]) rfl rfl rfl rfl (fun _ h => h.sub (fun _ h => h) (st_oo (A := [])) (fun o ho => by cases ho))
          · intro vals E' R' O' hD
            have h2 : vals 2 = .pointer (some ⟨b_s, 0, none⟩) := hD 2 (memN 0 rfl)
            have h3 : vals 3 = .pointer (some ⟨b5, 0, none⟩) := hD 3 (memN 1 rfl)
            have h4 : vals 4 = .int .i64 (IntKind.i64.wrap (1 + o2.1)) := hD 4 (memN 2 rfl)
            obtain ⟨a_v32, c_v33, h5⟩ : ∃ (a_v32 : Option Addr), ∃ (c_v33 : Nat), vals 5 = .slice a_v32 (List.length [(-1), 0, IntKind.i64.wrap (1 + o2.1)]) c_v33 := hD 5 (memN 3 rfl)
            have h10 : vals 10 = .agg #[.int .i64 o34.1, .int .i64 0, .int .i64 o37.1, .int .i64 1] := hD 10 (memN 4 rfl)
            refine gl_convV (E2 := (68, .pointer (some ⟨b_s, 0, none⟩)) :: (69, .pointer (some ⟨b5, 0, none⟩)) :: (70, .int .i64 (IntKind.i64.wrap (1 + o2.1))) :: (71, .slice a_v32 (List.length [(-1), 0, IntKind.i64.wrap (1 + o2.1)]) c_v33) :: (76, .agg #[.int .i64 o34.1, .int .i64 0, .int .i64 o37.1, .int .i64 1]) :: ([] ++ E')) (V2 := [SL false 2 (intS .i64) a_v32 c_v33 [(-1), 0, IntKind.i64.wrap (1 + o2.1)]] ++ ([BK 49 b1 [.int .i64 0, .slice none 0 0], BK 49 b5 [.int .i64 (IntKind.i64.wrap (1 + o2.1)), .slice a_o7_r3 (List.length o7.2.2) c_o7_r3], SL false 114 PlaceS a_o7_r3 c_o7_r3 o7.2.2] ++ [])) (by show (68, vals 2) :: (69, vals 3) :: (70, vals 4) :: (71, vals 5) :: (76, vals 10) :: ([] ++ E') = _; rw [h2, h3, h4, h5, h10]) (by show [SL false 2 (intS .i64) (slA (vals 5)) (slC (vals 5)) [(-1), 0, IntKind.i64.wrap (1 + o2.1)]] ++ ([BK 49 b1 [.int .i64 0, .slice none 0 0], BK 49 b5 [.int .i64 (IntKind.i64.wrap (1 + o2.1)), .slice a_o7_r3 (List.length o7.2.2) c_o7_r3], SL false 114 PlaceS a_o7_r3 c_o7_r3 o7.2.2] ++ []) = _; rw [h5] <;> rfl) ?_
            refine gl_lit (m := 4) (d := 77) (T := 114) (enc := PlaceE) (hn := fun _ => rfl) false [(⟨o34.1, 0, o37.1, 1⟩ : Place)] rfl rfl (fun _ => rfl) nofun (Nat.le_of_ble_eq_true rfl) (fun w => by kernel_rfl) ?_
            intro a_v38 c_v39
            refine gl_nil ?_
            exact gx_fp (.slice a_v38 (List.length [(⟨o34.1, 0, o37.1, 1⟩ : Place)]) c_v39) rfl rfl rfl ⟨a_v38, c_v39, rfl⟩ (fun _ h => h.sub (fun _ h => h) (st_oo (A := [])) (fun o ho => by cases ho))
          · intro vals hv
            obtain ⟨⟨⟨⟨⟨⟨⟨⟨⟨⟨⟨⟨_, h0⟩, h1⟩, h2⟩, h3⟩, h4⟩, h5⟩, h6⟩, h7⟩, h8⟩, h9⟩, h10⟩, h11⟩ := hv
            have h0 : vals 0 = .pointer (some ⟨b5, 1, none⟩) := h0
            have h1 : vals 1 = .slice a_o7_r3 (List.length o7.2.2) c_o7_r3 := h1
            have h2 : vals 2 = .pointer (some ⟨b_s, 0, none⟩) := h2
            have h3 : vals 3 = .pointer (some ⟨b5, 0, none⟩) := h3
            have h4 : vals 4 = .int .i64 (IntKind.i64.wrap (1 + o2.1)) := h4
            obtain ⟨a_v32, c_v33, h5⟩ : ∃ (a_v32 : Option Addr), ∃ (c_v33 : Nat), vals 5 = .slice a_v32 (List.length [(-1), 0, IntKind.i64.wrap (1 + o2.1)]) c_v33 := h5
            have h6 : vals 6 = .int .i64 o34.1 := h6
            have h7 : vals 7 = .pointer (some ⟨b_s, 0, none⟩) := h7
            obtain ⟨a_v35, c_v36, h8⟩ : ∃ (a_v35 : Option Addr), ∃ (c_v36 : Nat), vals 8 = .slice a_v35 (List.length [(-1), 1000, 1001]) c_v36 := h8
            have h9 : vals 9 = .int .i64 o37.1 := h9
            have h10 : vals 10 = .agg #[.int .i64 o34.1, .int .i64 0, .int .i64 o37.1, .int .i64 1] := h10
            obtain ⟨a_v38, c_v39, h11⟩ : ∃ (a_v38 : Option Addr), ∃ (c_v39 : Nat), vals 11 = .slice a_v38 (List.length [(⟨o34.1, 0, o37.1, 1⟩ : Place)]) c_v39 := h11
            refine gl_conv (E2 := (66, .pointer (some ⟨b5, 1, none⟩)) :: (67, .slice a_o7_r3 (List.length o7.2.2) c_o7_r3) :: (68, .pointer (some ⟨b_s, 0, none⟩)) :: (69, .pointer (some ⟨b5, 0, none⟩)) :: (70, .int .i64 (IntKind.i64.wrap (1 + o2.1))) :: (71, .slice a_v32 (List.length [(-1), 0, IntKind.i64.wrap (1 + o2.1)]) c_v33) :: (72, .int .i64 o34.1) :: (73, .pointer (some ⟨b_s, 0, none⟩)) :: (74, .slice a_v35 (List.length [(-1), 1000, 1001]) c_v36) :: (75, .int .i64 o37.1) :: (76, .agg #[.int .i64 o34.1, .int .i64 0, .int .i64 o37.1, .int .i64 1]) :: (77, .slice a_v38 (List.length [(⟨o34.1, 0, o37.1, 1⟩ : Place)]) c_v39) :: [(0, .pointer (some ⟨b_s, 0, none⟩)), (2, .pointer (some ⟨b1, 0, none⟩)), (3, .pointer (some ⟨b5, 0, none⟩))]) (R2 := [BK 89 b_s [.slice a_s_code (List.length s.code) c_s_code, .int .i64 o37.2.at_v, .int .i64 o37.2.seed]] ++ ([SL false 2 (intS .i64) a_v32 c_v33 [(-1), 0, IntKind.i64.wrap (1 + o2.1)], SL false 2 (intS .i64) a_v35 c_v36 [(-1), 1000, 1001], SL false 114 PlaceS a_v38 c_v39 [(⟨o34.1, 0, o37.1, 1⟩ : Place)]] ++ [BK 49 b1 [.int .i64 0, .slice none 0 0], BK 49 b5 [.int .i64 (IntKind.i64.wrap (1 + o2.1)), .slice a_o7_r3 (List.length o7.2.2) c_o7_r3], SL false 114 PlaceS a_o7_r3 c_o7_r3 o7.2.2])) (O2 := [] ++ [SL false 5 (intS .u8) a_s_code c_s_code s.code]) (by show (66, vals 0) :: (67, vals 1) :: (68, vals 2) :: (69, vals 3) :: (70, vals 4) :: (71, vals 5) :: (72, vals 6) :: (73, vals 7) :: (74, vals 8) :: (75, vals 9) :: (76, vals 10) :: (77, vals 11) :: [(0, .pointer (some ⟨b_s, 0, none⟩)), (2, .pointer (some ⟨b1, 0, none⟩)), (3, .pointer (some ⟨b5, 0, none⟩))] = _; rw [h0, h1, h2, h3, h4, h5, h6, h7, h8, h9, h10, h11]) (by show [BK 89 b_s [.slice a_s_code (List.length s.code) c_s_code, .int .i64 o37.2.at_v, .int .i64 o37.2.seed]] ++ ([SL false 2 (intS .i64) (slA (vals 5)) (slC (vals 5)) [(-1), 0, IntKind.i64.wrap (1 + o2.1)], SL false 2 (intS .i64) (slA (vals 8)) (slC (vals 8)) [(-1), 1000, 1001], SL false 114 PlaceS (slA (vals 11)) (slC (vals 11)) [(⟨o34.1, 0, o37.1, 1⟩ : Place)]] ++ [BK 49 b1 [.int .i64 0, .slice none 0 0], BK 49 b5 [.int .i64 (IntKind.i64.wrap (1 + o2.1)), .slice a_o7_r3 (List.length o7.2.2) c_o7_r3], SL false 114 PlaceS a_o7_r3 c_o7_r3 o7.2.2]) = _; rw [h5, h8, h11] <;> rfl) rfl ?_
            refine gl_pick 6 rfl ?_
            obtain ⟨z40, hz40, h⟩ := bindS h
            refine gl_appn (mem_at 4 rfl) rfl rfl Fs47 Fi114 rfl rfl (fun _ => rfl) hz40 rfl rfl ?_
            intro a_v41 c_v42
            refine gl_run (v := .pointer (some ⟨b5, 1, none⟩)) rfl rfl rfl (fun w => by kernel_rfl) ?_
            refine gl_pick 6 rfl ?_
            refine gl_stB (cells' := [.int .i64 (IntKind.i64.wrap (1 + o2.1)), .slice a_v41 (List.length z40) c_v42]) 1 [.slice a_v41 (List.length z40) c_v42] rfl rfl rfl Fz47 rfl rfl rfl rfl ?_
            refine gl_nil ?_
            refine gx_blk ?_
            obtain rfl := Option.some.inj h
            exact gx_of (fun a w hE hS => ⟨rfl, a_v41, c_v42, hE.sub ⟨rfl, rfl, trivial⟩, (((((hS.pick 2 rfl).pick 2 rfl).pick 2 rfl).pick 6 rfl).take 4).facts _ _ [] (consItem (mem_at 0 rfl) (consItem (mem_at 1 rfl) (consItem (mem_at 2 rfl) (consItem (mem_at 3 rfl) noItem)))) (consItem (mem_at 0 rfl) noItem) noItem⟩)
        · replace h := condF hc h
          refine g_sr ?_
          refine gl_batch 2 [(80, .bool (o28.1 == 2)), (81, .bool (o28.1 == 2))] rfl ?_
          refine gl_ns ?_
          refine g_cond (b := o28.1 == 2) rfl (fun hc => ?_) (fun hc => ?_)
          · replace h := condT hc h
            obtain ⟨o45, ho45, h⟩ := bindS h
            refine g_state (E' := [(0, .pointer (some ⟨b_s, 0, none⟩)), (2, .pointer (some ⟨b1, 0, none⟩)), (3, .pointer (some ⟨b5, 0, none⟩))]) (Rs' := [BK 89 b_s [.slice a_s_code (List.length s.code) c_s_code, .int .i64 o28.2.at_v, .int .i64 o28.2.seed]] ++ [BK 49 b1 [.int .i64 0, .slice none 0 0], BK 49 b5 [.int .i64 (IntKind.i64.wrap (1 + o2.1)), .slice a_o7_r3 (List.length o7.2.2) c_o7_r3], SL false 114 PlaceS a_o7_r3 c_o7_r3 o7.2.2]) (Xs' := [gTab 3 pow10C, gNum 0, gErr 1, gErr 2]) (Os' := [SL false 5 (intS .u8) a_s_code c_s_code s.code]) (Vs' := []) ⟨rfl, rfl, rfl, trivial⟩ (fun w hS => hS) ?_
            refine g_drawM (Rs := [BK 49 b1 [.int .i64 0, .slice none 0 0], BK 49 b5 [.int .i64 (IntKind.i64.wrap (1 + o2.1)), .slice a_o7_r3 (List.length o7.2.2) c_o7_r3], SL false 114 PlaceS a_o7_r3 c_o7_r3 o7.2.2]) 7 [[], [0], [], [], [2, 3], [4], [5]] [[3], [], [0], [], [], [], []] [.pointer (some ⟨b5, 1, none⟩), .slice a_o7_r3 (List.length o7.2.2) c_o7_r3, .pointer (some ⟨b_s, 0, none⟩), undef, .int .i64 o45.1, .agg #[.int .i64 0, .int .i64 0, .int .i64 0, .int .i64 o45.1], undef] [(3, ⟨[3], fun vals => ∃ (a_v43 : Option Addr), ∃ (c_v44 : Nat), vals 3 = .slice a_v43 (List.length [5, 6, (-1)]) c_v44, fun vals => [SL false 2 (intS .i64) (slA (vals 3)) (slC (vals 3)) [5, 6, (-1)]], fun _ => []⟩), (6, ⟨[6], fun vals => ∃ (a_v46 : Option Addr), ∃ (c_v47 : Nat), vals 6 = .slice a_v46 (List.length [(⟨0, 0, 0, o45.1⟩ : Place)]) c_v47, fun vals => [SL false 114 PlaceS (slA (vals 6)) (slC (vals 6)) [(⟨0, 0, 0, o45.1⟩ : Place)]], fun _ => []⟩)] [4] (fun k _ => match k with | 0 => [BK 89 b_s [.slice a_s_code (List.length s.code) c_s_code, .int .i64 o28.2.at_v, .int .i64 o28.2.seed]] | _ => [BK 89 b_s [.slice a_s_code (List.length s.code) c_s_code, .int .i64 o45.2.at_v, .int .i64 o45.2.seed]]) mixed rfl rfl ⟨⟨⟨⟨⟨⟨⟨trivial, ?_⟩, ?_⟩, ?_⟩, ?_⟩, ?_⟩, ?_⟩, ?_⟩ ?_
            · refine obl_in rfl rfl rfl rfl (fun R' O' => ?_)
              refine gl_run (v := .pointer (some ⟨b5, 1, none⟩)) rfl rfl rfl (fun w => by kernel_rfl) ?_
              exact gl_dp rfl rfl rfl
            · refine obl_in rfl rfl rfl rfl (fun R' O' => ?_)
              refine gl_ld1 1 hasBK (memV (mem_at 1 rfl)) rfl rfl Fo47 rfl rfl rfl ?_
              exact gl_dp rfl rfl rfl
            · exact obl_pure rfl rfl rfl rfl rfl rfl rfl rfl
            · intro vals E' R' O' hD
              refine gl_lit (m := 1) (d := 85) (T := 2) (enc := fun x => [.int .i64 x]) (hn := fun _ => rfl) false [5, 6, (-1)] rfl rfl (fun _ => rfl) nofun (Nat.le_of_ble_eq_true rfl) (fun w => by kernel_rfl) ?_
              intro a_v43 c_v44
              refine gl_nil ?_
              exact gx_fp (.slice a_v43 (List.length [5, 6, (-1)]) c_v44) rfl rfl rfl ⟨a_v43, c_v44, rfl⟩ (fun _ h => h.sub (fun _ h => h) (st_oo (A := [])) (fun o ho => by cases ho))
            · intro vals E' R' O' hD hR
              have h2 : vals 2 = .pointer (some ⟨b_s, 0, none⟩) := hD 2 (memN 0 rfl)
              obtain ⟨a_v43, c_v44, h3⟩ : ∃ (a_v43 : Option Addr), ∃ (c_v44 : Nat), vals 3 = .slice a_v43 (List.length [5, 6, (-1)]) c_v44 := hD 3 (memN 1 rfl)
              replace hR : ∀ it, it ∈ [SL false 2 (intS .i64) a_v43 c_v44 [5, 6, (-1)]] ++ [BK 49 b1 [.int .i64 0, .slice none 0 0], BK 49 b5 [.int .i64 (IntKind.i64.wrap (1 + o2.1)), .slice a_o7_r3 (List.length o7.2.2) c_o7_r3], SL false 114 PlaceS a_o7_r3 c_o7_r3 o7.2.2] → it ∈ R' := fun it hit => hR it (by show it ∈ [SL false 2 (intS .i64) (slA (vals 3)) (slC (vals 3)) [5, 6, (-1)]] ++ [BK 49 b1 [.int .i64 0, .slice none 0 0], BK 49 b5 [.int .i64 (IntKind.i64.wrap (1 + o2.1)), .slice a_o7_r3 (List.length o7.2.2) c_o7_r3], SL false 114 PlaceS a_o7_r3 c_o7_r3 o7.2.2]; rw [h3]; exact hit)
              refine gl_convV (E2 := (84, .pointer (some ⟨b_s, 0, none⟩)) :: (85, .slice a_v43 (List.length [5, 6, (-1)]) c_v44) :: ([] ++ E')) (V2 := [SL false 2 (intS .i64) a_v43 c_v44 [5, 6, (-1)]] ++ [BK 49 b1 [.int .i64 0, .slice none 0 0], BK 49 b5 [.int .i64 (IntKind.i64.wrap (1 + o2.1)), .slice a_o7_r3 (List.length o7.2.2) c_o7_r3], SL false 114 PlaceS a_o7_r3 c_o7_r3 o7.2.2]) (by show (84, vals 2) :: (85, vals 3) :: ([] ++ E') = _; rw [h2, h3]) (by show [SL false 2 (intS .i64) (slA (vals 3)) (slC (vals 3)) [5, 6, (-1)]] ++ [BK 49 b1 [.int .i64 0, .slice none 0 0], BK 49 b5 [.int .i64 (IntKind.i64.wrap (1 + o2.1)), .slice a_o7_r3 (List.length o7.2.2) c_o7_r3], SL false 114 PlaceS a_o7_r3 c_o7_r3 o7.2.2] = _; rw [h3] <;> rfl) ?_
              refine gl_callR rfl rfl (fun w => by kernel_rfl) (c_spec_l01Pick (⟨s.code, o28.2.at_v, o28.2.seed⟩ : Src) [5, 6, (-1)] b_s a_s_code c_s_code a_v43 c_v44 ho45) rfl (consItem (mem_at 0 rfl) (consItem (mem_at 1 rfl) (consItem (mem_at 2 rfl) (consItem (mem_at 3 rfl) noItem)))) (consItem (memRestO (A := []) (mem_at 0 rfl)) (consItem (memRest (A := []) (hR _ (mem_at 0 rfl))) noItem)) ?_
              rintro v outs ros ⟨rfl, rfl, rfl⟩
              refine ⟨_, rfl, ?_⟩
              refine gl_nil ?_
              exact gx_fp (.int .i64 o45.1) rfl rfl rfl rfl (fun _ h => h.sub (fun _ h => h) (st_oo (A := [])) (fun o ho => by cases ho))
            · refine obl_in rfl rfl rfl rfl (fun R' O' => ?_)
              refine gl_run (v := .agg #[.int .i64 0, .int .i64 0, .int .i64 0, .int .i64 o45.1]) rfl rfl rfl (fun w => by kernel_rfl) ?_
              exact gl_dp rfl rfl rfl
            · intro vals E' R' O' hD
              have h5 : vals 5 = .agg #[.int .i64 0, .int .i64 0, .int .i64 0, .int .i64 o45.1] := hD 5 (memN 0 rfl)
              refine gl_convV (E2 := (87, .agg #[.int .i64 0, .int .i64 0, .int .i64 0, .int .i64 o45.1]) :: ([] ++ E')) (V2 := [] ++ ([BK 49 b1 [.int .i64 0, .slice none 0 0], BK 49 b5 [.int .i64 (IntKind.i64.wrap (1 + o2.1)), .slice a_o7_r3 (List.length o7.2.2) c_o7_r3], SL false 114 PlaceS a_o7_r3 c_o7_r3 o7.2.2] ++ [])) (by show (87, vals 5) :: ([] ++ E') = _; rw [h5]) (by show [] ++ ([BK 49 b1 [.int .i64 0, .slice none 0 0], BK 49 b5 [.int .i64 (IntKind.i64.wrap (1 + o2.1)), .slice a_o7_r3 (List.length o7.2.2) c_o7_r3], SL false 114 PlaceS a_o7_r3 c_o7_r3 o7.2.2] ++ []) = _; rfl) ?_
              refine gl_lit (m := 4) (d := 88) (T := 114) (enc := PlaceE) (hn := fun _ => rfl) false [(⟨0, 0, 0, o45.1⟩ : Place)] rfl rfl (fun _ => rfl) nofun (Nat.le_of_ble_eq_true rfl) (fun w => by kernel_rfl) ?_
              intro a_v46 c_v47
              refine gl_nil ?_
              exact gx_fp (.slice a_v46 (List.length [(⟨0, 0, 0, o45.1⟩ : Place)]) c_v47) rfl rfl rfl ⟨a_v46, c_v47, rfl⟩ (fun _ h => h.sub (fun _ h => h) (st_oo (A := [])) (fun o ho => by cases ho))
            · intro vals hv
              obtain ⟨⟨⟨⟨⟨⟨⟨_, h0⟩, h1⟩, h2⟩, h3⟩, h4⟩, h5⟩, h6⟩ := hv
              have h0 : vals 0 = .pointer (some ⟨b5, 1, none⟩) := h0
              have h1 : vals 1 = .slice a_o7_r3 (List.length o7.2.2) c_o7_r3 := h1
              have h2 : vals 2 = .pointer (some ⟨b_s, 0, none⟩) := h2
              obtain ⟨a_v43, c_v44, h3⟩ : ∃ (a_v43 : Option Addr), ∃ (c_v44 : Nat), vals 3 = .slice a_v43 (List.length [5, 6, (-1)]) c_v44 := h3
              have h4 : vals 4 = .int .i64 o45.1 := h4
              have h5 : vals 5 = .agg #[.int .i64 0, .int .i64 0, .int .i64 0, .int .i64 o45.1] := h5
              obtain ⟨a_v46, c_v47, h6⟩ : ∃ (a_v46 : Option Addr), ∃ (c_v47 : Nat), vals 6 = .slice a_v46 (List.length [(⟨0, 0, 0, o45.1⟩ : Place)]) c_v47 := h6
              refine gl_conv (E2 := (82, .pointer (some ⟨b5, 1, none⟩)) :: (83, .slice a_o7_r3 (List.length o7.2.2) c_o7_r3) :: (84, .pointer (some ⟨b_s, 0, none⟩)) :: (85, .slice a_v43 (List.length [5, 6, (-1)]) c_v44) :: (86, .int .i64 o45.1) :: (87, .agg #[.int .i64 0, .int .i64 0, .int .i64 0, .int .i64 o45.1]) :: (88, .slice a_v46 (List.length [(⟨0, 0, 0, o45.1⟩ : Place)]) c_v47) :: [(0, .pointer (some ⟨b_s, 0, none⟩)), (2, .pointer (some ⟨b1, 0, none⟩)), (3, .pointer (some ⟨b5, 0, none⟩))]) (R2 := [BK 89 b_s [.slice a_s_code (List.length s.code) c_s_code, .int .i64 o45.2.at_v, .int .i64 o45.2.seed]] ++ ([SL false 2 (intS .i64) a_v43 c_v44 [5, 6, (-1)], SL false 114 PlaceS a_v46 c_v47 [(⟨0, 0, 0, o45.1⟩ : Place)]] ++ [BK 49 b1 [.int .i64 0, .slice none 0 0], BK 49 b5 [.int .i64 (IntKind.i64.wrap (1 + o2.1)), .slice a_o7_r3 (List.length o7.2.2) c_o7_r3], SL false 114 PlaceS a_o7_r3 c_o7_r3 o7.2.2])) (O2 := [] ++ [SL false 5 (intS .u8) a_s_code c_s_code s.code]) (by show (82, vals 0) :: (83, vals 1) :: (84, vals 2) :: (85, vals 3) :: (86, vals 4) :: (87, vals 5) :: (88, vals 6) :: [(0, .pointer (some ⟨b_s, 0, none⟩)), (2, .pointer (some ⟨b1, 0, none⟩)), (3, .pointer (some ⟨b5, 0, none⟩))] = _; rw [h0, h1, h2, h3, h4, h5, h6]) (by show [BK 89 b_s [.slice a_s_code (List.length s.code) c_s_code, .int .i64 o45.2.at_v, .int .i64 o45.2.seed]] ++ ([SL false 2 (intS .i64) (slA (vals 3)) (slC (vals 3)) [5, 6, (-1)], SL false 114 PlaceS (slA (vals 6)) (slC (vals 6)) [(⟨0, 0, 0, o45.1⟩ : Place)]] ++ [BK 49 b1 [.int .i64 0, .slice none 0 0], BK 49 b5 [.int .i64 (IntKind.i64.wrap (1 + o2.1)), .slice a_o7_r3 (List.length o7.2.2) c_o7_r3], SL false 114 PlaceS a_o7_r3 c_o7_r3 o7.2.2]) = _; rw [h3, h6] <;> rfl) rfl ?_
              refine gl_pick 5 rfl ?_
              obtain ⟨z48, hz48, h⟩ := bindS h
              refine gl_appn (mem_at 3 rfl) rfl rfl Fs47 Fi114 rfl rfl (fun _ => rfl) hz48 rfl rfl ?_
              intro a_v49 c_v50
              refine gl_run (v := .pointer (some ⟨b5, 1, none⟩)) rfl rfl rfl (fun w => by kernel_rfl) ?_
              refine gl_pick 5 rfl ?_
              refine gl_stB (cells' := [.int .i64 (IntKind.i64.wrap (1 + o2.1)), .slice a_v49 (List.length z48) c_v50]) 1 [.slice a_v49 (List.length z48) c_v50] rfl rfl rfl Fz47 rfl rfl rfl rfl ?_
              refine gl_nil ?_
              refine gx_blk ?_
              obtain rfl := Option.some.inj h
              exact gx_of (fun a w hE hS => ⟨rfl, a_v49, c_v50, hE.sub ⟨rfl, rfl, trivial⟩, (((((hS.pick 2 rfl).pick 2 rfl).pick 2 rfl).pick 5 rfl).take 4).facts _ _ [] (consItem (mem_at 0 rfl) (consItem (mem_at 1 rfl) (consItem (mem_at 2 rfl) (consItem (mem_at 3 rfl) noItem)))) (consItem (mem_at 0 rfl) noItem) noItem⟩)
          · replace h := condF hc h
            refine g_sr ?_
            refine gl_batch 2 [(91, .bool (o28.1 == 3)), (92, .bool (o28.1 == 3))] rfl ?_
            refine gl_ns ?_
            refine g_cond (b := o28.1 == 3) rfl (fun hc => ?_) (fun hc => ?_)
            · replace h := condT hc h
              refine g_sr ?_
              refine gl_batch 1 [(6, .int .i64 0)] rfl ?_
              refine gl_ns ?_
              refine g_block ?_
              obtain ⟨o51, ho51, h⟩ := bindS h
              refine g_loop (spec_l11Draw_L2 s) (fun (ss_ : Int × Int × (List Place) × Int) a w => ∃ (a_ss__r3 : Option Addr), ∃ (c_ss__r3 : Nat), Env a 108 [(0, .pointer (some ⟨b_s, 0, none⟩)), (2, .pointer (some ⟨b1, 0, none⟩)), (3, .pointer (some ⟨b5, 0, none⟩)), (6, .int .i64 ss_.2.2.2)] ∧ St c w [BK 89 b_s [.slice a_s_code (List.length s.code) c_s_code, .int .i64 ss_.1, .int .i64 ss_.2.1], BK 49 b1 [.int .i64 0, .slice none 0 0], BK 49 b5 [.int .i64 (IntKind.i64.wrap (1 + o2.1)), .slice a_ss__r3 (List.length ss_.2.2.1) c_ss__r3], SL false 114 PlaceS a_ss__r3 c_ss__r3 ss_.2.2.1] [gTab 3 pow10C, gNum 0, gErr 1, gErr 2] [SL false 5 (intS .u8) a_s_code c_s_code s.code] []) ((fun (ss_ : (List Place) × Int × Int) e a w => e = (.exit 3) ∧ ∃ (a_ss__r2 : Option Addr), ∃ (c_ss__r2 : Nat), Env a 108 [(2, .pointer (some ⟨b1, 0, none⟩)), (3, .pointer (some ⟨b5, 0, none⟩))] ∧ St c w [BK 49 b1 [.int .i64 0, .slice none 0 0], BK 49 b5 [.int .i64 (IntKind.i64.wrap (1 + o2.1)), .slice a_ss__r2 (List.length ss_.1) c_ss__r2], SL false 114 PlaceS a_ss__r2 c_ss__r2 ss_.1, BK 89 b_s [.slice a_s_code (List.length s.code) c_s_code, .int .i64 ss_.2.1, .int .i64 ss_.2.2]] [gTab 3 pow10C, gNum 0, gErr 1, gErr 2] [SL false 5 (intS .u8) a_s_code c_s_code s.code] []) : ((List Place) × Int × Int) → Exit → Act → World → Prop) ho51 ?_ ?_ ?_
              · exact fun a w hE hS => ⟨a_o7_r3, c_o7_r3, hE.sub ⟨rfl, rfl, rfl, rfl, trivial⟩, (hS.take 4).facts _ _ [] (consItem (mem_at 0 rfl) (consItem (mem_at 1 rfl) (consItem (mem_at 2 rfl) (consItem (mem_at 3 rfl) noItem)))) (consItem (mem_at 0 rfl) noItem) noItem⟩
              · intro s52 o53 h a w hA
                obtain ⟨a_s52_r3, c_s52_r3, hE, hS⟩ := hA
                unfold spec_l11Draw_L2 at h
                refine g_enter hE hS ?_
                refine g_seq ?_
                refine g_sr ?_
                refine gl_batch 2 [(94, .pointer (some ⟨b_s, 0, none⟩)), (93, .int .i64 s52.2.2.2)] rfl ?_
                obtain ⟨o54, ho54, h⟩ := bindS h
                refine gl_callR rfl rfl (fun w => by kernel_rfl) (c_spec_l01Next (⟨s.code, s52.1, s52.2.1⟩ : Src) 9 b_s a_s_code c_s_code ho54) rfl (consItem (mem_at 0 rfl) (consItem (mem_at 1 rfl) (consItem (mem_at 2 rfl) (consItem (mem_at 3 rfl) noItem)))) (consItem (mem_at 3 rfl) noItem) ?_
                rintro v outs ros ⟨rfl, rfl, rfl⟩
                refine ⟨_, rfl, ?_⟩
                refine gl_batch 2 [(97, .bool (decide (s52.2.2.2 < (IntKind.i64.wrap (22 + o54.1))))), (96, .int .i64 (IntKind.i64.wrap (22 + o54.1)))] rfl ?_
                refine gl_ns ?_
                refine g_cond (b := decide (s52.2.2.2 < (IntKind.i64.wrap (22 + o54.1)))) rfl (fun hc => ?_) (fun hc => ?_)
                · replace h := condT hc h
                  refine g_skip ?_
                  refine gx_seq ?_
                  refine g_seq ?_
                  refine g_block ?_
                  refine g_region ?_
                  refine gl_run (v := .pointer (some ⟨b5, 1, none⟩)) rfl rfl rfl (fun w => by kernel_rfl) ?_
                  refine gl_ld1 1 hasBK (mem_at 2 rfl) rfl rfl Fo47 rfl rfl rfl ?_
                  refine gl_batch 1 [(102, .int .i64 s52.2.2.2)] rfl ?_
                  refine gl_run (v := .agg #[.int .i64 0, .int .i64 0, .int .i64 s52.2.2.2, .int .i64 1]) rfl rfl rfl (fun w => by kernel_rfl) ?_
                  refine gl_lit (m := 4) (d := 104) (T := 114) (enc := PlaceE) (hn := fun _ => rfl) false [(⟨0, 0, s52.2.2.2, 1⟩ : Place)] rfl rfl (fun _ => rfl) nofun (Nat.le_of_ble_eq_true rfl) (fun w => by kernel_rfl) ?_
                  intro a_v55 c_v56
                  refine gl_pick 4 rfl ?_
                  obtain ⟨z57, hz57, h⟩ := bindS h
                  refine gl_appn (mem_at 1 rfl) rfl rfl Fs47 Fi114 rfl rfl (fun _ => rfl) hz57 rfl rfl ?_
                  intro a_v58 c_v59
                  refine gl_run (v := .pointer (some ⟨b5, 1, none⟩)) rfl rfl rfl (fun w => by kernel_rfl) ?_
                  refine gl_pick 4 rfl ?_
                  refine gl_stB (cells' := [.int .i64 (IntKind.i64.wrap (1 + o2.1)), .slice a_v58 (List.length z57) c_v59]) 1 [.slice a_v58 (List.length z57) c_v59] rfl rfl rfl Fz47 rfl rfl rfl rfl ?_
                  refine gl_nil ?_
                  refine gx_blk ?_
                  refine gx_seq ?_
                  refine g_region ?_
                  obtain ⟨k60, hk60, h⟩ := letS h
                  refine gl_batch 3 [(6, .int .i64 k60), (99, .int .i64 (IntKind.i64.wrap (s52.2.2.2 + 1))), (98, .int .i64 s52.2.2.2)] (by subst hk60; rfl) ?_
                  refine gl_nil ?_
                  obtain rfl := Option.some.inj h
                  exact gx_of (fun a w hE hS => lp_in ⟨a_v58, c_v59, hE.sub ⟨rfl, rfl, rfl, rfl, trivial⟩, (((((hS.pick 1 rfl).pick 1 rfl).pick 4 rfl).pick 4 rfl).take 4).facts _ _ [] (consItem (mem_at 0 rfl) (consItem (mem_at 1 rfl) (consItem (mem_at 2 rfl) (consItem (mem_at 3 rfl) noItem)))) (consItem (mem_at 0 rfl) noItem) noItem⟩)
                · replace h := condF hc h
                  refine g_exit ?_
                  refine gx_seq_exit ?_
                  obtain rfl := Option.some.inj h
                  exact gx_of (fun a w hE hS => lp_out nofun (⟨rfl, a_s52_r3, c_s52_r3, hE.sub ⟨rfl, rfl, trivial⟩, (((((hS.pick 0 rfl).pick 3 rfl).pick 3 rfl).pick 3 rfl).take 4).facts _ _ [] (consItem (mem_at 0 rfl) (consItem (mem_at 1 rfl) (consItem (mem_at 2 rfl) (consItem (mem_at 3 rfl) noItem)))) (consItem (mem_at 0 rfl) noItem) noItem⟩))
              · intro e a w hm
                obtain ⟨rfl, a_o51_r2, c_o51_r2, hE, hS⟩ := hm
                refine gx_to hE hS ?_
                refine gx_blk_hit ?_
                refine gx_blk ?_
                obtain rfl := Option.some.inj h
                exact gx_of (fun a w hE hS => ⟨rfl, a_o51_r2, c_o51_r2, hE.sub ⟨rfl, rfl, trivial⟩, (hS.take 4).facts _ _ [] (consItem (mem_at 0 rfl) (consItem (mem_at 1 rfl) (consItem (mem_at 2 rfl) (consItem (mem_at 3 rfl) noItem)))) (consItem (mem_at 0 rfl) noItem) noItem⟩)
            · replace h := condF hc h
              refine g_skip ?_
              refine gx_blk ?_
              obtain rfl := Option.some.inj h
              exact gx_of (fun a w hE hS => ⟨rfl, a_o7_r3, c_o7_r3, hE.sub ⟨rfl, rfl, trivial⟩, (((((hS.pick 0 rfl).pick 3 rfl).pick 3 rfl).pick 3 rfl).take 4).facts _ _ [] (consItem (mem_at 0 rfl) (consItem (mem_at 1 rfl) (consItem (mem_at 2 rfl) (consItem (mem_at 3 rfl) noItem)))) (consItem (mem_at 0 rfl) noItem) noItem⟩)
    · intro e a w hm
      obtain ⟨rfl, a_o27_r2, c_o27_r2, hE, hS⟩ := hm
      refine gx_to hE hS ?_
      refine gx_seq ?_
      refine g_sr ?_
      refine gl_ldA (vs := [.int .i64 o27.1, .slice a_o27_r2 (List.length o27.2.1) c_o27_r2]) 0 hasBK (mem_at 1 rfl) rfl rfl Fm49 Fz49 rfl rfl rfl ?_
      refine gl_stB (cells' := [.int .i64 o27.1, .slice a_o27_r2 (List.length o27.2.1) c_o27_r2]) 0 [.int .i64 o27.1, .slice a_o27_r2 (List.length o27.2.1) c_o27_r2] rfl rfl rfl Fz49 rfl rfl rfl rfl ?_
      refine gl_ns ?_
      refine g_ret ?_
      obtain rfl := Option.some.inj h
      exact gx_fin rfl [.agg #[.int .i64 o27.1, .slice a_o27_r2 (List.length o27.2.1) c_o27_r2]] _ _ [] ⟨_, _, rfl, ⟨_, _, _, rfl, mem_at 0 rfl, hasBK, Or.inl ⟨Fm49, Fz49, rfl⟩⟩, rfl⟩ rfl ⟨a_o27_r2, c_o27_r2, rfl, rfl, rfl⟩ (fun w hS => (((hS.pick 3 rfl).pick 3 rfl).take 2).facts [] [] [] noItem noItem noItem) (Or.inl rfl)

theorem c_spec_IsEventGraph (g : EventGraph) (a_g_Places : Option Addr) (c_g_Places : Nat) {r : Bool} (h : spec_IsEventGraph g = some r) : CallOK Tryz.prog 46 [.agg #[.int .i64 g.Events, .slice a_g_Places (List.length g.Places) c_g_Places]] [] [gTab 3 pow10C, gNum 0, gErr 1, gErr 2] [SL false 114 PlaceS a_g_Places c_g_Places g.Places] (fun v outs ros => v = .bool r ∧ outs = [] ∧ ros = []) := by
  refine fn_ok Tryz.func46 rfl Tryz.ntmps46 rfl (fun c hF0 => ?_)
  unfold spec_IsEventGraph at h
  refine g_sr ?_
  refine gl_new (d := 1) (T := 49) [.int .i64 g.Events, .slice a_g_Places (List.length g.Places) c_g_Places] rfl rfl (fun _ => rfl) (fun w => by kernel_rfl) ?_
  intro b1
  refine gl_batch 1 [(2, .bool false)] rfl ?_
  refine gl_ns ?_
  refine g_seq ?_
  refine g_sr ?_
  refine gl_batch 1 [(3, .int .i64 0)] rfl ?_
  refine gl_ns ?_
  refine g_block ?_
  obtain ⟨o2, ho2, h⟩ := bindS h
  refine g_loop (spec_IsEventGraph_L1 g) (fun (ss_ : Int) a w => Env a 29 [(1, .pointer (some ⟨b1, 0, none⟩)), (3, .int .i64 ss_)] ∧ St c w [BK 49 b1 [.int .i64 g.Events, .slice a_g_Places (List.length g.Places) c_g_Places]] [gTab 3 pow10C, gNum 0, gErr 1, gErr 2] [SL false 114 PlaceS a_g_Places c_g_Places g.Places] []) (Sum.elim (fun (ss_ : Unit) e a w => e = .ret ∧ Env a 29 [(2, .bool false)] ∧ St c w [] [gTab 3 pow10C, gNum 0, gErr 1, gErr 2] [SL false 114 PlaceS a_g_Places c_g_Places g.Places] []) (fun (ss_ : Unit) e a w => e = (.exit 0) ∧ Env a 29 [(1, .pointer (some ⟨b1, 0, none⟩))] ∧ St c w [BK 49 b1 [.int .i64 g.Events, .slice a_g_Places (List.length g.Places) c_g_Places]] [gTab 3 pow10C, gNum 0, gErr 1, gErr 2] [SL false 114 PlaceS a_g_Places c_g_Places g.Places] []) : (Sum Unit Unit) → Exit → Act → World → Prop) ho2 ?_ ?_ ?_
  · exact fun a w hE hS => ⟨hE.sub ⟨rfl, rfl, trivial⟩, (hS.take 1).facts _ _ [] (consItem (mem_at 0 rfl) (consItem (mem_at 1 rfl) (consItem (mem_at 2 rfl) (consItem (mem_at 3 rfl) noItem)))) (consItem (mem_at 0 rfl) noItem) noItem⟩
  · intro s3 o4 h a w hA
    obtain ⟨hE, hS⟩ := hA
    unfold spec_IsEventGraph_L1 at h
    refine g_enter hE hS ?_
    refine g_seq ?_
    refine g_sr ?_
    refine gl_batch 1 [(4, .int .i64 s3)] rfl ?_
    refine gl_run (v := .pointer (some ⟨b1, 1, none⟩)) rfl rfl rfl (fun w => by kernel_rfl) ?_
    refine gl_ld1 1 hasBK (mem_at 0 rfl) rfl rfl Fo47 rfl rfl rfl ?_
    refine gl_len rfl Fs47 rfl rfl ?_
    refine gl_batch 1 [(8, .bool (decide (s3 < (List.length g.Places : Int))))] rfl ?_
    refine gl_ns ?_
    refine g_cond (b := decide (s3 < (List.length g.Places : Int))) rfl (fun hc => ?_) (fun hc => ?_)
    · replace h := condT hc h
      refine g_skip ?_
      refine gx_seq ?_
      refine g_seq ?_
      refine g_block ?_
      refine g_seq ?_
      obtain ⟨x5, hx5, h⟩ := bindS h
      refine g_elemn (mem_at 1 rfl) hx5 ?_
      intro p6 hp6
      refine g_drawD 7 [[], [0], [], [0, 1, 2], [0, 1, 2, 3], [], [5]] [[1], [], [3], [], [], [1], []] [.pointer (some ⟨b1, 1, none⟩), .slice a_g_Places (List.length g.Places) c_g_Places, .int .i64 s3, .pointer (some p6), .agg #[.int .i64 x5.From, .int .i64 x5.To, .int .i64 x5.Delay, .int .i64 x5.Tokens], .pointer (some ⟨b1, 0, none⟩), .int .i64 g.Events] mixed rfl rfl ⟨⟨⟨⟨⟨⟨⟨trivial, ?_⟩, ?_⟩, ?_⟩, ?_⟩, ?_⟩, ?_⟩, ?_⟩ ?_
      · refine obl_in rfl rfl rfl rfl (fun R' O' => ?_)
        refine gl_run (v := .pointer (some ⟨b1, 1, none⟩)) rfl rfl rfl (fun w => by kernel_rfl) ?_
        exact gl_dp rfl rfl rfl
      · refine obl_in rfl rfl rfl rfl (fun R' O' => ?_)
        refine gl_ld1 1 hasBK (memV (mem_at 0 rfl)) rfl rfl Fo47 rfl rfl rfl ?_
        exact gl_dp rfl rfl rfl
      · exact obl_pure rfl rfl rfl rfl rfl rfl rfl rfl
      · refine obl_in rfl rfl rfl rfl (fun R' O' => ?_)
        refine gl_idxVn (k := .i64) (memO (mem_at 0 rfl)) rfl rfl Fs47 Fz114 hx5 rfl rfl ?_
        intro p_ hp_
        obtain rfl : p6 = p_ := Option.some.inj (hp6.symm.trans hp_)
        exact gl_dp rfl rfl rfl
      · refine obl_in rfl rfl rfl rfl (fun R' O' => ?_)
        refine gl_elemVn (memO (mem_at 0 rfl)) hx5 hp6 ?_
        refine gl_ldA (vs := [.int .i64 x5.From, .int .i64 x5.To, .int .i64 x5.Delay, .int .i64 x5.Tokens]) 0 hasAT (memV (mem_at 0 rfl)) rfl rfl Fm114 Fz114 rfl rfl rfl ?_
        exact gl_dp rfl rfl rfl
      · refine obl_in rfl rfl rfl rfl (fun R' O' => ?_)
        refine gl_run (v := .pointer (some ⟨b1, 0, none⟩)) rfl rfl rfl (fun w => by kernel_rfl) ?_
        exact gl_dp rfl rfl rfl
      · refine obl_in rfl rfl rfl rfl (fun R' O' => ?_)
        refine gl_ld1 0 hasBK (memV (mem_at 0 rfl)) rfl rfl Fo2 rfl rfl rfl ?_
        exact gl_dp rfl rfl rfl
      · skip
        refine gl_call rfl rfl (fun w => by kernel_rfl) (c_spec_l11Place x5 g.Events rfl) (consItem (mem_at 0 rfl) (consItem (mem_at 1 rfl) (consItem (mem_at 2 rfl) (consItem (mem_at 3 rfl) noItem)))) noItem ?_
        rintro v outs ros ⟨rfl, rfl, rfl⟩
        refine ⟨_, rfl, ?_⟩
        refine gl_batch 1 [(19, .bool (!(spec_l11Place x5 g.Events)))] rfl ?_
        refine gl_ns ?_
        refine g_cond (b := !(spec_l11Place x5 g.Events)) rfl (fun hc => ?_) (fun hc => ?_)
        · replace h := condT hc h
          refine g_sr ?_
          refine gl_batch 1 [(2, .bool false)] rfl ?_
          refine gl_ns ?_
          refine g_ret ?_
          refine gx_blk_ret ?_
          refine gx_seq_ret ?_
          obtain rfl := Option.some.inj h
          exact gx_of (fun a w hE hS => lp_out nofun (inL ⟨rfl, hE.sub ⟨rfl, trivial⟩, (hS.take 0).facts _ _ [] (consItem (mem_at 0 rfl) (consItem (mem_at 1 rfl) (consItem (mem_at 2 rfl) (consItem (mem_at 3 rfl) noItem)))) (consItem (mem_at 0 rfl) noItem) noItem⟩))
        · replace h := condF hc h
          refine g_skip ?_
          refine gx_blk ?_
          refine gx_seq ?_
          refine g_region ?_
          refine gl_batch 3 [(3, .int .i64 (IntKind.i64.wrap (s3 + 1))), (10, .int .i64 (IntKind.i64.wrap (s3 + 1))), (9, .int .i64 s3)] rfl ?_
          refine gl_nil ?_
          obtain rfl := Option.some.inj h
          exact gx_of (fun a w hE hS => lp_in ⟨hE.sub ⟨rfl, rfl, trivial⟩, (hS.take 1).facts _ _ [] (consItem (mem_at 0 rfl) (consItem (mem_at 1 rfl) (consItem (mem_at 2 rfl) (consItem (mem_at 3 rfl) noItem)))) (consItem (mem_at 0 rfl) noItem) noItem⟩)
    · replace h := condF hc h
      refine g_exit ?_
      refine gx_seq_exit ?_
      obtain rfl := Option.some.inj h
      exact gx_of (fun a w hE hS => lp_out nofun (inR ⟨rfl, hE.sub ⟨rfl, trivial⟩, (hS.take 1).facts _ _ [] (consItem (mem_at 0 rfl) (consItem (mem_at 1 rfl) (consItem (mem_at 2 rfl) (consItem (mem_at 3 rfl) noItem)))) (consItem (mem_at 0 rfl) noItem) noItem⟩))
  · intro e a w hm
    rcases o2 with s7 | s8
    · replace h := elimL h
      obtain ⟨rfl, hE, hS⟩ := hm
      refine gx_to hE hS ?_
      refine gx_blk_ret ?_
      refine gx_seq_ret ?_
      obtain rfl := Option.some.inj h
      exact gx_fin rfl [.bool false] _ _ [] ⟨_, _, rfl, rfl, rfl⟩ rfl ⟨rfl, rfl, rfl⟩ (fun w hS => (hS.take 0).facts [] [] [] noItem noItem noItem) (Or.inl rfl)
    · replace h := elimR h
      obtain ⟨rfl, hE, hS⟩ := hm
      refine gx_to hE hS ?_
      refine gx_blk_hit ?_
      refine gx_seq ?_
      refine g_sr ?_
      refine gl_run (v := .pointer (some ⟨b1, 0, none⟩)) rfl rfl rfl (fun w => by kernel_rfl) ?_
      refine gl_ld1 0 hasBK (mem_at 0 rfl) rfl rfl Fo2 rfl rfl rfl ?_
      refine gl_call rfl rfl (fun w => by kernel_rfl) (c_spec_l01In g.Events 1 10 rfl) (consItem (mem_at 0 rfl) (consItem (mem_at 1 rfl) (consItem (mem_at 2 rfl) (consItem (mem_at 3 rfl) noItem)))) noItem ?_
      rintro v outs ros ⟨rfl, rfl, rfl⟩
      refine ⟨_, rfl, ?_⟩
      refine gl_batch 1 [(23, .bool (spec_l01In g.Events 1 10))] rfl ?_
      refine gl_join (EE := [(28, .bool ((spec_l01In g.Events 1 10) && (decide ((List.length g.Places : Int) ≤ 30))))]) (RR := [BK 49 b1 [.int .i64 g.Events, .slice a_g_Places (List.length g.Places) c_g_Places]]) (XX := [gTab 3 pow10C, gNum 0, gErr 1, gErr 2]) (OO := [SL false 114 PlaceS a_g_Places c_g_Places g.Places]) (VV := []) 5 ?_ ?_
      · skip
        refine gl_case 23 rfl (fun hc => ?_) (fun hc => ?_)
        · skip
          refine gl_run (v := .pointer (some ⟨b1, 1, none⟩)) rfl rfl rfl (fun w => by kernel_rfl) ?_
          refine gl_ld1 1 hasBK (mem_at 0 rfl) rfl rfl Fo47 rfl rfl rfl ?_
          refine gl_len rfl Fs47 rfl rfl ?_
          refine gl_batch 2 [(28, .bool (decide ((List.length g.Places : Int) ≤ 30))), (27, .bool (decide ((List.length g.Places : Int) ≤ 30)))] rfl ?_
          refine gl_nil ?_
          exact gx_mid ⟨congrArg (fun z => some (Value.bool z)) (and_t hc).symm, trivial⟩ (fun w hS => hS)
        · skip
          refine gl_batch 5 [(28, .bool false), (27, undef), (26, undef), (25, undef), (24, undef)] rfl ?_
          refine gl_nil ?_
          exact gx_mid ⟨congrArg (fun z => some (Value.bool z)) (and_f hc).symm, trivial⟩ (fun w hS => hS)
      · skip
        refine gl_batch 1 [(2, .bool ((spec_l01In g.Events 1 10) && (decide ((List.length g.Places : Int) ≤ 30))))] rfl ?_
        refine gl_ns ?_
        refine g_ret ?_
        obtain rfl := Option.some.inj h
        exact gx_fin rfl [.bool ((spec_l01In g.Events 1 10) && (decide ((List.length g.Places : Int) ≤ 30)))] _ _ [] ⟨_, _, rfl, rfl, rfl⟩ rfl ⟨rfl, rfl, rfl⟩ (fun w hS => (hS.take 0).facts [] [] [] noItem noItem noItem) (Or.inl rfl)

theorem c_slices_IndexFunc_Firing_isWritable_c1 (s : List Firing) (a_s : Option Addr) (c_s : Nat) {r : Int} (h : slices_IndexFunc_Firing_isWritable_c1 s = some r) : CallOK Tryz.prog 84 [.slice a_s (List.length s) c_s, .func (.func 59) #[] #[]] [] [gTab 3 pow10C, gNum 0, gErr 1, gErr 2] [SL false 39 FiringS a_s c_s s] (fun v outs ros => v = .int .i64 r ∧ outs = [] ∧ ros = []) := by
  refine fn_ok Tryz.func84 rfl Tryz.ntmps84 rfl (fun c hF0 => ?_)
  unfold slices_IndexFunc_Firing_isWritable_c1 at h
  refine g_sr ?_
  refine gl_batch 1 [(4, .int .i64 0)] rfl ?_
  refine gl_ns ?_
  refine g_seq ?_
  refine g_sr ?_
  refine gl_batch 1 [(6, .slice a_s (List.length s) c_s)] rfl ?_
  refine gl_len rfl Fs24 rfl rfl ?_
  refine gl_batch 1 [(8, .int .i64 0)] rfl ?_
  refine gl_ns ?_
  refine g_block ?_
  obtain ⟨o1, ho1, h⟩ := bindS h
  refine g_loop (slices_IndexFunc_Firing_isWritable_c1_L1 s) (fun (ss_ : Int) a w => Env a 19 [(0, .slice a_s (List.length s) c_s), (1, .func (.func 59) #[] #[]), (7, .int .i64 (List.length s : Int)), (8, .int .i64 ss_)] ∧ St c w [] [gTab 3 pow10C, gNum 0, gErr 1, gErr 2] [SL false 39 FiringS a_s c_s s] []) (Sum.elim (fun (ss_ : Int) e a w => e = .ret ∧ Env a 19 [(4, .int .i64 ss_)] ∧ St c w [] [gTab 3 pow10C, gNum 0, gErr 1, gErr 2] [SL false 39 FiringS a_s c_s s] []) (fun (ss_ : Unit) e a w => e = (.exit 0) ∧ Env a 19 [] ∧ St c w [] [gTab 3 pow10C, gNum 0, gErr 1, gErr 2] [SL false 39 FiringS a_s c_s s] []) : (Sum Int Unit) → Exit → Act → World → Prop) ho1 ?_ ?_ ?_
  · exact fun a w hE hS => ⟨hE.sub ⟨rfl, rfl, rfl, rfl, trivial⟩, (hS.take 0).facts _ _ [] (consItem (mem_at 0 rfl) (consItem (mem_at 1 rfl) (consItem (mem_at 2 rfl) (consItem (mem_at 3 rfl) noItem)))) (consItem (mem_at 0 rfl) noItem) noItem⟩
  · intro s2 o3 h a w hA
    obtain ⟨hE, hS⟩ := hA
    unfold slices_IndexFunc_Firing_isWritable_c1_L1 at h
    refine g_enter hE hS ?_
    refine g_sr ?_
    refine gl_batch 1 [(9, .bool (decide (s2 < (List.length s : Int))))] rfl ?_
    refine gl_ns ?_
    refine g_seq ?_
    refine g_cond (b := decide (s2 < (List.length s : Int))) rfl (fun hc => ?_) (fun hc => ?_)
    · replace h := condT hc h
      refine g_skip ?_
      refine gx_seq ?_
      refine g_seq ?_
      refine g_block ?_
      refine g_sr ?_
      refine gl_batch 2 [(5, .int .i64 s2), (10, .int .i64 s2)] rfl ?_
      refine gl_nx ?_
      refine gl_batch 3 [(13, .int .i64 s2), (12, .slice a_s (List.length s) c_s), (11, .func (.func 59) #[] #[])] rfl ?_
      obtain ⟨x4, hx4, h⟩ := bindS h
      refine gl_idxOn (k := .i64) (mem_at 0 rfl) rfl rfl Fs24 Fz39 hx4 rfl rfl ?_
      intro p5
      refine gl_ldA (vs := [.int .i64 x4.Event, .int .i64 x4.Number, .int .i64 x4.Time]) 0 hasAT (mem_at 0 rfl) rfl rfl Fm39 Fz39 rfl rfl rfl ?_
      refine gl_call rfl rfl (fun w => by kernel_rfl) (c_impl_isWritable_c1 x4 rfl) (consItem (mem_at 0 rfl) (consItem (mem_at 1 rfl) (consItem (mem_at 2 rfl) (consItem (mem_at 3 rfl) noItem)))) noItem ?_
      rintro v outs ros ⟨rfl, rfl, rfl⟩
      refine ⟨_, rfl, ?_⟩
      refine gl_ns ?_
      refine g_cond (b := (impl_isWritable_c1 x4)) rfl (fun hc => ?_) (fun hc => ?_)
      · replace h := condT hc h
        refine g_sr ?_
        refine gl_batch 2 [(4, .int .i64 s2), (17, .int .i64 s2)] rfl ?_
        refine gl_ns ?_
        refine g_ret ?_
        refine gx_blk_ret ?_
        refine gx_seq_ret ?_
        obtain rfl := Option.some.inj h
        exact gx_of (fun a w hE hS => lp_out nofun (inL ⟨rfl, hE.sub ⟨rfl, trivial⟩, (hS.take 0).facts _ _ [] (consItem (mem_at 0 rfl) (consItem (mem_at 1 rfl) (consItem (mem_at 2 rfl) (consItem (mem_at 3 rfl) noItem)))) (consItem (mem_at 1 rfl) noItem) noItem⟩))
      · replace h := condF hc h
        refine g_skip ?_
        refine gx_blk ?_
        refine gx_seq ?_
        refine g_region ?_
        refine gl_batch 2 [(8, .int .i64 (IntKind.i64.wrap (s2 + 1))), (18, .int .i64 (IntKind.i64.wrap (s2 + 1)))] rfl ?_
        refine gl_nil ?_
        obtain rfl := Option.some.inj h
        exact gx_of (fun a w hE hS => lp_in ⟨hE.sub ⟨rfl, rfl, rfl, rfl, trivial⟩, (hS.take 0).facts _ _ [] (consItem (mem_at 0 rfl) (consItem (mem_at 1 rfl) (consItem (mem_at 2 rfl) (consItem (mem_at 3 rfl) noItem)))) (consItem (mem_at 1 rfl) noItem) noItem⟩)
    · replace h := condF hc h
      refine g_exit ?_
      refine gx_seq_exit ?_
      obtain rfl := Option.some.inj h
      exact gx_of (fun a w hE hS => lp_out nofun (inR ⟨rfl, hE.sub trivial, (hS.take 0).facts _ _ [] (consItem (mem_at 0 rfl) (consItem (mem_at 1 rfl) (consItem (mem_at 2 rfl) (consItem (mem_at 3 rfl) noItem)))) (consItem (mem_at 0 rfl) noItem) noItem⟩))
  · intro e a w hm
    rcases o1 with s6 | s7
    · replace h := elimL h
      obtain ⟨rfl, hE, hS⟩ := hm
      refine gx_to hE hS ?_
      refine gx_blk_ret ?_
      refine gx_seq_ret ?_
      obtain rfl := Option.some.inj h
      exact gx_fin rfl [.int .i64 s6] _ _ [] ⟨_, _, rfl, rfl, rfl⟩ rfl ⟨rfl, rfl, rfl⟩ (fun w hS => (hS.take 0).facts [] [] [] noItem noItem noItem) (Or.inl rfl)
    · replace h := elimR h
      obtain ⟨rfl, hE, hS⟩ := hm
      refine gx_to hE hS ?_
      refine gx_blk_hit ?_
      refine gx_seq ?_
      refine g_sr ?_
      refine gl_batch 1 [(4, .int .i64 (-1))] rfl ?_
      refine gl_ns ?_
      refine g_ret ?_
      obtain rfl := Option.some.inj h
      exact gx_fin rfl [.int .i64 (-1)] _ _ [] ⟨_, _, rfl, rfl, rfl⟩ rfl ⟨rfl, rfl, rfl⟩ (fun w hS => (hS.take 0).facts [] [] [] noItem noItem noItem) (Or.inl rfl)

theorem c_impl_traceLine (f : Firing) (chain : Int)  {r : List UInt8 × Int} (h : impl_traceLine f chain = some r) : CallOK Tryz.prog 61 [.agg #[.int .i64 f.Event, .int .i64 f.Number, .int .i64 f.Time], .int .i64 chain] [] [gTab 3 pow10C, gNum 0, gErr 1, gErr 2] [] (fun v outs ros => v = .tuple #[str r.1, .int .i64 r.2] ∧ outs = [] ∧ ros = []) := by
  refine fn_ok Tryz.func61 rfl Tryz.ntmps61 rfl (fun c hF0 => ?_)
  unfold impl_traceLine at h
  refine g_sr ?_
  refine gl_new (d := 2) (T := 39) [.int .i64 f.Event, .int .i64 f.Number, .int .i64 f.Time] rfl rfl (fun _ => rfl) (fun w => by kernel_rfl) ?_
  intro b1
  refine gl_batch 2 [(5, .int .i64 0), (4, str [])] rfl ?_
  refine gl_nx ?_
  refine gl_batch 2 [(7, .int .i64 (IntKind.i64.wrap (31 * chain))), (6, .int .i64 chain)] rfl ?_
  refine gl_run (v := .pointer (some ⟨b1, 0, none⟩)) rfl rfl rfl (fun w => by kernel_rfl) ?_
  refine gl_ld1 0 hasBK (mem_at 0 rfl) rfl rfl Fo2 rfl rfl rfl ?_
  refine gl_batch 2 [(11, .int .i64 (IntKind.i64.wrap ((IntKind.i64.wrap (31 * chain)) + (IntKind.i64.wrap (7 * f.Event))))), (10, .int .i64 (IntKind.i64.wrap (7 * f.Event)))] rfl ?_
  refine gl_run (v := .pointer (some ⟨b1, 2, none⟩)) rfl rfl rfl (fun w => by kernel_rfl) ?_
  refine gl_ld1 2 hasBK (mem_at 0 rfl) rfl rfl Fo2 rfl rfl rfl ?_
  obtain ⟨chain2, hchain2, h⟩ := letS h
  refine gl_batch 3 [(1, .int .i64 chain2), (15, .int .i64 (Int.tmod (IntKind.i64.wrap ((IntKind.i64.wrap ((IntKind.i64.wrap (31 * chain)) + (IntKind.i64.wrap (7 * f.Event)))) + f.Time)) 9973)), (14, .int .i64 (IntKind.i64.wrap ((IntKind.i64.wrap ((IntKind.i64.wrap (31 * chain)) + (IntKind.i64.wrap (7 * f.Event)))) + f.Time)))] (by subst hchain2; rfl) ?_
  refine gl_ns ?_
  refine g_seq ?_
  obtain ⟨o3, ho3, h⟩ := bindS h
  obtain ⟨z4, hz4, h⟩ := bindS h
  obtain ⟨o5, ho5, h⟩ := bindS h
  obtain ⟨z6, hz6, h⟩ := bindS h
  obtain ⟨z7, hz7, h⟩ := bindS h
  obtain ⟨o8, ho8, h⟩ := bindS h
  obtain ⟨z9, hz9, h⟩ := bindS h
  obtain ⟨z10, hz10, h⟩ := bindS h
  refine g_drawD 16 [[], [0], [1], [2], [], [4], [5], [3, 6], [7], [], [9], [8, 10], [11], [], [12], [13]] [[2], [], [], [], [2], [], [], [], [], [1], [], [], [], [1], [], []] [.pointer (some ⟨b1, 0, none⟩), .int .i64 f.Event, str o3, str z4, .pointer (some ⟨b1, 2, none⟩), .int .i64 f.Time, str o5, str z6, str z7, .int .i64 chain2, str o8, str z9, str z10, .int .i64 chain2, str z10, .int .i64 chain2] mixed rfl rfl ⟨⟨⟨⟨⟨⟨⟨⟨⟨⟨⟨⟨⟨⟨⟨⟨trivial, ?_⟩, ?_⟩, ?_⟩, ?_⟩, ?_⟩, ?_⟩, ?_⟩, ?_⟩, ?_⟩, ?_⟩, ?_⟩, ?_⟩, ?_⟩, ?_⟩, ?_⟩, ?_⟩ ?_
  · refine obl_in rfl rfl rfl rfl (fun R' O' => ?_)
    refine gl_run (v := .pointer (some ⟨b1, 0, none⟩)) rfl rfl rfl (fun w => by kernel_rfl) ?_
    exact gl_dp rfl rfl rfl
  · refine obl_in rfl rfl rfl rfl (fun R' O' => ?_)
    refine gl_ld1 0 hasBK (memV (mem_at 0 rfl)) rfl rfl Fo2 rfl rfl rfl ?_
    exact gl_dp rfl rfl rfl
  · refine obl_in rfl rfl rfl rfl (fun R' O' => ?_)
    refine gl_call rfl rfl (fun w => by kernel_rfl) (c_impl_decimal f.Event ho3) (consItem (mem_at 0 rfl) (consItem (mem_at 1 rfl) (consItem (mem_at 2 rfl) (consItem (mem_at 3 rfl) noItem)))) noItem ?_
    rintro v outs ros ⟨rfl, rfl, rfl⟩
    refine ⟨_, rfl, ?_⟩
    exact gl_dp rfl rfl rfl
  · refine obl_in rfl rfl rfl rfl (fun R' O' => ?_)
    refine gl_scat rfl rfl hz4 rfl rfl ?_
    exact gl_dp rfl rfl rfl
  · refine obl_in rfl rfl rfl rfl (fun R' O' => ?_)
    refine gl_run (v := .pointer (some ⟨b1, 2, none⟩)) rfl rfl rfl (fun w => by kernel_rfl) ?_
    exact gl_dp rfl rfl rfl
  · refine obl_in rfl rfl rfl rfl (fun R' O' => ?_)
    refine gl_ld1 2 hasBK (memV (mem_at 0 rfl)) rfl rfl Fo2 rfl rfl rfl ?_
    exact gl_dp rfl rfl rfl
  · refine obl_in rfl rfl rfl rfl (fun R' O' => ?_)
    refine gl_call rfl rfl (fun w => by kernel_rfl) (c_impl_decimal f.Time ho5) (consItem (mem_at 0 rfl) (consItem (mem_at 1 rfl) (consItem (mem_at 2 rfl) (consItem (mem_at 3 rfl) noItem)))) noItem ?_
    rintro v outs ros ⟨rfl, rfl, rfl⟩
    refine ⟨_, rfl, ?_⟩
    exact gl_dp rfl rfl rfl
  · refine obl_in rfl rfl rfl rfl (fun R' O' => ?_)
    refine gl_scat rfl rfl hz6 rfl rfl ?_
    exact gl_dp rfl rfl rfl
  · refine obl_in rfl rfl rfl rfl (fun R' O' => ?_)
    refine gl_scat rfl rfl hz7 rfl rfl ?_
    exact gl_dp rfl rfl rfl
  · exact obl_pure rfl rfl rfl rfl rfl rfl rfl rfl
  · refine obl_in rfl rfl rfl rfl (fun R' O' => ?_)
    refine gl_call rfl rfl (fun w => by kernel_rfl) (c_impl_decimal chain2 ho8) (consItem (mem_at 0 rfl) (consItem (mem_at 1 rfl) (consItem (mem_at 2 rfl) (consItem (mem_at 3 rfl) noItem)))) noItem ?_
    rintro v outs ros ⟨rfl, rfl, rfl⟩
    refine ⟨_, rfl, ?_⟩
    exact gl_dp rfl rfl rfl
  · refine obl_in rfl rfl rfl rfl (fun R' O' => ?_)
    refine gl_scat rfl rfl hz9 rfl rfl ?_
    exact gl_dp rfl rfl rfl
  · refine obl_in rfl rfl rfl rfl (fun R' O' => ?_)
    refine gl_scat rfl rfl hz10 rfl rfl ?_
    exact gl_dp rfl rfl rfl
  · exact obl_pure rfl rfl rfl rfl rfl rfl rfl rfl
  · exact obl_pure rfl rfl rfl rfl rfl rfl rfl rfl
  · exact obl_pure rfl rfl rfl rfl rfl rfl rfl rfl
  · skip
    refine gl_ns ?_
    refine g_ret ?_
    obtain rfl := Option.some.inj h
    exact gx_fin rfl [str z10, .int .i64 chain2] _ _ [] ⟨_, _, rfl, rfl, _, _, rfl, rfl, rfl⟩ rfl ⟨rfl, rfl, rfl⟩ (fun w hS => (hS.take 0).facts [] [] [] noItem noItem noItem) (Or.inl rfl)

theorem c_spec_l28All (run : List Firing) (a_run : Option Addr) (c_run : Nat) {r : Bool} (h : spec_l28All run = some r) : CallOK Tryz.prog 39 [.slice a_run (List.length run) c_run] [] [gTab 3 pow10C, gNum 0, gErr 1, gErr 2] [SL false 39 FiringS a_run c_run run] (fun v outs ros => v = .bool r ∧ outs = [] ∧ ros = []) := by
  refine fn_ok Tryz.func39 rfl Tryz.ntmps39 rfl (fun c hF0 => ?_)
  unfold spec_l28All at h
  refine g_sr ?_
  refine gl_batch 1 [(2, .bool false)] rfl ?_
  refine gl_ns ?_
  refine g_seq ?_
  refine g_sr ?_
  refine gl_batch 1 [(3, .int .i64 0)] rfl ?_
  refine gl_ns ?_
  refine g_block ?_
  obtain ⟨o1, ho1, h⟩ := bindS h
  refine g_loop (spec_l28All_L1 run) (fun (ss_ : Int) a w => Env a 19 [(0, .slice a_run (List.length run) c_run), (3, .int .i64 ss_)] ∧ St c w [] [gTab 3 pow10C, gNum 0, gErr 1, gErr 2] [SL false 39 FiringS a_run c_run run] []) (Sum.elim (fun (ss_ : Unit) e a w => e = .ret ∧ Env a 19 [(2, .bool false)] ∧ St c w [] [gTab 3 pow10C, gNum 0, gErr 1, gErr 2] [SL false 39 FiringS a_run c_run run] []) (fun (ss_ : Unit) e a w => e = (.exit 0) ∧ Env a 19 [(0, .slice a_run (List.length run) c_run)] ∧ St c w [] [gTab 3 pow10C, gNum 0, gErr 1, gErr 2] [SL false 39 FiringS a_run c_run run] []) : (Sum Unit Unit) → Exit → Act → World → Prop) ho1 ?_ ?_ ?_
  · exact fun a w hE hS => ⟨hE.sub ⟨rfl, rfl, trivial⟩, (hS.take 0).facts _ _ [] (consItem (mem_at 0 rfl) (consItem (mem_at 1 rfl) (consItem (mem_at 2 rfl) (consItem (mem_at 3 rfl) noItem)))) (consItem (mem_at 0 rfl) noItem) noItem⟩
  · intro s2 o3 h a w hA
    obtain ⟨hE, hS⟩ := hA
    unfold spec_l28All_L1 at h
    refine g_enter hE hS ?_
    refine g_seq ?_
    refine g_sr ?_
    refine gl_batch 2 [(5, .slice a_run (List.length run) c_run), (4, .int .i64 s2)] rfl ?_
    refine gl_len rfl Fs24 rfl rfl ?_
    refine gl_batch 1 [(7, .bool (decide (s2 < (List.length run : Int))))] rfl ?_
    refine gl_ns ?_
    refine g_cond (b := decide (s2 < (List.length run : Int))) rfl (fun hc => ?_) (fun hc => ?_)
    · replace h := condT hc h
      refine g_skip ?_
      refine gx_seq ?_
      refine g_seq ?_
      refine g_block ?_
      refine g_sr ?_
      refine gl_batch 2 [(11, .int .i64 s2), (10, .slice a_run (List.length run) c_run)] rfl ?_
      obtain ⟨x4, hx4, h⟩ := bindS h
      refine gl_idxOn (k := .i64) (mem_at 0 rfl) rfl rfl Fs24 Fz39 hx4 rfl rfl ?_
      intro p5
      refine gl_ldA (vs := [.int .i64 x4.Event, .int .i64 x4.Number, .int .i64 x4.Time]) 0 hasAT (mem_at 0 rfl) rfl rfl Fm39 Fz39 rfl rfl rfl ?_
      refine gl_call rfl rfl (fun w => by kernel_rfl) (c_spec_l28Writable x4 rfl) (consItem (mem_at 0 rfl) (consItem (mem_at 1 rfl) (consItem (mem_at 2 rfl) (consItem (mem_at 3 rfl) noItem)))) noItem ?_
      rintro v outs ros ⟨rfl, rfl, rfl⟩
      refine ⟨_, rfl, ?_⟩
      refine gl_batch 1 [(15, .bool (!(spec_l28Writable x4)))] rfl ?_
      refine gl_ns ?_
      refine g_cond (b := !(spec_l28Writable x4)) rfl (fun hc => ?_) (fun hc => ?_)
      · replace h := condT hc h
        refine g_sr ?_
        refine gl_batch 1 [(2, .bool false)] rfl ?_
        refine gl_ns ?_
        refine g_ret ?_
        refine gx_blk_ret ?_
        refine gx_seq_ret ?_
        obtain rfl := Option.some.inj h
        exact gx_of (fun a w hE hS => lp_out nofun (inL ⟨rfl, hE.sub ⟨rfl, trivial⟩, (hS.take 0).facts _ _ [] (consItem (mem_at 0 rfl) (consItem (mem_at 1 rfl) (consItem (mem_at 2 rfl) (consItem (mem_at 3 rfl) noItem)))) (consItem (mem_at 1 rfl) noItem) noItem⟩))
      · replace h := condF hc h
        refine g_skip ?_
        refine gx_blk ?_
        refine gx_seq ?_
        refine g_region ?_
        refine gl_batch 3 [(3, .int .i64 (IntKind.i64.wrap (s2 + 1))), (9, .int .i64 (IntKind.i64.wrap (s2 + 1))), (8, .int .i64 s2)] rfl ?_
        refine gl_nil ?_
        obtain rfl := Option.some.inj h
        exact gx_of (fun a w hE hS => lp_in ⟨hE.sub ⟨rfl, rfl, trivial⟩, (hS.take 0).facts _ _ [] (consItem (mem_at 0 rfl) (consItem (mem_at 1 rfl) (consItem (mem_at 2 rfl) (consItem (mem_at 3 rfl) noItem)))) (consItem (mem_at 1 rfl) noItem) noItem⟩)
    · replace h := condF hc h
      refine g_exit ?_
      refine gx_seq_exit ?_
      obtain rfl := Option.some.inj h
      exact gx_of (fun a w hE hS => lp_out nofun (inR ⟨rfl, hE.sub ⟨rfl, trivial⟩, (hS.take 0).facts _ _ [] (consItem (mem_at 0 rfl) (consItem (mem_at 1 rfl) (consItem (mem_at 2 rfl) (consItem (mem_at 3 rfl) noItem)))) (consItem (mem_at 0 rfl) noItem) noItem⟩))
  · intro e a w hm
    rcases o1 with s6 | s7
    · replace h := elimL h
      obtain ⟨rfl, hE, hS⟩ := hm
      refine gx_to hE hS ?_
      refine gx_blk_ret ?_
      refine gx_seq_ret ?_
      obtain rfl := Option.some.inj h
      exact gx_fin rfl [.bool false] _ _ [] ⟨_, _, rfl, rfl, rfl⟩ rfl ⟨rfl, rfl, rfl⟩ (fun w hS => (hS.take 0).facts [] [] [] noItem noItem noItem) (Or.inl rfl)
    · replace h := elimR h
      obtain ⟨rfl, hE, hS⟩ := hm
      refine gx_to hE hS ?_
      refine gx_blk_hit ?_
      refine gx_seq ?_
      refine g_sr ?_
      refine gl_batch 1 [(16, .slice a_run (List.length run) c_run)] rfl ?_
      refine gl_len rfl Fs24 rfl rfl ?_
      refine gl_batch 2 [(2, .bool (decide ((List.length run : Int) ≤ 500))), (18, .bool (decide ((List.length run : Int) ≤ 500)))] rfl ?_
      refine gl_ns ?_
      refine g_ret ?_
      obtain rfl := Option.some.inj h
      exact gx_fin rfl [.bool (decide ((List.length run : Int) ≤ 500))] _ _ [] ⟨_, _, rfl, rfl, rfl⟩ rfl ⟨rfl, rfl, rfl⟩ (fun w hS => (hS.take 0).facts [] [] [] noItem noItem noItem) (Or.inl rfl)

theorem c_impl_readNumber (s : List UInt8)  {r : Int × Bool} (h : impl_readNumber s = some r) : CallOK Tryz.prog 67 [str s] [] [gTab 3 pow10C, gNum 0, gErr 1, gErr 2] [] (fun v outs ros => v = .tuple #[.int .i64 r.1, .bool r.2] ∧ outs = [] ∧ ros = []) := by
  refine fn_ok Tryz.func67 rfl Tryz.ntmps67 rfl (fun c hF0 => ?_)
  unfold impl_readNumber at h
  refine g_sr ?_
  refine gl_batch 2 [(3, .bool false), (2, .int .i64 0)] rfl ?_
  refine gl_nx ?_
  refine gl_batch 1 [(7, str s)] rfl ?_
  obtain ⟨o1, ho1, h⟩ := bindS h
  refine gl_call rfl rfl (fun w => by kernel_rfl) (c_strconv_ParseInt s 10 64 ho1) (consItem (mem_at 0 rfl) (consItem (mem_at 1 rfl) (consItem (mem_at 2 rfl) (consItem (mem_at 3 rfl) noItem)))) noItem ?_
  rintro v outs ros ⟨ev2, hev2, rfl, rfl, rfl⟩
  refine ⟨_, rfl, ?_⟩
  refine gl_batch 5 [(5, ev2), (4, .int .i64 o1.1), (10, ev2), (9, .int .i64 o1.1), (6, .tuple #[.int .i64 o1.1, ev2])] rfl ?_
  refine gl_ns ?_
  refine g_seq ?_
  refine g_sr ?_
  refine gl_batch 1 [(11, ev2)] rfl ?_
  refine gl_ene rfl hev2 (by kernel_rfl) rfl rfl ?_
  refine gl_batch 1 [(13, .bool o1.2)] rfl ?_
  obtain ⟨q3, hq3, h⟩ := bindS h
  refine gl_join (EE := [(18, .bool q3), (4, .int .i64 o1.1)]) (RR := []) (XX := [gTab 3 pow10C, gNum 0, gErr 1, gErr 2]) (OO := []) (VV := []) 5 ?_ ?_
  · replace h := hq3
    refine gl_case 13 rfl (fun hc => ?_) (fun hc => ?_)
    · replace h := condT hc h
      refine gl_batch 5 [(18, .bool true), (17, undef), (16, undef), (15, undef), (14, undef)] rfl ?_
      refine gl_nil ?_
      obtain rfl := Option.some.inj h
      exact gx_mid ⟨rfl, rfl, trivial⟩ (fun w hS => hS)
    · replace h := condF hc h
      refine gl_batch 1 [(14, .int .i64 o1.1)] rfl ?_
      obtain ⟨o4, ho4, h⟩ := bindS h
      refine gl_call rfl rfl (fun w => by kernel_rfl) (c_impl_decimal o1.1 ho4) (consItem (mem_at 0 rfl) (consItem (mem_at 1 rfl) (consItem (mem_at 2 rfl) (consItem (mem_at 3 rfl) noItem)))) noItem ?_
      rintro v outs ros ⟨rfl, rfl, rfl⟩
      refine ⟨_, rfl, ?_⟩
      refine gl_batch 1 [(16, str s)] rfl ?_
      refine gl_sne (s := o4) (u := s) rfl rfl rfl rfl ?_
      refine gl_batch 1 [(18, .bool (!(o4 == s)))] rfl ?_
      refine gl_nil ?_
      obtain rfl := Option.some.inj h
      exact gx_mid ⟨rfl, rfl, trivial⟩ (fun w hS => hS)
  · skip
    refine gl_ns ?_
    refine g_cond (b := q3) rfl (fun hc => ?_) (fun hc => ?_)
    · replace h := condT hc h
      refine g_sr ?_
      refine gl_batch 2 [(3, .bool false), (2, .int .i64 0)] rfl ?_
      refine gl_ns ?_
      refine g_ret ?_
      refine gx_seq_ret ?_
      obtain rfl := Option.some.inj h
      exact gx_fin rfl [.int .i64 0, .bool false] _ _ [] ⟨_, _, rfl, rfl, _, _, rfl, rfl, rfl⟩ rfl ⟨rfl, rfl, rfl⟩ (fun w hS => (hS.take 0).facts [] [] [] noItem noItem noItem) (Or.inl rfl)
    · replace h := condF hc h
      refine g_skip ?_
      refine gx_seq ?_
      refine g_sr ?_
      refine gl_batch 3 [(3, .bool true), (2, .int .i64 o1.1), (19, .int .i64 o1.1)] rfl ?_
      refine gl_ns ?_
      refine g_ret ?_
      obtain rfl := Option.some.inj h
      exact gx_fin rfl [.int .i64 o1.1, .bool true] _ _ [] ⟨_, _, rfl, rfl, _, _, rfl, rfl, rfl⟩ rfl ⟨rfl, rfl, rfl⟩ (fun w hS => (hS.take 0).facts [] [] [] noItem noItem noItem) (Or.inl rfl)

theorem c_spec_l01Signed (s : List UInt8)  {r : Int × Bool} (h : spec_l01Signed s = some r) : CallOK Tryz.prog 90 [str s] [] [gTab 3 pow10C, gNum 0, gErr 1, gErr 2] [] (fun v outs ros => v = .tuple #[.int .i64 r.1, .bool r.2] ∧ outs = [] ∧ ros = []) := by
  refine fn_ok Tryz.func90 rfl Tryz.ntmps90 rfl (fun c hF0 => ?_)
  unfold spec_l01Signed at h
  refine g_sr ?_
  refine gl_batch 2 [(3, .bool false), (2, .int .i64 0)] rfl ?_
  refine gl_ns ?_
  refine g_seq ?_
  refine g_sr ?_
  refine gl_batch 1 [(6, str s)] rfl ?_
  refine gl_slen (s := s) rfl Ft9 rfl rfl ?_
  refine gl_batch 2 [(9, .bool (decide ((List.length s : Int) > 0))), (8, .bool (decide ((List.length s : Int) > 0)))] rfl ?_
  obtain ⟨q1, hq1, h⟩ := bindS h
  refine gl_join (EE := [(13, .bool q1), (0, str s)]) (RR := []) (XX := [gTab 3 pow10C, gNum 0, gErr 1, gErr 2]) (OO := []) (VV := []) 4 ?_ ?_
  · replace h := hq1
    refine gl_case 9 rfl (fun hc => ?_) (fun hc => ?_)
    · replace h := condT hc h
      refine gl_batch 1 [(10, str s)] rfl ?_
      obtain ⟨y2, hy2, h⟩ := bindS h
      refine gl_sidx (k := .i64) rfl rfl Ft9 hy2 rfl rfl ?_
      refine gl_batch 2 [(13, .bool ((y2.toNat : Int) == 45)), (12, .bool ((y2.toNat : Int) == 45))] rfl ?_
      refine gl_nil ?_
      obtain rfl := Option.some.inj h
      exact gx_mid ⟨rfl, rfl, trivial⟩ (fun w hS => hS)
    · replace h := condF hc h
      refine gl_batch 4 [(13, .bool false), (12, undef), (11, undef), (10, undef)] rfl ?_
      refine gl_nil ?_
      obtain rfl := Option.some.inj h
      exact gx_mid ⟨rfl, rfl, trivial⟩ (fun w hS => hS)
  · skip
    refine gl_ns ?_
    refine g_cond (b := q1) rfl (fun hc => ?_) (fun hc => ?_)
    · replace h := condT hc h
      refine g_sr ?_
      refine gl_batch 1 [(15, str s)] rfl ?_
      obtain ⟨z3, hz3, h⟩ := bindS h
      refine gl_ssub (i := 1) (j := (List.length s : Int)) (k := .i64) (k2 := .i64) rfl rfl rfl Ft9 hz3 rfl rfl ?_
      obtain ⟨o4, ho4, h⟩ := bindS h
      refine gl_call rfl rfl (fun w => by kernel_rfl) (c_spec_l01Digits z3 ho4) (consItem (mem_at 0 rfl) (consItem (mem_at 1 rfl) (consItem (mem_at 2 rfl) (consItem (mem_at 3 rfl) noItem)))) noItem ?_
      rintro v outs ros ⟨rfl, rfl, rfl⟩
      refine ⟨_, rfl, ?_⟩
      refine gl_batch 5 [(5, .bool o4.2), (4, .int .i64 o4.1), (19, .bool o4.2), (18, .int .i64 o4.1), (14, .tuple #[.int .i64 o4.1, .bool o4.2])] rfl ?_
      refine gl_nx ?_
      refine gl_batch 4 [(23, .bool o4.2), (22, .bool o4.2), (21, .int .i64 (IntKind.i64.wrap (0 - o4.1))), (20, .int .i64 o4.1)] rfl ?_
      refine gl_join (EE := [(26, .bool (o4.2 && (decide (o4.1 > 0)))), (21, .int .i64 (IntKind.i64.wrap (0 - o4.1)))]) (RR := []) (XX := [gTab 3 pow10C, gNum 0, gErr 1, gErr 2]) (OO := []) (VV := []) 3 ?_ ?_
      · skip
        refine gl_case 23 rfl (fun hc => ?_) (fun hc => ?_)
        · skip
          refine gl_batch 3 [(26, .bool (decide (o4.1 > 0))), (25, .bool (decide (o4.1 > 0))), (24, .int .i64 o4.1)] rfl ?_
          refine gl_nil ?_
          exact gx_mid ⟨congrArg (fun z => some (Value.bool z)) (and_t hc).symm, rfl, trivial⟩ (fun w hS => hS)
        · skip
          refine gl_batch 3 [(26, .bool false), (25, undef), (24, undef)] rfl ?_
          refine gl_nil ?_
          exact gx_mid ⟨congrArg (fun z => some (Value.bool z)) (and_f hc).symm, rfl, trivial⟩ (fun w hS => hS)
      · skip
        refine gl_batch 2 [(3, .bool (o4.2 && (decide (o4.1 > 0)))), (2, .int .i64 (IntKind.i64.wrap (0 - o4.1)))] rfl ?_
        refine gl_ns ?_
        refine g_ret ?_
        refine gx_seq_ret ?_
        obtain rfl := Option.some.inj h
        exact gx_fin rfl [.int .i64 (IntKind.i64.wrap (0 - o4.1)), .bool (o4.2 && (decide (o4.1 > 0)))] _ _ [] ⟨_, _, rfl, rfl, _, _, rfl, rfl, rfl⟩ rfl ⟨rfl, rfl, rfl⟩ (fun w hS => (hS.take 0).facts [] [] [] noItem noItem noItem) (Or.inl rfl)
    · replace h := condF hc h
      refine g_skip ?_
      refine gx_seq ?_
      refine g_sr ?_
      refine gl_batch 1 [(27, str s)] rfl ?_
      obtain ⟨o5, ho5, h⟩ := bindS h
      refine gl_call rfl rfl (fun w => by kernel_rfl) (c_spec_l01Digits s ho5) (consItem (mem_at 0 rfl) (consItem (mem_at 1 rfl) (consItem (mem_at 2 rfl) (consItem (mem_at 3 rfl) noItem)))) noItem ?_
      rintro v outs ros ⟨rfl, rfl, rfl⟩
      refine ⟨_, rfl, ?_⟩
      refine gl_batch 4 [(3, .bool o5.2), (2, .int .i64 o5.1), (30, .bool o5.2), (29, .int .i64 o5.1)] rfl ?_
      refine gl_ns ?_
      refine g_ret ?_
      obtain rfl := Option.some.inj h
      exact gx_fin rfl [.int .i64 o5.1, .bool o5.2] _ _ [] ⟨_, _, rfl, rfl, _, _, rfl, rfl, rfl⟩ rfl ⟨rfl, rfl, rfl⟩ (fun w hS => (hS.take 0).facts [] [] [] noItem noItem noItem) (Or.inl rfl)

end Go.Proofs.YtneifoepoccjaaaGreatDoor
