/-
  What each function gives when it is called: the contracts, each with the walk through its code. Written by a program of ours.
-/
import Derived.Test.YtneifoepoccjaaaGreatDoorC20
import Derived.Test.YtneifoepoccjaaaGreatDoorC2a
import Derived.Test.YtneifoepoccjaaaGreatDoorC2b
import Derived.Test.YtneifoepoccjaaaGreatDoorC2c
namespace Go.Proofs.YtneifoepoccjaaaGreatDoor
open Go Go.Proofs Go.Shelf
set_option maxHeartbeats 16000000
theorem c_spec_l14Draw (s : Src) (b_s : Nat) (a_s_code : Option Addr) (c_s_code : Nat) {r : EventGraph × List Firing × Src} (h : spec_l14Draw s = some r) : CallOK Tryz.prog 56 [.pointer (some ⟨b_s, 0, none⟩)] [BK 89 b_s [.slice a_s_code (List.length s.code) c_s_code, .int .i64 s.at_v, .int .i64 s.seed]] [gTab 3 pow10C, gNum 0, gErr 1, gErr 2] [SL false 5 (intS .u8) a_s_code c_s_code s.code] (fun v outs ros => ∃ (a0 : Option Addr), ∃ (c0 : Nat), ∃ (a2 : Option Addr), ∃ (c2 : Nat), v = .tuple #[.agg #[.int .i64 r.1.Events, .slice a0 (List.length r.1.Places) c0], .slice a2 (List.length r.2.1) c2] ∧ outs = [SL false 114 PlaceS a0 c0 r.1.Places, SL false 39 FiringS a2 c2 r.2.1, BK 89 b_s [.slice a_s_code (List.length s.code) c_s_code, .int .i64 r.2.2.at_v, .int .i64 r.2.2.seed]] ∧ ros = []) := by
  refine fn_ok Tryz.func56 rfl Tryz.ntmps56 rfl (fun c hF0 => ?_)
  unfold spec_l14Draw at h
  refine g_sr ?_
  refine gl_new (d := 2) (T := 49) [.int .i64 0, .slice none 0 0] rfl rfl (fun _ => rfl) (fun w => by kernel_rfl) ?_
  intro b1
  refine gl_batch 1 [(3, .slice none 0 0)] rfl ?_
  refine gl_nx ?_
  refine gl_batch 1 [(12, .pointer (some ⟨b_s, 0, none⟩))] rfl ?_
  obtain ⟨o2, ho2, h⟩ := bindS h
  refine gl_pick 1 rfl ?_
  refine gl_callR rfl rfl (fun w => by kernel_rfl) (c_spec_l11Draw s b_s a_s_code c_s_code ho2) rfl (consItem (mem_at 0 rfl) (consItem (mem_at 1 rfl) (consItem (mem_at 2 rfl) (consItem (mem_at 3 rfl) noItem)))) (consItem (mem_at 1 rfl) noItem) ?_
  rintro v outs ros ⟨a_v3, c_v4, rfl, rfl, rfl⟩
  refine ⟨_, rfl, ?_⟩
  refine gl_new (d := 4) (T := 49) [.int .i64 0, .slice none 0 0] rfl rfl (fun _ => rfl) (fun w => by kernel_rfl) ?_
  intro b5
  refine gl_stB (cells' := [.int .i64 o2.1.Events, .slice a_v3 (List.length o2.1.Places) c_v4]) 0 [.int .i64 o2.1.Events, .slice a_v3 (List.length o2.1.Places) c_v4] rfl rfl rfl Fz49 rfl rfl rfl rfl ?_
  refine gl_nx ?_
  refine gl_lit (m := 3) (d := 14) (T := 39) (enc := FiringE) (hn := fun _ => rfl) false ([] : List Firing) rfl rfl (fun _ => rfl) nofun (Nat.le_of_ble_eq_true rfl) (fun w => by kernel_rfl) ?_
  intro a_v6 c_v7
  refine gl_batch 1 [(5, .slice a_v6 (List.length ([] : List Firing)) c_v7)] rfl ?_
  refine gl_ns ?_
  refine g_seq ?_
  refine g_sr ?_
  refine gl_ldA (vs := [.int .i64 o2.1.Events, .slice a_v3 (List.length o2.1.Places) c_v4]) 0 hasBK (mem_at 1 rfl) rfl rfl Fm49 Fz49 rfl rfl rfl ?_
  obtain ⟨o8, ho8, h⟩ := bindS h
  refine gl_call rfl rfl (fun w => by kernel_rfl) (c_spec_IsEventGraph o2.1 a_v3 c_v4 ho8) (consItem (mem_at 0 rfl) (consItem (mem_at 1 rfl) (consItem (mem_at 2 rfl) (consItem (mem_at 3 rfl) noItem)))) (consItem (mem_at 2 rfl) noItem) ?_
  rintro v outs ros ⟨rfl, rfl, rfl⟩
  refine ⟨_, rfl, ?_⟩
  refine gl_batch 1 [(17, .bool (!o8))] rfl ?_
  refine gl_ns ?_
  refine g_cond (b := !o8) rfl (fun hc => ?_) (fun hc => ?_)
  · replace h := condT hc h
    refine g_sr ?_
    refine gl_ldA (vs := [.int .i64 o2.1.Events, .slice a_v3 (List.length o2.1.Places) c_v4]) 0 hasBK (mem_at 1 rfl) rfl rfl Fm49 Fz49 rfl rfl rfl ?_
    refine gl_batch 1 [(19, .slice a_v6 (List.length ([] : List Firing)) c_v7)] rfl ?_
    refine gl_pick 4 rfl ?_
    refine gl_stB (cells' := [.int .i64 o2.1.Events, .slice a_v3 (List.length o2.1.Places) c_v4]) 0 [.int .i64 o2.1.Events, .slice a_v3 (List.length o2.1.Places) c_v4] rfl rfl rfl Fz49 rfl rfl rfl rfl ?_
    refine gl_batch 1 [(3, .slice a_v6 (List.length ([] : List Firing)) c_v7)] rfl ?_
    refine gl_ns ?_
    refine g_ret ?_
    refine gx_seq_ret ?_
    obtain rfl := Option.some.inj h
    exact gx_fin rfl [.agg #[.int .i64 o2.1.Events, .slice a_v3 (List.length o2.1.Places) c_v4], .slice a_v6 (List.length ([] : List Firing)) c_v7] _ _ [] ⟨_, _, rfl, ⟨_, _, _, rfl, mem_at 0 rfl, hasBK, Or.inl ⟨Fm49, Fz49, rfl⟩⟩, _, _, rfl, rfl, rfl⟩ rfl ⟨a_v3, c_v4, a_v6, c_v7, rfl, rfl, rfl⟩ (fun w hS => ((((hS.pick 4 rfl).pick 2 rfl).pick 4 rfl).take 3).facts [] [] [] noItem noItem noItem) (Or.inl rfl)
  · replace h := condF hc h
    refine g_skip ?_
    refine gx_seq ?_
    refine g_sr ?_
    refine gl_batch 1 [(6, .int .i64 0)] rfl ?_
    refine gl_ns ?_
    refine g_seq ?_
    refine g_sr ?_
    refine gl_batch 1 [(20, .pointer (some ⟨b_s, 0, none⟩))] rfl ?_
    obtain ⟨o9, ho9, h⟩ := bindS h
    refine gl_pick 3 rfl ?_
    refine gl_callR rfl rfl (fun w => by kernel_rfl) (c_spec_l01Next (⟨s.code, o2.2.at_v, o2.2.seed⟩ : Src) 16 b_s a_s_code c_s_code ho9) rfl (consItem (mem_at 0 rfl) (consItem (mem_at 1 rfl) (consItem (mem_at 2 rfl) (consItem (mem_at 3 rfl) noItem)))) (consItem (mem_at 4 rfl) noItem) ?_
    rintro v outs ros ⟨rfl, rfl, rfl⟩
    refine ⟨_, rfl, ?_⟩
    refine gl_batch 1 [(7, .int .i64 o9.1)] rfl ?_
    refine gl_ns ?_
    refine g_block ?_
    obtain ⟨o10, ho10, h⟩ := bindS h
    refine g_loop (spec_l14Draw_L1 s o2) (fun (ss_ : Int × Int × (List Firing) × Int × Int) a w => ∃ (a_ss__r4 : Option Addr), ∃ (c_ss__r4 : Nat), Env a 126 [(0, .pointer (some ⟨b_s, 0, none⟩)), (2, .pointer (some ⟨b1, 0, none⟩)), (4, .pointer (some ⟨b5, 0, none⟩)), (5, .slice a_ss__r4 (List.length ss_.2.2.1) c_ss__r4), (6, .int .i64 ss_.2.2.2.1), (7, .int .i64 ss_.2.2.2.2)] ∧ St c w [BK 89 b_s [.slice a_s_code (List.length s.code) c_s_code, .int .i64 ss_.1, .int .i64 ss_.2.1], BK 49 b1 [.int .i64 0, .slice none 0 0], BK 49 b5 [.int .i64 o2.1.Events, .slice a_v3 (List.length o2.1.Places) c_v4], SL false 114 PlaceS a_v3 c_v4 o2.1.Places, SL false 39 FiringS a_ss__r4 c_ss__r4 ss_.2.2.1] [gTab 3 pow10C, gNum 0, gErr 1, gErr 2] [SL false 5 (intS .u8) a_s_code c_s_code s.code] []) ((fun (ss_ : Int × Int × (List Firing)) e a w => e = (.exit 0) ∧ ∃ (a_ss__r4 : Option Addr), ∃ (c_ss__r4 : Nat), Env a 126 [(0, .pointer (some ⟨b_s, 0, none⟩)), (2, .pointer (some ⟨b1, 0, none⟩)), (4, .pointer (some ⟨b5, 0, none⟩)), (5, .slice a_ss__r4 (List.length ss_.2.2) c_ss__r4)] ∧ St c w [BK 89 b_s [.slice a_s_code (List.length s.code) c_s_code, .int .i64 ss_.1, .int .i64 ss_.2.1], BK 49 b1 [.int .i64 0, .slice none 0 0], BK 49 b5 [.int .i64 o2.1.Events, .slice a_v3 (List.length o2.1.Places) c_v4], SL false 114 PlaceS a_v3 c_v4 o2.1.Places, SL false 39 FiringS a_ss__r4 c_ss__r4 ss_.2.2] [gTab 3 pow10C, gNum 0, gErr 1, gErr 2] [SL false 5 (intS .u8) a_s_code c_s_code s.code] []) : (Int × Int × (List Firing)) → Exit → Act → World → Prop) ho10 ?_ ?_ ?_
    · exact fun a w hE hS => ⟨a_v6, c_v7, hE.sub ⟨rfl, rfl, rfl, rfl, rfl, rfl, trivial⟩, ((((((hS.pick 1 rfl).pick 3 rfl).pick 3 rfl).pick 4 rfl).pick 4 rfl).take 5).facts _ _ [] (consItem (mem_at 0 rfl) (consItem (mem_at 1 rfl) (consItem (mem_at 2 rfl) (consItem (mem_at 3 rfl) noItem)))) (consItem (mem_at 0 rfl) noItem) noItem⟩
    · intro s11 o12 h a w hA
      obtain ⟨a_s11_r4, c_s11_r4, hE, hS⟩ := hA
      unfold spec_l14Draw_L1 at h
      refine g_enter hE hS ?_
      refine g_seq ?_
      refine g_sr ?_
      refine gl_batch 2 [(23, .bool (decide (s11.2.2.2.2 > 0))), (22, .int .i64 s11.2.2.2.2)] rfl ?_
      refine gl_ns ?_
      refine g_cond (b := decide (s11.2.2.2.2 > 0)) rfl (fun hc => ?_) (fun hc => ?_)
      · replace h := condT hc h
        refine g_skip ?_
        refine gx_seq ?_
        obtain ⟨o13, ho13, h⟩ := bindS h
        refine g_mid (M := ((fun ss_ e a w => e = .normal ∧ ∃ (a_ss__r4 : Option Addr), ∃ (c_ss__r4 : Nat), Env a 126 [(0, .pointer (some ⟨b_s, 0, none⟩)), (2, .pointer (some ⟨b1, 0, none⟩)), (4, .pointer (some ⟨b5, 0, none⟩)), (5, .slice a_ss__r4 (List.length ss_.2.2.1) c_ss__r4), (6, .int .i64 ss_.2.2.2), (7, .int .i64 s11.2.2.2.2)] ∧ St c w [BK 89 b_s [.slice a_s_code (List.length s.code) c_s_code, .int .i64 ss_.1, .int .i64 ss_.2.1], BK 49 b1 [.int .i64 0, .slice none 0 0], BK 49 b5 [.int .i64 o2.1.Events, .slice a_v3 (List.length o2.1.Places) c_v4], SL false 114 PlaceS a_v3 c_v4 o2.1.Places, SL false 39 FiringS a_ss__r4 c_ss__r4 ss_.2.2.1] [gTab 3 pow10C, gNum 0, gErr 1, gErr 2] [SL false 5 (intS .u8) a_s_code c_s_code s.code] []) : (Int × Int × (List Firing) × Int) → Exit → Act → World → Prop) o13) ?_ ?_
        · replace h := ho13
          refine g_block ?_
          refine g_sr ?_
          refine gl_batch 1 [(26, .pointer (some ⟨b_s, 0, none⟩))] rfl ?_
          refine gl_run (v := .pointer (some ⟨b5, 0, none⟩)) rfl rfl rfl (fun w => by kernel_rfl) ?_
          refine gl_ld1 0 hasBK (mem_at 2 rfl) rfl rfl Fo2 rfl rfl rfl ?_
          obtain ⟨o14, ho14, h⟩ := bindS h
          refine gl_callR rfl rfl (fun w => by kernel_rfl) (c_spec_l01Next (⟨s.code, s11.1, s11.2.1⟩ : Src) o2.1.Events b_s a_s_code c_s_code ho14) rfl (consItem (mem_at 0 rfl) (consItem (mem_at 1 rfl) (consItem (mem_at 2 rfl) (consItem (mem_at 3 rfl) noItem)))) (consItem (mem_at 4 rfl) noItem) ?_
          rintro v outs ros ⟨rfl, rfl, rfl⟩
          refine ⟨_, rfl, ?_⟩
          refine gl_batch 1 [(8, .int .i64 o14.1)] rfl ?_
          refine gl_nx ?_
          refine gl_ldA (vs := [.int .i64 o2.1.Events, .slice a_v3 (List.length o2.1.Places) c_v4]) 0 hasBK (mem_at 2 rfl) rfl rfl Fm49 Fz49 rfl rfl rfl ?_
          refine gl_batch 2 [(33, .int .i64 o14.1), (32, .slice a_s11_r4 (List.length s11.2.2.1) c_s11_r4)] rfl ?_
          obtain ⟨o15, ho15, h⟩ := bindS h
          refine gl_call rfl rfl (fun w => by kernel_rfl) (c_spec_l14Ready o2.1 s11.2.2.1 o14.1 a_v3 c_v4 a_s11_r4 c_s11_r4 ho15) (consItem (mem_at 0 rfl) (consItem (mem_at 1 rfl) (consItem (mem_at 2 rfl) (consItem (mem_at 3 rfl) noItem)))) (consItem (mem_at 3 rfl) (consItem (mem_at 4 rfl) noItem)) ?_
          rintro v outs ros ⟨rfl, rfl, rfl⟩
          refine ⟨_, rfl, ?_⟩
          refine gl_batch 5 [(10, .bool o15.2), (9, .int .i64 o15.1), (36, .bool o15.2), (35, .int .i64 o15.1), (30, .tuple #[.int .i64 o15.1, .bool o15.2])] rfl ?_
          refine gl_ns ?_
          refine g_seq ?_
          refine g_sr ?_
          refine gl_batch 2 [(38, .bool (!o15.2)), (37, .bool o15.2)] rfl ?_
          refine gl_ns ?_
          refine g_cond (b := !o15.2) rfl (fun hc => ?_) (fun hc => ?_)
          · replace h := condT hc h
            refine g_exit ?_
            refine gx_seq_exit ?_
            refine gx_blk_hit ?_
            obtain rfl := Option.some.inj h
            exact gx_of (fun a w hE hS => ⟨rfl, a_s11_r4, c_s11_r4, hE.sub ⟨rfl, rfl, rfl, rfl, rfl, rfl, trivial⟩, (hS.take 5).facts _ _ [] (consItem (mem_at 0 rfl) (consItem (mem_at 1 rfl) (consItem (mem_at 2 rfl) (consItem (mem_at 3 rfl) noItem)))) (consItem (mem_at 0 rfl) noItem) noItem⟩)
          · replace h := condF hc h
            refine g_skip ?_
            refine gx_seq ?_
            refine g_sr ?_
            refine gl_batch 3 [(41, .pointer (some ⟨b_s, 0, none⟩)), (40, .int .i64 o15.1), (39, .int .i64 s11.2.2.2.1)] rfl ?_
            obtain ⟨o16, ho16, h⟩ := bindS h
            refine gl_callR rfl rfl (fun w => by kernel_rfl) (c_spec_l01Next (⟨s.code, o14.2.at_v, o14.2.seed⟩ : Src) 8 b_s a_s_code c_s_code ho16) rfl (consItem (mem_at 0 rfl) (consItem (mem_at 1 rfl) (consItem (mem_at 2 rfl) (consItem (mem_at 3 rfl) noItem)))) (consItem (mem_at 4 rfl) noItem) ?_
            rintro v outs ros ⟨rfl, rfl, rfl⟩
            refine ⟨_, rfl, ?_⟩
            obtain ⟨now17, hnow17, h⟩ := letS h
            refine gl_batch 5 [(6, .int .i64 now17), (46, .int .i64 (if (IntKind.i64.wrap (o15.1 + (if (IntKind.i64.wrap (o16.1 - 4)) > 0 then (IntKind.i64.wrap (o16.1 - 4)) else 0))) > s11.2.2.2.1 then (IntKind.i64.wrap (o15.1 + (if (IntKind.i64.wrap (o16.1 - 4)) > 0 then (IntKind.i64.wrap (o16.1 - 4)) else 0))) else s11.2.2.2.1)), (45, .int .i64 (IntKind.i64.wrap (o15.1 + (if (IntKind.i64.wrap (o16.1 - 4)) > 0 then (IntKind.i64.wrap (o16.1 - 4)) else 0)))), (44, .int .i64 (if (IntKind.i64.wrap (o16.1 - 4)) > 0 then (IntKind.i64.wrap (o16.1 - 4)) else 0)), (43, .int .i64 (IntKind.i64.wrap (o16.1 - 4)))] (by subst hnow17; rfl) ?_
            refine gl_ns ?_
            refine g_region ?_
            refine gl_batch 4 [(50, .int .i64 o14.1), (49, .slice a_s11_r4 (List.length s11.2.2.1) c_s11_r4), (48, .int .i64 o14.1), (47, .slice a_s11_r4 (List.length s11.2.2.1) c_s11_r4)] rfl ?_
            obtain ⟨o18, ho18, h⟩ := bindS h
            refine gl_call rfl rfl (fun w => by kernel_rfl) (c_spec_l14Count s11.2.2.1 o14.1 a_s11_r4 c_s11_r4 ho18) (consItem (mem_at 0 rfl) (consItem (mem_at 1 rfl) (consItem (mem_at 2 rfl) (consItem (mem_at 3 rfl) noItem)))) (consItem (mem_at 4 rfl) noItem) ?_
            rintro v outs ros ⟨rfl, rfl, rfl⟩
            refine ⟨_, rfl, ?_⟩
            refine gl_batch 2 [(53, .int .i64 now17), (52, .int .i64 (IntKind.i64.wrap (o18 + 1)))] rfl ?_
            refine gl_run (v := .agg #[.int .i64 o14.1, .int .i64 (IntKind.i64.wrap (o18 + 1)), .int .i64 now17]) rfl rfl rfl (fun w => by kernel_rfl) ?_
            refine gl_lit (m := 3) (d := 55) (T := 39) (enc := FiringE) (hn := fun _ => rfl) false [(⟨o14.1, IntKind.i64.wrap (o18 + 1), now17⟩ : Firing)] rfl rfl (fun _ => rfl) nofun (Nat.le_of_ble_eq_true rfl) (fun w => by kernel_rfl) ?_
            intro a_v19 c_v20
            refine gl_pick 5 rfl ?_
            obtain ⟨z21, hz21, h⟩ := bindS h
            refine gl_appn (mem_at 1 rfl) rfl rfl Fs24 Fi39 rfl rfl (fun _ => rfl) hz21 rfl rfl ?_
            intro a_v22 c_v23
            refine gl_batch 1 [(5, .slice a_v22 (List.length z21) c_v23)] rfl ?_
            refine gl_nil ?_
            refine gx_blk ?_
            obtain rfl := Option.some.inj h
            exact gx_of (fun a w hE hS => ⟨rfl, a_v22, c_v23, hE.sub ⟨rfl, rfl, rfl, rfl, rfl, rfl, trivial⟩, ((((((hS.pick 0 rfl).pick 5 rfl).pick 5 rfl).pick 5 rfl).pick 5 rfl).take 5).facts _ _ [] (consItem (mem_at 0 rfl) (consItem (mem_at 1 rfl) (consItem (mem_at 2 rfl) (consItem (mem_at 3 rfl) noItem)))) (consItem (mem_at 0 rfl) noItem) noItem⟩)
        · intro e a w hm
          obtain ⟨rfl, a_o13_r4, c_o13_r4, hE, hS⟩ := hm
          refine gx_to hE hS ?_
          refine gx_seq ?_
          refine g_region ?_
          obtain ⟨k24, hk24, h⟩ := letS h
          refine gl_batch 3 [(7, .int .i64 k24), (25, .int .i64 (IntKind.i64.wrap (s11.2.2.2.2 - 1))), (24, .int .i64 s11.2.2.2.2)] (by subst hk24; rfl) ?_
          refine gl_nil ?_
          obtain rfl := Option.some.inj h
          exact gx_of (fun a w hE hS => lp_in ⟨a_o13_r4, c_o13_r4, hE.sub ⟨rfl, rfl, rfl, rfl, rfl, rfl, trivial⟩, (hS.take 5).facts _ _ [] (consItem (mem_at 0 rfl) (consItem (mem_at 1 rfl) (consItem (mem_at 2 rfl) (consItem (mem_at 3 rfl) noItem)))) (consItem (mem_at 0 rfl) noItem) noItem⟩)
      · replace h := condF hc h
        refine g_exit ?_
        refine gx_seq_exit ?_
        obtain rfl := Option.some.inj h
        exact gx_of (fun a w hE hS => lp_out nofun (⟨rfl, a_s11_r4, c_s11_r4, hE.sub ⟨rfl, rfl, rfl, rfl, trivial⟩, (hS.take 5).facts _ _ [] (consItem (mem_at 0 rfl) (consItem (mem_at 1 rfl) (consItem (mem_at 2 rfl) (consItem (mem_at 3 rfl) noItem)))) (consItem (mem_at 0 rfl) noItem) noItem⟩))
    · intro e a w hm
      obtain ⟨rfl, a_o10_r4, c_o10_r4, hE, hS⟩ := hm
      refine gx_to hE hS ?_
      refine gx_blk_hit ?_
      refine gx_seq ?_
      obtain ⟨o25, ho25, h⟩ := bindS h
      refine g_mid (M := ((fun ss_ e a w => e = .normal ∧ ∃ (a_ss__r4 : Option Addr), ∃ (c_ss__r4 : Nat), Env a 126 [(0, .pointer (some ⟨b_s, 0, none⟩)), (2, .pointer (some ⟨b1, 0, none⟩)), (4, .pointer (some ⟨b5, 0, none⟩)), (5, .slice a_ss__r4 (List.length ss_.2.2) c_ss__r4)] ∧ St c w [BK 89 b_s [.slice a_s_code (List.length s.code) c_s_code, .int .i64 ss_.1, .int .i64 ss_.2.1], BK 49 b1 [.int .i64 0, .slice none 0 0], BK 49 b5 [.int .i64 o2.1.Events, .slice a_v3 (List.length o2.1.Places) c_v4], SL false 114 PlaceS a_v3 c_v4 o2.1.Places, SL false 39 FiringS a_ss__r4 c_ss__r4 ss_.2.2] [gTab 3 pow10C, gNum 0, gErr 1, gErr 2] [SL false 5 (intS .u8) a_s_code c_s_code s.code] []) : (Int × Int × (List Firing)) → Exit → Act → World → Prop) o25) ?_ ?_
      · replace h := ho25
        refine g_sr ?_
        refine gl_batch 1 [(57, .slice a_o10_r4 (List.length o10.2.2) c_o10_r4)] rfl ?_
        refine gl_len rfl Fs24 rfl rfl ?_
        refine gl_batch 1 [(59, .bool (decide ((List.length o10.2.2 : Int) > 0)))] rfl ?_
        refine gl_ns ?_
        refine g_cond (b := decide ((List.length o10.2.2 : Int) > 0)) rfl (fun hc => ?_) (fun hc => ?_)
        · replace h := condT hc h
          refine g_sr ?_
          refine gl_batch 2 [(61, .slice a_o10_r4 (List.length o10.2.2) c_o10_r4), (60, .pointer (some ⟨b_s, 0, none⟩))] rfl ?_
          refine gl_len rfl Fs24 rfl rfl ?_
          obtain ⟨o26, ho26, h⟩ := bindS h
          refine gl_callR rfl rfl (fun w => by kernel_rfl) (c_spec_l01Next (⟨s.code, o10.1, o10.2.1⟩ : Src) (List.length o10.2.2 : Int) b_s a_s_code c_s_code ho26) rfl (consItem (mem_at 0 rfl) (consItem (mem_at 1 rfl) (consItem (mem_at 2 rfl) (consItem (mem_at 3 rfl) noItem)))) (consItem (mem_at 4 rfl) noItem) ?_
          rintro v outs ros ⟨rfl, rfl, rfl⟩
          refine ⟨_, rfl, ?_⟩
          refine gl_batch 1 [(11, .int .i64 o26.1)] rfl ?_
          refine gl_nx ?_
          refine gl_batch 1 [(64, .pointer (some ⟨b_s, 0, none⟩))] rfl ?_
          obtain ⟨o27, ho27, h⟩ := bindS h
          refine gl_callR rfl rfl (fun w => by kernel_rfl) (c_spec_l01Next (⟨s.code, o26.2.at_v, o26.2.seed⟩ : Src) 16 b_s a_s_code c_s_code ho27) rfl (consItem (mem_at 0 rfl) (consItem (mem_at 1 rfl) (consItem (mem_at 2 rfl) (consItem (mem_at 3 rfl) noItem)))) (consItem (mem_at 4 rfl) noItem) ?_
          rintro v outs ros ⟨rfl, rfl, rfl⟩
          refine ⟨_, rfl, ?_⟩
          refine gl_ns ?_
          refine g_block ?_
          refine g_sr ?_
          refine gl_batch 2 [(66, .bool (o27.1 == 0)), (67, .bool (o27.1 == 0))] rfl ?_
          refine gl_ns ?_
          refine g_cond (b := o27.1 == 0) rfl (fun hc => ?_) (fun hc => ?_)
          · replace h := condT hc h
            refine g_region ?_
            refine gl_batch 4 [(71, .int .i64 o26.1), (70, .slice a_o10_r4 (List.length o10.2.2) c_o10_r4), (69, .int .i64 o26.1), (68, .slice a_o10_r4 (List.length o10.2.2) c_o10_r4)] rfl ?_
            obtain ⟨x28, hx28, h⟩ := bindS h
            refine gl_idxVn (k := .i64) (mem_at 4 rfl) rfl rfl Fs24 Fz39 hx28 rfl rfl ?_
            intro p29 hp29
            refine gl_run (v := .pointer (some (Addr.add p29 2))) rfl rfl rfl (fun w => by kernel_rfl) ?_
            refine gl_ld1 2 hasAT (mem_at 5 rfl) rfl rfl Fo2 rfl rfl rfl ?_
            refine gl_batch 1 [(75, .int .i64 (IntKind.i64.wrap (x28.Time - 1)))] rfl ?_
            obtain ⟨x30, hx30, h⟩ := bindS h
            refine gl_idxVn (k := .i64) (mem_at 4 rfl) rfl rfl Fs24 Fz39 hx30 rfl rfl ?_
            intro p31 hp31
            refine gl_run (v := .pointer (some (Addr.add p31 2))) rfl rfl rfl (fun w => by kernel_rfl) ?_
            refine gl_pick 4 rfl ?_
            obtain ⟨u32, hu32, h⟩ := letS h
            refine gl_stEn 2 [.int .i64 (IntKind.i64.wrap (x28.Time - 1))] (⟨x30.Event, x30.Number, IntKind.i64.wrap (x28.Time - 1)⟩ : Firing) hp31 hx30 rfl rfl rfl rfl Fz2 rfl rfl rfl rfl ?_
            rw [hu32]
            refine gl_relen (fun hlu32 => ?_)
            refine gl_push 5 (.slice a_o10_r4 (List.length u32) c_o10_r4) (by rw [← hlu32]; rfl) ?_
            refine gl_nil ?_
            refine gx_blk ?_
            obtain rfl := Option.some.inj h
            exact gx_of (fun a w hE hS => ⟨rfl, a_o10_r4, c_o10_r4, hE.sub ⟨rfl, rfl, rfl, rfl, trivial⟩, ((((((hS.pick 0 rfl).pick 4 rfl).pick 4 rfl).pick 4 rfl).pick 4 rfl).take 5).facts _ _ [] (consItem (mem_at 0 rfl) (consItem (mem_at 1 rfl) (consItem (mem_at 2 rfl) (consItem (mem_at 3 rfl) noItem)))) (consItem (mem_at 0 rfl) noItem) noItem⟩)
          · replace h := condF hc h
            refine g_sr ?_
            refine gl_batch 2 [(78, .bool (o27.1 == 1)), (79, .bool (o27.1 == 1))] rfl ?_
            refine gl_ns ?_
            refine g_cond (b := o27.1 == 1) rfl (fun hc => ?_) (fun hc => ?_)
            · replace h := condT hc h
              refine g_region ?_
              refine gl_batch 5 [(84, .int .i64 o26.1), (83, .slice a_o10_r4 (List.length o10.2.2) c_o10_r4), (82, .pointer (some ⟨b_s, 0, none⟩)), (81, .int .i64 o26.1), (80, .slice a_o10_r4 (List.length o10.2.2) c_o10_r4)] rfl ?_
              obtain ⟨x33, hx33, h⟩ := bindS h
              refine gl_idxVn (k := .i64) (mem_at 4 rfl) rfl rfl Fs24 Fz39 hx33 rfl rfl ?_
              intro p34 hp34
              refine gl_run (v := .pointer (some (Addr.add p34 1))) rfl rfl rfl (fun w => by kernel_rfl) ?_
              refine gl_ld1 1 hasAT (mem_at 5 rfl) rfl rfl Fo2 rfl rfl rfl ?_
              refine gl_batch 1 [(88, .int .i64 (IntKind.i64.wrap (x33.Number + 1)))] rfl ?_
              refine gl_lit (m := 1) (d := 89) (T := 2) (enc := fun x => [.int .i64 x]) (hn := fun _ => rfl) false [0, IntKind.i64.wrap (x33.Number + 1)] rfl rfl (fun _ => rfl) nofun (Nat.le_of_ble_eq_true rfl) (fun w => by kernel_rfl) ?_
              intro a_v35 c_v36
              obtain ⟨o37, ho37, h⟩ := bindS h
              refine gl_pick 1 rfl ?_
              refine gl_callR rfl rfl (fun w => by kernel_rfl) (c_spec_l01Pick (⟨s.code, o27.2.at_v, o27.2.seed⟩ : Src) [0, IntKind.i64.wrap (x33.Number + 1)] b_s a_s_code c_s_code a_v35 c_v36 ho37) rfl (consItem (mem_at 0 rfl) (consItem (mem_at 1 rfl) (consItem (mem_at 2 rfl) (consItem (mem_at 3 rfl) noItem)))) (consItem (mem_at 5 rfl) (consItem (mem_at 0 rfl) noItem)) ?_
              rintro v outs ros ⟨rfl, rfl, rfl⟩
              refine ⟨_, rfl, ?_⟩
              obtain ⟨x38, hx38, h⟩ := bindS h
              refine gl_idxVn (k := .i64) (mem_at 5 rfl) rfl rfl Fs24 Fz39 hx38 rfl rfl ?_
              intro p39 hp39
              refine gl_run (v := .pointer (some (Addr.add p39 1))) rfl rfl rfl (fun w => by kernel_rfl) ?_
              refine gl_pick 5 rfl ?_
              obtain ⟨u40, hu40, h⟩ := letS h
              refine gl_stEn 1 [.int .i64 o37.1] (⟨x38.Event, o37.1, x38.Time⟩ : Firing) hp39 hx38 rfl rfl rfl rfl Fz2 rfl rfl rfl rfl ?_
              rw [hu40]
              refine gl_relen (fun hlu40 => ?_)
              refine gl_push 5 (.slice a_o10_r4 (List.length u40) c_o10_r4) (by rw [← hlu40]; rfl) ?_
              refine gl_nil ?_
              refine gx_blk ?_
              obtain rfl := Option.some.inj h
              exact gx_of (fun a w hE hS => ⟨rfl, a_o10_r4, c_o10_r4, hE.sub ⟨rfl, rfl, rfl, rfl, trivial⟩, ((((((hS.pick 0 rfl).pick 5 rfl).pick 5 rfl).pick 5 rfl).pick 4 rfl).take 5).facts _ _ [] (consItem (mem_at 0 rfl) (consItem (mem_at 1 rfl) (consItem (mem_at 2 rfl) (consItem (mem_at 3 rfl) noItem)))) (consItem (mem_at 0 rfl) noItem) noItem⟩)
            · replace h := condF hc h
              refine g_sr ?_
              refine gl_batch 2 [(93, .bool (o27.1 == 2)), (94, .bool (o27.1 == 2))] rfl ?_
              refine gl_ns ?_
              refine g_cond (b := o27.1 == 2) rfl (fun hc => ?_) (fun hc => ?_)
              · replace h := condT hc h
                refine g_region ?_
                refine gl_batch 3 [(97, .pointer (some ⟨b_s, 0, none⟩)), (96, .int .i64 o26.1), (95, .slice a_o10_r4 (List.length o10.2.2) c_o10_r4)] rfl ?_
                refine gl_run (v := .pointer (some ⟨b5, 0, none⟩)) rfl rfl rfl (fun w => by kernel_rfl) ?_
                refine gl_ld1 0 hasBK (mem_at 2 rfl) rfl rfl Fo2 rfl rfl rfl ?_
                refine gl_lit (m := 1) (d := 100) (T := 2) (enc := fun x => [.int .i64 x]) (hn := fun _ => rfl) false [(-1), o2.1.Events, 0] rfl rfl (fun _ => rfl) nofun (Nat.le_of_ble_eq_true rfl) (fun w => by kernel_rfl) ?_
                intro a_v41 c_v42
                obtain ⟨o43, ho43, h⟩ := bindS h
                refine gl_pick 1 rfl ?_
                refine gl_callR rfl rfl (fun w => by kernel_rfl) (c_spec_l01Pick (⟨s.code, o27.2.at_v, o27.2.seed⟩ : Src) [(-1), o2.1.Events, 0] b_s a_s_code c_s_code a_v41 c_v42 ho43) rfl (consItem (mem_at 0 rfl) (consItem (mem_at 1 rfl) (consItem (mem_at 2 rfl) (consItem (mem_at 3 rfl) noItem)))) (consItem (mem_at 5 rfl) (consItem (mem_at 0 rfl) noItem)) ?_
                rintro v outs ros ⟨rfl, rfl, rfl⟩
                refine ⟨_, rfl, ?_⟩
                obtain ⟨x44, hx44, h⟩ := bindS h
                refine gl_idxVn (k := .i64) (mem_at 5 rfl) rfl rfl Fs24 Fz39 hx44 rfl rfl ?_
                intro p45 hp45
                refine gl_run (v := .pointer (some p45)) rfl rfl rfl (fun w => by kernel_rfl) ?_
                refine gl_pick 5 rfl ?_
                obtain ⟨u46, hu46, h⟩ := letS h
                refine gl_stEn 0 [.int .i64 o43.1] (⟨o43.1, x44.Number, x44.Time⟩ : Firing) hp45 hx44 rfl rfl rfl rfl Fz2 rfl rfl rfl rfl ?_
                rw [hu46]
                refine gl_relen (fun hlu46 => ?_)
                refine gl_push 5 (.slice a_o10_r4 (List.length u46) c_o10_r4) (by rw [← hlu46]; rfl) ?_
                refine gl_nil ?_
                refine gx_blk ?_
                obtain rfl := Option.some.inj h
                exact gx_of (fun a w hE hS => ⟨rfl, a_o10_r4, c_o10_r4, hE.sub ⟨rfl, rfl, rfl, rfl, trivial⟩, ((((((hS.pick 0 rfl).pick 5 rfl).pick 5 rfl).pick 5 rfl).pick 4 rfl).take 5).facts _ _ [] (consItem (mem_at 0 rfl) (consItem (mem_at 1 rfl) (consItem (mem_at 2 rfl) (consItem (mem_at 3 rfl) noItem)))) (consItem (mem_at 0 rfl) noItem) noItem⟩)
              · replace h := condF hc h
                refine g_sr ?_
                refine gl_batch 2 [(104, .bool (o27.1 == 3)), (105, .bool (o27.1 == 3))] rfl ?_
                refine gl_ns ?_
                refine g_cond (b := o27.1 == 3) rfl (fun hc => ?_) (fun hc => ?_)
                · replace h := condT hc h
                  refine g_region ?_
                  refine gl_batch 2 [(107, .slice a_o10_r4 (List.length o10.2.2) c_o10_r4), (106, .slice a_o10_r4 (List.length o10.2.2) c_o10_r4)] rfl ?_
                  refine gl_len rfl Fs24 rfl rfl ?_
                  refine gl_batch 2 [(110, .pointer (some ⟨b_s, 0, none⟩)), (109, .int .i64 (IntKind.i64.wrap ((List.length o10.2.2 : Int) - 1)))] rfl ?_
                  refine gl_lit (m := 1) (d := 111) (T := 2) (enc := fun x => [.int .i64 x]) (hn := fun _ => rfl) false [1000000, 1000001, 9223372036854775807] rfl rfl (fun _ => rfl) nofun (Nat.le_of_ble_eq_true rfl) (fun w => by kernel_rfl) ?_
                  intro a_v47 c_v48
                  obtain ⟨o49, ho49, h⟩ := bindS h
                  refine gl_pick 1 rfl ?_
                  refine gl_callR rfl rfl (fun w => by kernel_rfl) (c_spec_l01Pick (⟨s.code, o27.2.at_v, o27.2.seed⟩ : Src) [1000000, 1000001, 9223372036854775807] b_s a_s_code c_s_code a_v47 c_v48 ho49) rfl (consItem (mem_at 0 rfl) (consItem (mem_at 1 rfl) (consItem (mem_at 2 rfl) (consItem (mem_at 3 rfl) noItem)))) (consItem (mem_at 5 rfl) (consItem (mem_at 0 rfl) noItem)) ?_
                  rintro v outs ros ⟨rfl, rfl, rfl⟩
                  refine ⟨_, rfl, ?_⟩
                  obtain ⟨x50, hx50, h⟩ := bindS h
                  refine gl_idxVn (k := .i64) (mem_at 5 rfl) rfl rfl Fs24 Fz39 hx50 rfl rfl ?_
                  intro p51 hp51
                  refine gl_run (v := .pointer (some (Addr.add p51 2))) rfl rfl rfl (fun w => by kernel_rfl) ?_
                  refine gl_pick 5 rfl ?_
                  obtain ⟨u52, hu52, h⟩ := letS h
                  refine gl_stEn 2 [.int .i64 o49.1] (⟨x50.Event, x50.Number, o49.1⟩ : Firing) hp51 hx50 rfl rfl rfl rfl Fz2 rfl rfl rfl rfl ?_
                  rw [hu52]
                  refine gl_relen (fun hlu52 => ?_)
                  refine gl_push 5 (.slice a_o10_r4 (List.length u52) c_o10_r4) (by rw [← hlu52]; rfl) ?_
                  refine gl_nil ?_
                  refine gx_blk ?_
                  obtain rfl := Option.some.inj h
                  exact gx_of (fun a w hE hS => ⟨rfl, a_o10_r4, c_o10_r4, hE.sub ⟨rfl, rfl, rfl, rfl, trivial⟩, ((((((hS.pick 0 rfl).pick 5 rfl).pick 5 rfl).pick 5 rfl).pick 4 rfl).take 5).facts _ _ [] (consItem (mem_at 0 rfl) (consItem (mem_at 1 rfl) (consItem (mem_at 2 rfl) (consItem (mem_at 3 rfl) noItem)))) (consItem (mem_at 0 rfl) noItem) noItem⟩)
                · replace h := condF hc h
                  refine g_skip ?_
                  refine gx_blk ?_
                  obtain rfl := Option.some.inj h
                  exact gx_of (fun a w hE hS => ⟨rfl, a_o10_r4, c_o10_r4, hE.sub ⟨rfl, rfl, rfl, rfl, trivial⟩, (hS.take 5).facts _ _ [] (consItem (mem_at 0 rfl) (consItem (mem_at 1 rfl) (consItem (mem_at 2 rfl) (consItem (mem_at 3 rfl) noItem)))) (consItem (mem_at 0 rfl) noItem) noItem⟩)
        · replace h := condF hc h
          refine g_skip ?_
          obtain rfl := Option.some.inj h
          exact gx_of (fun a w hE hS => ⟨rfl, a_o10_r4, c_o10_r4, hE.sub ⟨rfl, rfl, rfl, rfl, trivial⟩, (hS.take 5).facts _ _ [] (consItem (mem_at 0 rfl) (consItem (mem_at 1 rfl) (consItem (mem_at 2 rfl) (consItem (mem_at 3 rfl) noItem)))) (consItem (mem_at 0 rfl) noItem) noItem⟩)
      · intro e a w hm
        obtain ⟨rfl, a_o25_r4, c_o25_r4, hE, hS⟩ := hm
        refine gx_to hE hS ?_
        refine gx_seq ?_
        refine g_seq ?_
        refine g_sr ?_
        refine gl_batch 1 [(115, .pointer (some ⟨b_s, 0, none⟩))] rfl ?_
        obtain ⟨o53, ho53, h⟩ := bindS h
        refine gl_callR rfl rfl (fun w => by kernel_rfl) (c_spec_l01Next (⟨s.code, o25.1, o25.2.1⟩ : Src) 60 b_s a_s_code c_s_code ho53) rfl (consItem (mem_at 0 rfl) (consItem (mem_at 1 rfl) (consItem (mem_at 2 rfl) (consItem (mem_at 3 rfl) noItem)))) (consItem (mem_at 4 rfl) noItem) ?_
        rintro v outs ros ⟨rfl, rfl, rfl⟩
        refine ⟨_, rfl, ?_⟩
        refine gl_batch 1 [(117, .bool (o53.1 == 0))] rfl ?_
        refine gl_ns ?_
        refine g_cond (b := o53.1 == 0) rfl (fun hc => ?_) (fun hc => ?_)
        · replace h := condT hc h
          refine g_sr ?_
          refine gl_lit (m := 4) (d := 118) (T := 114) (enc := PlaceE) (hn := fun _ => rfl) false ([] : List Place) rfl rfl (fun _ => rfl) nofun (Nat.le_of_ble_eq_true rfl) (fun w => by kernel_rfl) ?_
          intro a_v54 c_v55
          refine gl_run (v := .agg #[.int .i64 1, .slice a_v54 (List.length ([] : List Place)) c_v55]) rfl rfl rfl (fun w => by kernel_rfl) ?_
          refine gl_batch 1 [(120, .pointer (some ⟨b_s, 0, none⟩))] rfl ?_
          refine gl_lit (m := 1) (d := 121) (T := 2) (enc := fun x => [.int .i64 x]) (hn := fun _ => rfl) false [50, 51, 500, 501] rfl rfl (fun _ => rfl) nofun (Nat.le_of_ble_eq_true rfl) (fun w => by kernel_rfl) ?_
          intro a_v56 c_v57
          obtain ⟨o58, ho58, h⟩ := bindS h
          refine gl_pick 2 rfl ?_
          refine gl_callR rfl rfl (fun w => by kernel_rfl) (c_spec_l01Pick (⟨s.code, o53.2.at_v, o53.2.seed⟩ : Src) [50, 51, 500, 501] b_s a_s_code c_s_code a_v56 c_v57 ho58) rfl (consItem (mem_at 0 rfl) (consItem (mem_at 1 rfl) (consItem (mem_at 2 rfl) (consItem (mem_at 3 rfl) noItem)))) (consItem (mem_at 6 rfl) (consItem (mem_at 0 rfl) noItem)) ?_
          rintro v outs ros ⟨rfl, rfl, rfl⟩
          refine ⟨_, rfl, ?_⟩
          obtain ⟨o59, ho59, h⟩ := bindS h
          refine gl_call rfl rfl (fun w => by kernel_rfl) (c_spec_l14Long o58.1 ho59) (consItem (mem_at 0 rfl) (consItem (mem_at 1 rfl) (consItem (mem_at 2 rfl) (consItem (mem_at 3 rfl) noItem)))) noItem ?_
          rintro v outs ros ⟨a_v60, c_v61, rfl, rfl, rfl⟩
          refine ⟨_, rfl, ?_⟩
          refine gl_pick 4 rfl ?_
          refine gl_stB (cells' := [.int .i64 1, .slice a_v54 (List.length ([] : List Place)) c_v55]) 0 [.int .i64 1, .slice a_v54 (List.length ([] : List Place)) c_v55] rfl rfl rfl Fz49 rfl rfl rfl rfl ?_
          refine gl_batch 1 [(3, .slice a_v60 (List.length o59) c_v61)] rfl ?_
          refine gl_ns ?_
          refine g_ret ?_
          refine gx_seq_ret ?_
          obtain rfl := Option.some.inj h
          exact gx_fin rfl [.agg #[.int .i64 1, .slice a_v54 (List.length ([] : List Place)) c_v55], .slice a_v60 (List.length o59) c_v61] _ _ [] ⟨_, _, rfl, ⟨_, _, _, rfl, mem_at 0 rfl, hasBK, Or.inl ⟨Fm49, Fz49, rfl⟩⟩, _, _, rfl, rfl, rfl⟩ rfl ⟨a_v54, c_v55, a_v60, c_v61, rfl, rfl, rfl⟩ (fun w hS => ((((hS.pick 2 rfl).pick 2 rfl).pick 4 rfl).take 3).facts [] [] [] noItem noItem noItem) (Or.inl rfl)
        · replace h := condF hc h
          refine g_skip ?_
          refine gx_seq ?_
          refine g_sr ?_
          refine gl_ldA (vs := [.int .i64 o2.1.Events, .slice a_v3 (List.length o2.1.Places) c_v4]) 0 hasBK (mem_at 2 rfl) rfl rfl Fm49 Fz49 rfl rfl rfl ?_
          refine gl_batch 1 [(125, .slice a_o25_r4 (List.length o25.2.2) c_o25_r4)] rfl ?_
          refine gl_pick 1 rfl ?_
          refine gl_stB (cells' := [.int .i64 o2.1.Events, .slice a_v3 (List.length o2.1.Places) c_v4]) 0 [.int .i64 o2.1.Events, .slice a_v3 (List.length o2.1.Places) c_v4] rfl rfl rfl Fz49 rfl rfl rfl rfl ?_
          refine gl_batch 1 [(3, .slice a_o25_r4 (List.length o25.2.2) c_o25_r4)] rfl ?_
          refine gl_ns ?_
          refine g_ret ?_
          obtain rfl := Option.some.inj h
          exact gx_fin rfl [.agg #[.int .i64 o2.1.Events, .slice a_v3 (List.length o2.1.Places) c_v4], .slice a_o25_r4 (List.length o25.2.2) c_o25_r4] _ _ [] ⟨_, _, rfl, ⟨_, _, _, rfl, mem_at 0 rfl, hasBK, Or.inl ⟨Fm49, Fz49, rfl⟩⟩, _, _, rfl, rfl, rfl⟩ rfl ⟨a_v3, c_v4, a_o25_r4, c_o25_r4, rfl, rfl, rfl⟩ (fun w hS => ((((hS.pick 1 rfl).pick 4 rfl).pick 4 rfl).take 3).facts [] [] [] noItem noItem noItem) (Or.inl rfl)

theorem c_spec_l28Draw (s : Src) (b_s : Nat) (a_s_code : Option Addr) (c_s_code : Nat) {r : List Firing × Src} (h : spec_l28Draw s = some r) : CallOK Tryz.prog 35 [.pointer (some ⟨b_s, 0, none⟩)] [BK 89 b_s [.slice a_s_code (List.length s.code) c_s_code, .int .i64 s.at_v, .int .i64 s.seed]] [gTab 3 pow10C, gNum 0, gErr 1, gErr 2] [SL false 5 (intS .u8) a_s_code c_s_code s.code] (fun v outs ros => ∃ (a0 : Option Addr), ∃ (c0 : Nat), v = .slice a0 (List.length r.1) c0 ∧ outs = [SL false 39 FiringS a0 c0 r.1, BK 89 b_s [.slice a_s_code (List.length s.code) c_s_code, .int .i64 r.2.at_v, .int .i64 r.2.seed]] ∧ ros = []) := by
  refine fn_ok Tryz.func35 rfl Tryz.ntmps35 rfl (fun c hF0 => ?_)
  unfold spec_l28Draw at h
  refine g_sr ?_
  refine gl_batch 1 [(2, .slice none 0 0)] rfl ?_
  refine gl_nx ?_
  refine gl_batch 1 [(6, .pointer (some ⟨b_s, 0, none⟩))] rfl ?_
  obtain ⟨o1, ho1, h⟩ := bindS h
  refine gl_callR rfl rfl (fun w => by kernel_rfl) (c_spec_l14Draw s b_s a_s_code c_s_code ho1) rfl (consItem (mem_at 0 rfl) (consItem (mem_at 1 rfl) (consItem (mem_at 2 rfl) (consItem (mem_at 3 rfl) noItem)))) (consItem (mem_at 0 rfl) noItem) ?_
  rintro v outs ros ⟨a_v2, c_v3, a_v4, c_v5, rfl, rfl, rfl⟩
  refine ⟨_, rfl, ?_⟩
  refine gl_batch 3 [(9, .slice a_v4 (List.length o1.2.1) c_v5), (8, .agg #[.int .i64 o1.1.Events, .slice a_v2 (List.length o1.1.Places) c_v3]), (5, .tuple #[.agg #[.int .i64 o1.1.Events, .slice a_v2 (List.length o1.1.Places) c_v3], .slice a_v4 (List.length o1.2.1) c_v5])] rfl ?_
  refine gl_new (d := 3) (T := 49) [.int .i64 0, .slice none 0 0] rfl rfl (fun _ => rfl) (fun w => by kernel_rfl) ?_
  intro b6
  refine gl_stB (cells' := [.int .i64 o1.1.Events, .slice a_v2 (List.length o1.1.Places) c_v3]) 0 [.int .i64 o1.1.Events, .slice a_v2 (List.length o1.1.Places) c_v3] rfl rfl rfl Fz49 rfl rfl rfl rfl ?_
  refine gl_batch 1 [(4, .slice a_v4 (List.length o1.2.1) c_v5)] rfl ?_
  refine gl_ns ?_
  obtain ⟨o7, ho7, h⟩ := bindS h
  refine g_mid (M := ((fun ss_ e a w => e = .normal ∧ ∃ (a_ss__r0 : Option Addr), ∃ (c_ss__r0 : Nat), Env a 26 [(4, .slice a_ss__r0 (List.length ss_.1) c_ss__r0)] ∧ St c w [SL false 39 FiringS a_ss__r0 c_ss__r0 ss_.1, BK 89 b_s [.slice a_s_code (List.length s.code) c_s_code, .int .i64 ss_.2.1, .int .i64 ss_.2.2]] [gTab 3 pow10C, gNum 0, gErr 1, gErr 2] [SL false 5 (intS .u8) a_s_code c_s_code s.code] []) : ((List Firing) × Int × Int) → Exit → Act → World → Prop) o7) ?_ ?_
  · replace h := ho7
    refine g_sr ?_
    refine gl_batch 1 [(10, .pointer (some ⟨b_s, 0, none⟩))] rfl ?_
    obtain ⟨o8, ho8, h⟩ := bindS h
    refine gl_pick 3 rfl ?_
    refine gl_callR rfl rfl (fun w => by kernel_rfl) (c_spec_l01Next (⟨s.code, o1.2.2.at_v, o1.2.2.seed⟩ : Src) 24 b_s a_s_code c_s_code ho8) rfl (consItem (mem_at 0 rfl) (consItem (mem_at 1 rfl) (consItem (mem_at 2 rfl) (consItem (mem_at 3 rfl) noItem)))) (consItem (mem_at 3 rfl) noItem) ?_
    rintro v outs ros ⟨rfl, rfl, rfl⟩
    refine ⟨_, rfl, ?_⟩
    refine gl_batch 1 [(12, .bool (o8.1 == 0))] rfl ?_
    refine gl_ns ?_
    refine g_cond (b := o8.1 == 0) rfl (fun hc => ?_) (fun hc => ?_)
    · replace h := condT hc h
      refine g_region ?_
      refine gl_lit (m := 3) (d := 13) (T := 39) (enc := FiringE) (hn := fun _ => rfl) false ([] : List Firing) rfl rfl (fun _ => rfl) nofun (Nat.le_of_ble_eq_true rfl) (fun w => by kernel_rfl) ?_
      intro a_v9 c_v10
      refine gl_batch 1 [(14, .slice a_v4 (List.length o1.2.1) c_v5)] rfl ?_
      obtain ⟨z11, hz11, h⟩ := bindS h
      refine gl_appn (mem_at 4 rfl) rfl rfl Fs24 Fi39 rfl rfl (fun _ => rfl) hz11 rfl rfl ?_
      intro a_v12 c_v13
      refine gl_batch 1 [(16, .pointer (some ⟨b_s, 0, none⟩))] rfl ?_
      refine gl_lit (m := 1) (d := 17) (T := 2) (enc := fun x => [.int .i64 x]) (hn := fun _ => rfl) false [9, 10, 0] rfl rfl (fun _ => rfl) nofun (Nat.le_of_ble_eq_true rfl) (fun w => by kernel_rfl) ?_
      intro a_v14 c_v15
      obtain ⟨o16, ho16, h⟩ := bindS h
      refine gl_pick 2 rfl ?_
      refine gl_callR rfl rfl (fun w => by kernel_rfl) (c_spec_l01Pick (⟨s.code, o8.2.at_v, o8.2.seed⟩ : Src) [9, 10, 0] b_s a_s_code c_s_code a_v14 c_v15 ho16) rfl (consItem (mem_at 0 rfl) (consItem (mem_at 1 rfl) (consItem (mem_at 2 rfl) (consItem (mem_at 3 rfl) noItem)))) (consItem (mem_at 5 rfl) (consItem (mem_at 0 rfl) noItem)) ?_
      rintro v outs ros ⟨rfl, rfl, rfl⟩
      refine ⟨_, rfl, ?_⟩
      refine gl_batch 1 [(19, .pointer (some ⟨b_s, 0, none⟩))] rfl ?_
      refine gl_lit (m := 1) (d := 20) (T := 2) (enc := fun x => [.int .i64 x]) (hn := fun _ => rfl) false [1000000, 1000001, (-1)] rfl rfl (fun _ => rfl) nofun (Nat.le_of_ble_eq_true rfl) (fun w => by kernel_rfl) ?_
      intro a_v17 c_v18
      obtain ⟨o19, ho19, h⟩ := bindS h
      refine gl_pick 1 rfl ?_
      refine gl_callR rfl rfl (fun w => by kernel_rfl) (c_spec_l01Pick (⟨s.code, o16.2.at_v, o16.2.seed⟩ : Src) [1000000, 1000001, (-1)] b_s a_s_code c_s_code a_v17 c_v18 ho19) rfl (consItem (mem_at 0 rfl) (consItem (mem_at 1 rfl) (consItem (mem_at 2 rfl) (consItem (mem_at 3 rfl) noItem)))) (consItem (mem_at 6 rfl) (consItem (mem_at 0 rfl) noItem)) ?_
      rintro v outs ros ⟨rfl, rfl, rfl⟩
      refine ⟨_, rfl, ?_⟩
      refine gl_run (v := .agg #[.int .i64 o16.1, .int .i64 0, .int .i64 o19.1]) rfl rfl rfl (fun w => by kernel_rfl) ?_
      refine gl_lit (m := 3) (d := 23) (T := 39) (enc := FiringE) (hn := fun _ => rfl) false [(⟨o16.1, 0, o19.1⟩ : Firing)] rfl rfl (fun _ => rfl) nofun (Nat.le_of_ble_eq_true rfl) (fun w => by kernel_rfl) ?_
      intro a_v20 c_v21
      refine gl_pick 4 rfl ?_
      obtain ⟨z22, hz22, h⟩ := bindS h
      refine gl_appn (mem_at 1 rfl) rfl rfl Fs24 Fi39 rfl rfl (fun _ => rfl) hz22 rfl rfl ?_
      intro a_v23 c_v24
      refine gl_batch 1 [(4, .slice a_v23 (List.length z22) c_v24)] rfl ?_
      refine gl_nil ?_
      obtain rfl := Option.some.inj h
      exact gx_of (fun a w hE hS => ⟨rfl, a_v23, c_v24, hE.sub ⟨rfl, trivial⟩, (((hS.pick 2 rfl).pick 1 rfl).take 2).facts _ _ [] (consItem (mem_at 0 rfl) (consItem (mem_at 1 rfl) (consItem (mem_at 2 rfl) (consItem (mem_at 3 rfl) noItem)))) (consItem (mem_at 0 rfl) noItem) noItem⟩)
    · replace h := condF hc h
      refine g_skip ?_
      obtain rfl := Option.some.inj h
      exact gx_of (fun a w hE hS => ⟨rfl, a_v4, c_v5, hE.sub ⟨rfl, trivial⟩, (((hS.pick 0 rfl).pick 3 rfl).take 2).facts _ _ [] (consItem (mem_at 0 rfl) (consItem (mem_at 1 rfl) (consItem (mem_at 2 rfl) (consItem (mem_at 3 rfl) noItem)))) (consItem (mem_at 0 rfl) noItem) noItem⟩)
  · intro e a w hm
    obtain ⟨rfl, a_o7_r0, c_o7_r0, hE, hS⟩ := hm
    refine gx_to hE hS ?_
    refine gx_seq ?_
    refine g_sr ?_
    refine gl_batch 2 [(2, .slice a_o7_r0 (List.length o7.1) c_o7_r0), (25, .slice a_o7_r0 (List.length o7.1) c_o7_r0)] rfl ?_
    refine gl_ns ?_
    refine g_ret ?_
    obtain rfl := Option.some.inj h
    exact gx_fin rfl [.slice a_o7_r0 (List.length o7.1) c_o7_r0] _ _ [] ⟨_, _, rfl, rfl, rfl⟩ rfl ⟨a_o7_r0, c_o7_r0, rfl, rfl, rfl⟩ (fun w hS => (hS.take 2).facts [] [] [] noItem noItem noItem) (Or.inl rfl)

theorem c_slices_ContainsFunc_Firing_isWritable_c1 (s : List Firing) (a_s : Option Addr) (c_s : Nat) {r : Bool} (h : slices_ContainsFunc_Firing_isWritable_c1 s = some r) : CallOK Tryz.prog 58 [.slice a_s (List.length s) c_s, .func (.func 59) #[] #[]] [] [gTab 3 pow10C, gNum 0, gErr 1, gErr 2] [SL false 39 FiringS a_s c_s s] (fun v outs ros => v = .bool r ∧ outs = [] ∧ ros = []) := by
  refine fn_ok Tryz.func58 rfl Tryz.ntmps58 rfl (fun c hF0 => ?_)
  unfold slices_ContainsFunc_Firing_isWritable_c1 at h
  refine g_sr ?_
  refine gl_batch 1 [(4, .bool false)] rfl ?_
  refine gl_nx ?_
  refine gl_batch 2 [(6, .func (.func 59) #[] #[]), (5, .slice a_s (List.length s) c_s)] rfl ?_
  obtain ⟨o1, ho1, h⟩ := bindS h
  refine gl_call rfl rfl (fun w => by kernel_rfl) (c_slices_IndexFunc_Firing_isWritable_c1 s a_s c_s ho1) (consItem (mem_at 0 rfl) (consItem (mem_at 1 rfl) (consItem (mem_at 2 rfl) (consItem (mem_at 3 rfl) noItem)))) (consItem (mem_at 0 rfl) noItem) ?_
  rintro v outs ros ⟨rfl, rfl, rfl⟩
  refine ⟨_, rfl, ?_⟩
  refine gl_batch 2 [(4, .bool (decide (o1 ≥ 0))), (8, .bool (decide (o1 ≥ 0)))] rfl ?_
  refine gl_ns ?_
  refine g_ret ?_
  obtain rfl := Option.some.inj h
  exact gx_fin rfl [.bool (decide (o1 ≥ 0))] _ _ [] ⟨_, _, rfl, rfl, rfl⟩ rfl ⟨rfl, rfl, rfl⟩ (fun w hS => (hS.take 0).facts [] [] [] noItem noItem noItem) (Or.inl rfl)

theorem c_impl_isWritable (run : List Firing) (a_run : Option Addr) (c_run : Nat) {r : Bool} (h : impl_isWritable run = some r) : CallOK Tryz.prog 37 [.slice a_run (List.length run) c_run] [] [gTab 3 pow10C, gNum 0, gErr 1, gErr 2] [SL false 39 FiringS a_run c_run run] (fun v outs ros => v = .bool r ∧ outs = [] ∧ ros = []) := by
  refine fn_ok Tryz.func37 rfl Tryz.ntmps37 rfl (fun c hF0 => ?_)
  unfold impl_isWritable at h
  refine g_sr ?_
  refine gl_batch 1 [(2, .bool false)] rfl ?_
  refine gl_nx ?_
  refine gl_batch 1 [(3, .slice a_run (List.length run) c_run)] rfl ?_
  refine gl_len rfl Fs24 rfl rfl ?_
  refine gl_batch 2 [(6, .bool (decide ((List.length run : Int) ≤ 500))), (5, .bool (decide ((List.length run : Int) ≤ 500)))] rfl ?_
  obtain ⟨q1, hq1, h⟩ := bindS h
  refine gl_join (EE := [(10, .bool q1)]) (RR := []) (XX := [gTab 3 pow10C, gNum 0, gErr 1, gErr 2]) (OO := [SL false 39 FiringS a_run c_run run]) (VV := []) 4 ?_ ?_
  · replace h := hq1
    refine gl_case 6 rfl (fun hc => ?_) (fun hc => ?_)
    · replace h := condT hc h
      refine gl_batch 1 [(7, .slice a_run (List.length run) c_run)] rfl ?_
      obtain ⟨o2, ho2, h⟩ := bindS h
      refine gl_call rfl rfl (fun w => by kernel_rfl) (c_slices_ContainsFunc_Firing_isWritable_c1 run a_run c_run ho2) (consItem (mem_at 0 rfl) (consItem (mem_at 1 rfl) (consItem (mem_at 2 rfl) (consItem (mem_at 3 rfl) noItem)))) (consItem (mem_at 0 rfl) noItem) ?_
      rintro v outs ros ⟨rfl, rfl, rfl⟩
      refine ⟨_, rfl, ?_⟩
      refine gl_batch 2 [(10, .bool (!o2)), (9, .bool (!o2))] rfl ?_
      refine gl_nil ?_
      obtain rfl := Option.some.inj h
      exact gx_mid ⟨rfl, trivial⟩ (fun w hS => hS)
    · replace h := condF hc h
      refine gl_batch 4 [(10, .bool false), (9, undef), (8, undef), (7, undef)] rfl ?_
      refine gl_nil ?_
      obtain rfl := Option.some.inj h
      exact gx_mid ⟨rfl, trivial⟩ (fun w hS => hS)
  · skip
    refine gl_batch 1 [(2, .bool q1)] rfl ?_
    refine gl_ns ?_
    refine g_ret ?_
    obtain rfl := Option.some.inj h
    exact gx_fin rfl [.bool q1] _ _ [] ⟨_, _, rfl, rfl, rfl⟩ rfl ⟨rfl, rfl, rfl⟩ (fun w hS => (hS.take 0).facts [] [] [] noItem noItem noItem) (Or.inl rfl)

theorem c_impl_traceText (run : List Firing) (a_run : Option Addr) (c_run : Nat) {r : List UInt8 × Int} (h : impl_traceText run = some r) : CallOK Tryz.prog 38 [.slice a_run (List.length run) c_run] [] [gTab 3 pow10C, gNum 0, gErr 1, gErr 2] [SL false 39 FiringS a_run c_run run] (fun v outs ros => v = .tuple #[str r.1, .int .i64 r.2] ∧ outs = [] ∧ ros = []) := by
  refine fn_ok Tryz.func38 rfl Tryz.ntmps38 rfl (fun c hF0 => ?_)
  unfold impl_traceText at h
  refine g_sr ?_
  refine gl_batch 2 [(3, .int .i64 0), (2, str [])] rfl ?_
  refine gl_nx ?_
  refine gl_new (d := 4) (T := 94) [.pointer none, .slice none 0 0] rfl rfl (fun _ => rfl) (fun w => by kernel_rfl) ?_
  intro b1
  refine gl_st (fun w hS => St.newB (T := 94) (eT := 5) hS) ?_
  refine gl_nx ?_
  refine gl_batch 1 [(5, .int .i64 1)] rfl ?_
  refine gl_ns ?_
  refine g_seq ?_
  refine g_sr ?_
  refine gl_batch 1 [(10, .slice a_run (List.length run) c_run)] rfl ?_
  refine gl_len rfl Fs24 rfl rfl ?_
  refine gl_batch 1 [(12, .int .i64 0)] rfl ?_
  refine gl_ns ?_
  refine g_block ?_
  obtain ⟨o2, ho2, h⟩ := bindS h
  refine g_loop (impl_traceText_L1 run) (fun (ss_ : (List UInt8) × Int × Int) a w => Env a 28 [(4, .pointer (some ⟨b1, 0, none⟩)), (5, .int .i64 ss_.2.1), (10, .slice a_run (List.length run) c_run), (11, .int .i64 (List.length run : Int)), (12, .int .i64 ss_.2.2)] ∧ St c w [BLD 94 5 b1 ss_.1] [gTab 3 pow10C, gNum 0, gErr 1, gErr 2] [SL false 39 FiringS a_run c_run run] []) ((fun (ss_ : (List UInt8) × Int) e a w => e = (.exit 0) ∧ Env a 28 [(4, .pointer (some ⟨b1, 0, none⟩)), (5, .int .i64 ss_.2)] ∧ St c w [BLD 94 5 b1 ss_.1] [gTab 3 pow10C, gNum 0, gErr 1, gErr 2] [SL false 39 FiringS a_run c_run run] []) : ((List UInt8) × Int) → Exit → Act → World → Prop) ho2 ?_ ?_ ?_
  · exact fun a w hE hS => ⟨hE.sub ⟨rfl, rfl, rfl, rfl, rfl, trivial⟩, (hS.take 1).facts _ _ [] (consItem (mem_at 0 rfl) (consItem (mem_at 1 rfl) (consItem (mem_at 2 rfl) (consItem (mem_at 3 rfl) noItem)))) (consItem (mem_at 0 rfl) noItem) noItem⟩
  · intro s3 o4 h a w hA
    obtain ⟨hE, hS⟩ := hA
    unfold impl_traceText_L1 at h
    refine g_enter hE hS ?_
    refine g_sr ?_
    refine gl_batch 1 [(13, .bool (decide (s3.2.2 < (List.length run : Int))))] rfl ?_
    refine gl_ns ?_
    refine g_seq ?_
    refine g_cond (b := decide (s3.2.2 < (List.length run : Int))) rfl (fun hc => ?_) (fun hc => ?_)
    · replace h := condT hc h
      refine g_skip ?_
      refine gx_seq ?_
      refine g_seq ?_
      refine g_block ?_
      refine g_sr ?_
      obtain ⟨x5, hx5, h⟩ := bindS h
      refine gl_idxOn (k := .i64) (mem_at 0 rfl) rfl rfl Fs24 Fz39 hx5 rfl rfl ?_
      intro p6
      refine gl_ldA (vs := [.int .i64 x5.Event, .int .i64 x5.Number, .int .i64 x5.Time]) 0 hasAT (mem_at 1 rfl) rfl rfl Fm39 Fz39 rfl rfl rfl ?_
      refine gl_new (d := 7) (T := 39) [.int .i64 0, .int .i64 0, .int .i64 0] rfl rfl (fun _ => rfl) (fun w => by kernel_rfl) ?_
      intro b7
      refine gl_stB (cells' := [.int .i64 x5.Event, .int .i64 x5.Number, .int .i64 x5.Time]) 0 [.int .i64 x5.Event, .int .i64 x5.Number, .int .i64 x5.Time] rfl rfl rfl Fz39 rfl rfl rfl rfl ?_
      refine gl_nx ?_
      refine gl_ldA (vs := [.int .i64 x5.Event, .int .i64 x5.Number, .int .i64 x5.Time]) 0 hasBK (mem_at 0 rfl) rfl rfl Fm39 Fz39 rfl rfl rfl ?_
      refine gl_batch 1 [(18, .int .i64 s3.2.1)] rfl ?_
      obtain ⟨o8, ho8, h⟩ := bindS h
      refine gl_call rfl rfl (fun w => by kernel_rfl) (c_impl_traceLine x5 s3.2.1 ho8) (consItem (mem_at 0 rfl) (consItem (mem_at 1 rfl) (consItem (mem_at 2 rfl) (consItem (mem_at 3 rfl) noItem)))) noItem ?_
      rintro v outs ros ⟨rfl, rfl, rfl⟩
      refine ⟨_, rfl, ?_⟩
      refine gl_batch 5 [(9, .int .i64 o8.2), (8, str o8.1), (21, .int .i64 o8.2), (20, str o8.1), (16, .tuple #[str o8.1, .int .i64 o8.2])] rfl ?_
      refine gl_nx ?_
      refine gl_batch 1 [(22, str o8.1)] rfl ?_
      obtain ⟨o9, ho9, h⟩ := bindS h
      refine gl_pick 1 rfl ?_
      refine gl_callR rfl rfl (fun w => by kernel_rfl) (c_strings_Builder_WriteString s3.1 o8.1 b1 ho9) rfl (consItem (mem_at 0 rfl) (consItem (mem_at 1 rfl) (consItem (mem_at 2 rfl) (consItem (mem_at 3 rfl) noItem)))) noItem ?_
      rintro v outs ros ⟨rfl, rfl, rfl⟩
      refine ⟨_, rfl, ?_⟩
      refine gl_ns ?_
      refine g_region ?_
      refine gl_batch 2 [(5, .int .i64 o8.2), (24, .int .i64 o8.2)] rfl ?_
      refine gl_nil ?_
      refine gx_blk ?_
      refine gx_seq ?_
      refine g_region ?_
      refine gl_batch 2 [(12, .int .i64 (IntKind.i64.wrap (s3.2.2 + 1))), (25, .int .i64 (IntKind.i64.wrap (s3.2.2 + 1)))] rfl ?_
      refine gl_nil ?_
      obtain rfl := Option.some.inj h
      exact gx_of (fun a w hE hS => lp_in ⟨hE.sub ⟨rfl, rfl, rfl, rfl, rfl, trivial⟩, (hS.take 1).facts _ _ [] (consItem (mem_at 0 rfl) (consItem (mem_at 1 rfl) (consItem (mem_at 2 rfl) (consItem (mem_at 3 rfl) noItem)))) (consItem (mem_at 1 rfl) noItem) noItem⟩)
    · replace h := condF hc h
      refine g_exit ?_
      refine gx_seq_exit ?_
      obtain rfl := Option.some.inj h
      exact gx_of (fun a w hE hS => lp_out nofun (⟨rfl, hE.sub ⟨rfl, rfl, trivial⟩, (hS.take 1).facts _ _ [] (consItem (mem_at 0 rfl) (consItem (mem_at 1 rfl) (consItem (mem_at 2 rfl) (consItem (mem_at 3 rfl) noItem)))) (consItem (mem_at 0 rfl) noItem) noItem⟩))
  · intro e a w hm
    obtain ⟨rfl, hE, hS⟩ := hm
    refine gx_to hE hS ?_
    refine gx_blk_hit ?_
    refine gx_seq ?_
    refine g_sr ?_
    refine gl_callR rfl rfl (fun w => by kernel_rfl) (c_strings_Builder_String o2.1 b1 rfl) rfl (consItem (mem_at 0 rfl) (consItem (mem_at 1 rfl) (consItem (mem_at 2 rfl) (consItem (mem_at 3 rfl) noItem)))) noItem ?_
    rintro v outs ros ⟨rfl, rfl, rfl⟩
    refine ⟨_, rfl, ?_⟩
    refine gl_batch 3 [(3, .int .i64 o2.2), (2, str (strings_Builder_String o2.1)), (27, .int .i64 o2.2)] rfl ?_
    refine gl_ns ?_
    refine g_ret ?_
    obtain rfl := Option.some.inj h
    exact gx_fin rfl [str (strings_Builder_String o2.1), .int .i64 o2.2] _ _ [] ⟨_, _, rfl, rfl, _, _, rfl, rfl, rfl⟩ rfl ⟨rfl, rfl, rfl⟩ (fun w hS => (hS.take 0).facts [] [] [] noItem noItem noItem) (Or.inl rfl)

theorem c_spec_TraceText (run : List Firing) (a_run : Option Addr) (c_run : Nat) {r : List UInt8 × Int} (h : spec_TraceText run = some r) : CallOK Tryz.prog 9 [.slice a_run (List.length run) c_run] [] [gTab 3 pow10C, gNum 0, gErr 1, gErr 2] [SL false 39 FiringS a_run c_run run] (fun v outs ros => v = .tuple #[str r.1, .int .i64 r.2] ∧ outs = [] ∧ ros = []) := by
  refine fn_ok Tryz.func9 rfl Tryz.ntmps9 rfl (fun c hF0 => ?_)
  unfold spec_TraceText at h
  refine g_sr ?_
  refine gl_batch 2 [(3, .int .i64 0), (2, str [])] rfl ?_
  refine gl_ns ?_
  refine g_seq ?_
  refine g_sr ?_
  refine gl_batch 1 [(7, .slice a_run (List.length run) c_run)] rfl ?_
  obtain ⟨o1, ho1, h⟩ := bindS h
  refine gl_call rfl rfl (fun w => by kernel_rfl) (c_spec_l28All run a_run c_run ho1) (consItem (mem_at 0 rfl) (consItem (mem_at 1 rfl) (consItem (mem_at 2 rfl) (consItem (mem_at 3 rfl) noItem)))) (consItem (mem_at 0 rfl) noItem) ?_
  rintro v outs ros ⟨rfl, rfl, rfl⟩
  refine ⟨_, rfl, ?_⟩
  refine gl_batch 1 [(9, .bool (!o1))] rfl ?_
  refine gl_ns ?_
  refine g_cond (b := !o1) rfl (fun hc => ?_) (fun hc => ?_)
  · replace h := condT hc h
    refine g_sr ?_
    refine gl_batch 2 [(3, .int .i64 2), (2, str [])] rfl ?_
    refine gl_ns ?_
    refine g_ret ?_
    refine gx_seq_ret ?_
    obtain rfl := Option.some.inj h
    exact gx_fin rfl [str [], .int .i64 2] _ _ [] ⟨_, _, rfl, rfl, _, _, rfl, rfl, rfl⟩ rfl ⟨rfl, rfl, rfl⟩ (fun w hS => (hS.take 0).facts [] [] [] noItem noItem noItem) (Or.inl rfl)
  · replace h := condF hc h
    refine g_skip ?_
    refine gx_seq ?_
    refine g_sr ?_
    refine gl_lit (m := 1) (d := 10) (T := 5) (enc := fun x => [.int .u8 x]) (hn := fun _ => rfl) false ([] : List Int) rfl rfl (fun _ => rfl) nofun (Nat.le_of_ble_eq_true rfl) (fun w => by kernel_rfl) ?_
    intro a_v2 c_v3
    refine gl_batch 2 [(5, .slice a_v2 (List.length ([] : List Int)) c_v3), (4, .int .i64 1)] rfl ?_
    refine gl_ns ?_
    refine g_seq ?_
    refine g_sr ?_
    refine gl_batch 1 [(6, .int .i64 0)] rfl ?_
    refine gl_ns ?_
    refine g_block ?_
    obtain ⟨o4, ho4, h⟩ := bindS h
    refine g_loop (spec_TraceText_L1 run) (fun (ss_ : Int × (List Int) × Int) a w => ∃ (a_ss__r0 : Option Addr), ∃ (c_ss__r0 : Nat), Env a 34 [(0, .slice a_run (List.length run) c_run), (4, .int .i64 ss_.1), (5, .slice a_ss__r0 (List.length ss_.2.1) c_ss__r0), (6, .int .i64 ss_.2.2)] ∧ St c w [SL false 5 (intS .u8) a_ss__r0 c_ss__r0 ss_.2.1] [gTab 3 pow10C, gNum 0, gErr 1, gErr 2] [SL false 39 FiringS a_run c_run run] []) ((fun (ss_ : (List Int)) e a w => e = (.exit 0) ∧ ∃ (a_ss__r0 : Option Addr), ∃ (c_ss__r0 : Nat), Env a 34 [(5, .slice a_ss__r0 (List.length ss_) c_ss__r0)] ∧ St c w [SL false 5 (intS .u8) a_ss__r0 c_ss__r0 ss_] [gTab 3 pow10C, gNum 0, gErr 1, gErr 2] [SL false 39 FiringS a_run c_run run] []) : ((List Int)) → Exit → Act → World → Prop) ho4 ?_ ?_ ?_
    · exact fun a w hE hS => ⟨a_v2, c_v3, hE.sub ⟨rfl, rfl, rfl, rfl, trivial⟩, (hS.take 1).facts _ _ [] (consItem (mem_at 0 rfl) (consItem (mem_at 1 rfl) (consItem (mem_at 2 rfl) (consItem (mem_at 3 rfl) noItem)))) (consItem (mem_at 0 rfl) noItem) noItem⟩
    · intro s5 o6 h a w hA
      obtain ⟨a_s5_r0, c_s5_r0, hE, hS⟩ := hA
      unfold spec_TraceText_L1 at h
      refine g_enter hE hS ?_
      refine g_seq ?_
      refine g_sr ?_
      refine gl_batch 2 [(12, .slice a_run (List.length run) c_run), (11, .int .i64 s5.2.2)] rfl ?_
      refine gl_len rfl Fs24 rfl rfl ?_
      refine gl_batch 1 [(14, .bool (decide (s5.2.2 < (List.length run : Int))))] rfl ?_
      refine gl_ns ?_
      refine g_cond (b := decide (s5.2.2 < (List.length run : Int))) rfl (fun hc => ?_) (fun hc => ?_)
      · replace h := condT hc h
        refine g_skip ?_
        refine gx_seq ?_
        refine g_seq ?_
        refine g_block ?_
        refine g_sr ?_
        refine gl_batch 3 [(19, .int .i64 s5.2.2), (18, .slice a_run (List.length run) c_run), (17, .int .i64 s5.1)] rfl ?_
        obtain ⟨x7, hx7, h⟩ := bindS h
        refine gl_idxOn (k := .i64) (mem_at 0 rfl) rfl rfl Fs24 Fz39 hx7 rfl rfl ?_
        intro p8
        refine gl_ldA (vs := [.int .i64 x7.Event, .int .i64 x7.Number, .int .i64 x7.Time]) 0 hasAT (mem_at 1 rfl) rfl rfl Fm39 Fz39 rfl rfl rfl ?_
        refine gl_call rfl rfl (fun w => by kernel_rfl) (c_spec_l28Next s5.1 x7 rfl) (consItem (mem_at 0 rfl) (consItem (mem_at 1 rfl) (consItem (mem_at 2 rfl) (consItem (mem_at 3 rfl) noItem)))) noItem ?_
        rintro v outs ros ⟨rfl, rfl, rfl⟩
        refine ⟨_, rfl, ?_⟩
        refine gl_batch 1 [(4, .int .i64 (spec_l28Next s5.1 x7))] rfl ?_
        refine gl_ns ?_
        refine g_region ?_
        refine gl_batch 3 [(25, .int .i64 s5.2.2), (24, .slice a_run (List.length run) c_run), (23, .slice a_s5_r0 (List.length s5.2.1) c_s5_r0)] rfl ?_
        obtain ⟨x9, hx9, h⟩ := bindS h
        refine gl_idxOn (k := .i64) (mem_at 1 rfl) rfl rfl Fs24 Fz39 hx9 rfl rfl ?_
        intro p10
        refine gl_ldA (vs := [.int .i64 x9.Event, .int .i64 x9.Number, .int .i64 x9.Time]) 0 hasAT (mem_at 1 rfl) rfl rfl Fm39 Fz39 rfl rfl rfl ?_
        refine gl_batch 1 [(28, .int .i64 (spec_l28Next s5.1 x7))] rfl ?_
        obtain ⟨o11, ho11, h⟩ := bindS h
        refine gl_call rfl rfl (fun w => by kernel_rfl) (c_spec_l28Line x9 (spec_l28Next s5.1 x7) ho11) (consItem (mem_at 0 rfl) (consItem (mem_at 1 rfl) (consItem (mem_at 2 rfl) (consItem (mem_at 3 rfl) noItem)))) noItem ?_
        rintro v outs ros ⟨rfl, rfl, rfl⟩
        refine ⟨_, rfl, ?_⟩
        obtain ⟨z12, hz12, h⟩ := bindS h
        refine gl_scat rfl rfl hz12 rfl rfl ?_
        obtain ⟨z13, hz13, h⟩ := bindS h
        refine gl_appsn rfl rfl Fs22 Ft9 Fi5 hz13 rfl rfl ?_
        intro a_v14 c_v15
        refine gl_batch 1 [(5, .slice a_v14 (List.length z13) c_v15)] rfl ?_
        refine gl_nil ?_
        refine gx_blk ?_
        refine gx_seq ?_
        refine g_region ?_
        refine gl_batch 3 [(6, .int .i64 (IntKind.i64.wrap (s5.2.2 + 1))), (16, .int .i64 (IntKind.i64.wrap (s5.2.2 + 1))), (15, .int .i64 s5.2.2)] rfl ?_
        refine gl_nil ?_
        obtain rfl := Option.some.inj h
        exact gx_of (fun a w hE hS => lp_in ⟨a_v14, c_v15, hE.sub ⟨rfl, rfl, rfl, rfl, trivial⟩, (hS.take 1).facts _ _ [] (consItem (mem_at 0 rfl) (consItem (mem_at 1 rfl) (consItem (mem_at 2 rfl) (consItem (mem_at 3 rfl) noItem)))) (consItem (mem_at 2 rfl) noItem) noItem⟩)
      · replace h := condF hc h
        refine g_exit ?_
        refine gx_seq_exit ?_
        obtain rfl := Option.some.inj h
        exact gx_of (fun a w hE hS => lp_out nofun (⟨rfl, a_s5_r0, c_s5_r0, hE.sub ⟨rfl, trivial⟩, (hS.take 1).facts _ _ [] (consItem (mem_at 0 rfl) (consItem (mem_at 1 rfl) (consItem (mem_at 2 rfl) (consItem (mem_at 3 rfl) noItem)))) (consItem (mem_at 0 rfl) noItem) noItem⟩))
    · intro e a w hm
      obtain ⟨rfl, a_o4_r0, c_o4_r0, hE, hS⟩ := hm
      refine gx_to hE hS ?_
      refine gx_blk_hit ?_
      refine gx_seq ?_
      refine g_sr ?_
      refine gl_batch 1 [(32, .slice a_o4_r0 (List.length o4) c_o4_r0)] rfl ?_
      refine gl_b2sn (mem_at 0 rfl) rfl Fs22 Fy5 Ft9 rfl rfl ?_
      refine gl_batch 2 [(3, .int .i64 0), (2, str (toStr o4))] rfl ?_
      refine gl_ns ?_
      refine g_ret ?_
      obtain rfl := Option.some.inj h
      exact gx_fin rfl [str (toStr o4), .int .i64 0] _ _ [] ⟨_, _, rfl, rfl, _, _, rfl, rfl, rfl⟩ rfl ⟨rfl, rfl, rfl⟩ (fun w hS => (hS.take 0).facts [] [] [] noItem noItem noItem) (Or.inl rfl)

theorem c_spec_ChainAfter (run : List Firing) (a_run : Option Addr) (c_run : Nat) {r : Int × Int} (h : spec_ChainAfter run = some r) : CallOK Tryz.prog 11 [.slice a_run (List.length run) c_run] [] [gTab 3 pow10C, gNum 0, gErr 1, gErr 2] [SL false 39 FiringS a_run c_run run] (fun v outs ros => v = .tuple #[.int .i64 r.1, .int .i64 r.2] ∧ outs = [] ∧ ros = []) := by
  refine fn_ok Tryz.func11 rfl Tryz.ntmps11 rfl (fun c hF0 => ?_)
  unfold spec_ChainAfter at h
  refine g_sr ?_
  refine gl_batch 2 [(3, .int .i64 0), (2, .int .i64 0)] rfl ?_
  refine gl_ns ?_
  refine g_seq ?_
  refine g_sr ?_
  refine gl_batch 1 [(6, .slice a_run (List.length run) c_run)] rfl ?_
  obtain ⟨o1, ho1, h⟩ := bindS h
  refine gl_call rfl rfl (fun w => by kernel_rfl) (c_spec_l28All run a_run c_run ho1) (consItem (mem_at 0 rfl) (consItem (mem_at 1 rfl) (consItem (mem_at 2 rfl) (consItem (mem_at 3 rfl) noItem)))) (consItem (mem_at 0 rfl) noItem) ?_
  rintro v outs ros ⟨rfl, rfl, rfl⟩
  refine ⟨_, rfl, ?_⟩
  refine gl_batch 1 [(8, .bool (!o1))] rfl ?_
  refine gl_ns ?_
  refine g_cond (b := !o1) rfl (fun hc => ?_) (fun hc => ?_)
  · replace h := condT hc h
    refine g_sr ?_
    refine gl_batch 2 [(3, .int .i64 2), (2, .int .i64 0)] rfl ?_
    refine gl_ns ?_
    refine g_ret ?_
    refine gx_seq_ret ?_
    obtain rfl := Option.some.inj h
    exact gx_fin rfl [.int .i64 0, .int .i64 2] _ _ [] ⟨_, _, rfl, rfl, _, _, rfl, rfl, rfl⟩ rfl ⟨rfl, rfl, rfl⟩ (fun w hS => (hS.take 0).facts [] [] [] noItem noItem noItem) (Or.inl rfl)
  · replace h := condF hc h
    refine g_skip ?_
    refine gx_seq ?_
    refine g_sr ?_
    refine gl_batch 1 [(4, .int .i64 1)] rfl ?_
    refine gl_ns ?_
    refine g_seq ?_
    refine g_sr ?_
    refine gl_batch 1 [(5, .int .i64 0)] rfl ?_
    refine gl_ns ?_
    refine g_block ?_
    obtain ⟨o2, ho2, h⟩ := bindS h
    refine g_loop (spec_ChainAfter_L1 run) (fun (ss_ : Int × Int) a w => Env a 22 [(0, .slice a_run (List.length run) c_run), (4, .int .i64 ss_.1), (5, .int .i64 ss_.2)] ∧ St c w [] [gTab 3 pow10C, gNum 0, gErr 1, gErr 2] [SL false 39 FiringS a_run c_run run] []) ((fun (ss_ : Int) e a w => e = (.exit 0) ∧ Env a 22 [(4, .int .i64 ss_)] ∧ St c w [] [gTab 3 pow10C, gNum 0, gErr 1, gErr 2] [SL false 39 FiringS a_run c_run run] []) : (Int) → Exit → Act → World → Prop) ho2 ?_ ?_ ?_
    · exact fun a w hE hS => ⟨hE.sub ⟨rfl, rfl, rfl, trivial⟩, (hS.take 0).facts _ _ [] (consItem (mem_at 0 rfl) (consItem (mem_at 1 rfl) (consItem (mem_at 2 rfl) (consItem (mem_at 3 rfl) noItem)))) (consItem (mem_at 0 rfl) noItem) noItem⟩
    · intro s3 o4 h a w hA
      obtain ⟨hE, hS⟩ := hA
      unfold spec_ChainAfter_L1 at h
      refine g_enter hE hS ?_
      refine g_seq ?_
      refine g_sr ?_
      refine gl_batch 2 [(10, .slice a_run (List.length run) c_run), (9, .int .i64 s3.2)] rfl ?_
      refine gl_len rfl Fs24 rfl rfl ?_
      refine gl_batch 1 [(12, .bool (decide (s3.2 < (List.length run : Int))))] rfl ?_
      refine gl_ns ?_
      refine g_cond (b := decide (s3.2 < (List.length run : Int))) rfl (fun hc => ?_) (fun hc => ?_)
      · replace h := condT hc h
        refine g_skip ?_
        refine gx_seq ?_
        refine g_seq ?_
        refine g_block ?_
        refine g_region ?_
        refine gl_batch 3 [(17, .int .i64 s3.2), (16, .slice a_run (List.length run) c_run), (15, .int .i64 s3.1)] rfl ?_
        obtain ⟨x5, hx5, h⟩ := bindS h
        refine gl_idxOn (k := .i64) (mem_at 0 rfl) rfl rfl Fs24 Fz39 hx5 rfl rfl ?_
        intro p6
        refine gl_ldA (vs := [.int .i64 x5.Event, .int .i64 x5.Number, .int .i64 x5.Time]) 0 hasAT (mem_at 0 rfl) rfl rfl Fm39 Fz39 rfl rfl rfl ?_
        refine gl_call rfl rfl (fun w => by kernel_rfl) (c_spec_l28Next s3.1 x5 rfl) (consItem (mem_at 0 rfl) (consItem (mem_at 1 rfl) (consItem (mem_at 2 rfl) (consItem (mem_at 3 rfl) noItem)))) noItem ?_
        rintro v outs ros ⟨rfl, rfl, rfl⟩
        refine ⟨_, rfl, ?_⟩
        refine gl_batch 1 [(4, .int .i64 (spec_l28Next s3.1 x5))] rfl ?_
        refine gl_nil ?_
        refine gx_blk ?_
        refine gx_seq ?_
        refine g_region ?_
        refine gl_batch 3 [(5, .int .i64 (IntKind.i64.wrap (s3.2 + 1))), (14, .int .i64 (IntKind.i64.wrap (s3.2 + 1))), (13, .int .i64 s3.2)] rfl ?_
        refine gl_nil ?_
        obtain rfl := Option.some.inj h
        exact gx_of (fun a w hE hS => lp_in ⟨hE.sub ⟨rfl, rfl, rfl, trivial⟩, (hS.take 0).facts _ _ [] (consItem (mem_at 0 rfl) (consItem (mem_at 1 rfl) (consItem (mem_at 2 rfl) (consItem (mem_at 3 rfl) noItem)))) (consItem (mem_at 1 rfl) noItem) noItem⟩)
      · replace h := condF hc h
        refine g_exit ?_
        refine gx_seq_exit ?_
        obtain rfl := Option.some.inj h
        exact gx_of (fun a w hE hS => lp_out nofun (⟨rfl, hE.sub ⟨rfl, trivial⟩, (hS.take 0).facts _ _ [] (consItem (mem_at 0 rfl) (consItem (mem_at 1 rfl) (consItem (mem_at 2 rfl) (consItem (mem_at 3 rfl) noItem)))) (consItem (mem_at 0 rfl) noItem) noItem⟩))
    · intro e a w hm
      obtain ⟨rfl, hE, hS⟩ := hm
      refine gx_to hE hS ?_
      refine gx_blk_hit ?_
      refine gx_seq ?_
      refine g_sr ?_
      refine gl_batch 3 [(3, .int .i64 0), (2, .int .i64 o2), (21, .int .i64 o2)] rfl ?_
      refine gl_ns ?_
      refine g_ret ?_
      obtain rfl := Option.some.inj h
      exact gx_fin rfl [.int .i64 o2, .int .i64 0] _ _ [] ⟨_, _, rfl, rfl, _, _, rfl, rfl, rfl⟩ rfl ⟨rfl, rfl, rfl⟩ (fun w hS => (hS.take 0).facts [] [] [] noItem noItem noItem) (Or.inl rfl)

theorem c_spec_l01Numbers (words : List (List UInt8)) (a_words : Option Addr) (c_words : Nat) {r : List Int × Bool} (h : spec_l01Numbers words = some r) : CallOK Tryz.prog 69 [.slice a_words (List.length words) c_words] [] [gTab 3 pow10C, gNum 0, gErr 1, gErr 2] [SL false 9 strS a_words c_words words] (fun v outs ros => ∃ (a0 : Option Addr), ∃ (c0 : Nat), v = .tuple #[.slice a0 (List.length r.1) c0, .bool r.2] ∧ outs = [SL false 2 (intS .i64) a0 c0 r.1] ∧ ros = []) := by
  refine fn_ok Tryz.func69 rfl Tryz.ntmps69 rfl (fun c hF0 => ?_)
  unfold spec_l01Numbers at h
  refine g_sr ?_
  refine gl_batch 2 [(3, .bool false), (2, .slice none 0 0)] rfl ?_
  refine gl_nx ?_
  refine gl_lit (m := 1) (d := 8) (T := 2) (enc := fun x => [.int .i64 x]) (hn := fun _ => rfl) false ([] : List Int) rfl rfl (fun _ => rfl) nofun (Nat.le_of_ble_eq_true rfl) (fun w => by kernel_rfl) ?_
  intro a_v1 c_v2
  refine gl_batch 1 [(4, .slice a_v1 (List.length ([] : List Int)) c_v2)] rfl ?_
  refine gl_ns ?_
  refine g_seq ?_
  refine g_sr ?_
  refine gl_batch 1 [(5, .int .i64 0)] rfl ?_
  refine gl_ns ?_
  refine g_block ?_
  obtain ⟨o3, ho3, h⟩ := bindS h
  refine g_loop (spec_l01Numbers_L1 words) (fun (ss_ : (List Int) × Int) a w => ∃ (a_ss__r0 : Option Addr), ∃ (c_ss__r0 : Nat), Env a 30 [(0, .slice a_words (List.length words) c_words), (4, .slice a_ss__r0 (List.length ss_.1) c_ss__r0), (5, .int .i64 ss_.2)] ∧ St c w [SL false 2 (intS .i64) a_ss__r0 c_ss__r0 ss_.1] [gTab 3 pow10C, gNum 0, gErr 1, gErr 2] [SL false 9 strS a_words c_words words] []) (Sum.elim (fun (ss_ : Unit) e a w => e = .ret ∧ Env a 30 [(2, .slice none 0 0), (3, .bool false)] ∧ St c w [] [gTab 3 pow10C, gNum 0, gErr 1, gErr 2] [SL false 9 strS a_words c_words words] []) (fun (ss_ : (List Int)) e a w => e = (.exit 0) ∧ ∃ (a_ss__r0 : Option Addr), ∃ (c_ss__r0 : Nat), Env a 30 [(4, .slice a_ss__r0 (List.length ss_) c_ss__r0)] ∧ St c w [SL false 2 (intS .i64) a_ss__r0 c_ss__r0 ss_] [gTab 3 pow10C, gNum 0, gErr 1, gErr 2] [SL false 9 strS a_words c_words words] []) : (Sum Unit (List Int)) → Exit → Act → World → Prop) ho3 ?_ ?_ ?_
  · exact fun a w hE hS => ⟨a_v1, c_v2, hE.sub ⟨rfl, rfl, rfl, trivial⟩, (hS.take 1).facts _ _ [] (consItem (mem_at 0 rfl) (consItem (mem_at 1 rfl) (consItem (mem_at 2 rfl) (consItem (mem_at 3 rfl) noItem)))) (consItem (mem_at 0 rfl) noItem) noItem⟩
  · intro s4 o5 h a w hA
    obtain ⟨a_s4_r0, c_s4_r0, hE, hS⟩ := hA
    unfold spec_l01Numbers_L1 at h
    refine g_enter hE hS ?_
    refine g_seq ?_
    refine g_sr ?_
    refine gl_batch 2 [(10, .slice a_words (List.length words) c_words), (9, .int .i64 s4.2)] rfl ?_
    refine gl_len rfl Fs104 rfl rfl ?_
    refine gl_batch 1 [(12, .bool (decide (s4.2 < (List.length words : Int))))] rfl ?_
    refine gl_ns ?_
    refine g_cond (b := decide (s4.2 < (List.length words : Int))) rfl (fun hc => ?_) (fun hc => ?_)
    · replace h := condT hc h
      refine g_skip ?_
      refine gx_seq ?_
      refine g_seq ?_
      refine g_block ?_
      refine g_sr ?_
      refine gl_batch 2 [(17, .int .i64 s4.2), (16, .slice a_words (List.length words) c_words)] rfl ?_
      obtain ⟨x6, hx6, h⟩ := bindS h
      refine gl_idxOn (k := .i64) (mem_at 0 rfl) rfl rfl Fs104 Fz9 hx6 rfl rfl ?_
      intro p7
      refine gl_ld1 0 hasAT (mem_at 1 rfl) rfl rfl Fo9 rfl rfl rfl ?_
      obtain ⟨o8, ho8, h⟩ := bindS h
      refine gl_call rfl rfl (fun w => by kernel_rfl) (c_spec_l01Signed x6 ho8) (consItem (mem_at 0 rfl) (consItem (mem_at 1 rfl) (consItem (mem_at 2 rfl) (consItem (mem_at 3 rfl) noItem)))) noItem ?_
      rintro v outs ros ⟨rfl, rfl, rfl⟩
      refine ⟨_, rfl, ?_⟩
      refine gl_batch 5 [(7, .bool o8.2), (6, .int .i64 o8.1), (22, .bool o8.2), (21, .int .i64 o8.1), (15, .tuple #[.int .i64 o8.1, .bool o8.2])] rfl ?_
      refine gl_ns ?_
      refine g_seq ?_
      refine g_sr ?_
      refine gl_batch 2 [(24, .bool (!o8.2)), (23, .bool o8.2)] rfl ?_
      refine gl_ns ?_
      refine g_cond (b := !o8.2) rfl (fun hc => ?_) (fun hc => ?_)
      · replace h := condT hc h
        refine g_sr ?_
        refine gl_batch 2 [(3, .bool false), (2, .slice none 0 0)] rfl ?_
        refine gl_ns ?_
        refine g_ret ?_
        refine gx_seq_ret ?_
        refine gx_blk_ret ?_
        refine gx_seq_ret ?_
        obtain rfl := Option.some.inj h
        exact gx_of (fun a w hE hS => lp_out nofun (inL ⟨rfl, hE.sub ⟨rfl, rfl, trivial⟩, (hS.take 0).facts _ _ [] (consItem (mem_at 0 rfl) (consItem (mem_at 1 rfl) (consItem (mem_at 2 rfl) (consItem (mem_at 3 rfl) noItem)))) (consItem (mem_at 1 rfl) noItem) noItem⟩))
      · replace h := condF hc h
        refine g_skip ?_
        refine gx_seq ?_
        refine g_region ?_
        refine gl_batch 2 [(26, .int .i64 o8.1), (25, .slice a_s4_r0 (List.length s4.1) c_s4_r0)] rfl ?_
        refine gl_lit (m := 1) (d := 27) (T := 2) (enc := fun x => [.int .i64 x]) (hn := fun _ => rfl) false [o8.1] rfl rfl (fun _ => rfl) nofun (Nat.le_of_ble_eq_true rfl) (fun w => by kernel_rfl) ?_
        intro a_v9 c_v10
        refine gl_pick 1 rfl ?_
        obtain ⟨z11, hz11, h⟩ := bindS h
        refine gl_appn (mem_at 1 rfl) rfl rfl Fs44 Fi2 rfl rfl (fun _ => rfl) hz11 rfl rfl ?_
        intro a_v12 c_v13
        refine gl_batch 1 [(4, .slice a_v12 (List.length z11) c_v13)] rfl ?_
        refine gl_nil ?_
        refine gx_blk ?_
        refine gx_seq ?_
        refine g_region ?_
        refine gl_batch 3 [(5, .int .i64 (IntKind.i64.wrap (s4.2 + 1))), (14, .int .i64 (IntKind.i64.wrap (s4.2 + 1))), (13, .int .i64 s4.2)] rfl ?_
        refine gl_nil ?_
        obtain rfl := Option.some.inj h
        exact gx_of (fun a w hE hS => lp_in ⟨a_v12, c_v13, hE.sub ⟨rfl, rfl, rfl, trivial⟩, (hS.take 1).facts _ _ [] (consItem (mem_at 0 rfl) (consItem (mem_at 1 rfl) (consItem (mem_at 2 rfl) (consItem (mem_at 3 rfl) noItem)))) (consItem (mem_at 1 rfl) noItem) noItem⟩)
    · replace h := condF hc h
      refine g_exit ?_
      refine gx_seq_exit ?_
      obtain rfl := Option.some.inj h
      exact gx_of (fun a w hE hS => lp_out nofun (inR ⟨rfl, a_s4_r0, c_s4_r0, hE.sub ⟨rfl, trivial⟩, (hS.take 1).facts _ _ [] (consItem (mem_at 0 rfl) (consItem (mem_at 1 rfl) (consItem (mem_at 2 rfl) (consItem (mem_at 3 rfl) noItem)))) (consItem (mem_at 0 rfl) noItem) noItem⟩))
  · intro e a w hm
    rcases o3 with s14 | s15
    · replace h := elimL h
      obtain ⟨rfl, hE, hS⟩ := hm
      refine gx_to hE hS ?_
      refine gx_blk_ret ?_
      refine gx_seq_ret ?_
      obtain rfl := Option.some.inj h
      exact gx_fin rfl [.slice none 0 0, .bool false] _ _ [] ⟨_, _, rfl, rfl, _, _, rfl, rfl, rfl⟩ rfl ⟨none, 0, rfl, rfl, rfl⟩ (fun w hS => ((hS.nil false 2 (intS .i64)).take 1).facts [] [] [] noItem noItem noItem) (Or.inl rfl)
    · replace h := elimR h
      obtain ⟨rfl, a_s15_r0, c_s15_r0, hE, hS⟩ := hm
      refine gx_to hE hS ?_
      refine gx_blk_hit ?_
      refine gx_seq ?_
      refine g_sr ?_
      refine gl_batch 3 [(3, .bool true), (2, .slice a_s15_r0 (List.length s15) c_s15_r0), (29, .slice a_s15_r0 (List.length s15) c_s15_r0)] rfl ?_
      refine gl_ns ?_
      refine g_ret ?_
      obtain rfl := Option.some.inj h
      exact gx_fin rfl [.slice a_s15_r0 (List.length s15) c_s15_r0, .bool true] _ _ [] ⟨_, _, rfl, rfl, _, _, rfl, rfl, rfl⟩ rfl ⟨a_s15_r0, c_s15_r0, rfl, rfl, rfl⟩ (fun w hS => (hS.take 1).facts [] [] [] noItem noItem noItem) (Or.inl rfl)

theorem c_spec_l28Recover (s : List UInt8)  {r : List Firing × Int} (h : spec_l28Recover s = some r) : CallOK Tryz.prog 44 [str s] [] [gTab 3 pow10C, gNum 0, gErr 1, gErr 2] [] (fun v outs ros => ∃ (a0 : Option Addr), ∃ (c0 : Nat), v = .tuple #[.slice a0 (List.length r.1) c0, .int .i64 r.2] ∧ outs = [SL false 39 FiringS a0 c0 r.1] ∧ ros = []) := by
  refine fn_ok Tryz.func44 rfl Tryz.ntmps44 rfl (fun c hF0 => ?_)
  unfold spec_l28Recover at h
  refine g_sr ?_
  refine gl_batch 2 [(3, .int .i64 0), (2, .slice none 0 0)] rfl ?_
  refine gl_nx ?_
  refine gl_batch 1 [(12, str s)] rfl ?_
  obtain ⟨o1, ho1, h⟩ := bindS h
  refine gl_call rfl rfl (fun w => by kernel_rfl) (c_spec_l01Split s 10 ho1) (consItem (mem_at 0 rfl) (consItem (mem_at 1 rfl) (consItem (mem_at 2 rfl) (consItem (mem_at 3 rfl) noItem)))) noItem ?_
  rintro v outs ros ⟨a_v2, c_v3, rfl, rfl, rfl⟩
  refine ⟨_, rfl, ?_⟩
  refine gl_batch 1 [(4, .slice a_v2 (List.length o1) c_v3)] rfl ?_
  refine gl_nx ?_
  refine gl_batch 2 [(6, .int .i64 0), (5, .int .i64 1)] rfl ?_
  refine gl_nx ?_
  refine gl_lit (m := 3) (d := 14) (T := 39) (enc := FiringE) (hn := fun _ => rfl) false ([] : List Firing) rfl rfl (fun _ => rfl) nofun (Nat.le_of_ble_eq_true rfl) (fun w => by kernel_rfl) ?_
  intro a_v4 c_v5
  refine gl_batch 1 [(7, .slice a_v4 (List.length ([] : List Firing)) c_v5)] rfl ?_
  refine gl_ns ?_
  refine g_seq ?_
  refine g_sr ?_
  refine gl_batch 1 [(8, .int .i64 0)] rfl ?_
  refine gl_ns ?_
  refine g_block ?_
  obtain ⟨o6, ho6, h⟩ := bindS h
  refine g_loop (spec_l28Recover_L1 o1) (fun (ss_ : Int × Int × (List Firing) × Int) a w => ∃ (a_ss__r1 : Option Addr), ∃ (c_ss__r1 : Nat), Env a 85 [(4, .slice a_v2 (List.length o1) c_v3), (5, .int .i64 ss_.1), (6, .int .i64 ss_.2.1), (7, .slice a_ss__r1 (List.length ss_.2.2.1) c_ss__r1), (8, .int .i64 ss_.2.2.2)] ∧ St c w [SL false 9 strS a_v2 c_v3 o1, SL false 39 FiringS a_ss__r1 c_ss__r1 ss_.2.2.1] [gTab 3 pow10C, gNum 0, gErr 1, gErr 2] [] []) ((fun (ss_ : Int × (List Firing)) e a w => e = (.exit 0) ∧ ∃ (a_ss__r0 : Option Addr), ∃ (c_ss__r0 : Nat), Env a 85 [(6, .int .i64 ss_.1), (7, .slice a_ss__r0 (List.length ss_.2) c_ss__r0)] ∧ St c w [SL false 39 FiringS a_ss__r0 c_ss__r0 ss_.2] [gTab 3 pow10C, gNum 0, gErr 1, gErr 2] [] []) : (Int × (List Firing)) → Exit → Act → World → Prop) ho6 ?_ ?_ ?_
  · exact fun a w hE hS => ⟨a_v4, c_v5, hE.sub ⟨rfl, rfl, rfl, rfl, rfl, trivial⟩, (((hS.pick 0 rfl).pick 1 rfl).take 2).facts _ _ [] (consItem (mem_at 0 rfl) (consItem (mem_at 1 rfl) (consItem (mem_at 2 rfl) (consItem (mem_at 3 rfl) noItem)))) noItem noItem⟩
  · intro s7 o8 h a w hA
    obtain ⟨a_s7_r1, c_s7_r1, hE, hS⟩ := hA
    unfold spec_l28Recover_L1 at h
    refine g_enter hE hS ?_
    refine g_seq ?_
    refine g_sr ?_
    refine gl_batch 3 [(17, .slice a_v2 (List.length o1) c_v3), (16, .int .i64 (IntKind.i64.wrap (s7.2.2.2 + 1))), (15, .int .i64 s7.2.2.2)] rfl ?_
    refine gl_len rfl Fs104 rfl rfl ?_
    refine gl_batch 2 [(20, .bool (decide ((IntKind.i64.wrap (s7.2.2.2 + 1)) < (List.length o1 : Int)))), (19, .bool (decide ((IntKind.i64.wrap (s7.2.2.2 + 1)) < (List.length o1 : Int))))] rfl ?_
    refine gl_join (EE := [(24, .bool ((decide ((IntKind.i64.wrap (s7.2.2.2 + 1)) < (List.length o1 : Int))) && (decide ((List.length s7.2.2.1 : Int) < 500)))), (4, .slice a_v2 (List.length o1) c_v3), (5, .int .i64 s7.1), (6, .int .i64 s7.2.1), (7, .slice a_s7_r1 (List.length s7.2.2.1) c_s7_r1), (8, .int .i64 s7.2.2.2)]) (RR := [SL false 9 strS a_v2 c_v3 o1, SL false 39 FiringS a_s7_r1 c_s7_r1 s7.2.2.1]) (XX := [gTab 3 pow10C, gNum 0, gErr 1, gErr 2]) (OO := []) (VV := []) 4 ?_ ?_
    · skip
      refine gl_case 20 rfl (fun hc => ?_) (fun hc => ?_)
      · skip
        refine gl_batch 1 [(21, .slice a_s7_r1 (List.length s7.2.2.1) c_s7_r1)] rfl ?_
        refine gl_len rfl Fs24 rfl rfl ?_
        refine gl_batch 2 [(24, .bool (decide ((List.length s7.2.2.1 : Int) < 500))), (23, .bool (decide ((List.length s7.2.2.1 : Int) < 500)))] rfl ?_
        refine gl_nil ?_
        exact gx_mid ⟨congrArg (fun z => some (Value.bool z)) (and_t hc).symm, rfl, rfl, rfl, rfl, rfl, trivial⟩ (fun w hS => hS)
      · skip
        refine gl_batch 4 [(24, .bool false), (23, undef), (22, undef), (21, undef)] rfl ?_
        refine gl_nil ?_
        exact gx_mid ⟨congrArg (fun z => some (Value.bool z)) (and_f hc).symm, rfl, rfl, rfl, rfl, rfl, trivial⟩ (fun w hS => hS)
    · skip
      refine gl_ns ?_
      refine g_cond (b := (decide ((IntKind.i64.wrap (s7.2.2.2 + 1)) < (List.length o1 : Int))) && (decide ((List.length s7.2.2.1 : Int) < 500))) rfl (fun hc => ?_) (fun hc => ?_)
      · replace h := condT hc h
        refine g_skip ?_
        refine gx_seq ?_
        refine g_seq ?_
        refine g_block ?_
        refine g_sr ?_
        refine gl_batch 2 [(29, .int .i64 s7.2.2.2), (28, .slice a_v2 (List.length o1) c_v3)] rfl ?_
        obtain ⟨x9, hx9, h⟩ := bindS h
        refine gl_idxVn (k := .i64) (mem_at 0 rfl) rfl rfl Fs104 Fz9 hx9 rfl rfl ?_
        intro p10 hp10
        refine gl_ld1 0 hasAT (mem_at 2 rfl) rfl rfl Fo9 rfl rfl rfl ?_
        obtain ⟨o11, ho11, h⟩ := bindS h
        refine gl_call rfl rfl (fun w => by kernel_rfl) (c_spec_l01Split x9 32 ho11) (consItem (mem_at 0 rfl) (consItem (mem_at 1 rfl) (consItem (mem_at 2 rfl) (consItem (mem_at 3 rfl) noItem)))) noItem ?_
        rintro v outs ros ⟨a_v12, c_v13, rfl, rfl, rfl⟩
        refine ⟨_, rfl, ?_⟩
        obtain ⟨o14, ho14, h⟩ := bindS h
        refine gl_call rfl rfl (fun w => by kernel_rfl) (c_spec_l01Numbers o11 a_v12 c_v13 ho14) (consItem (mem_at 0 rfl) (consItem (mem_at 1 rfl) (consItem (mem_at 2 rfl) (consItem (mem_at 3 rfl) noItem)))) (consItem (mem_at 0 rfl) noItem) ?_
        rintro v outs ros ⟨a_v15, c_v16, rfl, rfl, rfl⟩
        refine ⟨_, rfl, ?_⟩
        refine gl_batch 5 [(10, .bool o14.2), (9, .slice a_v15 (List.length o14.1) c_v16), (35, .bool o14.2), (34, .slice a_v15 (List.length o14.1) c_v16), (27, .tuple #[.slice a_v15 (List.length o14.1) c_v16, .bool o14.2])] rfl ?_
        refine gl_ns ?_
        refine g_seq ?_
        refine g_sr ?_
        refine gl_batch 3 [(38, .bool (!o14.2)), (37, .bool (!o14.2)), (36, .bool o14.2)] rfl ?_
        refine gl_join (EE := [(42, .bool ((!o14.2) || ((List.length o14.1 : Int) != 3))), (4, .slice a_v2 (List.length o1) c_v3), (5, .int .i64 s7.1), (6, .int .i64 s7.2.1), (7, .slice a_s7_r1 (List.length s7.2.2.1) c_s7_r1), (8, .int .i64 s7.2.2.2), (9, .slice a_v15 (List.length o14.1) c_v16)]) (RR := [SL false 2 (intS .i64) a_v15 c_v16 o14.1, SL false 9 strS a_v12 c_v13 o11, SL false 9 strS a_v2 c_v3 o1, SL false 39 FiringS a_s7_r1 c_s7_r1 s7.2.2.1]) (XX := [gTab 3 pow10C, gNum 0, gErr 1, gErr 2]) (OO := []) (VV := [AT strS p10 x9]) 4 ?_ ?_
        · skip
          refine gl_case 38 rfl (fun hc => ?_) (fun hc => ?_)
          · skip
            refine gl_batch 4 [(42, .bool true), (41, undef), (40, undef), (39, undef)] rfl ?_
            refine gl_nil ?_
            exact gx_mid ⟨congrArg (fun z => some (Value.bool z)) (or_t hc).symm, rfl, rfl, rfl, rfl, rfl, rfl, trivial⟩ (fun w hS => hS)
          · skip
            refine gl_batch 1 [(39, .slice a_v15 (List.length o14.1) c_v16)] rfl ?_
            refine gl_len rfl Fs44 rfl rfl ?_
            refine gl_batch 2 [(42, .bool ((List.length o14.1 : Int) != 3)), (41, .bool ((List.length o14.1 : Int) != 3))] rfl ?_
            refine gl_nil ?_
            exact gx_mid ⟨congrArg (fun z => some (Value.bool z)) (or_f hc).symm, rfl, rfl, rfl, rfl, rfl, rfl, trivial⟩ (fun w hS => hS)
        · skip
          refine gl_ns ?_
          refine g_cond (b := (!o14.2) || ((List.length o14.1 : Int) != 3)) rfl (fun hc => ?_) (fun hc => ?_)
          · replace h := condT hc h
            refine g_exit ?_
            refine gx_seq_exit ?_
            refine gx_blk_miss rfl ?_
            refine gx_seq_exit ?_
            obtain rfl := Option.some.inj h
            exact gx_of (fun a w hE hS => lp_out nofun (⟨rfl, a_s7_r1, c_s7_r1, hE.sub ⟨rfl, rfl, trivial⟩, ((hS.pick 3 rfl).take 1).facts _ _ [] (consItem (mem_at 0 rfl) (consItem (mem_at 1 rfl) (consItem (mem_at 2 rfl) (consItem (mem_at 3 rfl) noItem)))) noItem noItem⟩))
          · replace h := condF hc h
            refine g_skip ?_
            refine gx_seq ?_
            refine g_seq ?_
            obtain ⟨x17, hx17, h⟩ := bindS h
            refine g_elemn (mem_at 0 rfl) hx17 ?_
            intro p18 hp18
            obtain ⟨x19, hx19, h⟩ := bindS h
            refine g_elemn (mem_at 0 rfl) hx19 ?_
            intro p20 hp20
            obtain ⟨o21, ho21, h⟩ := bindS h
            obtain ⟨x22, hx22, h⟩ := bindS h
            refine g_elemn (mem_at 0 rfl) hx22 ?_
            intro p23 hp23
            refine g_state (E' := [(4, .slice a_v2 (List.length o1) c_v3), (5, .int .i64 s7.1), (6, .int .i64 s7.2.1), (7, .slice a_s7_r1 (List.length s7.2.2.1) c_s7_r1), (8, .int .i64 s7.2.2.2), (9, .slice a_v15 (List.length o14.1) c_v16)]) (Rs' := [] ++ [SL false 2 (intS .i64) a_v15 c_v16 o14.1, SL false 9 strS a_v12 c_v13 o11, SL false 9 strS a_v2 c_v3 o1, SL false 39 FiringS a_s7_r1 c_s7_r1 s7.2.2.1]) (Xs' := [gTab 3 pow10C, gNum 0, gErr 1, gErr 2]) (Os' := []) (Vs' := []) ⟨rfl, rfl, rfl, rfl, rfl, rfl, trivial⟩ (fun w hS => (hS.take 4).facts _ _ _ (consItem (mem_at 0 rfl) (consItem (mem_at 1 rfl) (consItem (mem_at 2 rfl) (consItem (mem_at 3 rfl) noItem)))) noItem noItem) ?_
            refine g_drawM (Rs := [SL false 2 (intS .i64) a_v15 c_v16 o14.1, SL false 9 strS a_v12 c_v13 o11, SL false 9 strS a_v2 c_v3 o1, SL false 39 FiringS a_s7_r1 c_s7_r1 s7.2.2.1]) 14 [[], [0], [1], [], [], [4], [5], [3, 6], [7], [], [9], [10], [2, 8, 11], []] [[9], [], [], [7], [9], [], [], [], [], [9], [], [], [], []] [.slice a_v15 (List.length o14.1) c_v16, .pointer (some p18), .int .i64 x17, .slice a_s7_r1 (List.length s7.2.2.1) c_s7_r1, .slice a_v15 (List.length o14.1) c_v16, .pointer (some p20), .int .i64 x19, .int .i64 o21, .int .i64 (IntKind.i64.wrap (o21 + 1)), .slice a_v15 (List.length o14.1) c_v16, .pointer (some p23), .int .i64 x22, .agg #[.int .i64 x17, .int .i64 (IntKind.i64.wrap (o21 + 1)), .int .i64 x22], undef] [(13, ⟨[13], fun vals => ∃ (b24 : Nat), vals 13 = .pointer (some ⟨b24, 0, none⟩), fun vals => [BK 39 (ptB (vals 13)) [.int .i64 0, .int .i64 0, .int .i64 0]], fun _ => []⟩)] [] (fun _ _ => []) mixed rfl rfl ⟨⟨⟨⟨⟨⟨⟨⟨⟨⟨⟨⟨⟨⟨trivial, ?_⟩, ?_⟩, ?_⟩, ?_⟩, ?_⟩, ?_⟩, ?_⟩, ?_⟩, ?_⟩, ?_⟩, ?_⟩, ?_⟩, ?_⟩, ?_⟩ ?_
            · exact obl_pure rfl rfl rfl rfl rfl rfl rfl rfl
            · refine obl_in rfl rfl rfl rfl (fun R' O' => ?_)
              refine gl_idxVn (k := .i64) (memV (mem_at 0 rfl)) rfl rfl Fs44 Fz2 hx17 rfl rfl ?_
              intro p_ hp_
              obtain rfl : p18 = p_ := Option.some.inj (hp18.symm.trans hp_)
              exact gl_dp rfl rfl rfl
            · refine obl_in rfl rfl rfl rfl (fun R' O' => ?_)
              refine gl_elemVn (memV (mem_at 0 rfl)) hx17 hp18 ?_
              refine gl_ld1 0 hasAT (memV (mem_at 0 rfl)) rfl rfl Fo2 rfl rfl rfl ?_
              exact gl_dp rfl rfl rfl
            · exact obl_pure rfl rfl rfl rfl rfl rfl rfl rfl
            · exact obl_pure rfl rfl rfl rfl rfl rfl rfl rfl
            · refine obl_in rfl rfl rfl rfl (fun R' O' => ?_)
              refine gl_idxVn (k := .i64) (memV (mem_at 0 rfl)) rfl rfl Fs44 Fz2 hx19 rfl rfl ?_
              intro p_ hp_
              obtain rfl : p20 = p_ := Option.some.inj (hp20.symm.trans hp_)
              exact gl_dp rfl rfl rfl
            · refine obl_in rfl rfl rfl rfl (fun R' O' => ?_)
              refine gl_elemVn (memV (mem_at 0 rfl)) hx19 hp20 ?_
              refine gl_ld1 0 hasAT (memV (mem_at 0 rfl)) rfl rfl Fo2 rfl rfl rfl ?_
              exact gl_dp rfl rfl rfl
            · refine obl_in rfl rfl rfl rfl (fun R' O' => ?_)
              refine gl_call rfl rfl (fun w => by kernel_rfl) (c_spec_l14Count s7.2.2.1 x19 a_s7_r1 c_s7_r1 ho21) (consItem (mem_at 0 rfl) (consItem (mem_at 1 rfl) (consItem (mem_at 2 rfl) (consItem (mem_at 3 rfl) noItem)))) (consItem (memV (mem_at 3 rfl)) noItem) ?_
              rintro v outs ros ⟨rfl, rfl, rfl⟩
              refine ⟨_, rfl, ?_⟩
              exact gl_dp rfl rfl rfl
            · exact obl_pure rfl rfl rfl rfl rfl rfl rfl rfl
            · exact obl_pure rfl rfl rfl rfl rfl rfl rfl rfl
            · refine obl_in rfl rfl rfl rfl (fun R' O' => ?_)
              refine gl_idxVn (k := .i64) (memV (mem_at 0 rfl)) rfl rfl Fs44 Fz2 hx22 rfl rfl ?_
              intro p_ hp_
              obtain rfl : p23 = p_ := Option.some.inj (hp23.symm.trans hp_)
              exact gl_dp rfl rfl rfl
            · refine obl_in rfl rfl rfl rfl (fun R' O' => ?_)
              refine gl_elemVn (memV (mem_at 0 rfl)) hx22 hp23 ?_
              refine gl_ld1 0 hasAT (memV (mem_at 0 rfl)) rfl rfl Fo2 rfl rfl rfl ?_
              exact gl_dp rfl rfl rfl
            · refine obl_in rfl rfl rfl rfl (fun R' O' => ?_)
              refine gl_run (v := .agg #[.int .i64 x17, .int .i64 (IntKind.i64.wrap (o21 + 1)), .int .i64 x22]) rfl rfl rfl (fun w => by kernel_rfl) ?_
              exact gl_dp rfl rfl rfl
            · intro vals E' R' O' hD
              refine gl_new (d := 11) (T := 39) [.int .i64 0, .int .i64 0, .int .i64 0] rfl rfl (fun _ => rfl) (fun w => by kernel_rfl) ?_
              intro b24
              refine gl_nil ?_
              exact gx_fp (.pointer (some ⟨b24, 0, none⟩)) rfl rfl rfl ⟨b24, rfl⟩ (fun _ h => h.sub (fun _ h => h) (st_oo (A := [])) (fun o ho => by cases ho))
            · intro vals hv
              obtain ⟨⟨⟨⟨⟨⟨⟨⟨⟨⟨⟨⟨⟨⟨_, h0⟩, h1⟩, h2⟩, h3⟩, h4⟩, h5⟩, h6⟩, h7⟩, h8⟩, h9⟩, h10⟩, h11⟩, h12⟩, h13⟩ := hv
              have h0 : vals 0 = .slice a_v15 (List.length o14.1) c_v16 := h0
              have h1 : vals 1 = .pointer (some p18) := h1
              have h2 : vals 2 = .int .i64 x17 := h2
              have h3 : vals 3 = .slice a_s7_r1 (List.length s7.2.2.1) c_s7_r1 := h3
              have h4 : vals 4 = .slice a_v15 (List.length o14.1) c_v16 := h4
              have h5 : vals 5 = .pointer (some p20) := h5
              have h6 : vals 6 = .int .i64 x19 := h6
              have h7 : vals 7 = .int .i64 o21 := h7
              have h8 : vals 8 = .int .i64 (IntKind.i64.wrap (o21 + 1)) := h8
              have h9 : vals 9 = .slice a_v15 (List.length o14.1) c_v16 := h9
              have h10 : vals 10 = .pointer (some p23) := h10
              have h11 : vals 11 = .int .i64 x22 := h11
              have h12 : vals 12 = .agg #[.int .i64 x17, .int .i64 (IntKind.i64.wrap (o21 + 1)), .int .i64 x22] := h12
              obtain ⟨b24, h13⟩ : ∃ (b24 : Nat), vals 13 = .pointer (some ⟨b24, 0, none⟩) := h13
              refine gl_conv (E2 := (43, .slice a_v15 (List.length o14.1) c_v16) :: (44, .pointer (some p18)) :: (45, .int .i64 x17) :: (46, .slice a_s7_r1 (List.length s7.2.2.1) c_s7_r1) :: (47, .slice a_v15 (List.length o14.1) c_v16) :: (48, .pointer (some p20)) :: (49, .int .i64 x19) :: (50, .int .i64 o21) :: (51, .int .i64 (IntKind.i64.wrap (o21 + 1))) :: (52, .slice a_v15 (List.length o14.1) c_v16) :: (53, .pointer (some p23)) :: (54, .int .i64 x22) :: (55, .agg #[.int .i64 x17, .int .i64 (IntKind.i64.wrap (o21 + 1)), .int .i64 x22]) :: (11, .pointer (some ⟨b24, 0, none⟩)) :: [(4, .slice a_v2 (List.length o1) c_v3), (5, .int .i64 s7.1), (6, .int .i64 s7.2.1), (7, .slice a_s7_r1 (List.length s7.2.2.1) c_s7_r1), (8, .int .i64 s7.2.2.2), (9, .slice a_v15 (List.length o14.1) c_v16)]) (R2 := [] ++ ([BK 39 b24 [.int .i64 0, .int .i64 0, .int .i64 0]] ++ [SL false 2 (intS .i64) a_v15 c_v16 o14.1, SL false 9 strS a_v12 c_v13 o11, SL false 9 strS a_v2 c_v3 o1, SL false 39 FiringS a_s7_r1 c_s7_r1 s7.2.2.1])) (O2 := [] ++ []) (by show (43, vals 0) :: (44, vals 1) :: (45, vals 2) :: (46, vals 3) :: (47, vals 4) :: (48, vals 5) :: (49, vals 6) :: (50, vals 7) :: (51, vals 8) :: (52, vals 9) :: (53, vals 10) :: (54, vals 11) :: (55, vals 12) :: (11, vals 13) :: [(4, .slice a_v2 (List.length o1) c_v3), (5, .int .i64 s7.1), (6, .int .i64 s7.2.1), (7, .slice a_s7_r1 (List.length s7.2.2.1) c_s7_r1), (8, .int .i64 s7.2.2.2), (9, .slice a_v15 (List.length o14.1) c_v16)] = _; rw [h0, h1, h2, h3, h4, h5, h6, h7, h8, h9, h10, h11, h12, h13]) (by show [] ++ ([BK 39 (ptB (vals 13)) [.int .i64 0, .int .i64 0, .int .i64 0]] ++ [SL false 2 (intS .i64) a_v15 c_v16 o14.1, SL false 9 strS a_v12 c_v13 o11, SL false 9 strS a_v2 c_v3 o1, SL false 39 FiringS a_s7_r1 c_s7_r1 s7.2.2.1]) = _; rw [h13] <;> rfl) rfl ?_
              refine gl_stB (cells' := [.int .i64 x17, .int .i64 (IntKind.i64.wrap (o21 + 1)), .int .i64 x22]) 0 [.int .i64 x17, .int .i64 (IntKind.i64.wrap (o21 + 1)), .int .i64 x22] rfl rfl rfl Fz39 rfl rfl rfl rfl ?_
              refine gl_ns ?_
              refine g_seq ?_
              obtain ⟨o25, ho25, h⟩ := bindS h
              refine g_mid (M := ((fun ss_ e a w => e = .normal ∧ Env a 85 [(4, .slice a_v2 (List.length o1) c_v3), (6, .int .i64 s7.2.1), (7, .slice a_s7_r1 (List.length s7.2.2.1) c_s7_r1), (8, .int .i64 s7.2.2.2), (9, .slice a_v15 (List.length o14.1) c_v16), (11, .pointer (some ⟨b24, 0, none⟩)), (67, .bool ss_)] ∧ St c w [SL false 9 strS a_v2 c_v3 o1, SL false 39 FiringS a_s7_r1 c_s7_r1 s7.2.2.1, SL false 2 (intS .i64) a_v15 c_v16 o14.1, BK 39 b24 [.int .i64 x17, .int .i64 (IntKind.i64.wrap (o21 + 1)), .int .i64 x22]] [gTab 3 pow10C, gNum 0, gErr 1, gErr 2] [] []) : (Bool) → Exit → Act → World → Prop) o25) ?_ ?_
              · replace h := ho25
                obtain ⟨o26, ho26, h⟩ := letS h
                refine g_case (!o26) (fun hg27 => ?_) (fun hg27 => ?_)
                · replace h := condT hg27 h
                  refine g_drawD 12 [[], [0], [1], [2], [3], [3], [3], [3], [3], [3], [3], [3, 10]] [[11], [], [], [], [], [], [], [], [], [], [], []] [.agg #[.int .i64 x17, .int .i64 (IntKind.i64.wrap (o21 + 1)), .int .i64 x22], .bool o26, .bool (!o26), .bool true, undef, undef, undef, undef, undef, undef, undef, .bool true] mixed rfl rfl ⟨⟨⟨⟨⟨⟨⟨⟨⟨⟨⟨⟨trivial, ?_⟩, ?_⟩, ?_⟩, ?_⟩, ?_⟩, ?_⟩, ?_⟩, ?_⟩, ?_⟩, ?_⟩, ?_⟩, ?_⟩ ?_
                  · refine obl_in rfl rfl rfl rfl (fun R' O' => ?_)
                    refine gl_ldA (vs := [.int .i64 x17, .int .i64 (IntKind.i64.wrap (o21 + 1)), .int .i64 x22]) 0 hasBK (memV (mem_at 0 rfl)) rfl rfl Fm39 Fz39 rfl rfl rfl ?_
                    exact gl_dp rfl rfl rfl
                  · refine obl_in rfl rfl rfl rfl (fun R' O' => ?_)
                    refine gl_call rfl rfl (fun w => by kernel_rfl) (c_spec_l28Writable (⟨x17, IntKind.i64.wrap (o21 + 1), x22⟩ : Firing) ho26) (consItem (mem_at 0 rfl) (consItem (mem_at 1 rfl) (consItem (mem_at 2 rfl) (consItem (mem_at 3 rfl) noItem)))) noItem ?_
                    rintro v outs ros ⟨rfl, rfl, rfl⟩
                    refine ⟨_, rfl, ?_⟩
                    exact gl_dp rfl rfl rfl
                  · exact obl_pure rfl rfl rfl rfl rfl rfl rfl rfl
                  · refine obl_in rfl rfl rfl rfl (fun R' O' => ?_)
                    refine gl_batch 1 [(59, .bool (!o26))] rfl ?_
                    exact gl_dp rfl rfl (congrArg (fun z => some (Value.bool z)) hg27)
                  · exact obl_pure rfl rfl rfl rfl rfl rfl rfl rfl
                  · exact obl_pure rfl rfl rfl rfl rfl rfl rfl rfl
                  · exact obl_pure rfl rfl rfl rfl rfl rfl rfl rfl
                  · exact obl_pure rfl rfl rfl rfl rfl rfl rfl rfl
                  · exact obl_pure rfl rfl rfl rfl rfl rfl rfl rfl
                  · exact obl_pure rfl rfl rfl rfl rfl rfl rfl rfl
                  · exact obl_pure rfl rfl rfl rfl rfl rfl rfl rfl
                  · exact obl_pure rfl rfl rfl rfl rfl rfl rfl rfl
                  · skip
                    refine gl_nil ?_
                    obtain rfl := Option.some.inj h
                    exact gx_of (fun a w hE hS => ⟨rfl, hE.sub ⟨rfl, rfl, rfl, rfl, rfl, rfl, rfl, trivial⟩, (((((hS.pick 0 rfl).pick 1 rfl).pick 4 rfl).pick 4 rfl).take 4).facts _ _ [] (consItem (mem_at 0 rfl) (consItem (mem_at 1 rfl) (consItem (mem_at 2 rfl) (consItem (mem_at 3 rfl) noItem)))) noItem noItem⟩)
                · replace h := condF hg27 h
                  obtain ⟨x28, hx28, h⟩ := bindS h
                  refine g_elemn (mem_at 1 rfl) hx28 ?_
                  intro p29 hp29
                  obtain ⟨o30, ho30, h⟩ := letS h
                  refine g_drawD 12 [[], [0], [1], [2], [3], [3, 4], [3, 5], [3], [3], [3, 7, 8], [3, 6, 9], [3, 10]] [[11], [], [], [], [9], [], [], [5], [11], [], [], []] [.agg #[.int .i64 x17, .int .i64 (IntKind.i64.wrap (o21 + 1)), .int .i64 x22], .bool o26, .bool (!o26), .bool false, .slice a_v15 (List.length o14.1) c_v16, .pointer (some p29), .int .i64 x28, .int .i64 s7.1, .agg #[.int .i64 x17, .int .i64 (IntKind.i64.wrap (o21 + 1)), .int .i64 x22], .int .i64 o30, .bool (x28 != o30), .bool (x28 != o30)] mixed rfl rfl ⟨⟨⟨⟨⟨⟨⟨⟨⟨⟨⟨⟨trivial, ?_⟩, ?_⟩, ?_⟩, ?_⟩, ?_⟩, ?_⟩, ?_⟩, ?_⟩, ?_⟩, ?_⟩, ?_⟩, ?_⟩ ?_
                  · refine obl_in rfl rfl rfl rfl (fun R' O' => ?_)
                    refine gl_ldA (vs := [.int .i64 x17, .int .i64 (IntKind.i64.wrap (o21 + 1)), .int .i64 x22]) 0 hasBK (memV (mem_at 0 rfl)) rfl rfl Fm39 Fz39 rfl rfl rfl ?_
                    exact gl_dp rfl rfl rfl
                  · refine obl_in rfl rfl rfl rfl (fun R' O' => ?_)
                    refine gl_call rfl rfl (fun w => by kernel_rfl) (c_spec_l28Writable (⟨x17, IntKind.i64.wrap (o21 + 1), x22⟩ : Firing) ho26) (consItem (mem_at 0 rfl) (consItem (mem_at 1 rfl) (consItem (mem_at 2 rfl) (consItem (mem_at 3 rfl) noItem)))) noItem ?_
                    rintro v outs ros ⟨rfl, rfl, rfl⟩
                    refine ⟨_, rfl, ?_⟩
                    exact gl_dp rfl rfl rfl
                  · exact obl_pure rfl rfl rfl rfl rfl rfl rfl rfl
                  · refine obl_in rfl rfl rfl rfl (fun R' O' => ?_)
                    refine gl_batch 1 [(59, .bool (!o26))] rfl ?_
                    exact gl_dp rfl rfl (congrArg (fun z => some (Value.bool z)) hg27)
                  · exact obl_pure rfl rfl rfl rfl rfl rfl rfl rfl
                  · refine obl_in rfl rfl rfl rfl (fun R' O' => ?_)
                    refine gl_idxVn (k := .i64) (memV (mem_at 1 rfl)) rfl rfl Fs44 Fz2 hx28 rfl rfl ?_
                    intro p_ hp_
                    obtain rfl : p29 = p_ := Option.some.inj (hp29.symm.trans hp_)
                    exact gl_dp rfl rfl rfl
                  · refine obl_in rfl rfl rfl rfl (fun R' O' => ?_)
                    refine gl_elemVn (memV (mem_at 1 rfl)) hx28 hp29 ?_
                    refine gl_ld1 0 hasAT (memV (mem_at 0 rfl)) rfl rfl Fo2 rfl rfl rfl ?_
                    exact gl_dp rfl rfl rfl
                  · exact obl_pure rfl rfl rfl rfl rfl rfl rfl rfl
                  · refine obl_in rfl rfl rfl rfl (fun R' O' => ?_)
                    refine gl_ldA (vs := [.int .i64 x17, .int .i64 (IntKind.i64.wrap (o21 + 1)), .int .i64 x22]) 0 hasBK (memV (mem_at 0 rfl)) rfl rfl Fm39 Fz39 rfl rfl rfl ?_
                    exact gl_dp rfl rfl rfl
                  · refine obl_in rfl rfl rfl rfl (fun R' O' => ?_)
                    refine gl_call rfl rfl (fun w => by kernel_rfl) (c_spec_l28Next s7.1 (⟨x17, IntKind.i64.wrap (o21 + 1), x22⟩ : Firing) ho30) (consItem (mem_at 0 rfl) (consItem (mem_at 1 rfl) (consItem (mem_at 2 rfl) (consItem (mem_at 3 rfl) noItem)))) noItem ?_
                    rintro v outs ros ⟨rfl, rfl, rfl⟩
                    refine ⟨_, rfl, ?_⟩
                    exact gl_dp rfl rfl rfl
                  · exact obl_pure rfl rfl rfl rfl rfl rfl rfl rfl
                  · exact obl_pure rfl rfl rfl rfl rfl rfl rfl rfl
                  · skip
                    refine gl_nil ?_
                    obtain rfl := Option.some.inj h
                    exact gx_of (fun a w hE hS => ⟨rfl, hE.sub ⟨rfl, rfl, rfl, rfl, rfl, rfl, rfl, trivial⟩, (((((hS.pick 0 rfl).pick 1 rfl).pick 4 rfl).pick 4 rfl).take 4).facts _ _ [] (consItem (mem_at 0 rfl) (consItem (mem_at 1 rfl) (consItem (mem_at 2 rfl) (consItem (mem_at 3 rfl) noItem)))) noItem noItem⟩)
              · intro e a w hm
                obtain ⟨rfl, hE, hS⟩ := hm
                refine gx_to hE hS ?_
                refine gx_seq ?_
                refine g_cond (b := o25) rfl (fun hc => ?_) (fun hc => ?_)
                · replace h := condT hc h
                  refine g_exit ?_
                  refine gx_seq_exit ?_
                  refine gx_blk_miss rfl ?_
                  refine gx_seq_exit ?_
                  obtain rfl := Option.some.inj h
                  exact gx_of (fun a w hE hS => lp_out nofun (⟨rfl, a_s7_r1, c_s7_r1, hE.sub ⟨rfl, rfl, trivial⟩, ((hS.pick 1 rfl).take 1).facts _ _ [] (consItem (mem_at 0 rfl) (consItem (mem_at 1 rfl) (consItem (mem_at 2 rfl) (consItem (mem_at 3 rfl) noItem)))) noItem noItem⟩))
                · replace h := condF hc h
                  refine g_skip ?_
                  refine gx_seq ?_
                  refine g_sr ?_
                  refine gl_batch 1 [(68, .slice a_v15 (List.length o14.1) c_v16)] rfl ?_
                  obtain ⟨x31, hx31, h⟩ := bindS h
                  refine gl_idxVn (k := .i64) (mem_at 2 rfl) rfl rfl Fs44 Fz2 hx31 rfl rfl ?_
                  intro p32 hp32
                  refine gl_ld1 0 hasAT (mem_at 4 rfl) rfl rfl Fo2 rfl rfl rfl ?_
                  refine gl_batch 1 [(5, .int .i64 x31)] rfl ?_
                  refine gl_nx ?_
                  refine gl_batch 3 [(73, .int .i64 s7.2.2.2), (72, .slice a_v2 (List.length o1) c_v3), (71, .int .i64 s7.2.1)] rfl ?_
                  obtain ⟨x33, hx33, h⟩ := bindS h
                  refine gl_idxVn (k := .i64) (mem_at 0 rfl) rfl rfl Fs104 Fz9 hx33 rfl rfl ?_
                  intro p34 hp34
                  refine gl_ld1 0 hasAT (mem_at 4 rfl) rfl rfl Fo9 rfl rfl rfl ?_
                  refine gl_slen (s := x33) rfl Ft9 rfl rfl ?_
                  obtain ⟨size35, hsize35, h⟩ := letS h
                  refine gl_batch 3 [(6, .int .i64 size35), (78, .int .i64 (IntKind.i64.wrap ((IntKind.i64.wrap (s7.2.1 + (List.length x33 : Int))) + 1))), (77, .int .i64 (IntKind.i64.wrap (s7.2.1 + (List.length x33 : Int))))] (by subst hsize35; rfl) ?_
                  refine gl_ns ?_
                  refine g_region ?_
                  refine gl_batch 1 [(79, .slice a_s7_r1 (List.length s7.2.2.1) c_s7_r1)] rfl ?_
                  refine gl_ldA (vs := [.int .i64 x17, .int .i64 (IntKind.i64.wrap (o21 + 1)), .int .i64 x22]) 0 hasBK (mem_at 3 rfl) rfl rfl Fm39 Fz39 rfl rfl rfl ?_
                  refine gl_lit (m := 3) (d := 81) (T := 39) (enc := FiringE) (hn := fun _ => rfl) false [(⟨x17, IntKind.i64.wrap (o21 + 1), x22⟩ : Firing)] rfl rfl (fun _ => rfl) nofun (Nat.le_of_ble_eq_true rfl) (fun w => by kernel_rfl) ?_
                  intro a_v36 c_v37
                  refine gl_pick 2 rfl ?_
                  obtain ⟨z38, hz38, h⟩ := bindS h
                  refine gl_appn (mem_at 1 rfl) rfl rfl Fs24 Fi39 rfl rfl (fun _ => rfl) hz38 rfl rfl ?_
                  intro a_v39 c_v40
                  refine gl_batch 1 [(7, .slice a_v39 (List.length z38) c_v40)] rfl ?_
                  refine gl_nil ?_
                  refine gx_blk ?_
                  refine gx_seq ?_
                  refine g_region ?_
                  obtain ⟨i41, hi41, h⟩ := letS h
                  refine gl_batch 3 [(8, .int .i64 i41), (26, .int .i64 (IntKind.i64.wrap (s7.2.2.2 + 1))), (25, .int .i64 s7.2.2.2)] (by subst hi41; rfl) ?_
                  refine gl_nil ?_
                  obtain rfl := Option.some.inj h
                  exact gx_of (fun a w hE hS => lp_in ⟨a_v39, c_v40, hE.sub ⟨rfl, rfl, rfl, rfl, rfl, trivial⟩, (((hS.pick 0 rfl).pick 2 rfl).take 2).facts _ _ [] (consItem (mem_at 0 rfl) (consItem (mem_at 1 rfl) (consItem (mem_at 2 rfl) (consItem (mem_at 3 rfl) noItem)))) noItem noItem⟩)
      · replace h := condF hc h
        refine g_exit ?_
        refine gx_seq_exit ?_
        obtain rfl := Option.some.inj h
        exact gx_of (fun a w hE hS => lp_out nofun (⟨rfl, a_s7_r1, c_s7_r1, hE.sub ⟨rfl, rfl, trivial⟩, ((hS.pick 1 rfl).take 1).facts _ _ [] (consItem (mem_at 0 rfl) (consItem (mem_at 1 rfl) (consItem (mem_at 2 rfl) (consItem (mem_at 3 rfl) noItem)))) noItem noItem⟩))
  · intro e a w hm
    obtain ⟨rfl, a_o6_r0, c_o6_r0, hE, hS⟩ := hm
    refine gx_to hE hS ?_
    refine gx_blk_hit ?_
    refine gx_seq ?_
    refine g_sr ?_
    refine gl_batch 4 [(3, .int .i64 o6.1), (2, .slice a_o6_r0 (List.length o6.2) c_o6_r0), (84, .int .i64 o6.1), (83, .slice a_o6_r0 (List.length o6.2) c_o6_r0)] rfl ?_
    refine gl_ns ?_
    refine g_ret ?_
    obtain rfl := Option.some.inj h
    exact gx_fin rfl [.slice a_o6_r0 (List.length o6.2) c_o6_r0, .int .i64 o6.1] _ _ [] ⟨_, _, rfl, rfl, _, _, rfl, rfl, rfl⟩ rfl ⟨a_o6_r0, c_o6_r0, rfl, rfl, rfl⟩ (fun w hS => (hS.take 1).facts [] [] [] noItem noItem noItem) (Or.inl rfl)

end Go.Proofs.YtneifoepoccjaaaGreatDoor
