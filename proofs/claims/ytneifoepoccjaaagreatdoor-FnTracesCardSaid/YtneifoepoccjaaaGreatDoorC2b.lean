/-
  What each function gives when it is called: the contracts, each with the walk through its code. Written by a program of ours.
-/
import Derived.Test.YtneifoepoccjaaaGreatDoorC20
import Derived.Test.YtneifoepoccjaaaGreatDoorC2a
namespace Go.Proofs.YtneifoepoccjaaaGreatDoor
open Go Go.Proofs Go.Shelf
set_option maxHeartbeats 16000000
theorem c_spec_l01Pick (s : Src) (list : List Int) (b_s : Nat) (a_s_code : Option Addr) (c_s_code : Nat) (a_list : Option Addr) (c_list : Nat) {r : Int × Src} (h : spec_l01Pick s list = some r) : CallOK Tryz.prog 54 [.pointer (some ⟨b_s, 0, none⟩), .slice a_list (List.length list) c_list] [BK 89 b_s [.slice a_s_code (List.length s.code) c_s_code, .int .i64 s.at_v, .int .i64 s.seed]] [gTab 3 pow10C, gNum 0, gErr 1, gErr 2] [SL false 5 (intS .u8) a_s_code c_s_code s.code, SL false 2 (intS .i64) a_list c_list list] (fun v outs ros => v = .int .i64 r.1 ∧ outs = [BK 89 b_s [.slice a_s_code (List.length s.code) c_s_code, .int .i64 r.2.at_v, .int .i64 r.2.seed]] ∧ ros = []) := by
  refine fn_ok Tryz.func54 rfl Tryz.ntmps54 rfl (fun c hF0 => ?_)
  unfold spec_l01Pick at h
  refine g_sr ?_
  refine gl_batch 1 [(4, .int .i64 0)] rfl ?_
  refine gl_nx ?_
  refine gl_batch 3 [(7, .slice a_list (List.length list) c_list), (6, .pointer (some ⟨b_s, 0, none⟩)), (5, .slice a_list (List.length list) c_list)] rfl ?_
  refine gl_len rfl Fs44 rfl rfl ?_
  obtain ⟨o1, ho1, h⟩ := bindS h
  refine gl_callR rfl rfl (fun w => by kernel_rfl) (c_spec_l01Next s (List.length list : Int) b_s a_s_code c_s_code ho1) rfl (consItem (mem_at 0 rfl) (consItem (mem_at 1 rfl) (consItem (mem_at 2 rfl) (consItem (mem_at 3 rfl) noItem)))) (consItem (mem_at 0 rfl) noItem) ?_
  rintro v outs ros ⟨rfl, rfl, rfl⟩
  refine ⟨_, rfl, ?_⟩
  obtain ⟨x2, hx2, h⟩ := bindS h
  refine gl_idxOn (k := .i64) (mem_at 1 rfl) rfl rfl Fs44 Fz2 hx2 rfl rfl ?_
  intro p3
  refine gl_ld1 0 hasAT (mem_at 1 rfl) rfl rfl Fo2 rfl rfl rfl ?_
  refine gl_batch 1 [(4, .int .i64 x2)] rfl ?_
  refine gl_ns ?_
  refine g_ret ?_
  obtain rfl := Option.some.inj h
  exact gx_fin rfl [.int .i64 x2] _ _ [] ⟨_, _, rfl, rfl, rfl⟩ rfl ⟨rfl, rfl, rfl⟩ (fun w hS => (hS.take 1).facts [] [] [] noItem noItem noItem) (Or.inl rfl)

theorem c_spec_l11Place (p : Place) (events : Int)  {r : Bool} (h : spec_l11Place p events = r) : CallOK Tryz.prog 71 [.agg #[.int .i64 p.From, .int .i64 p.To, .int .i64 p.Delay, .int .i64 p.Tokens], .int .i64 events] [] [gTab 3 pow10C, gNum 0, gErr 1, gErr 2] [] (fun v outs ros => v = .bool r ∧ outs = [] ∧ ros = []) := by
  refine fn_ok Tryz.func71 rfl Tryz.ntmps71 rfl (fun c hF0 => ?_)
  unfold spec_l11Place at h
  refine g_sr ?_
  refine gl_new (d := 2) (T := 114) [.int .i64 p.From, .int .i64 p.To, .int .i64 p.Delay, .int .i64 p.Tokens] rfl rfl (fun _ => rfl) (fun w => by kernel_rfl) ?_
  intro b1
  refine gl_batch 1 [(4, .bool false)] rfl ?_
  refine gl_nx ?_
  refine gl_run (v := .pointer (some ⟨b1, 0, none⟩)) rfl rfl rfl (fun w => by kernel_rfl) ?_
  refine gl_ld1 0 hasBK (mem_at 0 rfl) rfl rfl Fo2 rfl rfl rfl ?_
  refine gl_batch 2 [(8, .int .i64 (IntKind.i64.wrap (events - 1))), (7, .int .i64 events)] rfl ?_
  refine gl_call rfl rfl (fun w => by kernel_rfl) (c_spec_l01In p.From 0 (IntKind.i64.wrap (events - 1)) rfl) (consItem (mem_at 0 rfl) (consItem (mem_at 1 rfl) (consItem (mem_at 2 rfl) (consItem (mem_at 3 rfl) noItem)))) noItem ?_
  rintro v outs ros ⟨rfl, rfl, rfl⟩
  refine ⟨_, rfl, ?_⟩
  refine gl_batch 1 [(10, .bool (spec_l01In p.From 0 (IntKind.i64.wrap (events - 1))))] rfl ?_
  refine gl_join (EE := [(16, .bool ((spec_l01In p.From 0 (IntKind.i64.wrap (events - 1))) && (spec_l01In p.To 0 (IntKind.i64.wrap (events - 1))))), (2, .pointer (some ⟨b1, 0, none⟩))]) (RR := [BK 114 b1 [.int .i64 p.From, .int .i64 p.To, .int .i64 p.Delay, .int .i64 p.Tokens]]) (XX := [gTab 3 pow10C, gNum 0, gErr 1, gErr 2]) (OO := []) (VV := []) 6 ?_ ?_
  · skip
    refine gl_case 10 rfl (fun hc => ?_) (fun hc => ?_)
    · skip
      refine gl_run (v := .pointer (some ⟨b1, 1, none⟩)) rfl rfl rfl (fun w => by kernel_rfl) ?_
      refine gl_ld1 1 hasBK (mem_at 0 rfl) rfl rfl Fo2 rfl rfl rfl ?_
      refine gl_batch 2 [(14, .int .i64 (IntKind.i64.wrap (events - 1))), (13, .int .i64 events)] rfl ?_
      refine gl_call rfl rfl (fun w => by kernel_rfl) (c_spec_l01In p.To 0 (IntKind.i64.wrap (events - 1)) rfl) (consItem (mem_at 0 rfl) (consItem (mem_at 1 rfl) (consItem (mem_at 2 rfl) (consItem (mem_at 3 rfl) noItem)))) noItem ?_
      rintro v outs ros ⟨rfl, rfl, rfl⟩
      refine ⟨_, rfl, ?_⟩
      refine gl_batch 1 [(16, .bool (spec_l01In p.To 0 (IntKind.i64.wrap (events - 1))))] rfl ?_
      refine gl_nil ?_
      exact gx_mid ⟨congrArg (fun z => some (Value.bool z)) (and_t hc).symm, rfl, trivial⟩ (fun w hS => hS)
    · skip
      refine gl_batch 6 [(16, .bool false), (15, undef), (14, undef), (13, undef), (12, undef), (11, undef)] rfl ?_
      refine gl_nil ?_
      exact gx_mid ⟨congrArg (fun z => some (Value.bool z)) (and_f hc).symm, rfl, trivial⟩ (fun w hS => hS)
  · skip
    refine gl_batch 1 [(17, .bool ((spec_l01In p.From 0 (IntKind.i64.wrap (events - 1))) && (spec_l01In p.To 0 (IntKind.i64.wrap (events - 1)))))] rfl ?_
    refine gl_join (EE := [(21, .bool (((spec_l01In p.From 0 (IntKind.i64.wrap (events - 1))) && (spec_l01In p.To 0 (IntKind.i64.wrap (events - 1)))) && (spec_l01In p.Delay 0 1000))), (2, .pointer (some ⟨b1, 0, none⟩))]) (RR := [BK 114 b1 [.int .i64 p.From, .int .i64 p.To, .int .i64 p.Delay, .int .i64 p.Tokens]]) (XX := [gTab 3 pow10C, gNum 0, gErr 1, gErr 2]) (OO := []) (VV := []) 4 ?_ ?_
    · skip
      refine gl_case 17 rfl (fun hc => ?_) (fun hc => ?_)
      · skip
        refine gl_run (v := .pointer (some ⟨b1, 2, none⟩)) rfl rfl rfl (fun w => by kernel_rfl) ?_
        refine gl_ld1 2 hasBK (mem_at 0 rfl) rfl rfl Fo2 rfl rfl rfl ?_
        refine gl_call rfl rfl (fun w => by kernel_rfl) (c_spec_l01In p.Delay 0 1000 rfl) (consItem (mem_at 0 rfl) (consItem (mem_at 1 rfl) (consItem (mem_at 2 rfl) (consItem (mem_at 3 rfl) noItem)))) noItem ?_
        rintro v outs ros ⟨rfl, rfl, rfl⟩
        refine ⟨_, rfl, ?_⟩
        refine gl_batch 1 [(21, .bool (spec_l01In p.Delay 0 1000))] rfl ?_
        refine gl_nil ?_
        exact gx_mid ⟨congrArg (fun z => some (Value.bool z)) (and_t hc).symm, rfl, trivial⟩ (fun w hS => hS)
      · skip
        refine gl_batch 4 [(21, .bool false), (20, undef), (19, undef), (18, undef)] rfl ?_
        refine gl_nil ?_
        exact gx_mid ⟨congrArg (fun z => some (Value.bool z)) (and_f hc).symm, rfl, trivial⟩ (fun w hS => hS)
    · skip
      refine gl_batch 1 [(22, .bool (((spec_l01In p.From 0 (IntKind.i64.wrap (events - 1))) && (spec_l01In p.To 0 (IntKind.i64.wrap (events - 1)))) && (spec_l01In p.Delay 0 1000)))] rfl ?_
      refine gl_join (EE := [(26, .bool ((((spec_l01In p.From 0 (IntKind.i64.wrap (events - 1))) && (spec_l01In p.To 0 (IntKind.i64.wrap (events - 1)))) && (spec_l01In p.Delay 0 1000)) && (spec_l01In p.Tokens 0 5)))]) (RR := [BK 114 b1 [.int .i64 p.From, .int .i64 p.To, .int .i64 p.Delay, .int .i64 p.Tokens]]) (XX := [gTab 3 pow10C, gNum 0, gErr 1, gErr 2]) (OO := []) (VV := []) 4 ?_ ?_
      · skip
        refine gl_case 22 rfl (fun hc => ?_) (fun hc => ?_)
        · skip
          refine gl_run (v := .pointer (some ⟨b1, 3, none⟩)) rfl rfl rfl (fun w => by kernel_rfl) ?_
          refine gl_ld1 3 hasBK (mem_at 0 rfl) rfl rfl Fo2 rfl rfl rfl ?_
          refine gl_call rfl rfl (fun w => by kernel_rfl) (c_spec_l01In p.Tokens 0 5 rfl) (consItem (mem_at 0 rfl) (consItem (mem_at 1 rfl) (consItem (mem_at 2 rfl) (consItem (mem_at 3 rfl) noItem)))) noItem ?_
          rintro v outs ros ⟨rfl, rfl, rfl⟩
          refine ⟨_, rfl, ?_⟩
          refine gl_batch 1 [(26, .bool (spec_l01In p.Tokens 0 5))] rfl ?_
          refine gl_nil ?_
          exact gx_mid ⟨congrArg (fun z => some (Value.bool z)) (and_t hc).symm, trivial⟩ (fun w hS => hS)
        · skip
          refine gl_batch 4 [(26, .bool false), (25, undef), (24, undef), (23, undef)] rfl ?_
          refine gl_nil ?_
          exact gx_mid ⟨congrArg (fun z => some (Value.bool z)) (and_f hc).symm, trivial⟩ (fun w hS => hS)
      · skip
        refine gl_batch 1 [(4, .bool ((((spec_l01In p.From 0 (IntKind.i64.wrap (events - 1))) && (spec_l01In p.To 0 (IntKind.i64.wrap (events - 1)))) && (spec_l01In p.Delay 0 1000)) && (spec_l01In p.Tokens 0 5)))] rfl ?_
        refine gl_ns ?_
        refine g_ret ?_
        subst h
        exact gx_fin rfl [.bool ((((spec_l01In p.From 0 (IntKind.i64.wrap (events - 1))) && (spec_l01In p.To 0 (IntKind.i64.wrap (events - 1)))) && (spec_l01In p.Delay 0 1000)) && (spec_l01In p.Tokens 0 5))] _ _ [] ⟨_, _, rfl, rfl, rfl⟩ rfl ⟨rfl, rfl, rfl⟩ (fun w hS => (hS.take 0).facts [] [] [] noItem noItem noItem) (Or.inl rfl)

theorem c_spec_l14Ready (g : EventGraph) (run : List Firing) (event : Int) (a_g_Places : Option Addr) (c_g_Places : Nat) (a_run : Option Addr) (c_run : Nat) {r : Int × Bool} (h : spec_l14Ready g run event = some r) : CallOK Tryz.prog 82 [.agg #[.int .i64 g.Events, .slice a_g_Places (List.length g.Places) c_g_Places], .slice a_run (List.length run) c_run, .int .i64 event] [] [gTab 3 pow10C, gNum 0, gErr 1, gErr 2] [SL false 114 PlaceS a_g_Places c_g_Places g.Places, SL false 39 FiringS a_run c_run run] (fun v outs ros => v = .tuple #[.int .i64 r.1, .bool r.2] ∧ outs = [] ∧ ros = []) := by
  refine fn_ok Tryz.func82 rfl Tryz.ntmps82 rfl (fun c hF0 => ?_)
  unfold spec_l14Ready at h
  refine g_sr ?_
  refine gl_new (d := 3) (T := 49) [.int .i64 g.Events, .slice a_g_Places (List.length g.Places) c_g_Places] rfl rfl (fun _ => rfl) (fun w => by kernel_rfl) ?_
  intro b1
  refine gl_batch 2 [(7, .bool false), (6, .int .i64 0)] rfl ?_
  refine gl_nx ?_
  refine gl_batch 2 [(15, .int .i64 event), (14, .slice a_run (List.length run) c_run)] rfl ?_
  obtain ⟨o2, ho2, h⟩ := bindS h
  refine gl_call rfl rfl (fun w => by kernel_rfl) (c_spec_l14Count run event a_run c_run ho2) (consItem (mem_at 0 rfl) (consItem (mem_at 1 rfl) (consItem (mem_at 2 rfl) (consItem (mem_at 3 rfl) noItem)))) (consItem (mem_at 2 rfl) noItem) ?_
  rintro v outs ros ⟨rfl, rfl, rfl⟩
  refine ⟨_, rfl, ?_⟩
  refine gl_batch 2 [(8, .int .i64 (IntKind.i64.wrap (o2 + 1))), (17, .int .i64 (IntKind.i64.wrap (o2 + 1)))] rfl ?_
  refine gl_nx ?_
  refine gl_batch 1 [(9, .int .i64 0)] rfl ?_
  refine gl_ns ?_
  refine g_seq ?_
  refine g_sr ?_
  refine gl_batch 1 [(10, .int .i64 0)] rfl ?_
  refine gl_ns ?_
  refine g_block ?_
  obtain ⟨o3, ho3, h⟩ := bindS h
  refine g_loop (spec_l14Ready_L1 g run event o2) (fun (ss_ : Int × Int) a w => Env a 60 [(1, .slice a_run (List.length run) c_run), (2, .int .i64 event), (3, .pointer (some ⟨b1, 0, none⟩)), (8, .int .i64 (IntKind.i64.wrap (o2 + 1))), (9, .int .i64 ss_.1), (10, .int .i64 ss_.2)] ∧ St c w [BK 49 b1 [.int .i64 g.Events, .slice a_g_Places (List.length g.Places) c_g_Places]] [gTab 3 pow10C, gNum 0, gErr 1, gErr 2] [SL false 39 FiringS a_run c_run run, SL false 114 PlaceS a_g_Places c_g_Places g.Places] []) (Sum.elim (fun (ss_ : Unit) e a w => e = .ret ∧ Env a 60 [(6, .int .i64 0), (7, .bool false)] ∧ St c w [] [gTab 3 pow10C, gNum 0, gErr 1, gErr 2] [SL false 114 PlaceS a_g_Places c_g_Places g.Places, SL false 39 FiringS a_run c_run run] []) (fun (ss_ : Int) e a w => e = (.exit 0) ∧ Env a 60 [(9, .int .i64 ss_)] ∧ St c w [] [gTab 3 pow10C, gNum 0, gErr 1, gErr 2] [SL false 114 PlaceS a_g_Places c_g_Places g.Places, SL false 39 FiringS a_run c_run run] []) : (Sum Unit Int) → Exit → Act → World → Prop) ho3 ?_ ?_ ?_
  · exact fun a w hE hS => ⟨hE.sub ⟨rfl, rfl, rfl, rfl, rfl, rfl, trivial⟩, (hS.take 1).facts _ _ [] (consItem (mem_at 0 rfl) (consItem (mem_at 1 rfl) (consItem (mem_at 2 rfl) (consItem (mem_at 3 rfl) noItem)))) (consItem (mem_at 1 rfl) (consItem (mem_at 0 rfl) noItem)) noItem⟩
  · intro s4 o5 h a w hA
    obtain ⟨hE, hS⟩ := hA
    unfold spec_l14Ready_L1 at h
    refine g_enter hE hS ?_
    refine g_seq ?_
    refine g_sr ?_
    refine gl_batch 1 [(18, .int .i64 s4.2)] rfl ?_
    refine gl_run (v := .pointer (some ⟨b1, 1, none⟩)) rfl rfl rfl (fun w => by kernel_rfl) ?_
    refine gl_ld1 1 hasBK (mem_at 0 rfl) rfl rfl Fo47 rfl rfl rfl ?_
    refine gl_len rfl Fs47 rfl rfl ?_
    refine gl_batch 1 [(22, .bool (decide (s4.2 < (List.length g.Places : Int))))] rfl ?_
    refine gl_ns ?_
    refine g_cond (b := decide (s4.2 < (List.length g.Places : Int))) rfl (fun hc => ?_) (fun hc => ?_)
    · replace h := condT hc h
      refine g_skip ?_
      refine gx_seq ?_
      obtain ⟨o6, ho6, h⟩ := bindS h
      refine g_mid (M := (Sum.elim (fun ss_ e a w => e = .normal ∧ Env a 60 [(1, .slice a_run (List.length run) c_run), (2, .int .i64 event), (3, .pointer (some ⟨b1, 0, none⟩)), (8, .int .i64 (IntKind.i64.wrap (o2 + 1))), (9, .int .i64 ss_), (10, .int .i64 s4.2)] ∧ St c w [BK 49 b1 [.int .i64 g.Events, .slice a_g_Places (List.length g.Places) c_g_Places]] [gTab 3 pow10C, gNum 0, gErr 1, gErr 2] [SL false 39 FiringS a_run c_run run, SL false 114 PlaceS a_g_Places c_g_Places g.Places] []) (fun _ e a w => e = .ret ∧ Env a 60 [(6, .int .i64 0), (7, .bool false)] ∧ St c w [] [gTab 3 pow10C, gNum 0, gErr 1, gErr 2] [SL false 114 PlaceS a_g_Places c_g_Places g.Places, SL false 39 FiringS a_run c_run run] []) : (Sum Int Unit) → Exit → Act → World → Prop) o6) ?_ ?_
      · replace h := ho6
        refine g_block ?_
        refine g_sr ?_
        refine gl_run (v := .pointer (some ⟨b1, 1, none⟩)) rfl rfl rfl (fun w => by kernel_rfl) ?_
        refine gl_ld1 1 hasBK (mem_at 0 rfl) rfl rfl Fo47 rfl rfl rfl ?_
        refine gl_batch 1 [(27, .int .i64 s4.2)] rfl ?_
        obtain ⟨x7, hx7, h⟩ := bindS h
        refine gl_idxOn (k := .i64) (mem_at 1 rfl) rfl rfl Fs47 Fz114 hx7 rfl rfl ?_
        intro p8
        refine gl_ldA (vs := [.int .i64 x7.From, .int .i64 x7.To, .int .i64 x7.Delay, .int .i64 x7.Tokens]) 0 hasAT (mem_at 1 rfl) rfl rfl Fm114 Fz114 rfl rfl rfl ?_
        refine gl_new (d := 11) (T := 114) [.int .i64 0, .int .i64 0, .int .i64 0, .int .i64 0] rfl rfl (fun _ => rfl) (fun w => by kernel_rfl) ?_
        intro b9
        refine gl_stB (cells' := [.int .i64 x7.From, .int .i64 x7.To, .int .i64 x7.Delay, .int .i64 x7.Tokens]) 0 [.int .i64 x7.From, .int .i64 x7.To, .int .i64 x7.Delay, .int .i64 x7.Tokens] rfl rfl rfl Fz114 rfl rfl rfl rfl ?_
        refine gl_ns ?_
        refine g_seq ?_
        refine g_sr ?_
        refine gl_run (v := .pointer (some ⟨b9, 1, none⟩)) rfl rfl rfl (fun w => by kernel_rfl) ?_
        refine gl_ld1 1 hasBK (mem_at 0 rfl) rfl rfl Fo2 rfl rfl rfl ?_
        refine gl_batch 3 [(34, .bool (x7.To != event)), (33, .bool (x7.To != event)), (32, .int .i64 event)] rfl ?_
        refine gl_join (EE := [(39, .bool ((x7.To != event) || (decide ((IntKind.i64.wrap (o2 + 1)) ≤ x7.Tokens)))), (1, .slice a_run (List.length run) c_run), (2, .int .i64 event), (3, .pointer (some ⟨b1, 0, none⟩)), (8, .int .i64 (IntKind.i64.wrap (o2 + 1))), (9, .int .i64 s4.1), (10, .int .i64 s4.2), (11, .pointer (some ⟨b9, 0, none⟩))]) (RR := [BK 114 b9 [.int .i64 x7.From, .int .i64 x7.To, .int .i64 x7.Delay, .int .i64 x7.Tokens], BK 49 b1 [.int .i64 g.Events, .slice a_g_Places (List.length g.Places) c_g_Places]]) (XX := [gTab 3 pow10C, gNum 0, gErr 1, gErr 2]) (OO := [AT PlaceS p8 x7, SL false 39 FiringS a_run c_run run, SL false 114 PlaceS a_g_Places c_g_Places g.Places]) (VV := []) 5 ?_ ?_
        · skip
          refine gl_case 34 rfl (fun hc => ?_) (fun hc => ?_)
          · skip
            refine gl_batch 5 [(39, .bool true), (38, undef), (37, undef), (36, undef), (35, undef)] rfl ?_
            refine gl_nil ?_
            exact gx_mid ⟨congrArg (fun z => some (Value.bool z)) (or_t hc).symm, rfl, rfl, rfl, rfl, rfl, rfl, rfl, trivial⟩ (fun w hS => hS)
          · skip
            refine gl_batch 1 [(35, .int .i64 (IntKind.i64.wrap (o2 + 1)))] rfl ?_
            refine gl_run (v := .pointer (some ⟨b9, 3, none⟩)) rfl rfl rfl (fun w => by kernel_rfl) ?_
            refine gl_ld1 3 hasBK (mem_at 0 rfl) rfl rfl Fo2 rfl rfl rfl ?_
            refine gl_batch 2 [(39, .bool (decide ((IntKind.i64.wrap (o2 + 1)) ≤ x7.Tokens))), (38, .bool (decide ((IntKind.i64.wrap (o2 + 1)) ≤ x7.Tokens)))] rfl ?_
            refine gl_nil ?_
            exact gx_mid ⟨congrArg (fun z => some (Value.bool z)) (or_f hc).symm, rfl, rfl, rfl, rfl, rfl, rfl, rfl, trivial⟩ (fun w hS => hS)
        · skip
          refine gl_ns ?_
          refine g_cond (b := (x7.To != event) || (decide ((IntKind.i64.wrap (o2 + 1)) ≤ x7.Tokens))) rfl (fun hc => ?_) (fun hc => ?_)
          · replace h := condT hc h
            refine g_exit ?_
            refine gx_seq_exit ?_
            refine gx_blk_hit ?_
            obtain rfl := Option.some.inj h
            exact gx_of (fun a w hE hS => inL ⟨rfl, hE.sub ⟨rfl, rfl, rfl, rfl, rfl, rfl, trivial⟩, ((hS.pick 1 rfl).take 1).facts _ _ [] (consItem (mem_at 0 rfl) (consItem (mem_at 1 rfl) (consItem (mem_at 2 rfl) (consItem (mem_at 3 rfl) noItem)))) (consItem (mem_at 1 rfl) (consItem (mem_at 2 rfl) noItem)) noItem⟩)
          · replace h := condF hc h
            refine g_skip ?_
            refine gx_seq ?_
            refine g_sr ?_
            refine gl_batch 1 [(41, .slice a_run (List.length run) c_run)] rfl ?_
            refine gl_run (v := .pointer (some ⟨b9, 0, none⟩)) rfl rfl rfl (fun w => by kernel_rfl) ?_
            refine gl_ld1 0 hasBK (mem_at 0 rfl) rfl rfl Fo2 rfl rfl rfl ?_
            refine gl_batch 1 [(44, .int .i64 (IntKind.i64.wrap (o2 + 1)))] rfl ?_
            refine gl_run (v := .pointer (some ⟨b9, 3, none⟩)) rfl rfl rfl (fun w => by kernel_rfl) ?_
            refine gl_ld1 3 hasBK (mem_at 0 rfl) rfl rfl Fo2 rfl rfl rfl ?_
            refine gl_batch 1 [(47, .int .i64 (IntKind.i64.wrap ((IntKind.i64.wrap (o2 + 1)) - x7.Tokens)))] rfl ?_
            obtain ⟨o10, ho10, h⟩ := bindS h
            refine gl_call rfl rfl (fun w => by kernel_rfl) (c_spec_l14Find run x7.From (IntKind.i64.wrap ((IntKind.i64.wrap (o2 + 1)) - x7.Tokens)) a_run c_run ho10) (consItem (mem_at 0 rfl) (consItem (mem_at 1 rfl) (consItem (mem_at 2 rfl) (consItem (mem_at 3 rfl) noItem)))) (consItem (mem_at 3 rfl) noItem) ?_
            rintro v outs ros ⟨rfl, rfl, rfl⟩
            refine ⟨_, rfl, ?_⟩
            refine gl_batch 5 [(13, .bool o10.2), (12, .int .i64 o10.1), (50, .bool o10.2), (49, .int .i64 o10.1), (40, .tuple #[.int .i64 o10.1, .bool o10.2])] rfl ?_
            refine gl_ns ?_
            refine g_seq ?_
            refine g_sr ?_
            refine gl_batch 2 [(52, .bool (!o10.2)), (51, .bool o10.2)] rfl ?_
            refine gl_ns ?_
            refine g_cond (b := !o10.2) rfl (fun hc => ?_) (fun hc => ?_)
            · replace h := condT hc h
              refine g_sr ?_
              refine gl_batch 2 [(7, .bool false), (6, .int .i64 0)] rfl ?_
              refine gl_ns ?_
              refine g_ret ?_
              refine gx_seq_ret ?_
              refine gx_blk_ret ?_
              obtain rfl := Option.some.inj h
              exact gx_of (fun a w hE hS => inR ⟨rfl, hE.sub ⟨rfl, rfl, trivial⟩, (hS.take 0).facts _ _ [] (consItem (mem_at 0 rfl) (consItem (mem_at 1 rfl) (consItem (mem_at 2 rfl) (consItem (mem_at 3 rfl) noItem)))) (consItem (mem_at 2 rfl) (consItem (mem_at 1 rfl) noItem)) noItem⟩)
            · replace h := condF hc h
              refine g_skip ?_
              refine gx_seq ?_
              refine g_region ?_
              refine gl_batch 2 [(54, .int .i64 o10.1), (53, .int .i64 s4.1)] rfl ?_
              refine gl_run (v := .pointer (some ⟨b9, 2, none⟩)) rfl rfl rfl (fun w => by kernel_rfl) ?_
              refine gl_ld1 2 hasBK (mem_at 0 rfl) rfl rfl Fo2 rfl rfl rfl ?_
              obtain ⟨time11, htime11, h⟩ := letS h
              refine gl_batch 3 [(9, .int .i64 time11), (58, .int .i64 (if (IntKind.i64.wrap (o10.1 + x7.Delay)) > s4.1 then (IntKind.i64.wrap (o10.1 + x7.Delay)) else s4.1)), (57, .int .i64 (IntKind.i64.wrap (o10.1 + x7.Delay)))] (by subst htime11; rfl) ?_
              refine gl_nil ?_
              refine gx_blk ?_
              obtain rfl := Option.some.inj h
              exact gx_of (fun a w hE hS => inL ⟨rfl, hE.sub ⟨rfl, rfl, rfl, rfl, rfl, rfl, trivial⟩, ((hS.pick 1 rfl).take 1).facts _ _ [] (consItem (mem_at 0 rfl) (consItem (mem_at 1 rfl) (consItem (mem_at 2 rfl) (consItem (mem_at 3 rfl) noItem)))) (consItem (mem_at 1 rfl) (consItem (mem_at 2 rfl) noItem)) noItem⟩)
      · intro e a w hm
        rcases o6 with s12 | s13
        · replace h := elimL h
          obtain ⟨rfl, hE, hS⟩ := hm
          refine gx_to hE hS ?_
          refine gx_seq ?_
          refine g_region ?_
          refine gl_batch 3 [(10, .int .i64 (IntKind.i64.wrap (s4.2 + 1))), (24, .int .i64 (IntKind.i64.wrap (s4.2 + 1))), (23, .int .i64 s4.2)] rfl ?_
          refine gl_nil ?_
          obtain rfl := Option.some.inj h
          exact gx_of (fun a w hE hS => lp_in ⟨hE.sub ⟨rfl, rfl, rfl, rfl, rfl, rfl, trivial⟩, (hS.take 1).facts _ _ [] (consItem (mem_at 0 rfl) (consItem (mem_at 1 rfl) (consItem (mem_at 2 rfl) (consItem (mem_at 3 rfl) noItem)))) (consItem (mem_at 0 rfl) (consItem (mem_at 1 rfl) noItem)) noItem⟩)
        · replace h := elimR h
          obtain ⟨rfl, hE, hS⟩ := hm
          refine gx_to hE hS ?_
          refine gx_seq_ret ?_
          obtain rfl := Option.some.inj h
          exact gx_of (fun a w hE hS => lp_out nofun (inL ⟨rfl, hE.sub ⟨rfl, rfl, trivial⟩, (hS.take 0).facts _ _ [] (consItem (mem_at 0 rfl) (consItem (mem_at 1 rfl) (consItem (mem_at 2 rfl) (consItem (mem_at 3 rfl) noItem)))) (consItem (mem_at 0 rfl) (consItem (mem_at 1 rfl) noItem)) noItem⟩))
    · replace h := condF hc h
      refine g_exit ?_
      refine gx_seq_exit ?_
      obtain rfl := Option.some.inj h
      exact gx_of (fun a w hE hS => lp_out nofun (inR ⟨rfl, hE.sub ⟨rfl, trivial⟩, (hS.take 0).facts _ _ [] (consItem (mem_at 0 rfl) (consItem (mem_at 1 rfl) (consItem (mem_at 2 rfl) (consItem (mem_at 3 rfl) noItem)))) (consItem (mem_at 1 rfl) (consItem (mem_at 0 rfl) noItem)) noItem⟩))
  · intro e a w hm
    rcases o3 with s14 | s15
    · replace h := elimL h
      obtain ⟨rfl, hE, hS⟩ := hm
      refine gx_to hE hS ?_
      refine gx_blk_ret ?_
      refine gx_seq_ret ?_
      obtain rfl := Option.some.inj h
      exact gx_fin rfl [.int .i64 0, .bool false] _ _ [] ⟨_, _, rfl, rfl, _, _, rfl, rfl, rfl⟩ rfl ⟨rfl, rfl, rfl⟩ (fun w hS => (hS.take 0).facts [] [] [] noItem noItem noItem) (Or.inl rfl)
    · replace h := elimR h
      obtain ⟨rfl, hE, hS⟩ := hm
      refine gx_to hE hS ?_
      refine gx_blk_hit ?_
      refine gx_seq ?_
      refine g_sr ?_
      refine gl_batch 3 [(7, .bool true), (6, .int .i64 s15), (59, .int .i64 s15)] rfl ?_
      refine gl_ns ?_
      refine g_ret ?_
      obtain rfl := Option.some.inj h
      exact gx_fin rfl [.int .i64 s15, .bool true] _ _ [] ⟨_, _, rfl, rfl, _, _, rfl, rfl, rfl⟩ rfl ⟨rfl, rfl, rfl⟩ (fun w hS => (hS.take 0).facts [] [] [] noItem noItem noItem) (Or.inl rfl)

theorem c_impl_isWritable_c1 (f : Firing)  {r : Bool} (h : impl_isWritable_c1 f = r) : CallOK Tryz.prog 59 [.agg #[.int .i64 f.Event, .int .i64 f.Number, .int .i64 f.Time]] [] [gTab 3 pow10C, gNum 0, gErr 1, gErr 2] [] (fun v outs ros => v = .bool r ∧ outs = [] ∧ ros = []) := by
  refine fn_ok Tryz.func59 rfl Tryz.ntmps59 rfl (fun c hF0 => ?_)
  unfold impl_isWritable_c1 at h
  refine g_sr ?_
  refine gl_new (d := 1) (T := 39) [.int .i64 f.Event, .int .i64 f.Number, .int .i64 f.Time] rfl rfl (fun _ => rfl) (fun w => by kernel_rfl) ?_
  intro b1
  refine gl_batch 1 [(2, .bool false)] rfl ?_
  refine gl_nx ?_
  refine gl_run (v := .pointer (some ⟨b1, 0, none⟩)) rfl rfl rfl (fun w => by kernel_rfl) ?_
  refine gl_ld1 0 hasBK (mem_at 0 rfl) rfl rfl Fo2 rfl rfl rfl ?_
  refine gl_call rfl rfl (fun w => by kernel_rfl) (c_impl_within f.Event 0 9 rfl) (consItem (mem_at 0 rfl) (consItem (mem_at 1 rfl) (consItem (mem_at 2 rfl) (consItem (mem_at 3 rfl) noItem)))) noItem ?_
  rintro v outs ros ⟨rfl, rfl, rfl⟩
  refine ⟨_, rfl, ?_⟩
  refine gl_batch 2 [(7, .bool (!(impl_within f.Event 0 9))), (6, .bool (!(impl_within f.Event 0 9)))] rfl ?_
  refine gl_join (EE := [(12, .bool ((!(impl_within f.Event 0 9)) || (!(impl_within f.Time 0 1000000))))]) (RR := [BK 39 b1 [.int .i64 f.Event, .int .i64 f.Number, .int .i64 f.Time]]) (XX := [gTab 3 pow10C, gNum 0, gErr 1, gErr 2]) (OO := []) (VV := []) 5 ?_ ?_
  · skip
    refine gl_case 7 rfl (fun hc => ?_) (fun hc => ?_)
    · skip
      refine gl_batch 5 [(12, .bool true), (11, undef), (10, undef), (9, undef), (8, undef)] rfl ?_
      refine gl_nil ?_
      exact gx_mid ⟨congrArg (fun z => some (Value.bool z)) (or_t hc).symm, trivial⟩ (fun w hS => hS)
    · skip
      refine gl_run (v := .pointer (some ⟨b1, 2, none⟩)) rfl rfl rfl (fun w => by kernel_rfl) ?_
      refine gl_ld1 2 hasBK (mem_at 0 rfl) rfl rfl Fo2 rfl rfl rfl ?_
      refine gl_call rfl rfl (fun w => by kernel_rfl) (c_impl_within f.Time 0 1000000 rfl) (consItem (mem_at 0 rfl) (consItem (mem_at 1 rfl) (consItem (mem_at 2 rfl) (consItem (mem_at 3 rfl) noItem)))) noItem ?_
      rintro v outs ros ⟨rfl, rfl, rfl⟩
      refine ⟨_, rfl, ?_⟩
      refine gl_batch 2 [(12, .bool (!(impl_within f.Time 0 1000000))), (11, .bool (!(impl_within f.Time 0 1000000)))] rfl ?_
      refine gl_nil ?_
      exact gx_mid ⟨congrArg (fun z => some (Value.bool z)) (or_f hc).symm, trivial⟩ (fun w hS => hS)
  · skip
    refine gl_batch 1 [(2, .bool ((!(impl_within f.Event 0 9)) || (!(impl_within f.Time 0 1000000))))] rfl ?_
    refine gl_ns ?_
    refine g_ret ?_
    subst h
    exact gx_fin rfl [.bool ((!(impl_within f.Event 0 9)) || (!(impl_within f.Time 0 1000000)))] _ _ [] ⟨_, _, rfl, rfl, rfl⟩ rfl ⟨rfl, rfl, rfl⟩ (fun w hS => (hS.take 0).facts [] [] [] noItem noItem noItem) (Or.inl rfl)

theorem c_impl_decimal (n_v : Int)  {r : List UInt8} (h : impl_decimal n_v = some r) : CallOK Tryz.prog 85 [.int .i64 n_v] [] [gTab 3 pow10C, gNum 0, gErr 1, gErr 2] [] (fun v outs ros => v = str r ∧ outs = [] ∧ ros = []) := by
  refine fn_ok Tryz.func85 rfl Tryz.ntmps85 rfl (fun c hF0 => ?_)
  unfold impl_decimal at h
  refine g_sr ?_
  refine gl_batch 1 [(2, str [])] rfl ?_
  refine gl_nx ?_
  refine gl_batch 1 [(3, .int .i64 n_v)] rfl ?_
  obtain ⟨o1, ho1, h⟩ := bindS h
  refine gl_call rfl rfl (fun w => by kernel_rfl) (c_strconv_FormatInt n_v 10 ho1) (consItem (mem_at 0 rfl) (consItem (mem_at 1 rfl) (consItem (mem_at 2 rfl) (consItem (mem_at 3 rfl) noItem)))) noItem ?_
  rintro v outs ros ⟨rfl, rfl, rfl⟩
  refine ⟨_, rfl, ?_⟩
  refine gl_batch 1 [(2, str o1)] rfl ?_
  refine gl_ns ?_
  refine g_ret ?_
  obtain rfl := Option.some.inj h
  exact gx_fin rfl [str o1] _ _ [] ⟨_, _, rfl, rfl, rfl⟩ rfl ⟨rfl, rfl, rfl⟩ (fun w hS => (hS.take 0).facts [] [] [] noItem noItem noItem) (Or.inl rfl)

theorem c_spec_l28Writable (f : Firing)  {r : Bool} (h : spec_l28Writable f = r) : CallOK Tryz.prog 55 [.agg #[.int .i64 f.Event, .int .i64 f.Number, .int .i64 f.Time]] [] [gTab 3 pow10C, gNum 0, gErr 1, gErr 2] [] (fun v outs ros => v = .bool r ∧ outs = [] ∧ ros = []) := by
  refine fn_ok Tryz.func55 rfl Tryz.ntmps55 rfl (fun c hF0 => ?_)
  unfold spec_l28Writable at h
  refine g_sr ?_
  refine gl_new (d := 1) (T := 39) [.int .i64 f.Event, .int .i64 f.Number, .int .i64 f.Time] rfl rfl (fun _ => rfl) (fun w => by kernel_rfl) ?_
  intro b1
  refine gl_batch 1 [(2, .bool false)] rfl ?_
  refine gl_nx ?_
  refine gl_run (v := .pointer (some ⟨b1, 0, none⟩)) rfl rfl rfl (fun w => by kernel_rfl) ?_
  refine gl_ld1 0 hasBK (mem_at 0 rfl) rfl rfl Fo2 rfl rfl rfl ?_
  refine gl_call rfl rfl (fun w => by kernel_rfl) (c_spec_l01In f.Event 0 9 rfl) (consItem (mem_at 0 rfl) (consItem (mem_at 1 rfl) (consItem (mem_at 2 rfl) (consItem (mem_at 3 rfl) noItem)))) noItem ?_
  rintro v outs ros ⟨rfl, rfl, rfl⟩
  refine ⟨_, rfl, ?_⟩
  refine gl_batch 1 [(6, .bool (spec_l01In f.Event 0 9))] rfl ?_
  refine gl_join (EE := [(10, .bool ((spec_l01In f.Event 0 9) && (spec_l01In f.Time 0 1000000)))]) (RR := [BK 39 b1 [.int .i64 f.Event, .int .i64 f.Number, .int .i64 f.Time]]) (XX := [gTab 3 pow10C, gNum 0, gErr 1, gErr 2]) (OO := []) (VV := []) 4 ?_ ?_
  · skip
    refine gl_case 6 rfl (fun hc => ?_) (fun hc => ?_)
    · skip
      refine gl_run (v := .pointer (some ⟨b1, 2, none⟩)) rfl rfl rfl (fun w => by kernel_rfl) ?_
      refine gl_ld1 2 hasBK (mem_at 0 rfl) rfl rfl Fo2 rfl rfl rfl ?_
      refine gl_call rfl rfl (fun w => by kernel_rfl) (c_spec_l01In f.Time 0 1000000 rfl) (consItem (mem_at 0 rfl) (consItem (mem_at 1 rfl) (consItem (mem_at 2 rfl) (consItem (mem_at 3 rfl) noItem)))) noItem ?_
      rintro v outs ros ⟨rfl, rfl, rfl⟩
      refine ⟨_, rfl, ?_⟩
      refine gl_batch 1 [(10, .bool (spec_l01In f.Time 0 1000000))] rfl ?_
      refine gl_nil ?_
      exact gx_mid ⟨congrArg (fun z => some (Value.bool z)) (and_t hc).symm, trivial⟩ (fun w hS => hS)
    · skip
      refine gl_batch 4 [(10, .bool false), (9, undef), (8, undef), (7, undef)] rfl ?_
      refine gl_nil ?_
      exact gx_mid ⟨congrArg (fun z => some (Value.bool z)) (and_f hc).symm, trivial⟩ (fun w hS => hS)
  · skip
    refine gl_batch 1 [(2, .bool ((spec_l01In f.Event 0 9) && (spec_l01In f.Time 0 1000000)))] rfl ?_
    refine gl_ns ?_
    refine g_ret ?_
    subst h
    exact gx_fin rfl [.bool ((spec_l01In f.Event 0 9) && (spec_l01In f.Time 0 1000000))] _ _ [] ⟨_, _, rfl, rfl, rfl⟩ rfl ⟨rfl, rfl, rfl⟩ (fun w hS => (hS.take 0).facts [] [] [] noItem noItem noItem) (Or.inl rfl)

theorem c_spec_l28Line (f : Firing) (chain : Int)  {r : List UInt8} (h : spec_l28Line f chain = some r) : CallOK Tryz.prog 41 [.agg #[.int .i64 f.Event, .int .i64 f.Number, .int .i64 f.Time], .int .i64 chain] [] [gTab 3 pow10C, gNum 0, gErr 1, gErr 2] [] (fun v outs ros => v = str r ∧ outs = [] ∧ ros = []) := by
  refine fn_ok Tryz.func41 rfl Tryz.ntmps41 rfl (fun c hF0 => ?_)
  unfold spec_l28Line at h
  refine g_sr ?_
  refine gl_new (d := 2) (T := 39) [.int .i64 f.Event, .int .i64 f.Number, .int .i64 f.Time] rfl rfl (fun _ => rfl) (fun w => by kernel_rfl) ?_
  intro b1
  refine gl_batch 1 [(4, str [])] rfl ?_
  refine gl_ns ?_
  refine g_seq ?_
  obtain ⟨o2, ho2, h⟩ := bindS h
  obtain ⟨z3, hz3, h⟩ := bindS h
  obtain ⟨o4, ho4, h⟩ := bindS h
  obtain ⟨z5, hz5, h⟩ := bindS h
  obtain ⟨z6, hz6, h⟩ := bindS h
  obtain ⟨o7, ho7, h⟩ := bindS h
  obtain ⟨z8, hz8, h⟩ := bindS h
  refine g_drawD 13 [[], [0], [1], [2], [], [4], [5], [3, 6], [7], [], [9], [8, 10], [11]] [[2], [], [], [], [2], [], [], [], [], [1], [], [], []] [.pointer (some ⟨b1, 0, none⟩), .int .i64 f.Event, str o2, str z3, .pointer (some ⟨b1, 2, none⟩), .int .i64 f.Time, str o4, str z5, str z6, .int .i64 chain, str o7, str z8, str z8] mixed rfl rfl ⟨⟨⟨⟨⟨⟨⟨⟨⟨⟨⟨⟨⟨trivial, ?_⟩, ?_⟩, ?_⟩, ?_⟩, ?_⟩, ?_⟩, ?_⟩, ?_⟩, ?_⟩, ?_⟩, ?_⟩, ?_⟩, ?_⟩ ?_
  · refine obl_in rfl rfl rfl rfl (fun R' O' => ?_)
    refine gl_run (v := .pointer (some ⟨b1, 0, none⟩)) rfl rfl rfl (fun w => by kernel_rfl) ?_
    exact gl_dp rfl rfl rfl
  · refine obl_in rfl rfl rfl rfl (fun R' O' => ?_)
    refine gl_ld1 0 hasBK (memV (mem_at 0 rfl)) rfl rfl Fo2 rfl rfl rfl ?_
    exact gl_dp rfl rfl rfl
  · refine obl_in rfl rfl rfl rfl (fun R' O' => ?_)
    refine gl_call rfl rfl (fun w => by kernel_rfl) (c_spec_l01Dec f.Event ho2) (consItem (mem_at 0 rfl) (consItem (mem_at 1 rfl) (consItem (mem_at 2 rfl) (consItem (mem_at 3 rfl) noItem)))) noItem ?_
    rintro v outs ros ⟨rfl, rfl, rfl⟩
    refine ⟨_, rfl, ?_⟩
    exact gl_dp rfl rfl rfl
  · refine obl_in rfl rfl rfl rfl (fun R' O' => ?_)
    refine gl_scat rfl rfl hz3 rfl rfl ?_
    exact gl_dp rfl rfl rfl
  · refine obl_in rfl rfl rfl rfl (fun R' O' => ?_)
    refine gl_run (v := .pointer (some ⟨b1, 2, none⟩)) rfl rfl rfl (fun w => by kernel_rfl) ?_
    exact gl_dp rfl rfl rfl
  · refine obl_in rfl rfl rfl rfl (fun R' O' => ?_)
    refine gl_ld1 2 hasBK (memV (mem_at 0 rfl)) rfl rfl Fo2 rfl rfl rfl ?_
    exact gl_dp rfl rfl rfl
  · refine obl_in rfl rfl rfl rfl (fun R' O' => ?_)
    refine gl_call rfl rfl (fun w => by kernel_rfl) (c_spec_l01Dec f.Time ho4) (consItem (mem_at 0 rfl) (consItem (mem_at 1 rfl) (consItem (mem_at 2 rfl) (consItem (mem_at 3 rfl) noItem)))) noItem ?_
    rintro v outs ros ⟨rfl, rfl, rfl⟩
    refine ⟨_, rfl, ?_⟩
    exact gl_dp rfl rfl rfl
  · refine obl_in rfl rfl rfl rfl (fun R' O' => ?_)
    refine gl_scat rfl rfl hz5 rfl rfl ?_
    exact gl_dp rfl rfl rfl
  · refine obl_in rfl rfl rfl rfl (fun R' O' => ?_)
    refine gl_scat rfl rfl hz6 rfl rfl ?_
    exact gl_dp rfl rfl rfl
  · exact obl_pure rfl rfl rfl rfl rfl rfl rfl rfl
  · refine obl_in rfl rfl rfl rfl (fun R' O' => ?_)
    refine gl_call rfl rfl (fun w => by kernel_rfl) (c_spec_l01Dec chain ho7) (consItem (mem_at 0 rfl) (consItem (mem_at 1 rfl) (consItem (mem_at 2 rfl) (consItem (mem_at 3 rfl) noItem)))) noItem ?_
    rintro v outs ros ⟨rfl, rfl, rfl⟩
    refine ⟨_, rfl, ?_⟩
    exact gl_dp rfl rfl rfl
  · refine obl_in rfl rfl rfl rfl (fun R' O' => ?_)
    refine gl_scat rfl rfl hz8 rfl rfl ?_
    exact gl_dp rfl rfl rfl
  · exact obl_pure rfl rfl rfl rfl rfl rfl rfl rfl
  · skip
    refine gl_ns ?_
    refine g_ret ?_
    obtain rfl := Option.some.inj h
    exact gx_fin rfl [str z8] _ _ [] ⟨_, _, rfl, rfl, rfl⟩ rfl ⟨rfl, rfl, rfl⟩ (fun w hS => (hS.take 0).facts [] [] [] noItem noItem noItem) (Or.inl rfl)

theorem c_spec_l01Damage (s : Src) (t : List UInt8) (b_s : Nat) (a_s_code : Option Addr) (c_s_code : Nat) {r : List UInt8 × Src} (h : spec_l01Damage s t = some r) : CallOK Tryz.prog 57 [.pointer (some ⟨b_s, 0, none⟩), str t] [BK 89 b_s [.slice a_s_code (List.length s.code) c_s_code, .int .i64 s.at_v, .int .i64 s.seed]] [gTab 3 pow10C, gNum 0, gErr 1, gErr 2] [SL false 5 (intS .u8) a_s_code c_s_code s.code] (fun v outs ros => v = str r.1 ∧ outs = [BK 89 b_s [.slice a_s_code (List.length s.code) c_s_code, .int .i64 r.2.at_v, .int .i64 r.2.seed]] ∧ ros = []) := by
  refine fn_ok Tryz.func57 rfl Tryz.ntmps57 rfl (fun c hF0 => ?_)
  unfold spec_l01Damage at h
  refine g_sr ?_
  refine gl_batch 1 [(4, str [])] rfl ?_
  refine gl_nx ?_
  refine gl_batch 2 [(7, str t), (6, .pointer (some ⟨b_s, 0, none⟩))] rfl ?_
  refine gl_slen (s := t) rfl Ft9 rfl rfl ?_
  refine gl_batch 1 [(9, .int .i64 (IntKind.i64.wrap ((List.length t : Int) + 1)))] rfl ?_
  obtain ⟨o1, ho1, h⟩ := bindS h
  refine gl_callR rfl rfl (fun w => by kernel_rfl) (c_spec_l01Next s (IntKind.i64.wrap ((List.length t : Int) + 1)) b_s a_s_code c_s_code ho1) rfl (consItem (mem_at 0 rfl) (consItem (mem_at 1 rfl) (consItem (mem_at 2 rfl) (consItem (mem_at 3 rfl) noItem)))) (consItem (mem_at 0 rfl) noItem) ?_
  rintro v outs ros ⟨rfl, rfl, rfl⟩
  refine ⟨_, rfl, ?_⟩
  refine gl_batch 1 [(5, .int .i64 o1.1)] rfl ?_
  refine gl_ns ?_
  obtain ⟨o2, ho2, h⟩ := bindS h
  refine g_mid (M := (Sum.elim (fun ss_ e a w => e = .normal ∧ Env a 48 [(1, str t)] ∧ St c w [BK 89 b_s [.slice a_s_code (List.length s.code) c_s_code, .int .i64 ss_.1, .int .i64 ss_.2]] [gTab 3 pow10C, gNum 0, gErr 1, gErr 2] [SL false 5 (intS .u8) a_s_code c_s_code s.code] []) (fun ss_ e a w => e = .ret ∧ Env a 48 [(4, str ss_.1)] ∧ St c w [BK 89 b_s [.slice a_s_code (List.length s.code) c_s_code, .int .i64 ss_.2.1, .int .i64 ss_.2.2]] [gTab 3 pow10C, gNum 0, gErr 1, gErr 2] [SL false 5 (intS .u8) a_s_code c_s_code s.code] []) : (Sum (Int × Int) ((List UInt8) × Int × Int)) → Exit → Act → World → Prop) o2) ?_ ?_
  · replace h := ho2
    refine g_sr ?_
    refine gl_batch 1 [(11, .pointer (some ⟨b_s, 0, none⟩))] rfl ?_
    obtain ⟨o3, ho3, h⟩ := bindS h
    refine gl_callR rfl rfl (fun w => by kernel_rfl) (c_spec_l01Next (⟨s.code, o1.2.at_v, o1.2.seed⟩ : Src) 8 b_s a_s_code c_s_code ho3) rfl (consItem (mem_at 0 rfl) (consItem (mem_at 1 rfl) (consItem (mem_at 2 rfl) (consItem (mem_at 3 rfl) noItem)))) (consItem (mem_at 0 rfl) noItem) ?_
    rintro v outs ros ⟨rfl, rfl, rfl⟩
    refine ⟨_, rfl, ?_⟩
    refine gl_ns ?_
    refine g_block ?_
    refine g_sr ?_
    refine gl_batch 2 [(13, .bool (o3.1 == 0)), (14, .bool (o3.1 == 0))] rfl ?_
    refine gl_ns ?_
    refine g_cond (b := o3.1 == 0) rfl (fun hc => ?_) (fun hc => ?_)
    · replace h := condT hc h
      refine g_sr ?_
      refine gl_batch 2 [(16, .int .i64 o1.1), (15, str t)] rfl ?_
      obtain ⟨z4, hz4, h⟩ := bindS h
      refine gl_ssub (i := 0) (j := o1.1) (k := .i64) (k2 := .i64) rfl rfl rfl Ft9 hz4 rfl rfl ?_
      refine gl_batch 1 [(4, str z4)] rfl ?_
      refine gl_ns ?_
      refine g_ret ?_
      refine gx_blk_ret ?_
      obtain rfl := Option.some.inj h
      exact gx_of (fun a w hE hS => inR ⟨rfl, hE.sub ⟨rfl, trivial⟩, (hS.take 1).facts _ _ [] (consItem (mem_at 0 rfl) (consItem (mem_at 1 rfl) (consItem (mem_at 2 rfl) (consItem (mem_at 3 rfl) noItem)))) (consItem (mem_at 0 rfl) noItem) noItem⟩)
    · replace h := condF hc h
      refine g_sr ?_
      refine gl_batch 2 [(18, .bool (o3.1 == 1)), (19, .bool (o3.1 == 1))] rfl ?_
      refine gl_ns ?_
      refine g_cond (b := o3.1 == 1) rfl (fun hc => ?_) (fun hc => ?_)
      · replace h := condT hc h
        refine g_seq ?_
        obtain ⟨z5, hz5, h⟩ := bindS h
        obtain ⟨o8, ho8, h⟩ := bindS h
        obtain ⟨x9, hx9, h⟩ := bindS h
        obtain ⟨z11, hz11, h⟩ := bindS h
        obtain ⟨z12, hz12, h⟩ := bindS h
        obtain ⟨z13, hz13, h⟩ := bindS h
        refine g_state (E' := [(0, .pointer (some ⟨b_s, 0, none⟩)), (1, str t), (5, .int .i64 o1.1)]) (Rs' := [BK 89 b_s [.slice a_s_code (List.length s.code) c_s_code, .int .i64 o3.2.at_v, .int .i64 o3.2.seed]] ++ []) (Xs' := [gTab 3 pow10C, gNum 0, gErr 1, gErr 2]) (Os' := [SL false 5 (intS .u8) a_s_code c_s_code s.code]) (Vs' := []) ⟨rfl, rfl, rfl, trivial⟩ (fun w hS => hS) ?_
        refine g_drawM (Rs := []) 14 [[], [], [0, 1], [], [], [4], [3, 5], [3, 6], [2, 7], [], [], [9, 10], [8, 11], [12]] [[1], [5], [], [], [0], [], [], [], [], [1], [5], [], [], []] [str t, .int .i64 o1.1, str z5, undef, .pointer (some ⟨b_s, 0, none⟩), .int .i64 o8.1, undef, str x9, str z11, str t, .int .i64 o1.1, str z12, str z13, str z13] [(3, ⟨[3], fun vals => ∃ (a_v6 : Option Addr), ∃ (c_v7 : Nat), vals 3 = .slice a_v6 (List.length [[48], [49], [32], [45], [46], [44], [10], [59]]) c_v7, fun vals => [SL false 9 strS (slA (vals 3)) (slC (vals 3)) [[48], [49], [32], [45], [46], [44], [10], [59]]], fun _ => []⟩), (6, ⟨[3, 6], fun vals => ∃ (p10 : Addr), (slA (vals 3)).map (fun A => A.add (Int.toNat o8.1 * (strS).size)) = some p10 ∧ vals 6 = .pointer (some p10), fun _ => [], fun _ => []⟩)] [5] (fun k _ => match k with | 0 => [BK 89 b_s [.slice a_s_code (List.length s.code) c_s_code, .int .i64 o3.2.at_v, .int .i64 o3.2.seed]] | _ => [BK 89 b_s [.slice a_s_code (List.length s.code) c_s_code, .int .i64 o8.2.at_v, .int .i64 o8.2.seed]]) mixed rfl rfl ⟨⟨⟨⟨⟨⟨⟨⟨⟨⟨⟨⟨⟨⟨trivial, ?_⟩, ?_⟩, ?_⟩, ?_⟩, ?_⟩, ?_⟩, ?_⟩, ?_⟩, ?_⟩, ?_⟩, ?_⟩, ?_⟩, ?_⟩, ?_⟩ ?_
        · exact obl_pure rfl rfl rfl rfl rfl rfl rfl rfl
        · exact obl_pure rfl rfl rfl rfl rfl rfl rfl rfl
        · refine obl_in rfl rfl rfl rfl (fun R' O' => ?_)
          refine gl_ssub (i := 0) (j := o1.1) (k := .i64) (k2 := .i64) rfl rfl rfl Ft9 hz5 rfl rfl ?_
          exact gl_dp rfl rfl rfl
        · intro vals E' R' O' hD
          refine gl_lit (m := 1) (d := 23) (T := 9) (enc := fun x => [str x]) (hn := fun _ => rfl) false [[48], [49], [32], [45], [46], [44], [10], [59]] rfl rfl (fun _ => rfl) nofun (Nat.le_of_ble_eq_true rfl) (fun w => by kernel_rfl) ?_
          intro a_v6 c_v7
          refine gl_nil ?_
          exact gx_fp (.slice a_v6 (List.length [[48], [49], [32], [45], [46], [44], [10], [59]]) c_v7) rfl rfl rfl ⟨a_v6, c_v7, rfl⟩ (fun _ h => h.sub (fun _ h => h) (st_oo (A := [])) (fun o ho => by cases ho))
        · exact obl_pure rfl rfl rfl rfl rfl rfl rfl rfl
        · intro vals E' R' O' hD hR
          have h4 : vals 4 = .pointer (some ⟨b_s, 0, none⟩) := hD 4 (memN 0 rfl)
          refine gl_convV (E2 := (24, .pointer (some ⟨b_s, 0, none⟩)) :: ([] ++ E')) (V2 := [] ++ []) (by show (24, vals 4) :: ([] ++ E') = _; rw [h4]) (by show [] ++ [] = _; rfl) ?_
          refine gl_callR rfl rfl (fun w => by kernel_rfl) (c_spec_l01Next (⟨s.code, o3.2.at_v, o3.2.seed⟩ : Src) 8 b_s a_s_code c_s_code ho8) rfl (consItem (mem_at 0 rfl) (consItem (mem_at 1 rfl) (consItem (mem_at 2 rfl) (consItem (mem_at 3 rfl) noItem)))) (consItem (memRestO (A := []) (mem_at 0 rfl)) noItem) ?_
          rintro v outs ros ⟨rfl, rfl, rfl⟩
          refine ⟨_, rfl, ?_⟩
          refine gl_nil ?_
          exact gx_fp (.int .i64 o8.1) rfl rfl rfl rfl (fun _ h => h.sub (fun _ h => h) (st_oo (A := [])) (fun o ho => by cases ho))
        · intro vals E' R' O' hD
          obtain ⟨a_v6, c_v7, h3⟩ : ∃ (a_v6 : Option Addr), ∃ (c_v7 : Nat), vals 3 = .slice a_v6 (List.length [[48], [49], [32], [45], [46], [44], [10], [59]]) c_v7 := hD 3 (memN 0 rfl)
          have h5 : vals 5 = .int .i64 o8.1 := hD 5 (memN 1 rfl)
          refine gl_convV (E2 := (23, .slice a_v6 (List.length [[48], [49], [32], [45], [46], [44], [10], [59]]) c_v7) :: (25, .int .i64 o8.1) :: ([] ++ E')) (V2 := [SL false 9 strS a_v6 c_v7 [[48], [49], [32], [45], [46], [44], [10], [59]]] ++ ([] ++ [])) (by show (23, vals 3) :: (25, vals 5) :: ([] ++ E') = _; rw [h3, h5]) (by show [SL false 9 strS (slA (vals 3)) (slC (vals 3)) [[48], [49], [32], [45], [46], [44], [10], [59]]] ++ ([] ++ []) = _; rw [h3] <;> rfl) ?_
          refine gl_idxVn (k := .i64) (memV (mem_at 0 rfl)) rfl rfl Fs104 Fz9 hx9 rfl rfl ?_
          intro p10 hp10
          refine gl_nil ?_
          exact gx_fp (.pointer (some p10)) rfl rfl rfl ⟨p10, (by show (slA (vals 3)).map (fun A => A.add (Int.toNat o8.1 * (strS).size)) = some p10; rw [h3]; exact hp10), rfl⟩ (fun _ h => h.sub (fun _ h => h) (st_oo (A := [])) (fun o ho => by cases ho))
        · intro vals E' R' O' hD
          obtain ⟨a_v6, c_v7, h3⟩ : ∃ (a_v6 : Option Addr), ∃ (c_v7 : Nat), vals 3 = .slice a_v6 (List.length [[48], [49], [32], [45], [46], [44], [10], [59]]) c_v7 := hD 3 (memN 0 rfl)
          obtain ⟨p10, hp10, h6⟩ : ∃ (p10 : Addr), (slA (vals 3)).map (fun A => A.add (Int.toNat o8.1 * (strS).size)) = some p10 ∧ vals 6 = .pointer (some p10) := hD 6 (memN 1 rfl)
          rw [h3] at hp10
          replace hp10 : a_v6.map (fun A => A.add (Int.toNat o8.1 * (strS).size)) = some p10 := hp10
          refine gl_convV (E2 := (23, .slice a_v6 (List.length [[48], [49], [32], [45], [46], [44], [10], [59]]) c_v7) :: (26, .pointer (some p10)) :: ([] ++ E')) (V2 := [SL false 9 strS a_v6 c_v7 [[48], [49], [32], [45], [46], [44], [10], [59]]] ++ ([] ++ [])) (by show (23, vals 3) :: (26, vals 6) :: ([] ++ E') = _; rw [h3, h6]) (by show [SL false 9 strS (slA (vals 3)) (slC (vals 3)) [[48], [49], [32], [45], [46], [44], [10], [59]]] ++ ([] ++ []) = _; rw [h3] <;> rfl) ?_
          refine gl_elemVn (memV (mem_at 0 rfl)) hx9 hp10 ?_
          refine gl_ld1 0 hasAT (memV (mem_at 0 rfl)) rfl rfl Fo9 rfl rfl rfl ?_
          refine gl_nil ?_
          exact gx_fp (str x9) rfl rfl rfl rfl (fun _ h => h.sub (fun _ h => h) (st_oo (A := [])) (fun o ho => by cases ho))
        · refine obl_in rfl rfl rfl rfl (fun R' O' => ?_)
          refine gl_scat rfl rfl hz11 rfl rfl ?_
          exact gl_dp rfl rfl rfl
        · exact obl_pure rfl rfl rfl rfl rfl rfl rfl rfl
        · exact obl_pure rfl rfl rfl rfl rfl rfl rfl rfl
        · refine obl_in rfl rfl rfl rfl (fun R' O' => ?_)
          refine gl_ssub (i := o1.1) (j := (List.length t : Int)) (k := .i64) (k2 := .i64) rfl rfl rfl Ft9 hz12 rfl rfl ?_
          exact gl_dp rfl rfl rfl
        · refine obl_in rfl rfl rfl rfl (fun R' O' => ?_)
          refine gl_scat rfl rfl hz13 rfl rfl ?_
          exact gl_dp rfl rfl rfl
        · exact obl_pure rfl rfl rfl rfl rfl rfl rfl rfl
        · intro vals hv
          obtain ⟨⟨⟨⟨⟨⟨⟨⟨⟨⟨⟨⟨⟨⟨_, h0⟩, h1⟩, h2⟩, h3⟩, h4⟩, h5⟩, h6⟩, h7⟩, h8⟩, h9⟩, h10⟩, h11⟩, h12⟩, h13⟩ := hv
          have h0 : vals 0 = str t := h0
          have h1 : vals 1 = .int .i64 o1.1 := h1
          have h2 : vals 2 = str z5 := h2
          obtain ⟨a_v6, c_v7, h3⟩ : ∃ (a_v6 : Option Addr), ∃ (c_v7 : Nat), vals 3 = .slice a_v6 (List.length [[48], [49], [32], [45], [46], [44], [10], [59]]) c_v7 := h3
          have h4 : vals 4 = .pointer (some ⟨b_s, 0, none⟩) := h4
          have h5 : vals 5 = .int .i64 o8.1 := h5
          obtain ⟨p10, hp10, h6⟩ : ∃ (p10 : Addr), (slA (vals 3)).map (fun A => A.add (Int.toNat o8.1 * (strS).size)) = some p10 ∧ vals 6 = .pointer (some p10) := h6
          rw [h3] at hp10
          replace hp10 : a_v6.map (fun A => A.add (Int.toNat o8.1 * (strS).size)) = some p10 := hp10
          have h7 : vals 7 = str x9 := h7
          have h8 : vals 8 = str z11 := h8
          have h9 : vals 9 = str t := h9
          have h10 : vals 10 = .int .i64 o1.1 := h10
          have h11 : vals 11 = str z12 := h11
          have h12 : vals 12 = str z13 := h12
          have h13 : vals 13 = str z13 := h13
          refine gl_conv (E2 := (20, str t) :: (21, .int .i64 o1.1) :: (22, str z5) :: (23, .slice a_v6 (List.length [[48], [49], [32], [45], [46], [44], [10], [59]]) c_v7) :: (24, .pointer (some ⟨b_s, 0, none⟩)) :: (25, .int .i64 o8.1) :: (26, .pointer (some p10)) :: (27, str x9) :: (28, str z11) :: (29, str t) :: (30, .int .i64 o1.1) :: (31, str z12) :: (32, str z13) :: (4, str z13) :: [(0, .pointer (some ⟨b_s, 0, none⟩)), (1, str t), (5, .int .i64 o1.1)]) (R2 := [BK 89 b_s [.slice a_s_code (List.length s.code) c_s_code, .int .i64 o8.2.at_v, .int .i64 o8.2.seed]] ++ ([SL false 9 strS a_v6 c_v7 [[48], [49], [32], [45], [46], [44], [10], [59]]] ++ [])) (O2 := [] ++ [SL false 5 (intS .u8) a_s_code c_s_code s.code]) (by show (20, vals 0) :: (21, vals 1) :: (22, vals 2) :: (23, vals 3) :: (24, vals 4) :: (25, vals 5) :: (26, vals 6) :: (27, vals 7) :: (28, vals 8) :: (29, vals 9) :: (30, vals 10) :: (31, vals 11) :: (32, vals 12) :: (4, vals 13) :: [(0, .pointer (some ⟨b_s, 0, none⟩)), (1, str t), (5, .int .i64 o1.1)] = _; rw [h0, h1, h2, h3, h4, h5, h6, h7, h8, h9, h10, h11, h12, h13]) (by show [BK 89 b_s [.slice a_s_code (List.length s.code) c_s_code, .int .i64 o8.2.at_v, .int .i64 o8.2.seed]] ++ ([SL false 9 strS (slA (vals 3)) (slC (vals 3)) [[48], [49], [32], [45], [46], [44], [10], [59]]] ++ []) = _; rw [h3] <;> rfl) rfl ?_
          refine gl_ns ?_
          refine g_ret ?_
          refine gx_blk_ret ?_
          obtain rfl := Option.some.inj h
          exact gx_of (fun a w hE hS => inR ⟨rfl, hE.sub ⟨rfl, trivial⟩, (hS.take 1).facts _ _ [] (consItem (mem_at 0 rfl) (consItem (mem_at 1 rfl) (consItem (mem_at 2 rfl) (consItem (mem_at 3 rfl) noItem)))) (consItem (mem_at 0 rfl) noItem) noItem⟩)
      · replace h := condF hc h
        refine g_sr ?_
        refine gl_batch 2 [(33, .bool (o3.1 == 2)), (34, .bool (o3.1 == 2))] rfl ?_
        refine gl_ns ?_
        refine g_cond (b := o3.1 == 2) rfl (fun hc => ?_) (fun hc => ?_)
        · replace h := condT hc h
          refine g_sr ?_
          refine gl_batch 2 [(36, str t), (35, .int .i64 o1.1)] rfl ?_
          refine gl_slen (s := t) rfl Ft9 rfl rfl ?_
          refine gl_batch 1 [(38, .bool (decide (o1.1 < (List.length t : Int))))] rfl ?_
          refine gl_ns ?_
          refine g_cond (b := decide (o1.1 < (List.length t : Int))) rfl (fun hc => ?_) (fun hc => ?_)
          · replace h := condT hc h
            refine g_seq ?_
            obtain ⟨z14, hz14, h⟩ := bindS h
            obtain ⟨z15, hz15, h⟩ := bindS h
            obtain ⟨z16, hz16, h⟩ := bindS h
            refine g_drawD 9 [[], [], [0, 1], [], [], [4], [3, 5], [2, 6], [7]] [[1], [5], [], [1], [5], [], [], [], []] [str t, .int .i64 o1.1, str z14, str t, .int .i64 o1.1, .int .i64 (IntKind.i64.wrap (o1.1 + 1)), str z15, str z16, str z16] mixed rfl rfl ⟨⟨⟨⟨⟨⟨⟨⟨⟨trivial, ?_⟩, ?_⟩, ?_⟩, ?_⟩, ?_⟩, ?_⟩, ?_⟩, ?_⟩, ?_⟩ ?_
            · exact obl_pure rfl rfl rfl rfl rfl rfl rfl rfl
            · exact obl_pure rfl rfl rfl rfl rfl rfl rfl rfl
            · refine obl_in rfl rfl rfl rfl (fun R' O' => ?_)
              refine gl_ssub (i := 0) (j := o1.1) (k := .i64) (k2 := .i64) rfl rfl rfl Ft9 hz14 rfl rfl ?_
              exact gl_dp rfl rfl rfl
            · exact obl_pure rfl rfl rfl rfl rfl rfl rfl rfl
            · exact obl_pure rfl rfl rfl rfl rfl rfl rfl rfl
            · exact obl_pure rfl rfl rfl rfl rfl rfl rfl rfl
            · refine obl_in rfl rfl rfl rfl (fun R' O' => ?_)
              refine gl_ssub (i := IntKind.i64.wrap (o1.1 + 1)) (j := (List.length t : Int)) (k := .i64) (k2 := .i64) rfl rfl rfl Ft9 hz15 rfl rfl ?_
              exact gl_dp rfl rfl rfl
            · refine obl_in rfl rfl rfl rfl (fun R' O' => ?_)
              refine gl_scat rfl rfl hz16 rfl rfl ?_
              exact gl_dp rfl rfl rfl
            · exact obl_pure rfl rfl rfl rfl rfl rfl rfl rfl
            · skip
              refine gl_ns ?_
              refine g_ret ?_
              refine gx_blk_ret ?_
              obtain rfl := Option.some.inj h
              exact gx_of (fun a w hE hS => inR ⟨rfl, hE.sub ⟨rfl, trivial⟩, (hS.take 1).facts _ _ [] (consItem (mem_at 0 rfl) (consItem (mem_at 1 rfl) (consItem (mem_at 2 rfl) (consItem (mem_at 3 rfl) noItem)))) (consItem (mem_at 0 rfl) noItem) noItem⟩)
          · replace h := condF hc h
            refine g_skip ?_
            refine gx_blk ?_
            obtain rfl := Option.some.inj h
            exact gx_of (fun a w hE hS => inL ⟨rfl, hE.sub ⟨rfl, trivial⟩, (hS.take 1).facts _ _ [] (consItem (mem_at 0 rfl) (consItem (mem_at 1 rfl) (consItem (mem_at 2 rfl) (consItem (mem_at 3 rfl) noItem)))) (consItem (mem_at 0 rfl) noItem) noItem⟩)
        · replace h := condF hc h
          refine g_skip ?_
          refine gx_blk ?_
          obtain rfl := Option.some.inj h
          exact gx_of (fun a w hE hS => inL ⟨rfl, hE.sub ⟨rfl, trivial⟩, (hS.take 1).facts _ _ [] (consItem (mem_at 0 rfl) (consItem (mem_at 1 rfl) (consItem (mem_at 2 rfl) (consItem (mem_at 3 rfl) noItem)))) (consItem (mem_at 0 rfl) noItem) noItem⟩)
  · intro e a w hm
    rcases o2 with s17 | s18
    · replace h := elimL h
      obtain ⟨rfl, hE, hS⟩ := hm
      refine gx_to hE hS ?_
      refine gx_seq ?_
      refine g_sr ?_
      refine gl_batch 2 [(4, str t), (47, str t)] rfl ?_
      refine gl_ns ?_
      refine g_ret ?_
      obtain rfl := Option.some.inj h
      exact gx_fin rfl [str t] _ _ [] ⟨_, _, rfl, rfl, rfl⟩ rfl ⟨rfl, rfl, rfl⟩ (fun w hS => (hS.take 1).facts [] [] [] noItem noItem noItem) (Or.inl rfl)
    · replace h := elimR h
      obtain ⟨rfl, hE, hS⟩ := hm
      refine gx_to hE hS ?_
      refine gx_seq_ret ?_
      obtain rfl := Option.some.inj h
      exact gx_fin rfl [str s18.1] _ _ [] ⟨_, _, rfl, rfl, rfl⟩ rfl ⟨rfl, rfl, rfl⟩ (fun w hS => (hS.take 1).facts [] [] [] noItem noItem noItem) (Or.inl rfl)

theorem c_spec_l01Digits (s : List UInt8)  {r : Int × Bool} (h : spec_l01Digits s = some r) : CallOK Tryz.prog 104 [str s] [] [gTab 3 pow10C, gNum 0, gErr 1, gErr 2] [] (fun v outs ros => v = .tuple #[.int .i64 r.1, .bool r.2] ∧ outs = [] ∧ ros = []) := by
  refine fn_ok Tryz.func104 rfl Tryz.ntmps104 rfl (fun c hF0 => ?_)
  unfold spec_l01Digits at h
  refine g_sr ?_
  refine gl_batch 2 [(3, .bool false), (2, .int .i64 0)] rfl ?_
  refine gl_ns ?_
  refine g_seq ?_
  refine g_sr ?_
  refine gl_batch 1 [(6, str s)] rfl ?_
  refine gl_slen (s := s) rfl Ft9 rfl rfl ?_
  refine gl_batch 2 [(9, .bool (decide ((List.length s : Int) < 1))), (8, .bool (decide ((List.length s : Int) < 1)))] rfl ?_
  refine gl_join (EE := [(13, .bool ((decide ((List.length s : Int) < 1)) || (decide ((List.length s : Int) > 10)))), (0, str s)]) (RR := []) (XX := [gTab 3 pow10C, gNum 0, gErr 1, gErr 2]) (OO := []) (VV := []) 4 ?_ ?_
  · skip
    refine gl_case 9 rfl (fun hc => ?_) (fun hc => ?_)
    · skip
      refine gl_batch 4 [(13, .bool true), (12, undef), (11, undef), (10, undef)] rfl ?_
      refine gl_nil ?_
      exact gx_mid ⟨congrArg (fun z => some (Value.bool z)) (or_t hc).symm, rfl, trivial⟩ (fun w hS => hS)
    · skip
      refine gl_batch 1 [(10, str s)] rfl ?_
      refine gl_slen (s := s) rfl Ft9 rfl rfl ?_
      refine gl_batch 2 [(13, .bool (decide ((List.length s : Int) > 10))), (12, .bool (decide ((List.length s : Int) > 10)))] rfl ?_
      refine gl_nil ?_
      exact gx_mid ⟨congrArg (fun z => some (Value.bool z)) (or_f hc).symm, rfl, trivial⟩ (fun w hS => hS)
  · skip
    refine gl_ns ?_
    refine g_cond (b := (decide ((List.length s : Int) < 1)) || (decide ((List.length s : Int) > 10))) rfl (fun hc => ?_) (fun hc => ?_)
    · replace h := condT hc h
      refine g_sr ?_
      refine gl_batch 2 [(3, .bool false), (2, .int .i64 0)] rfl ?_
      refine gl_ns ?_
      refine g_ret ?_
      refine gx_seq_ret ?_
      obtain rfl := Option.some.inj h
      exact gx_fin rfl [.int .i64 0, .bool false] _ _ [] ⟨_, _, rfl, rfl, _, _, rfl, rfl, rfl⟩ rfl ⟨rfl, rfl, rfl⟩ (fun w hS => (hS.take 0).facts [] [] [] noItem noItem noItem) (Or.inl rfl)
    · replace h := condF hc h
      refine g_skip ?_
      refine gx_seq ?_
      refine g_sr ?_
      refine gl_batch 1 [(4, .int .i64 0)] rfl ?_
      refine gl_ns ?_
      refine g_seq ?_
      refine g_sr ?_
      refine gl_batch 1 [(5, .int .i64 0)] rfl ?_
      refine gl_ns ?_
      refine g_block ?_
      obtain ⟨o1, ho1, h⟩ := bindS h
      refine g_loop (spec_l01Digits_L1 s) (fun (ss_ : Int × Int) a w => Env a 43 [(0, str s), (4, .int .i64 ss_.1), (5, .int .i64 ss_.2)] ∧ St c w [] [gTab 3 pow10C, gNum 0, gErr 1, gErr 2] [] []) (Sum.elim (fun (ss_ : Unit) e a w => e = .ret ∧ Env a 43 [(2, .int .i64 0), (3, .bool false)] ∧ St c w [] [gTab 3 pow10C, gNum 0, gErr 1, gErr 2] [] []) (fun (ss_ : Int) e a w => e = (.exit 0) ∧ Env a 43 [(0, str s), (4, .int .i64 ss_)] ∧ St c w [] [gTab 3 pow10C, gNum 0, gErr 1, gErr 2] [] []) : (Sum Unit Int) → Exit → Act → World → Prop) ho1 ?_ ?_ ?_
      · exact fun a w hE hS => ⟨hE.sub ⟨rfl, rfl, rfl, trivial⟩, (hS.take 0).facts _ _ [] (consItem (mem_at 0 rfl) (consItem (mem_at 1 rfl) (consItem (mem_at 2 rfl) (consItem (mem_at 3 rfl) noItem)))) noItem noItem⟩
      · intro s2 o3 h a w hA
        obtain ⟨hE, hS⟩ := hA
        unfold spec_l01Digits_L1 at h
        refine g_enter hE hS ?_
        refine g_seq ?_
        refine g_sr ?_
        refine gl_batch 2 [(15, str s), (14, .int .i64 s2.2)] rfl ?_
        refine gl_slen (s := s) rfl Ft9 rfl rfl ?_
        refine gl_batch 1 [(17, .bool (decide (s2.2 < (List.length s : Int))))] rfl ?_
        refine gl_ns ?_
        refine g_cond (b := decide (s2.2 < (List.length s : Int))) rfl (fun hc => ?_) (fun hc => ?_)
        · replace h := condT hc h
          refine g_skip ?_
          refine gx_seq ?_
          refine g_seq ?_
          refine g_block ?_
          refine g_seq ?_
          refine g_sr ?_
          refine gl_batch 2 [(21, .int .i64 s2.2), (20, str s)] rfl ?_
          obtain ⟨y4, hy4, h⟩ := bindS h
          refine gl_sidx (k := .i64) rfl rfl Ft9 hy4 rfl rfl ?_
          refine gl_batch 2 [(24, .bool (decide ((y4.toNat : Int) < 48))), (23, .bool (decide ((y4.toNat : Int) < 48)))] rfl ?_
          obtain ⟨q5, hq5, h⟩ := bindS h
          refine gl_join (EE := [(29, .bool q5), (0, str s), (4, .int .i64 s2.1), (5, .int .i64 s2.2)]) (RR := []) (XX := [gTab 3 pow10C, gNum 0, gErr 1, gErr 2]) (OO := []) (VV := []) 5 ?_ ?_
          · replace h := hq5
            refine gl_case 24 rfl (fun hc => ?_) (fun hc => ?_)
            · replace h := condT hc h
              refine gl_batch 5 [(29, .bool true), (28, undef), (27, undef), (26, undef), (25, undef)] rfl ?_
              refine gl_nil ?_
              obtain rfl := Option.some.inj h
              exact gx_mid ⟨rfl, rfl, rfl, rfl, trivial⟩ (fun w hS => hS)
            · replace h := condF hc h
              refine gl_batch 2 [(26, .int .i64 s2.2), (25, str s)] rfl ?_
              obtain ⟨y6, hy6, h⟩ := bindS h
              refine gl_sidx (k := .i64) rfl rfl Ft9 hy6 rfl rfl ?_
              refine gl_batch 2 [(29, .bool (decide ((y6.toNat : Int) > 57))), (28, .bool (decide ((y6.toNat : Int) > 57)))] rfl ?_
              refine gl_nil ?_
              obtain rfl := Option.some.inj h
              exact gx_mid ⟨rfl, rfl, rfl, rfl, trivial⟩ (fun w hS => hS)
          · skip
            refine gl_ns ?_
            refine g_cond (b := q5) rfl (fun hc => ?_) (fun hc => ?_)
            · replace h := condT hc h
              refine g_sr ?_
              refine gl_batch 2 [(3, .bool false), (2, .int .i64 0)] rfl ?_
              refine gl_ns ?_
              refine g_ret ?_
              refine gx_seq_ret ?_
              refine gx_blk_ret ?_
              refine gx_seq_ret ?_
              obtain rfl := Option.some.inj h
              exact gx_of (fun a w hE hS => lp_out nofun (inL ⟨rfl, hE.sub ⟨rfl, rfl, trivial⟩, (hS.take 0).facts _ _ [] (consItem (mem_at 0 rfl) (consItem (mem_at 1 rfl) (consItem (mem_at 2 rfl) (consItem (mem_at 3 rfl) noItem)))) noItem noItem⟩))
            · replace h := condF hc h
              refine g_skip ?_
              refine gx_seq ?_
              refine g_region ?_
              refine gl_batch 4 [(33, .int .i64 s2.2), (32, str s), (31, .int .i64 (IntKind.i64.wrap (10 * s2.1))), (30, .int .i64 s2.1)] rfl ?_
              obtain ⟨y7, hy7, h⟩ := bindS h
              refine gl_sidx (k := .i64) rfl rfl Ft9 hy7 rfl rfl ?_
              refine gl_batch 1 [(35, .int .u8 (IntKind.u8.wrap ((y7.toNat : Int) - 48)))] rfl ?_
              refine gl_run (v := .int .i64 (IntKind.i64.wrap (IntKind.u8.wrap ((y7.toNat : Int) - 48)))) rfl rfl rfl (fun w => by kernel_rfl) ?_
              obtain ⟨n_v8, hn_v8, h⟩ := letS h
              refine gl_batch 2 [(4, .int .i64 n_v8), (37, .int .i64 (IntKind.i64.wrap ((IntKind.i64.wrap (10 * s2.1)) + (IntKind.i64.wrap (IntKind.u8.wrap ((y7.toNat : Int) - 48))))))] (by subst hn_v8; rfl) ?_
              refine gl_nil ?_
              refine gx_blk ?_
              refine gx_seq ?_
              refine g_region ?_
              refine gl_batch 3 [(5, .int .i64 (IntKind.i64.wrap (s2.2 + 1))), (19, .int .i64 (IntKind.i64.wrap (s2.2 + 1))), (18, .int .i64 s2.2)] rfl ?_
              refine gl_nil ?_
              obtain rfl := Option.some.inj h
              exact gx_of (fun a w hE hS => lp_in ⟨hE.sub ⟨rfl, rfl, rfl, trivial⟩, (hS.take 0).facts _ _ [] (consItem (mem_at 0 rfl) (consItem (mem_at 1 rfl) (consItem (mem_at 2 rfl) (consItem (mem_at 3 rfl) noItem)))) noItem noItem⟩)
        · replace h := condF hc h
          refine g_exit ?_
          refine gx_seq_exit ?_
          obtain rfl := Option.some.inj h
          exact gx_of (fun a w hE hS => lp_out nofun (inR ⟨rfl, hE.sub ⟨rfl, rfl, trivial⟩, (hS.take 0).facts _ _ [] (consItem (mem_at 0 rfl) (consItem (mem_at 1 rfl) (consItem (mem_at 2 rfl) (consItem (mem_at 3 rfl) noItem)))) noItem noItem⟩))
      · intro e a w hm
        rcases o1 with s9 | s10
        · replace h := elimL h
          obtain ⟨rfl, hE, hS⟩ := hm
          refine gx_to hE hS ?_
          refine gx_blk_ret ?_
          refine gx_seq_ret ?_
          obtain rfl := Option.some.inj h
          exact gx_fin rfl [.int .i64 0, .bool false] _ _ [] ⟨_, _, rfl, rfl, _, _, rfl, rfl, rfl⟩ rfl ⟨rfl, rfl, rfl⟩ (fun w hS => (hS.take 0).facts [] [] [] noItem noItem noItem) (Or.inl rfl)
        · replace h := elimR h
          obtain ⟨rfl, hE, hS⟩ := hm
          refine gx_to hE hS ?_
          refine gx_blk_hit ?_
          refine gx_seq ?_
          refine g_sr ?_
          refine gl_batch 2 [(39, .int .i64 s10), (38, .int .i64 s10)] rfl ?_
          obtain ⟨o11, ho11, h⟩ := bindS h
          refine gl_call rfl rfl (fun w => by kernel_rfl) (c_spec_l01Dec s10 ho11) (consItem (mem_at 0 rfl) (consItem (mem_at 1 rfl) (consItem (mem_at 2 rfl) (consItem (mem_at 3 rfl) noItem)))) noItem ?_
          rintro v outs ros ⟨rfl, rfl, rfl⟩
          refine ⟨_, rfl, ?_⟩
          refine gl_batch 1 [(41, str s)] rfl ?_
          refine gl_seq (s := o11) (u := s) rfl rfl rfl rfl ?_
          refine gl_batch 2 [(3, .bool (o11 == s)), (2, .int .i64 s10)] rfl ?_
          refine gl_ns ?_
          refine g_ret ?_
          obtain rfl := Option.some.inj h
          exact gx_fin rfl [.int .i64 s10, .bool (o11 == s)] _ _ [] ⟨_, _, rfl, rfl, _, _, rfl, rfl, rfl⟩ rfl ⟨rfl, rfl, rfl⟩ (fun w hS => (hS.take 0).facts [] [] [] noItem noItem noItem) (Or.inl rfl)

end Go.Proofs.YtneifoepoccjaaaGreatDoor
