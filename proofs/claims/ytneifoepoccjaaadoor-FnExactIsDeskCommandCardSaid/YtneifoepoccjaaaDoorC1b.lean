/-
  What each function gives when it is called: the contracts, each with the walk through its code. Written by a program of ours.
-/
import Derived.Test.YtneifoepoccjaaaDoorC10
import Derived.Test.YtneifoepoccjaaaDoorC1a
namespace Go.Proofs.YtneifoepoccjaaaDoor
open Go Go.Proofs Go.Shelf
set_option maxHeartbeats 16000000
theorem c_spec_l01Digits (s : List UInt8)  {r : Int × Bool} (h : spec_l01Digits s = some r) : CallOK Tryd.prog 49 [str s] [] [gTab 3 pow10C, gNum 0, gErr 1, gErr 2] [] (fun v outs ros => v = .tuple #[.int .i64 r.1, .bool r.2] ∧ outs = [] ∧ ros = []) := by
  refine fn_ok Tryd.func49 rfl Tryd.ntmps49 rfl (fun c hF0 => ?_)
  unfold spec_l01Digits at h
  refine g_seq ?_
  refine g_region ?_
  refine gl_batch 2 [(3, .bool false), (2, .int .i64 0)] rfl ?_
  refine gl_nil ?_
  refine gx_seq ?_
  refine g_seq ?_
  refine g_seq ?_
  refine g_region ?_
  refine gl_batch 1 [(6, str s)] rfl ?_
  refine gl_slen (s := s) rfl Ft9 rfl rfl ?_
  refine gl_batch 2 [(9, .bool (decide ((List.length s : Int) < 1))), (8, .bool (decide ((List.length s : Int) < 1)))] rfl ?_
  refine gl_join (EE := [(13, .bool ((decide ((List.length s : Int) < 1)) || (decide ((List.length s : Int) > 10)))), (0, str s)]) (RR := []) (XX := [gTab 3 pow10C, gNum 0, gErr 1, gErr 2]) (OO := []) (VV := []) 4 ?_ ?_
  · skip
    refine gl_case 9 rfl (fun hc => ?_) (fun hc => ?_)
    · skip
      refine gl_batch 4 [(13, .bool true), (12, undef), (11, undef), (10, undef)] rfl ?_
      refine gl_nil ?_
      exact gx_mid ⟨congrArg (fun z => some (Value.bool z)) (or_t hc).symm, rfl, trivial⟩ (fun w hS => hS)
    · skip
      refine gl_batch 1 [(10, str s)] rfl ?_
      refine gl_slen (s := s) rfl Ft9 rfl rfl ?_
      refine gl_batch 2 [(13, .bool (decide ((List.length s : Int) > 10))), (12, .bool (decide ((List.length s : Int) > 10)))] rfl ?_
      refine gl_nil ?_
      exact gx_mid ⟨congrArg (fun z => some (Value.bool z)) (or_f hc).symm, rfl, trivial⟩ (fun w hS => hS)
  · skip
    refine gl_nil ?_
    refine gx_seq ?_
    refine g_cond (b := (decide ((List.length s : Int) < 1)) || (decide ((List.length s : Int) > 10))) rfl (fun hc => ?_) (fun hc => ?_)
    · replace h := condT hc h
      refine g_seq ?_
      refine g_region ?_
      refine gl_batch 2 [(3, .bool false), (2, .int .i64 0)] rfl ?_
      refine gl_nil ?_
      refine gx_seq ?_
      refine g_ret ?_
      refine gx_seq_ret ?_
      obtain rfl := Option.some.inj h
      exact gx_fin rfl [.int .i64 0, .bool false] _ _ [] ⟨_, _, rfl, rfl, _, _, rfl, rfl, rfl⟩ rfl ⟨rfl, rfl, rfl⟩ (fun w hS => (hS.take 0).facts [] [] [] noItem noItem noItem) (Or.inl rfl)
    · replace h := condF hc h
      refine g_skip ?_
      refine gx_seq ?_
      refine g_seq ?_
      refine g_region ?_
      refine gl_batch 1 [(4, .int .i64 0)] rfl ?_
      refine gl_nil ?_
      refine gx_seq ?_
      refine g_seq ?_
      refine g_seq ?_
      refine g_region ?_
      refine gl_batch 1 [(5, .int .i64 0)] rfl ?_
      refine gl_nil ?_
      refine gx_seq ?_
      refine g_block ?_
      obtain ⟨o1, ho1, h⟩ := bindS h
      refine g_loop (spec_l01Digits_L1 s) (fun (ss_ : Int × Int) a w => Env a 43 [(0, str s), (4, .int .i64 ss_.1), (5, .int .i64 ss_.2)] ∧ St c w [] [gTab 3 pow10C, gNum 0, gErr 1, gErr 2] [] []) (Sum.elim (fun (ss_ : Unit) e a w => e = .ret ∧ Env a 43 [(2, .int .i64 0), (3, .bool false)] ∧ St c w [] [gTab 3 pow10C, gNum 0, gErr 1, gErr 2] [] []) (fun (ss_ : Int) e a w => e = (.exit 0) ∧ Env a 43 [(0, str s), (4, .int .i64 ss_)] ∧ St c w [] [gTab 3 pow10C, gNum 0, gErr 1, gErr 2] [] []) : (Sum Unit Int) → Exit → Act → World → Prop) ho1 ?_ ?_ ?_
      · exact fun a w hE hS => ⟨hE.sub ⟨rfl, rfl, rfl, trivial⟩, (hS.take 0).facts _ _ [] (consItem (mem_at 0 rfl) (consItem (mem_at 1 rfl) (consItem (mem_at 2 rfl) (consItem (mem_at 3 rfl) noItem)))) noItem noItem⟩
      · intro s2 o3 h a w hA
        obtain ⟨hE, hS⟩ := hA
        unfold spec_l01Digits_L1 at h
        refine g_enter hE hS ?_
        refine g_seq ?_
        refine g_seq ?_
        refine g_region ?_
        refine gl_batch 2 [(15, str s), (14, .int .i64 s2.2)] rfl ?_
        refine gl_slen (s := s) rfl Ft9 rfl rfl ?_
        refine gl_batch 1 [(17, .bool (decide (s2.2 < (List.length s : Int))))] rfl ?_
        refine gl_nil ?_
        refine gx_seq ?_
        refine g_cond (b := decide (s2.2 < (List.length s : Int))) rfl (fun hc => ?_) (fun hc => ?_)
        · replace h := condT hc h
          refine g_skip ?_
          refine gx_seq ?_
          refine g_seq ?_
          refine g_block ?_
          refine g_seq ?_
          refine g_seq ?_
          refine g_region ?_
          refine gl_batch 2 [(21, .int .i64 s2.2), (20, str s)] rfl ?_
          obtain ⟨y4, hy4, h⟩ := bindS h
          refine gl_sidx (k := .i64) rfl rfl Ft9 hy4 rfl rfl ?_
          refine gl_batch 2 [(24, .bool (decide ((y4.toNat : Int) < 48))), (23, .bool (decide ((y4.toNat : Int) < 48)))] rfl ?_
          obtain ⟨q5, hq5, h⟩ := bindS h
          refine gl_join (EE := [(29, .bool q5), (0, str s), (4, .int .i64 s2.1), (5, .int .i64 s2.2)]) (RR := []) (XX := [gTab 3 pow10C, gNum 0, gErr 1, gErr 2]) (OO := []) (VV := []) 5 ?_ ?_
          · replace h := hq5
            refine gl_case 24 rfl (fun hc => ?_) (fun hc => ?_)
            · replace h := condT hc h
              refine gl_batch 5 [(29, .bool true), (28, undef), (27, undef), (26, undef), (25, undef)] rfl ?_
              refine gl_nil ?_
              obtain rfl := Option.some.inj h
              exact gx_mid ⟨rfl, rfl, rfl, rfl, trivial⟩ (fun w hS => hS)
            · replace h := condF hc h
              refine gl_batch 2 [(26, .int .i64 s2.2), (25, str s)] rfl ?_
              obtain ⟨y6, hy6, h⟩ := bindS h
              refine gl_sidx (k := .i64) rfl rfl Ft9 hy6 rfl rfl ?_
              refine gl_batch 2 [(29, .bool (decide ((y6.toNat : Int) > 57))), (28, .bool (decide ((y6.toNat : Int) > 57)))] rfl ?_
              refine gl_nil ?_
              obtain rfl := Option.some.inj h
              exact gx_mid ⟨rfl, rfl, rfl, rfl, trivial⟩ (fun w hS => hS)
          · skip
            refine gl_nil ?_
            refine gx_seq ?_
            refine g_cond (b := q5) rfl (fun hc => ?_) (fun hc => ?_)
            · replace h := condT hc h
              refine g_seq ?_
              refine g_region ?_
              refine gl_batch 2 [(3, .bool false), (2, .int .i64 0)] rfl ?_
              refine gl_nil ?_
              refine gx_seq ?_
              refine g_ret ?_
              refine gx_seq_ret ?_
              refine gx_blk_ret ?_
              refine gx_seq_ret ?_
              obtain rfl := Option.some.inj h
              exact gx_of (fun a w hE hS => lp_out nofun (inL ⟨rfl, hE.sub ⟨rfl, rfl, trivial⟩, (hS.take 0).facts _ _ [] (consItem (mem_at 0 rfl) (consItem (mem_at 1 rfl) (consItem (mem_at 2 rfl) (consItem (mem_at 3 rfl) noItem)))) noItem noItem⟩))
            · replace h := condF hc h
              refine g_skip ?_
              refine gx_seq ?_
              refine g_region ?_
              refine gl_batch 4 [(33, .int .i64 s2.2), (32, str s), (31, .int .i64 (IntKind.i64.wrap (10 * s2.1))), (30, .int .i64 s2.1)] rfl ?_
              obtain ⟨y7, hy7, h⟩ := bindS h
              refine gl_sidx (k := .i64) rfl rfl Ft9 hy7 rfl rfl ?_
              refine gl_batch 1 [(35, .int .u8 (IntKind.u8.wrap ((y7.toNat : Int) - 48)))] rfl ?_
              refine gl_run (v := .int .i64 (IntKind.i64.wrap (IntKind.u8.wrap ((y7.toNat : Int) - 48)))) rfl rfl rfl (fun w => by kernel_rfl) ?_
              obtain ⟨n_v8, hn_v8, h⟩ := letS h
              refine gl_batch 2 [(4, .int .i64 n_v8), (37, .int .i64 (IntKind.i64.wrap ((IntKind.i64.wrap (10 * s2.1)) + (IntKind.i64.wrap (IntKind.u8.wrap ((y7.toNat : Int) - 48))))))] (by subst hn_v8; rfl) ?_
              refine gl_nil ?_
              refine gx_blk ?_
              refine gx_seq ?_
              refine g_region ?_
              refine gl_batch 3 [(5, .int .i64 (IntKind.i64.wrap (s2.2 + 1))), (19, .int .i64 (IntKind.i64.wrap (s2.2 + 1))), (18, .int .i64 s2.2)] rfl ?_
              refine gl_nil ?_
              obtain rfl := Option.some.inj h
              exact gx_of (fun a w hE hS => lp_in ⟨hE.sub ⟨rfl, rfl, rfl, trivial⟩, (hS.take 0).facts _ _ [] (consItem (mem_at 0 rfl) (consItem (mem_at 1 rfl) (consItem (mem_at 2 rfl) (consItem (mem_at 3 rfl) noItem)))) noItem noItem⟩)
        · replace h := condF hc h
          refine g_exit ?_
          refine gx_seq_exit ?_
          obtain rfl := Option.some.inj h
          exact gx_of (fun a w hE hS => lp_out nofun (inR ⟨rfl, hE.sub ⟨rfl, rfl, trivial⟩, (hS.take 0).facts _ _ [] (consItem (mem_at 0 rfl) (consItem (mem_at 1 rfl) (consItem (mem_at 2 rfl) (consItem (mem_at 3 rfl) noItem)))) noItem noItem⟩))
      · intro e a w hm
        rcases o1 with s9 | s10
        · replace h := elimL h
          obtain ⟨rfl, hE, hS⟩ := hm
          refine gx_to hE hS ?_
          refine gx_blk_ret ?_
          refine gx_seq_ret ?_
          obtain rfl := Option.some.inj h
          exact gx_fin rfl [.int .i64 0, .bool false] _ _ [] ⟨_, _, rfl, rfl, _, _, rfl, rfl, rfl⟩ rfl ⟨rfl, rfl, rfl⟩ (fun w hS => (hS.take 0).facts [] [] [] noItem noItem noItem) (Or.inl rfl)
        · replace h := elimR h
          obtain ⟨rfl, hE, hS⟩ := hm
          refine gx_to hE hS ?_
          refine gx_blk_hit ?_
          refine gx_seq ?_
          refine g_seq ?_
          refine g_region ?_
          refine gl_batch 2 [(39, .int .i64 s10), (38, .int .i64 s10)] rfl ?_
          obtain ⟨o11, ho11, h⟩ := bindS h
          refine gl_call rfl rfl (fun w => by kernel_rfl) (c_spec_l01Dec s10 ho11) (consItem (mem_at 0 rfl) (consItem (mem_at 1 rfl) (consItem (mem_at 2 rfl) (consItem (mem_at 3 rfl) noItem)))) noItem ?_
          rintro v outs ros ⟨rfl, rfl, rfl⟩
          refine ⟨_, rfl, ?_⟩
          refine gl_batch 1 [(41, str s)] rfl ?_
          refine gl_seq (s := o11) (u := s) rfl rfl rfl rfl ?_
          refine gl_batch 2 [(3, .bool (o11 == s)), (2, .int .i64 s10)] rfl ?_
          refine gl_nil ?_
          refine gx_seq ?_
          refine g_ret ?_
          obtain rfl := Option.some.inj h
          exact gx_fin rfl [.int .i64 s10, .bool (o11 == s)] _ _ [] ⟨_, _, rfl, rfl, _, _, rfl, rfl, rfl⟩ rfl ⟨rfl, rfl, rfl⟩ (fun w hS => (hS.take 0).facts [] [] [] noItem noItem noItem) (Or.inl rfl)

theorem c_spec_l01Signed (s : List UInt8)  {r : Int × Bool} (h : spec_l01Signed s = some r) : CallOK Tryd.prog 107 [str s] [] [gTab 3 pow10C, gNum 0, gErr 1, gErr 2] [] (fun v outs ros => v = .tuple #[.int .i64 r.1, .bool r.2] ∧ outs = [] ∧ ros = []) := by
  refine fn_ok Tryd.func107 rfl Tryd.ntmps107 rfl (fun c hF0 => ?_)
  unfold spec_l01Signed at h
  refine g_seq ?_
  refine g_region ?_
  refine gl_batch 2 [(3, .bool false), (2, .int .i64 0)] rfl ?_
  refine gl_nil ?_
  refine gx_seq ?_
  refine g_seq ?_
  refine g_seq ?_
  refine g_region ?_
  refine gl_batch 1 [(6, str s)] rfl ?_
  refine gl_slen (s := s) rfl Ft9 rfl rfl ?_
  refine gl_batch 2 [(9, .bool (decide ((List.length s : Int) > 0))), (8, .bool (decide ((List.length s : Int) > 0)))] rfl ?_
  obtain ⟨q1, hq1, h⟩ := bindS h
  refine gl_join (EE := [(13, .bool q1), (0, str s)]) (RR := []) (XX := [gTab 3 pow10C, gNum 0, gErr 1, gErr 2]) (OO := []) (VV := []) 4 ?_ ?_
  · replace h := hq1
    refine gl_case 9 rfl (fun hc => ?_) (fun hc => ?_)
    · replace h := condT hc h
      refine gl_batch 1 [(10, str s)] rfl ?_
      obtain ⟨y2, hy2, h⟩ := bindS h
      refine gl_sidx (k := .i64) rfl rfl Ft9 hy2 rfl rfl ?_
      refine gl_batch 2 [(13, .bool ((y2.toNat : Int) == 45)), (12, .bool ((y2.toNat : Int) == 45))] rfl ?_
      refine gl_nil ?_
      obtain rfl := Option.some.inj h
      exact gx_mid ⟨rfl, rfl, trivial⟩ (fun w hS => hS)
    · replace h := condF hc h
      refine gl_batch 4 [(13, .bool false), (12, undef), (11, undef), (10, undef)] rfl ?_
      refine gl_nil ?_
      obtain rfl := Option.some.inj h
      exact gx_mid ⟨rfl, rfl, trivial⟩ (fun w hS => hS)
  · skip
    refine gl_nil ?_
    refine gx_seq ?_
    refine g_cond (b := q1) rfl (fun hc => ?_) (fun hc => ?_)
    · replace h := condT hc h
      refine g_seq ?_
      refine g_region ?_
      refine gl_batch 1 [(15, str s)] rfl ?_
      obtain ⟨z3, hz3, h⟩ := bindS h
      refine gl_ssub (i := 1) (j := (List.length s : Int)) (k := .i64) (k2 := .i64) rfl rfl rfl Ft9 hz3 rfl rfl ?_
      obtain ⟨o4, ho4, h⟩ := bindS h
      refine gl_call rfl rfl (fun w => by kernel_rfl) (c_spec_l01Digits z3 ho4) (consItem (mem_at 0 rfl) (consItem (mem_at 1 rfl) (consItem (mem_at 2 rfl) (consItem (mem_at 3 rfl) noItem)))) noItem ?_
      rintro v outs ros ⟨rfl, rfl, rfl⟩
      refine ⟨_, rfl, ?_⟩
      refine gl_batch 5 [(5, .bool o4.2), (4, .int .i64 o4.1), (19, .bool o4.2), (18, .int .i64 o4.1), (14, .tuple #[.int .i64 o4.1, .bool o4.2])] rfl ?_
      refine gl_nil ?_
      refine gx_seq ?_
      refine g_seq ?_
      refine g_region ?_
      refine gl_batch 4 [(23, .bool o4.2), (22, .bool o4.2), (21, .int .i64 (IntKind.i64.wrap (0 - o4.1))), (20, .int .i64 o4.1)] rfl ?_
      refine gl_join (EE := [(26, .bool (o4.2 && (decide (o4.1 > 0)))), (21, .int .i64 (IntKind.i64.wrap (0 - o4.1)))]) (RR := []) (XX := [gTab 3 pow10C, gNum 0, gErr 1, gErr 2]) (OO := []) (VV := []) 3 ?_ ?_
      · skip
        refine gl_case 23 rfl (fun hc => ?_) (fun hc => ?_)
        · skip
          refine gl_batch 3 [(26, .bool (decide (o4.1 > 0))), (25, .bool (decide (o4.1 > 0))), (24, .int .i64 o4.1)] rfl ?_
          refine gl_nil ?_
          exact gx_mid ⟨congrArg (fun z => some (Value.bool z)) (and_t hc).symm, rfl, trivial⟩ (fun w hS => hS)
        · skip
          refine gl_batch 3 [(26, .bool false), (25, undef), (24, undef)] rfl ?_
          refine gl_nil ?_
          exact gx_mid ⟨congrArg (fun z => some (Value.bool z)) (and_f hc).symm, rfl, trivial⟩ (fun w hS => hS)
      · skip
        refine gl_batch 2 [(3, .bool (o4.2 && (decide (o4.1 > 0)))), (2, .int .i64 (IntKind.i64.wrap (0 - o4.1)))] rfl ?_
        refine gl_nil ?_
        refine gx_seq ?_
        refine g_ret ?_
        refine gx_seq_ret ?_
        obtain rfl := Option.some.inj h
        exact gx_fin rfl [.int .i64 (IntKind.i64.wrap (0 - o4.1)), .bool (o4.2 && (decide (o4.1 > 0)))] _ _ [] ⟨_, _, rfl, rfl, _, _, rfl, rfl, rfl⟩ rfl ⟨rfl, rfl, rfl⟩ (fun w hS => (hS.take 0).facts [] [] [] noItem noItem noItem) (Or.inl rfl)
    · replace h := condF hc h
      refine g_skip ?_
      refine gx_seq ?_
      refine g_seq ?_
      refine g_region ?_
      refine gl_batch 1 [(27, str s)] rfl ?_
      obtain ⟨o5, ho5, h⟩ := bindS h
      refine gl_call rfl rfl (fun w => by kernel_rfl) (c_spec_l01Digits s ho5) (consItem (mem_at 0 rfl) (consItem (mem_at 1 rfl) (consItem (mem_at 2 rfl) (consItem (mem_at 3 rfl) noItem)))) noItem ?_
      rintro v outs ros ⟨rfl, rfl, rfl⟩
      refine ⟨_, rfl, ?_⟩
      refine gl_batch 4 [(3, .bool o5.2), (2, .int .i64 o5.1), (30, .bool o5.2), (29, .int .i64 o5.1)] rfl ?_
      refine gl_nil ?_
      refine gx_seq ?_
      refine g_ret ?_
      obtain rfl := Option.some.inj h
      exact gx_fin rfl [.int .i64 o5.1, .bool o5.2] _ _ [] ⟨_, _, rfl, rfl, _, _, rfl, rfl, rfl⟩ rfl ⟨rfl, rfl, rfl⟩ (fun w hS => (hS.take 0).facts [] [] [] noItem noItem noItem) (Or.inl rfl)

theorem c_spec_l28Writable (f : Firing)  {r : Bool} (h : spec_l28Writable f = r) : CallOK Tryd.prog 61 [.agg #[.int .i64 f.Event, .int .i64 f.Number, .int .i64 f.Time]] [] [gTab 3 pow10C, gNum 0, gErr 1, gErr 2] [] (fun v outs ros => v = .bool r ∧ outs = [] ∧ ros = []) := by
  refine fn_ok Tryd.func61 rfl Tryd.ntmps61 rfl (fun c hF0 => ?_)
  unfold spec_l28Writable at h
  refine g_seq ?_
  refine g_region ?_
  refine gl_new (d := 1) (T := 47) [.int .i64 f.Event, .int .i64 f.Number, .int .i64 f.Time] rfl rfl (fun _ => rfl) (fun w => by kernel_rfl) ?_
  intro b1
  refine gl_batch 1 [(2, .bool false)] rfl ?_
  refine gl_nil ?_
  refine gx_seq ?_
  refine g_seq ?_
  refine g_region ?_
  refine gl_run (v := .pointer (some ⟨b1, 0, none⟩)) rfl rfl rfl (fun w => by kernel_rfl) ?_
  refine gl_ld1 0 hasBK (mem_at 0 rfl) rfl rfl Fo2 rfl rfl rfl ?_
  refine gl_call rfl rfl (fun w => by kernel_rfl) (c_spec_l01In f.Event 0 9 rfl) (consItem (mem_at 0 rfl) (consItem (mem_at 1 rfl) (consItem (mem_at 2 rfl) (consItem (mem_at 3 rfl) noItem)))) noItem ?_
  rintro v outs ros ⟨rfl, rfl, rfl⟩
  refine ⟨_, rfl, ?_⟩
  refine gl_batch 1 [(6, .bool (spec_l01In f.Event 0 9))] rfl ?_
  refine gl_join (EE := [(10, .bool ((spec_l01In f.Event 0 9) && (spec_l01In f.Time 0 1000000)))]) (RR := [BK 47 b1 [.int .i64 f.Event, .int .i64 f.Number, .int .i64 f.Time]]) (XX := [gTab 3 pow10C, gNum 0, gErr 1, gErr 2]) (OO := []) (VV := []) 4 ?_ ?_
  · skip
    refine gl_case 6 rfl (fun hc => ?_) (fun hc => ?_)
    · skip
      refine gl_run (v := .pointer (some ⟨b1, 2, none⟩)) rfl rfl rfl (fun w => by kernel_rfl) ?_
      refine gl_ld1 2 hasBK (mem_at 0 rfl) rfl rfl Fo2 rfl rfl rfl ?_
      refine gl_call rfl rfl (fun w => by kernel_rfl) (c_spec_l01In f.Time 0 1000000 rfl) (consItem (mem_at 0 rfl) (consItem (mem_at 1 rfl) (consItem (mem_at 2 rfl) (consItem (mem_at 3 rfl) noItem)))) noItem ?_
      rintro v outs ros ⟨rfl, rfl, rfl⟩
      refine ⟨_, rfl, ?_⟩
      refine gl_batch 1 [(10, .bool (spec_l01In f.Time 0 1000000))] rfl ?_
      refine gl_nil ?_
      exact gx_mid ⟨congrArg (fun z => some (Value.bool z)) (and_t hc).symm, trivial⟩ (fun w hS => hS)
    · skip
      refine gl_batch 4 [(10, .bool false), (9, undef), (8, undef), (7, undef)] rfl ?_
      refine gl_nil ?_
      exact gx_mid ⟨congrArg (fun z => some (Value.bool z)) (and_f hc).symm, trivial⟩ (fun w hS => hS)
  · skip
    refine gl_batch 1 [(2, .bool ((spec_l01In f.Event 0 9) && (spec_l01In f.Time 0 1000000)))] rfl ?_
    refine gl_nil ?_
    refine gx_seq ?_
    refine g_ret ?_
    subst h
    exact gx_fin rfl [.bool ((spec_l01In f.Event 0 9) && (spec_l01In f.Time 0 1000000))] _ _ [] ⟨_, _, rfl, rfl, rfl⟩ rfl ⟨rfl, rfl, rfl⟩ (fun w hS => (hS.take 0).facts [] [] [] noItem noItem noItem) (Or.inl rfl)

theorem c_impl_decimal (n_v : Int)  {r : List UInt8} (h : impl_decimal n_v = some r) : CallOK Tryd.prog 73 [.int .i64 n_v] [] [gTab 3 pow10C, gNum 0, gErr 1, gErr 2] [] (fun v outs ros => v = str r ∧ outs = [] ∧ ros = []) := by
  refine fn_ok Tryd.func73 rfl Tryd.ntmps73 rfl (fun c hF0 => ?_)
  unfold impl_decimal at h
  refine g_seq ?_
  refine g_region ?_
  refine gl_batch 1 [(2, str [])] rfl ?_
  refine gl_nil ?_
  refine gx_seq ?_
  refine g_seq ?_
  refine g_region ?_
  refine gl_batch 1 [(3, .int .i64 n_v)] rfl ?_
  obtain ⟨o1, ho1, h⟩ := bindS h
  refine gl_call rfl rfl (fun w => by kernel_rfl) (c_strconv_FormatInt n_v 10 ho1) (consItem (mem_at 0 rfl) (consItem (mem_at 1 rfl) (consItem (mem_at 2 rfl) (consItem (mem_at 3 rfl) noItem)))) noItem ?_
  rintro v outs ros ⟨rfl, rfl, rfl⟩
  refine ⟨_, rfl, ?_⟩
  refine gl_batch 1 [(2, str o1)] rfl ?_
  refine gl_nil ?_
  refine gx_seq ?_
  refine g_ret ?_
  obtain rfl := Option.some.inj h
  exact gx_fin rfl [str o1] _ _ [] ⟨_, _, rfl, rfl, rfl⟩ rfl ⟨rfl, rfl, rfl⟩ (fun w hS => (hS.take 0).facts [] [] [] noItem noItem noItem) (Or.inl rfl)

theorem c_impl_readNumber (s : List UInt8)  {r : Int × Bool} (h : impl_readNumber s = some r) : CallOK Tryd.prog 53 [str s] [] [gTab 3 pow10C, gNum 0, gErr 1, gErr 2] [] (fun v outs ros => v = .tuple #[.int .i64 r.1, .bool r.2] ∧ outs = [] ∧ ros = []) := by
  refine fn_ok Tryd.func53 rfl Tryd.ntmps53 rfl (fun c hF0 => ?_)
  unfold impl_readNumber at h
  refine g_seq ?_
  refine g_region ?_
  refine gl_batch 2 [(3, .bool false), (2, .int .i64 0)] rfl ?_
  refine gl_nil ?_
  refine gx_seq ?_
  refine g_seq ?_
  refine g_region ?_
  refine gl_batch 1 [(7, str s)] rfl ?_
  obtain ⟨o1, ho1, h⟩ := bindS h
  refine gl_call rfl rfl (fun w => by kernel_rfl) (c_strconv_ParseInt s 10 64 ho1) (consItem (mem_at 0 rfl) (consItem (mem_at 1 rfl) (consItem (mem_at 2 rfl) (consItem (mem_at 3 rfl) noItem)))) noItem ?_
  rintro v outs ros ⟨ev2, hev2, rfl, rfl, rfl⟩
  refine ⟨_, rfl, ?_⟩
  refine gl_batch 5 [(5, ev2), (4, .int .i64 o1.1), (10, ev2), (9, .int .i64 o1.1), (6, .tuple #[.int .i64 o1.1, ev2])] rfl ?_
  refine gl_nil ?_
  refine gx_seq ?_
  refine g_seq ?_
  refine g_seq ?_
  refine g_region ?_
  refine gl_batch 1 [(11, ev2)] rfl ?_
  refine gl_ene rfl hev2 (by kernel_rfl) rfl rfl ?_
  refine gl_batch 1 [(13, .bool o1.2)] rfl ?_
  obtain ⟨q3, hq3, h⟩ := bindS h
  refine gl_join (EE := [(18, .bool q3), (4, .int .i64 o1.1)]) (RR := []) (XX := [gTab 3 pow10C, gNum 0, gErr 1, gErr 2]) (OO := []) (VV := []) 5 ?_ ?_
  · replace h := hq3
    refine gl_case 13 rfl (fun hc => ?_) (fun hc => ?_)
    · replace h := condT hc h
      refine gl_batch 5 [(18, .bool true), (17, undef), (16, undef), (15, undef), (14, undef)] rfl ?_
      refine gl_nil ?_
      obtain rfl := Option.some.inj h
      exact gx_mid ⟨rfl, rfl, trivial⟩ (fun w hS => hS)
    · replace h := condF hc h
      refine gl_batch 1 [(14, .int .i64 o1.1)] rfl ?_
      obtain ⟨o4, ho4, h⟩ := bindS h
      refine gl_call rfl rfl (fun w => by kernel_rfl) (c_impl_decimal o1.1 ho4) (consItem (mem_at 0 rfl) (consItem (mem_at 1 rfl) (consItem (mem_at 2 rfl) (consItem (mem_at 3 rfl) noItem)))) noItem ?_
      rintro v outs ros ⟨rfl, rfl, rfl⟩
      refine ⟨_, rfl, ?_⟩
      refine gl_batch 1 [(16, str s)] rfl ?_
      refine gl_sne (s := o4) (u := s) rfl rfl rfl rfl ?_
      refine gl_batch 1 [(18, .bool (!(o4 == s)))] rfl ?_
      refine gl_nil ?_
      obtain rfl := Option.some.inj h
      exact gx_mid ⟨rfl, rfl, trivial⟩ (fun w hS => hS)
  · skip
    refine gl_nil ?_
    refine gx_seq ?_
    refine g_cond (b := q3) rfl (fun hc => ?_) (fun hc => ?_)
    · replace h := condT hc h
      refine g_seq ?_
      refine g_region ?_
      refine gl_batch 2 [(3, .bool false), (2, .int .i64 0)] rfl ?_
      refine gl_nil ?_
      refine gx_seq ?_
      refine g_ret ?_
      refine gx_seq_ret ?_
      obtain rfl := Option.some.inj h
      exact gx_fin rfl [.int .i64 0, .bool false] _ _ [] ⟨_, _, rfl, rfl, _, _, rfl, rfl, rfl⟩ rfl ⟨rfl, rfl, rfl⟩ (fun w hS => (hS.take 0).facts [] [] [] noItem noItem noItem) (Or.inl rfl)
    · replace h := condF hc h
      refine g_skip ?_
      refine gx_seq ?_
      refine g_seq ?_
      refine g_region ?_
      refine gl_batch 3 [(3, .bool true), (2, .int .i64 o1.1), (19, .int .i64 o1.1)] rfl ?_
      refine gl_nil ?_
      refine gx_seq ?_
      refine g_ret ?_
      obtain rfl := Option.some.inj h
      exact gx_fin rfl [.int .i64 o1.1, .bool true] _ _ [] ⟨_, _, rfl, rfl, _, _, rfl, rfl, rfl⟩ rfl ⟨rfl, rfl, rfl⟩ (fun w hS => (hS.take 0).facts [] [] [] noItem noItem noItem) (Or.inl rfl)

theorem c_impl_isWritable_c1 (f : Firing)  {r : Bool} (h : impl_isWritable_c1 f = r) : CallOK Tryd.prog 85 [.agg #[.int .i64 f.Event, .int .i64 f.Number, .int .i64 f.Time]] [] [gTab 3 pow10C, gNum 0, gErr 1, gErr 2] [] (fun v outs ros => v = .bool r ∧ outs = [] ∧ ros = []) := by
  refine fn_ok Tryd.func85 rfl Tryd.ntmps85 rfl (fun c hF0 => ?_)
  unfold impl_isWritable_c1 at h
  refine g_seq ?_
  refine g_region ?_
  refine gl_new (d := 1) (T := 47) [.int .i64 f.Event, .int .i64 f.Number, .int .i64 f.Time] rfl rfl (fun _ => rfl) (fun w => by kernel_rfl) ?_
  intro b1
  refine gl_batch 1 [(2, .bool false)] rfl ?_
  refine gl_nil ?_
  refine gx_seq ?_
  refine g_seq ?_
  refine g_region ?_
  refine gl_run (v := .pointer (some ⟨b1, 0, none⟩)) rfl rfl rfl (fun w => by kernel_rfl) ?_
  refine gl_ld1 0 hasBK (mem_at 0 rfl) rfl rfl Fo2 rfl rfl rfl ?_
  refine gl_call rfl rfl (fun w => by kernel_rfl) (c_impl_within f.Event 0 9 rfl) (consItem (mem_at 0 rfl) (consItem (mem_at 1 rfl) (consItem (mem_at 2 rfl) (consItem (mem_at 3 rfl) noItem)))) noItem ?_
  rintro v outs ros ⟨rfl, rfl, rfl⟩
  refine ⟨_, rfl, ?_⟩
  refine gl_batch 2 [(7, .bool (!(impl_within f.Event 0 9))), (6, .bool (!(impl_within f.Event 0 9)))] rfl ?_
  refine gl_join (EE := [(12, .bool ((!(impl_within f.Event 0 9)) || (!(impl_within f.Time 0 1000000))))]) (RR := [BK 47 b1 [.int .i64 f.Event, .int .i64 f.Number, .int .i64 f.Time]]) (XX := [gTab 3 pow10C, gNum 0, gErr 1, gErr 2]) (OO := []) (VV := []) 5 ?_ ?_
  · skip
    refine gl_case 7 rfl (fun hc => ?_) (fun hc => ?_)
    · skip
      refine gl_batch 5 [(12, .bool true), (11, undef), (10, undef), (9, undef), (8, undef)] rfl ?_
      refine gl_nil ?_
      exact gx_mid ⟨congrArg (fun z => some (Value.bool z)) (or_t hc).symm, trivial⟩ (fun w hS => hS)
    · skip
      refine gl_run (v := .pointer (some ⟨b1, 2, none⟩)) rfl rfl rfl (fun w => by kernel_rfl) ?_
      refine gl_ld1 2 hasBK (mem_at 0 rfl) rfl rfl Fo2 rfl rfl rfl ?_
      refine gl_call rfl rfl (fun w => by kernel_rfl) (c_impl_within f.Time 0 1000000 rfl) (consItem (mem_at 0 rfl) (consItem (mem_at 1 rfl) (consItem (mem_at 2 rfl) (consItem (mem_at 3 rfl) noItem)))) noItem ?_
      rintro v outs ros ⟨rfl, rfl, rfl⟩
      refine ⟨_, rfl, ?_⟩
      refine gl_batch 2 [(12, .bool (!(impl_within f.Time 0 1000000))), (11, .bool (!(impl_within f.Time 0 1000000)))] rfl ?_
      refine gl_nil ?_
      exact gx_mid ⟨congrArg (fun z => some (Value.bool z)) (or_f hc).symm, trivial⟩ (fun w hS => hS)
  · skip
    refine gl_batch 1 [(2, .bool ((!(impl_within f.Event 0 9)) || (!(impl_within f.Time 0 1000000))))] rfl ?_
    refine gl_nil ?_
    refine gx_seq ?_
    refine g_ret ?_
    subst h
    exact gx_fin rfl [.bool ((!(impl_within f.Event 0 9)) || (!(impl_within f.Time 0 1000000)))] _ _ [] ⟨_, _, rfl, rfl, rfl⟩ rfl ⟨rfl, rfl, rfl⟩ (fun w hS => (hS.take 0).facts [] [] [] noItem noItem noItem) (Or.inl rfl)

theorem c_slices_IndexFunc_Firing_isWritable_c1 (s : List Firing) (a_s : Option Addr) (c_s : Nat) {r : Int} (h : slices_IndexFunc_Firing_isWritable_c1 s = some r) : CallOK Tryd.prog 105 [.slice a_s (List.length s) c_s, .func (.func 85) #[] #[]] [] [gTab 3 pow10C, gNum 0, gErr 1, gErr 2] [SL false 47 FiringS a_s c_s s] (fun v outs ros => v = .int .i64 r ∧ outs = [] ∧ ros = []) := by
  refine fn_ok Tryd.func105 rfl Tryd.ntmps105 rfl (fun c hF0 => ?_)
  unfold slices_IndexFunc_Firing_isWritable_c1 at h
  refine g_seq ?_
  refine g_region ?_
  refine gl_batch 1 [(4, .int .i64 0)] rfl ?_
  refine gl_nil ?_
  refine gx_seq ?_
  refine g_seq ?_
  refine g_seq ?_
  refine g_region ?_
  refine gl_batch 1 [(6, .slice a_s (List.length s) c_s)] rfl ?_
  refine gl_len rfl Fs26 rfl rfl ?_
  refine gl_batch 1 [(8, .int .i64 0)] rfl ?_
  refine gl_nil ?_
  refine gx_seq ?_
  refine g_block ?_
  obtain ⟨o1, ho1, h⟩ := bindS h
  refine g_loop (slices_IndexFunc_Firing_isWritable_c1_L1 s) (fun (ss_ : Int) a w => Env a 19 [(0, .slice a_s (List.length s) c_s), (1, .func (.func 85) #[] #[]), (7, .int .i64 (List.length s : Int)), (8, .int .i64 ss_)] ∧ St c w [] [gTab 3 pow10C, gNum 0, gErr 1, gErr 2] [SL false 47 FiringS a_s c_s s] []) (Sum.elim (fun (ss_ : Int) e a w => e = .ret ∧ Env a 19 [(4, .int .i64 ss_)] ∧ St c w [] [gTab 3 pow10C, gNum 0, gErr 1, gErr 2] [SL false 47 FiringS a_s c_s s] []) (fun (ss_ : Unit) e a w => e = (.exit 0) ∧ Env a 19 [] ∧ St c w [] [gTab 3 pow10C, gNum 0, gErr 1, gErr 2] [SL false 47 FiringS a_s c_s s] []) : (Sum Int Unit) → Exit → Act → World → Prop) ho1 ?_ ?_ ?_
  · exact fun a w hE hS => ⟨hE.sub ⟨rfl, rfl, rfl, rfl, trivial⟩, (hS.take 0).facts _ _ [] (consItem (mem_at 0 rfl) (consItem (mem_at 1 rfl) (consItem (mem_at 2 rfl) (consItem (mem_at 3 rfl) noItem)))) (consItem (mem_at 0 rfl) noItem) noItem⟩
  · intro s2 o3 h a w hA
    obtain ⟨hE, hS⟩ := hA
    unfold slices_IndexFunc_Firing_isWritable_c1_L1 at h
    refine g_enter hE hS ?_
    refine g_seq ?_
    refine g_region ?_
    refine gl_batch 1 [(9, .bool (decide (s2 < (List.length s : Int))))] rfl ?_
    refine gl_nil ?_
    refine gx_seq ?_
    refine g_seq ?_
    refine g_cond (b := decide (s2 < (List.length s : Int))) rfl (fun hc => ?_) (fun hc => ?_)
    · replace h := condT hc h
      refine g_skip ?_
      refine gx_seq ?_
      refine g_seq ?_
      refine g_block ?_
      refine g_seq ?_
      refine g_region ?_
      refine gl_batch 2 [(5, .int .i64 s2), (10, .int .i64 s2)] rfl ?_
      refine gl_nil ?_
      refine gx_seq ?_
      refine g_seq ?_
      refine g_region ?_
      refine gl_batch 3 [(13, .int .i64 s2), (12, .slice a_s (List.length s) c_s), (11, .func (.func 85) #[] #[])] rfl ?_
      obtain ⟨x4, hx4, h⟩ := bindS h
      refine gl_idxOn (k := .i64) (mem_at 0 rfl) rfl rfl Fs26 Fz47 hx4 rfl rfl ?_
      intro p5
      refine gl_ldA (vs := [.int .i64 x4.Event, .int .i64 x4.Number, .int .i64 x4.Time]) 0 hasAT (mem_at 0 rfl) rfl rfl Fm47 Fz47 rfl rfl rfl ?_
      refine gl_call rfl rfl (fun w => by kernel_rfl) (c_impl_isWritable_c1 x4 rfl) (consItem (mem_at 0 rfl) (consItem (mem_at 1 rfl) (consItem (mem_at 2 rfl) (consItem (mem_at 3 rfl) noItem)))) noItem ?_
      rintro v outs ros ⟨rfl, rfl, rfl⟩
      refine ⟨_, rfl, ?_⟩
      refine gl_nil ?_
      refine gx_seq ?_
      refine g_cond (b := (impl_isWritable_c1 x4)) rfl (fun hc => ?_) (fun hc => ?_)
      · replace h := condT hc h
        refine g_seq ?_
        refine g_region ?_
        refine gl_batch 2 [(4, .int .i64 s2), (17, .int .i64 s2)] rfl ?_
        refine gl_nil ?_
        refine gx_seq ?_
        refine g_ret ?_
        refine gx_blk_ret ?_
        refine gx_seq_ret ?_
        obtain rfl := Option.some.inj h
        exact gx_of (fun a w hE hS => lp_out nofun (inL ⟨rfl, hE.sub ⟨rfl, trivial⟩, (hS.take 0).facts _ _ [] (consItem (mem_at 0 rfl) (consItem (mem_at 1 rfl) (consItem (mem_at 2 rfl) (consItem (mem_at 3 rfl) noItem)))) (consItem (mem_at 1 rfl) noItem) noItem⟩))
      · replace h := condF hc h
        refine g_skip ?_
        refine gx_blk ?_
        refine gx_seq ?_
        refine g_region ?_
        refine gl_batch 2 [(8, .int .i64 (IntKind.i64.wrap (s2 + 1))), (18, .int .i64 (IntKind.i64.wrap (s2 + 1)))] rfl ?_
        refine gl_nil ?_
        obtain rfl := Option.some.inj h
        exact gx_of (fun a w hE hS => lp_in ⟨hE.sub ⟨rfl, rfl, rfl, rfl, trivial⟩, (hS.take 0).facts _ _ [] (consItem (mem_at 0 rfl) (consItem (mem_at 1 rfl) (consItem (mem_at 2 rfl) (consItem (mem_at 3 rfl) noItem)))) (consItem (mem_at 1 rfl) noItem) noItem⟩)
    · replace h := condF hc h
      refine g_exit ?_
      refine gx_seq_exit ?_
      obtain rfl := Option.some.inj h
      exact gx_of (fun a w hE hS => lp_out nofun (inR ⟨rfl, hE.sub trivial, (hS.take 0).facts _ _ [] (consItem (mem_at 0 rfl) (consItem (mem_at 1 rfl) (consItem (mem_at 2 rfl) (consItem (mem_at 3 rfl) noItem)))) (consItem (mem_at 0 rfl) noItem) noItem⟩))
  · intro e a w hm
    rcases o1 with s6 | s7
    · replace h := elimL h
      obtain ⟨rfl, hE, hS⟩ := hm
      refine gx_to hE hS ?_
      refine gx_blk_ret ?_
      refine gx_seq_ret ?_
      obtain rfl := Option.some.inj h
      exact gx_fin rfl [.int .i64 s6] _ _ [] ⟨_, _, rfl, rfl, rfl⟩ rfl ⟨rfl, rfl, rfl⟩ (fun w hS => (hS.take 0).facts [] [] [] noItem noItem noItem) (Or.inl rfl)
    · replace h := elimR h
      obtain ⟨rfl, hE, hS⟩ := hm
      refine gx_to hE hS ?_
      refine gx_blk_hit ?_
      refine gx_seq ?_
      refine g_seq ?_
      refine g_region ?_
      refine gl_batch 1 [(4, .int .i64 (-1))] rfl ?_
      refine gl_nil ?_
      refine gx_seq ?_
      refine g_ret ?_
      obtain rfl := Option.some.inj h
      exact gx_fin rfl [.int .i64 (-1)] _ _ [] ⟨_, _, rfl, rfl, rfl⟩ rfl ⟨rfl, rfl, rfl⟩ (fun w hS => (hS.take 0).facts [] [] [] noItem noItem noItem) (Or.inl rfl)

theorem c_impl_traceLine (f : Firing) (chain : Int)  {r : List UInt8 × Int} (h : impl_traceLine f chain = some r) : CallOK Tryd.prog 86 [.agg #[.int .i64 f.Event, .int .i64 f.Number, .int .i64 f.Time], .int .i64 chain] [] [gTab 3 pow10C, gNum 0, gErr 1, gErr 2] [] (fun v outs ros => v = .tuple #[str r.1, .int .i64 r.2] ∧ outs = [] ∧ ros = []) := by
  refine fn_ok Tryd.func86 rfl Tryd.ntmps86 rfl (fun c hF0 => ?_)
  unfold impl_traceLine at h
  refine g_seq ?_
  refine g_region ?_
  refine gl_new (d := 2) (T := 47) [.int .i64 f.Event, .int .i64 f.Number, .int .i64 f.Time] rfl rfl (fun _ => rfl) (fun w => by kernel_rfl) ?_
  intro b1
  refine gl_batch 2 [(5, .int .i64 0), (4, str [])] rfl ?_
  refine gl_nil ?_
  refine gx_seq ?_
  refine g_seq ?_
  refine g_region ?_
  refine gl_batch 2 [(7, .int .i64 (IntKind.i64.wrap (31 * chain))), (6, .int .i64 chain)] rfl ?_
  refine gl_run (v := .pointer (some ⟨b1, 0, none⟩)) rfl rfl rfl (fun w => by kernel_rfl) ?_
  refine gl_ld1 0 hasBK (mem_at 0 rfl) rfl rfl Fo2 rfl rfl rfl ?_
  refine gl_batch 2 [(11, .int .i64 (IntKind.i64.wrap ((IntKind.i64.wrap (31 * chain)) + (IntKind.i64.wrap (7 * f.Event))))), (10, .int .i64 (IntKind.i64.wrap (7 * f.Event)))] rfl ?_
  refine gl_run (v := .pointer (some ⟨b1, 2, none⟩)) rfl rfl rfl (fun w => by kernel_rfl) ?_
  refine gl_ld1 2 hasBK (mem_at 0 rfl) rfl rfl Fo2 rfl rfl rfl ?_
  obtain ⟨chain2, hchain2, h⟩ := letS h
  refine gl_batch 3 [(1, .int .i64 chain2), (15, .int .i64 (Int.tmod (IntKind.i64.wrap ((IntKind.i64.wrap ((IntKind.i64.wrap (31 * chain)) + (IntKind.i64.wrap (7 * f.Event)))) + f.Time)) 9973)), (14, .int .i64 (IntKind.i64.wrap ((IntKind.i64.wrap ((IntKind.i64.wrap (31 * chain)) + (IntKind.i64.wrap (7 * f.Event)))) + f.Time)))] (by subst hchain2; rfl) ?_
  refine gl_nil ?_
  refine gx_seq ?_
  refine g_seq ?_
  obtain ⟨o3, ho3, h⟩ := bindS h
  obtain ⟨z4, hz4, h⟩ := bindS h
  obtain ⟨o5, ho5, h⟩ := bindS h
  obtain ⟨z6, hz6, h⟩ := bindS h
  obtain ⟨z7, hz7, h⟩ := bindS h
  obtain ⟨o8, ho8, h⟩ := bindS h
  obtain ⟨z9, hz9, h⟩ := bindS h
  obtain ⟨z10, hz10, h⟩ := bindS h
  refine g_state (E' := [(1, .int .i64 chain2), (2, .pointer (some ⟨b1, 0, none⟩))]) (Rs' := [] ++ [BK 47 b1 [.int .i64 f.Event, .int .i64 f.Number, .int .i64 f.Time]]) (Xs' := [gTab 3 pow10C, gNum 0, gErr 1, gErr 2]) (Os' := []) (Vs' := []) ⟨rfl, rfl, trivial⟩ (fun w hS => hS) ?_
  refine g_draw (Rs := [BK 47 b1 [.int .i64 f.Event, .int .i64 f.Number, .int .i64 f.Time]]) 16 (dOf [[], [0], [1], [2], [], [4], [5], [3, 6], [7], [], [9], [8, 10], [11], [], [12], [13]]) (spOf [det 0 (.pointer (some ⟨b1, 0, none⟩)), det 1 (.int .i64 f.Event), det 2 (str o3), det 3 (str z4), det 4 (.pointer (some ⟨b1, 2, none⟩)), det 5 (.int .i64 f.Time), det 6 (str o5), det 7 (str z6), det 8 (str z7), det 9 (.int .i64 chain2), det 10 (str o8), det 11 (str z9), det 12 (str z10), det 13 (.int .i64 chain2), det 14 (str z10), det 15 (.int .i64 chain2)]) [] (fun _ _ => []) (eOf [[(2, .pointer (some ⟨b1, 0, none⟩))], [], [], [], [(2, .pointer (some ⟨b1, 0, none⟩))], [], [], [], [], [(1, .int .i64 chain2)], [], [], [], [(1, .int .i64 chain2)], [], []]) mixed rfl (Or.inl rfl) ⟨⟨⟨⟨⟨⟨⟨⟨⟨⟨⟨⟨⟨⟨⟨⟨trivial, ⟨rfl, trivial⟩⟩, trivial⟩, trivial⟩, trivial⟩, ⟨rfl, trivial⟩⟩, trivial⟩, trivial⟩, trivial⟩, trivial⟩, ⟨rfl, trivial⟩⟩, trivial⟩, trivial⟩, trivial⟩, ⟨rfl, trivial⟩⟩, trivial⟩, trivial⟩ rfl ⟨⟨⟨⟨⟨⟨⟨⟨⟨⟨⟨⟨⟨⟨⟨⟨trivial, ?_⟩, ?_⟩, ?_⟩, ?_⟩, ?_⟩, ?_⟩, ?_⟩, ?_⟩, ?_⟩, ?_⟩, ?_⟩, ?_⟩, ?_⟩, ?_⟩, ?_⟩, ?_⟩ ?_
  · intro vals E' R' O' hD
    refine gl_run (v := .pointer (some ⟨b1, 0, none⟩)) rfl rfl rfl (fun w => by kernel_rfl) ?_
    refine gl_nil ?_
    exact gx_fp (.pointer (some ⟨b1, 0, none⟩)) rfl rfl rfl rfl (fun _ h => h.sub (fun _ h => h) (st_oo (A := [])) (fun o ho => by cases ho))
  · intro vals E' R' O' hD
    have h0 : vals 0 = .pointer (some ⟨b1, 0, none⟩) := hD 0 (memN 0 rfl)
    refine gl_convV (E2 := (16, .pointer (some ⟨b1, 0, none⟩)) :: ([] ++ E')) (V2 := [] ++ ([BK 47 b1 [.int .i64 f.Event, .int .i64 f.Number, .int .i64 f.Time]] ++ [])) (by show (16, vals 0) :: ([] ++ E') = _; rw [h0]) (by show [] ++ ([BK 47 b1 [.int .i64 f.Event, .int .i64 f.Number, .int .i64 f.Time]] ++ []) = _; rfl) ?_
    refine gl_ld1 0 hasBK (memV (mem_at 0 rfl)) rfl rfl Fo2 rfl rfl rfl ?_
    refine gl_nil ?_
    exact gx_fp (.int .i64 f.Event) rfl rfl rfl rfl (fun _ h => h.sub (fun _ h => h) (st_oo (A := [])) (fun o ho => by cases ho))
  · intro vals E' R' O' hD
    have h1 : vals 1 = .int .i64 f.Event := hD 1 (memN 0 rfl)
    refine gl_convV (E2 := (17, .int .i64 f.Event) :: ([] ++ E')) (V2 := [] ++ ([BK 47 b1 [.int .i64 f.Event, .int .i64 f.Number, .int .i64 f.Time]] ++ [])) (by show (17, vals 1) :: ([] ++ E') = _; rw [h1]) (by show [] ++ ([BK 47 b1 [.int .i64 f.Event, .int .i64 f.Number, .int .i64 f.Time]] ++ []) = _; rfl) ?_
    refine gl_call rfl rfl (fun w => by kernel_rfl) (c_impl_decimal f.Event ho3) (consItem (mem_at 0 rfl) (consItem (mem_at 1 rfl) (consItem (mem_at 2 rfl) (consItem (mem_at 3 rfl) noItem)))) noItem ?_
    rintro v outs ros ⟨rfl, rfl, rfl⟩
    refine ⟨_, rfl, ?_⟩
    refine gl_nil ?_
    exact gx_fp (str o3) rfl rfl rfl rfl (fun _ h => h.sub (fun _ h => h) (st_oo (A := [])) (fun o ho => by cases ho))
  · intro vals E' R' O' hD
    have h2 : vals 2 = str o3 := hD 2 (memN 0 rfl)
    refine gl_convV (E2 := (18, str o3) :: ([] ++ E')) (V2 := [] ++ ([BK 47 b1 [.int .i64 f.Event, .int .i64 f.Number, .int .i64 f.Time]] ++ [])) (by show (18, vals 2) :: ([] ++ E') = _; rw [h2]) (by show [] ++ ([BK 47 b1 [.int .i64 f.Event, .int .i64 f.Number, .int .i64 f.Time]] ++ []) = _; rfl) ?_
    refine gl_scat rfl rfl hz4 rfl rfl ?_
    refine gl_nil ?_
    exact gx_fp (str z4) rfl rfl rfl rfl (fun _ h => h.sub (fun _ h => h) (st_oo (A := [])) (fun o ho => by cases ho))
  · intro vals E' R' O' hD
    refine gl_run (v := .pointer (some ⟨b1, 2, none⟩)) rfl rfl rfl (fun w => by kernel_rfl) ?_
    refine gl_nil ?_
    exact gx_fp (.pointer (some ⟨b1, 2, none⟩)) rfl rfl rfl rfl (fun _ h => h.sub (fun _ h => h) (st_oo (A := [])) (fun o ho => by cases ho))
  · intro vals E' R' O' hD
    have h4 : vals 4 = .pointer (some ⟨b1, 2, none⟩) := hD 4 (memN 0 rfl)
    refine gl_convV (E2 := (20, .pointer (some ⟨b1, 2, none⟩)) :: ([] ++ E')) (V2 := [] ++ ([BK 47 b1 [.int .i64 f.Event, .int .i64 f.Number, .int .i64 f.Time]] ++ [])) (by show (20, vals 4) :: ([] ++ E') = _; rw [h4]) (by show [] ++ ([BK 47 b1 [.int .i64 f.Event, .int .i64 f.Number, .int .i64 f.Time]] ++ []) = _; rfl) ?_
    refine gl_ld1 2 hasBK (memV (mem_at 0 rfl)) rfl rfl Fo2 rfl rfl rfl ?_
    refine gl_nil ?_
    exact gx_fp (.int .i64 f.Time) rfl rfl rfl rfl (fun _ h => h.sub (fun _ h => h) (st_oo (A := [])) (fun o ho => by cases ho))
  · intro vals E' R' O' hD
    have h5 : vals 5 = .int .i64 f.Time := hD 5 (memN 0 rfl)
    refine gl_convV (E2 := (21, .int .i64 f.Time) :: ([] ++ E')) (V2 := [] ++ ([BK 47 b1 [.int .i64 f.Event, .int .i64 f.Number, .int .i64 f.Time]] ++ [])) (by show (21, vals 5) :: ([] ++ E') = _; rw [h5]) (by show [] ++ ([BK 47 b1 [.int .i64 f.Event, .int .i64 f.Number, .int .i64 f.Time]] ++ []) = _; rfl) ?_
    refine gl_call rfl rfl (fun w => by kernel_rfl) (c_impl_decimal f.Time ho5) (consItem (mem_at 0 rfl) (consItem (mem_at 1 rfl) (consItem (mem_at 2 rfl) (consItem (mem_at 3 rfl) noItem)))) noItem ?_
    rintro v outs ros ⟨rfl, rfl, rfl⟩
    refine ⟨_, rfl, ?_⟩
    refine gl_nil ?_
    exact gx_fp (str o5) rfl rfl rfl rfl (fun _ h => h.sub (fun _ h => h) (st_oo (A := [])) (fun o ho => by cases ho))
  · intro vals E' R' O' hD
    have h3 : vals 3 = str z4 := hD 3 (memN 0 rfl)
    have h6 : vals 6 = str o5 := hD 6 (memN 1 rfl)
    refine gl_convV (E2 := (19, str z4) :: (22, str o5) :: ([] ++ E')) (V2 := [] ++ ([BK 47 b1 [.int .i64 f.Event, .int .i64 f.Number, .int .i64 f.Time]] ++ [])) (by show (19, vals 3) :: (22, vals 6) :: ([] ++ E') = _; rw [h3, h6]) (by show [] ++ ([BK 47 b1 [.int .i64 f.Event, .int .i64 f.Number, .int .i64 f.Time]] ++ []) = _; rfl) ?_
    refine gl_scat rfl rfl hz6 rfl rfl ?_
    refine gl_nil ?_
    exact gx_fp (str z6) rfl rfl rfl rfl (fun _ h => h.sub (fun _ h => h) (st_oo (A := [])) (fun o ho => by cases ho))
  · intro vals E' R' O' hD
    have h7 : vals 7 = str z6 := hD 7 (memN 0 rfl)
    refine gl_convV (E2 := (23, str z6) :: ([] ++ E')) (V2 := [] ++ ([BK 47 b1 [.int .i64 f.Event, .int .i64 f.Number, .int .i64 f.Time]] ++ [])) (by show (23, vals 7) :: ([] ++ E') = _; rw [h7]) (by show [] ++ ([BK 47 b1 [.int .i64 f.Event, .int .i64 f.Number, .int .i64 f.Time]] ++ []) = _; rfl) ?_
    refine gl_scat rfl rfl hz7 rfl rfl ?_
    refine gl_nil ?_
    exact gx_fp (str z7) rfl rfl rfl rfl (fun _ h => h.sub (fun _ h => h) (st_oo (A := [])) (fun o ho => by cases ho))
  · intro vals E' R' O' hD
    refine gl_batch 1 [(25, .int .i64 chain2)] rfl ?_
    refine gl_nil ?_
    exact gx_fp (.int .i64 chain2) rfl rfl rfl rfl (fun _ h => h.sub (fun _ h => h) (st_oo (A := [])) (fun o ho => by cases ho))
  · intro vals E' R' O' hD
    have h9 : vals 9 = .int .i64 chain2 := hD 9 (memN 0 rfl)
    refine gl_convV (E2 := (25, .int .i64 chain2) :: ([] ++ E')) (V2 := [] ++ ([BK 47 b1 [.int .i64 f.Event, .int .i64 f.Number, .int .i64 f.Time]] ++ [])) (by show (25, vals 9) :: ([] ++ E') = _; rw [h9]) (by show [] ++ ([BK 47 b1 [.int .i64 f.Event, .int .i64 f.Number, .int .i64 f.Time]] ++ []) = _; rfl) ?_
    refine gl_call rfl rfl (fun w => by kernel_rfl) (c_impl_decimal chain2 ho8) (consItem (mem_at 0 rfl) (consItem (mem_at 1 rfl) (consItem (mem_at 2 rfl) (consItem (mem_at 3 rfl) noItem)))) noItem ?_
    rintro v outs ros ⟨rfl, rfl, rfl⟩
    refine ⟨_, rfl, ?_⟩
    refine gl_nil ?_
    exact gx_fp (str o8) rfl rfl rfl rfl (fun _ h => h.sub (fun _ h => h) (st_oo (A := [])) (fun o ho => by cases ho))
  · intro vals E' R' O' hD
    have h8 : vals 8 = str z7 := hD 8 (memN 0 rfl)
    have h10 : vals 10 = str o8 := hD 10 (memN 1 rfl)
    refine gl_convV (E2 := (24, str z7) :: (26, str o8) :: ([] ++ E')) (V2 := [] ++ ([BK 47 b1 [.int .i64 f.Event, .int .i64 f.Number, .int .i64 f.Time]] ++ [])) (by show (24, vals 8) :: (26, vals 10) :: ([] ++ E') = _; rw [h8, h10]) (by show [] ++ ([BK 47 b1 [.int .i64 f.Event, .int .i64 f.Number, .int .i64 f.Time]] ++ []) = _; rfl) ?_
    refine gl_scat rfl rfl hz9 rfl rfl ?_
    refine gl_nil ?_
    exact gx_fp (str z9) rfl rfl rfl rfl (fun _ h => h.sub (fun _ h => h) (st_oo (A := [])) (fun o ho => by cases ho))
  · intro vals E' R' O' hD
    have h11 : vals 11 = str z9 := hD 11 (memN 0 rfl)
    refine gl_convV (E2 := (27, str z9) :: ([] ++ E')) (V2 := [] ++ ([BK 47 b1 [.int .i64 f.Event, .int .i64 f.Number, .int .i64 f.Time]] ++ [])) (by show (27, vals 11) :: ([] ++ E') = _; rw [h11]) (by show [] ++ ([BK 47 b1 [.int .i64 f.Event, .int .i64 f.Number, .int .i64 f.Time]] ++ []) = _; rfl) ?_
    refine gl_scat rfl rfl hz10 rfl rfl ?_
    refine gl_nil ?_
    exact gx_fp (str z10) rfl rfl rfl rfl (fun _ h => h.sub (fun _ h => h) (st_oo (A := [])) (fun o ho => by cases ho))
  · intro vals E' R' O' hD
    refine gl_batch 1 [(29, .int .i64 chain2)] rfl ?_
    refine gl_nil ?_
    exact gx_fp (.int .i64 chain2) rfl rfl rfl rfl (fun _ h => h.sub (fun _ h => h) (st_oo (A := [])) (fun o ho => by cases ho))
  · intro vals E' R' O' hD
    have h12 : vals 12 = str z10 := hD 12 (memN 0 rfl)
    refine gl_convV (E2 := (28, str z10) :: ([] ++ E')) (V2 := [] ++ ([BK 47 b1 [.int .i64 f.Event, .int .i64 f.Number, .int .i64 f.Time]] ++ [])) (by show (28, vals 12) :: ([] ++ E') = _; rw [h12]) (by show [] ++ ([BK 47 b1 [.int .i64 f.Event, .int .i64 f.Number, .int .i64 f.Time]] ++ []) = _; rfl) ?_
    refine gl_batch 1 [(4, str z10)] rfl ?_
    refine gl_nil ?_
    exact gx_fp (str z10) rfl rfl rfl rfl (fun _ h => h.sub (fun _ h => h) (st_oo (A := [])) (fun o ho => by cases ho))
  · intro vals E' R' O' hD
    have h13 : vals 13 = .int .i64 chain2 := hD 13 (memN 0 rfl)
    refine gl_convV (E2 := (29, .int .i64 chain2) :: ([] ++ E')) (V2 := [] ++ ([BK 47 b1 [.int .i64 f.Event, .int .i64 f.Number, .int .i64 f.Time]] ++ [])) (by show (29, vals 13) :: ([] ++ E') = _; rw [h13]) (by show [] ++ ([BK 47 b1 [.int .i64 f.Event, .int .i64 f.Number, .int .i64 f.Time]] ++ []) = _; rfl) ?_
    refine gl_batch 1 [(5, .int .i64 chain2)] rfl ?_
    refine gl_nil ?_
    exact gx_fp (.int .i64 chain2) rfl rfl rfl rfl (fun _ h => h.sub (fun _ h => h) (st_oo (A := [])) (fun o ho => by cases ho))
  · intro vals hv
    obtain ⟨⟨⟨⟨⟨⟨⟨⟨⟨⟨⟨⟨⟨⟨⟨⟨_, h0⟩, h1⟩, h2⟩, h3⟩, h4⟩, h5⟩, h6⟩, h7⟩, h8⟩, h9⟩, h10⟩, h11⟩, h12⟩, h13⟩, h14⟩, h15⟩ := hv
    have h0 : vals 0 = .pointer (some ⟨b1, 0, none⟩) := h0
    have h1 : vals 1 = .int .i64 f.Event := h1
    have h2 : vals 2 = str o3 := h2
    have h3 : vals 3 = str z4 := h3
    have h4 : vals 4 = .pointer (some ⟨b1, 2, none⟩) := h4
    have h5 : vals 5 = .int .i64 f.Time := h5
    have h6 : vals 6 = str o5 := h6
    have h7 : vals 7 = str z6 := h7
    have h8 : vals 8 = str z7 := h8
    have h9 : vals 9 = .int .i64 chain2 := h9
    have h10 : vals 10 = str o8 := h10
    have h11 : vals 11 = str z9 := h11
    have h12 : vals 12 = str z10 := h12
    have h13 : vals 13 = .int .i64 chain2 := h13
    have h14 : vals 14 = str z10 := h14
    have h15 : vals 15 = .int .i64 chain2 := h15
    refine gl_conv (E2 := (16, .pointer (some ⟨b1, 0, none⟩)) :: (17, .int .i64 f.Event) :: (18, str o3) :: (19, str z4) :: (20, .pointer (some ⟨b1, 2, none⟩)) :: (21, .int .i64 f.Time) :: (22, str o5) :: (23, str z6) :: (24, str z7) :: (25, .int .i64 chain2) :: (26, str o8) :: (27, str z9) :: (28, str z10) :: (29, .int .i64 chain2) :: (4, str z10) :: (5, .int .i64 chain2) :: [(1, .int .i64 chain2), (2, .pointer (some ⟨b1, 0, none⟩))]) (R2 := [] ++ ([] ++ [BK 47 b1 [.int .i64 f.Event, .int .i64 f.Number, .int .i64 f.Time]])) (O2 := [] ++ []) (by show (16, vals 0) :: (17, vals 1) :: (18, vals 2) :: (19, vals 3) :: (20, vals 4) :: (21, vals 5) :: (22, vals 6) :: (23, vals 7) :: (24, vals 8) :: (25, vals 9) :: (26, vals 10) :: (27, vals 11) :: (28, vals 12) :: (29, vals 13) :: (4, vals 14) :: (5, vals 15) :: [(1, .int .i64 chain2), (2, .pointer (some ⟨b1, 0, none⟩))] = _; rw [h0, h1, h2, h3, h4, h5, h6, h7, h8, h9, h10, h11, h12, h13, h14, h15]) (by show [] ++ ([] ++ [BK 47 b1 [.int .i64 f.Event, .int .i64 f.Number, .int .i64 f.Time]]) = _; rfl) rfl ?_
    refine gl_nil ?_
    refine gx_seq ?_
    refine g_ret ?_
    obtain rfl := Option.some.inj h
    exact gx_fin rfl [str z10, .int .i64 chain2] _ _ [] ⟨_, _, rfl, rfl, _, _, rfl, rfl, rfl⟩ rfl ⟨rfl, rfl, rfl⟩ (fun w hS => (hS.take 0).facts [] [] [] noItem noItem noItem) (Or.inl rfl)

theorem c_laws_eqFiringS (a_v : List Firing) (b : List Firing) (a_a_v : Option Addr) (c_a_v : Nat) (a_b : Option Addr) (c_b : Nat) {r : Bool} (h : laws_eqFiringS a_v b = some r) : CallOK Tryd.prog 14 [.slice a_a_v (List.length a_v) c_a_v, .slice a_b (List.length b) c_b] [] [gTab 3 pow10C, gNum 0, gErr 1, gErr 2] [SL false 47 FiringS a_a_v c_a_v a_v, SL false 47 FiringS a_b c_b b] (fun v outs ros => v = .bool r ∧ outs = [] ∧ ros = []) := by
  refine fn_ok Tryd.func14 rfl Tryd.ntmps14 rfl (fun c hF0 => ?_)
  unfold laws_eqFiringS at h
  refine g_seq ?_
  refine g_region ?_
  refine gl_batch 1 [(4, .bool false)] rfl ?_
  refine gl_nil ?_
  refine gx_seq ?_
  refine g_seq ?_
  refine g_seq ?_
  refine g_region ?_
  refine gl_batch 1 [(6, .slice a_a_v (List.length a_v) c_a_v)] rfl ?_
  refine gl_len rfl Fs26 rfl rfl ?_
  refine gl_batch 1 [(8, .slice a_b (List.length b) c_b)] rfl ?_
  refine gl_len rfl Fs26 rfl rfl ?_
  refine gl_batch 1 [(10, .bool ((List.length a_v : Int) != (List.length b : Int)))] rfl ?_
  refine gl_nil ?_
  refine gx_seq ?_
  refine g_cond (b := (List.length a_v : Int) != (List.length b : Int)) rfl (fun hc => ?_) (fun hc => ?_)
  · replace h := condT hc h
    refine g_seq ?_
    refine g_region ?_
    refine gl_batch 1 [(4, .bool false)] rfl ?_
    refine gl_nil ?_
    refine gx_seq ?_
    refine g_ret ?_
    refine gx_seq_ret ?_
    obtain rfl := Option.some.inj h
    exact gx_fin rfl [.bool false] _ _ [] ⟨_, _, rfl, rfl, rfl⟩ rfl ⟨rfl, rfl, rfl⟩ (fun w hS => (hS.take 0).facts [] [] [] noItem noItem noItem) (Or.inl rfl)
  · replace h := condF hc h
    refine g_skip ?_
    refine gx_seq ?_
    refine g_seq ?_
    refine g_seq ?_
    refine g_region ?_
    refine gl_batch 1 [(5, .int .i64 0)] rfl ?_
    refine gl_nil ?_
    refine gx_seq ?_
    refine g_block ?_
    obtain ⟨o1, ho1, h⟩ := bindS h
    refine g_loop (laws_eqFiringS_L1 a_v b) (fun (ss_ : Int) a w => Env a 27 [(0, .slice a_a_v (List.length a_v) c_a_v), (1, .slice a_b (List.length b) c_b), (5, .int .i64 ss_)] ∧ St c w [] [gTab 3 pow10C, gNum 0, gErr 1, gErr 2] [SL false 47 FiringS a_a_v c_a_v a_v, SL false 47 FiringS a_b c_b b] []) (Sum.elim (fun (ss_ : Unit) e a w => e = .ret ∧ Env a 27 [(4, .bool false)] ∧ St c w [] [gTab 3 pow10C, gNum 0, gErr 1, gErr 2] [SL false 47 FiringS a_a_v c_a_v a_v, SL false 47 FiringS a_b c_b b] []) (fun (ss_ : Unit) e a w => e = (.exit 0) ∧ Env a 27 [] ∧ St c w [] [gTab 3 pow10C, gNum 0, gErr 1, gErr 2] [SL false 47 FiringS a_a_v c_a_v a_v, SL false 47 FiringS a_b c_b b] []) : (Sum Unit Unit) → Exit → Act → World → Prop) ho1 ?_ ?_ ?_
    · exact fun a w hE hS => ⟨hE.sub ⟨rfl, rfl, rfl, trivial⟩, (hS.take 0).facts _ _ [] (consItem (mem_at 0 rfl) (consItem (mem_at 1 rfl) (consItem (mem_at 2 rfl) (consItem (mem_at 3 rfl) noItem)))) (consItem (mem_at 0 rfl) (consItem (mem_at 1 rfl) noItem)) noItem⟩
    · intro s2 o3 h a w hA
      obtain ⟨hE, hS⟩ := hA
      unfold laws_eqFiringS_L1 at h
      refine g_enter hE hS ?_
      refine g_seq ?_
      refine g_seq ?_
      refine g_region ?_
      refine gl_batch 2 [(12, .slice a_a_v (List.length a_v) c_a_v), (11, .int .i64 s2)] rfl ?_
      refine gl_len rfl Fs26 rfl rfl ?_
      refine gl_batch 1 [(14, .bool (decide (s2 < (List.length a_v : Int))))] rfl ?_
      refine gl_nil ?_
      refine gx_seq ?_
      refine g_cond (b := decide (s2 < (List.length a_v : Int))) rfl (fun hc => ?_) (fun hc => ?_)
      · replace h := condT hc h
        refine g_skip ?_
        refine gx_seq ?_
        refine g_seq ?_
        refine g_block ?_
        refine g_seq ?_
        obtain ⟨x4, hx4, h⟩ := bindS h
        refine g_elemn (mem_at 0 rfl) hx4 ?_
        intro p5 hp5
        obtain ⟨x6, hx6, h⟩ := bindS h
        refine g_elemn (mem_at 1 rfl) hx6 ?_
        intro p7 hp7
        refine g_state (E' := [(0, .slice a_a_v (List.length a_v) c_a_v), (1, .slice a_b (List.length b) c_b), (5, .int .i64 s2)]) (Rs' := [] ++ []) (Xs' := [gTab 3 pow10C, gNum 0, gErr 1, gErr 2]) (Os' := [SL false 47 FiringS a_a_v c_a_v a_v, SL false 47 FiringS a_b c_b b]) (Vs' := []) ⟨rfl, rfl, rfl, trivial⟩ (fun w hS => hS) ?_
        refine g_draw (Rs := []) 10 (dOf [[], [], [0, 1], [2], [], [], [4, 5], [6], [3, 7], [8]]) (spOf [det 0 (.slice a_a_v (List.length a_v) c_a_v), det 1 (.int .i64 s2), det 2 (.pointer (some p5)), det 3 (.agg #[.int .i64 x4.Event, .int .i64 x4.Number, .int .i64 x4.Time]), det 4 (.slice a_b (List.length b) c_b), det 5 (.int .i64 s2), det 6 (.pointer (some p7)), det 7 (.agg #[.int .i64 x6.Event, .int .i64 x6.Number, .int .i64 x6.Time]), det 8 (.bool (laws_eqFiring x4 x6)), det 9 (.bool (!(laws_eqFiring x4 x6)))]) [] (fun _ _ => []) (eOf [[(0, .slice a_a_v (List.length a_v) c_a_v)], [(5, .int .i64 s2)], [], [], [(1, .slice a_b (List.length b) c_b)], [(5, .int .i64 s2)], [], [], [], []]) mixed rfl (Or.inl rfl) ⟨⟨⟨⟨⟨⟨⟨⟨⟨⟨trivial, ⟨rfl, trivial⟩⟩, ⟨rfl, trivial⟩⟩, trivial⟩, trivial⟩, ⟨rfl, trivial⟩⟩, ⟨rfl, trivial⟩⟩, trivial⟩, trivial⟩, trivial⟩, trivial⟩ rfl ⟨⟨⟨⟨⟨⟨⟨⟨⟨⟨trivial, ?_⟩, ?_⟩, ?_⟩, ?_⟩, ?_⟩, ?_⟩, ?_⟩, ?_⟩, ?_⟩, ?_⟩ ?_
        · intro vals E' R' O' hD
          refine gl_batch 1 [(17, .slice a_a_v (List.length a_v) c_a_v)] rfl ?_
          refine gl_nil ?_
          exact gx_fp (.slice a_a_v (List.length a_v) c_a_v) rfl rfl rfl rfl (fun _ h => h.sub (fun _ h => h) (st_oo (A := [])) (fun o ho => by cases ho))
        · intro vals E' R' O' hD
          refine gl_batch 1 [(18, .int .i64 s2)] rfl ?_
          refine gl_nil ?_
          exact gx_fp (.int .i64 s2) rfl rfl rfl rfl (fun _ h => h.sub (fun _ h => h) (st_oo (A := [])) (fun o ho => by cases ho))
        · intro vals E' R' O' hD
          have h0 : vals 0 = .slice a_a_v (List.length a_v) c_a_v := hD 0 (memN 0 rfl)
          have h1 : vals 1 = .int .i64 s2 := hD 1 (memN 1 rfl)
          refine gl_convV (E2 := (17, .slice a_a_v (List.length a_v) c_a_v) :: (18, .int .i64 s2) :: ([] ++ E')) (V2 := [] ++ ([] ++ [])) (by show (17, vals 0) :: (18, vals 1) :: ([] ++ E') = _; rw [h0, h1]) (by show [] ++ ([] ++ []) = _; rfl) ?_
          refine gl_idxVn (k := .i64) (memO (mem_at 0 rfl)) rfl rfl Fs26 Fz47 hx4 rfl rfl ?_
          intro p_ hp_
          obtain rfl : p5 = p_ := Option.some.inj (hp5.symm.trans hp_)
          refine gl_nil ?_
          exact gx_fp (.pointer (some p5)) rfl rfl rfl rfl (fun _ h => h.sub (fun _ h => h) (st_oo (A := [])) (fun o ho => by cases ho))
        · intro vals E' R' O' hD
          have h2 : vals 2 = .pointer (some p5) := hD 2 (memN 0 rfl)
          refine gl_convV (E2 := (19, .pointer (some p5)) :: ([] ++ E')) (V2 := [] ++ ([] ++ [])) (by show (19, vals 2) :: ([] ++ E') = _; rw [h2]) (by show [] ++ ([] ++ []) = _; rfl) ?_
          refine gl_elemVn (memO (mem_at 0 rfl)) hx4 hp5 ?_
          refine gl_ldA (vs := [.int .i64 x4.Event, .int .i64 x4.Number, .int .i64 x4.Time]) 0 hasAT (memV (mem_at 0 rfl)) rfl rfl Fm47 Fz47 rfl rfl rfl ?_
          refine gl_nil ?_
          exact gx_fp (.agg #[.int .i64 x4.Event, .int .i64 x4.Number, .int .i64 x4.Time]) rfl rfl rfl rfl (fun _ h => h.sub (fun _ h => h) (st_oo (A := [])) (fun o ho => by cases ho))
        · intro vals E' R' O' hD
          refine gl_batch 1 [(21, .slice a_b (List.length b) c_b)] rfl ?_
          refine gl_nil ?_
          exact gx_fp (.slice a_b (List.length b) c_b) rfl rfl rfl rfl (fun _ h => h.sub (fun _ h => h) (st_oo (A := [])) (fun o ho => by cases ho))
        · intro vals E' R' O' hD
          refine gl_batch 1 [(22, .int .i64 s2)] rfl ?_
          refine gl_nil ?_
          exact gx_fp (.int .i64 s2) rfl rfl rfl rfl (fun _ h => h.sub (fun _ h => h) (st_oo (A := [])) (fun o ho => by cases ho))
        · intro vals E' R' O' hD
          have h4 : vals 4 = .slice a_b (List.length b) c_b := hD 4 (memN 0 rfl)
          have h5 : vals 5 = .int .i64 s2 := hD 5 (memN 1 rfl)
          refine gl_convV (E2 := (21, .slice a_b (List.length b) c_b) :: (22, .int .i64 s2) :: ([] ++ E')) (V2 := [] ++ ([] ++ [])) (by show (21, vals 4) :: (22, vals 5) :: ([] ++ E') = _; rw [h4, h5]) (by show [] ++ ([] ++ []) = _; rfl) ?_
          refine gl_idxVn (k := .i64) (memO (mem_at 1 rfl)) rfl rfl Fs26 Fz47 hx6 rfl rfl ?_
          intro p_ hp_
          obtain rfl : p7 = p_ := Option.some.inj (hp7.symm.trans hp_)
          refine gl_nil ?_
          exact gx_fp (.pointer (some p7)) rfl rfl rfl rfl (fun _ h => h.sub (fun _ h => h) (st_oo (A := [])) (fun o ho => by cases ho))
        · intro vals E' R' O' hD
          have h6 : vals 6 = .pointer (some p7) := hD 6 (memN 0 rfl)
          refine gl_convV (E2 := (23, .pointer (some p7)) :: ([] ++ E')) (V2 := [] ++ ([] ++ [])) (by show (23, vals 6) :: ([] ++ E') = _; rw [h6]) (by show [] ++ ([] ++ []) = _; rfl) ?_
          refine gl_elemVn (memO (mem_at 1 rfl)) hx6 hp7 ?_
          refine gl_ldA (vs := [.int .i64 x6.Event, .int .i64 x6.Number, .int .i64 x6.Time]) 0 hasAT (memV (mem_at 0 rfl)) rfl rfl Fm47 Fz47 rfl rfl rfl ?_
          refine gl_nil ?_
          exact gx_fp (.agg #[.int .i64 x6.Event, .int .i64 x6.Number, .int .i64 x6.Time]) rfl rfl rfl rfl (fun _ h => h.sub (fun _ h => h) (st_oo (A := [])) (fun o ho => by cases ho))
        · intro vals E' R' O' hD
          have h3 : vals 3 = .agg #[.int .i64 x4.Event, .int .i64 x4.Number, .int .i64 x4.Time] := hD 3 (memN 0 rfl)
          have h7 : vals 7 = .agg #[.int .i64 x6.Event, .int .i64 x6.Number, .int .i64 x6.Time] := hD 7 (memN 1 rfl)
          refine gl_convV (E2 := (20, .agg #[.int .i64 x4.Event, .int .i64 x4.Number, .int .i64 x4.Time]) :: (24, .agg #[.int .i64 x6.Event, .int .i64 x6.Number, .int .i64 x6.Time]) :: ([] ++ E')) (V2 := [] ++ ([] ++ [])) (by show (20, vals 3) :: (24, vals 7) :: ([] ++ E') = _; rw [h3, h7]) (by show [] ++ ([] ++ []) = _; rfl) ?_
          refine gl_call rfl rfl (fun w => by kernel_rfl) (c_laws_eqFiring x4 x6 rfl) (consItem (mem_at 0 rfl) (consItem (mem_at 1 rfl) (consItem (mem_at 2 rfl) (consItem (mem_at 3 rfl) noItem)))) noItem ?_
          rintro v outs ros ⟨rfl, rfl, rfl⟩
          refine ⟨_, rfl, ?_⟩
          refine gl_nil ?_
          exact gx_fp (.bool (laws_eqFiring x4 x6)) rfl rfl rfl rfl (fun _ h => h.sub (fun _ h => h) (st_oo (A := [])) (fun o ho => by cases ho))
        · intro vals E' R' O' hD
          have h8 : vals 8 = .bool (laws_eqFiring x4 x6) := hD 8 (memN 0 rfl)
          refine gl_convV (E2 := (25, .bool (laws_eqFiring x4 x6)) :: ([] ++ E')) (V2 := [] ++ ([] ++ [])) (by show (25, vals 8) :: ([] ++ E') = _; rw [h8]) (by show [] ++ ([] ++ []) = _; rfl) ?_
          refine gl_batch 1 [(26, .bool (!(laws_eqFiring x4 x6)))] rfl ?_
          refine gl_nil ?_
          exact gx_fp (.bool (!(laws_eqFiring x4 x6))) rfl rfl rfl rfl (fun _ h => h.sub (fun _ h => h) (st_oo (A := [])) (fun o ho => by cases ho))
        · intro vals hv
          obtain ⟨⟨⟨⟨⟨⟨⟨⟨⟨⟨_, h0⟩, h1⟩, h2⟩, h3⟩, h4⟩, h5⟩, h6⟩, h7⟩, h8⟩, h9⟩ := hv
          have h0 : vals 0 = .slice a_a_v (List.length a_v) c_a_v := h0
          have h1 : vals 1 = .int .i64 s2 := h1
          have h2 : vals 2 = .pointer (some p5) := h2
          have h3 : vals 3 = .agg #[.int .i64 x4.Event, .int .i64 x4.Number, .int .i64 x4.Time] := h3
          have h4 : vals 4 = .slice a_b (List.length b) c_b := h4
          have h5 : vals 5 = .int .i64 s2 := h5
          have h6 : vals 6 = .pointer (some p7) := h6
          have h7 : vals 7 = .agg #[.int .i64 x6.Event, .int .i64 x6.Number, .int .i64 x6.Time] := h7
          have h8 : vals 8 = .bool (laws_eqFiring x4 x6) := h8
          have h9 : vals 9 = .bool (!(laws_eqFiring x4 x6)) := h9
          refine gl_conv (E2 := (17, .slice a_a_v (List.length a_v) c_a_v) :: (18, .int .i64 s2) :: (19, .pointer (some p5)) :: (20, .agg #[.int .i64 x4.Event, .int .i64 x4.Number, .int .i64 x4.Time]) :: (21, .slice a_b (List.length b) c_b) :: (22, .int .i64 s2) :: (23, .pointer (some p7)) :: (24, .agg #[.int .i64 x6.Event, .int .i64 x6.Number, .int .i64 x6.Time]) :: (25, .bool (laws_eqFiring x4 x6)) :: (26, .bool (!(laws_eqFiring x4 x6))) :: [(0, .slice a_a_v (List.length a_v) c_a_v), (1, .slice a_b (List.length b) c_b), (5, .int .i64 s2)]) (R2 := [] ++ ([] ++ [])) (O2 := [] ++ [SL false 47 FiringS a_a_v c_a_v a_v, SL false 47 FiringS a_b c_b b]) (by show (17, vals 0) :: (18, vals 1) :: (19, vals 2) :: (20, vals 3) :: (21, vals 4) :: (22, vals 5) :: (23, vals 6) :: (24, vals 7) :: (25, vals 8) :: (26, vals 9) :: [(0, .slice a_a_v (List.length a_v) c_a_v), (1, .slice a_b (List.length b) c_b), (5, .int .i64 s2)] = _; rw [h0, h1, h2, h3, h4, h5, h6, h7, h8, h9]) (by show [] ++ ([] ++ []) = _; rfl) rfl ?_
          refine gl_nil ?_
          refine gx_seq ?_
          refine g_cond (b := !(laws_eqFiring x4 x6)) rfl (fun hc => ?_) (fun hc => ?_)
          · replace h := condT hc h
            refine g_seq ?_
            refine g_region ?_
            refine gl_batch 1 [(4, .bool false)] rfl ?_
            refine gl_nil ?_
            refine gx_seq ?_
            refine g_ret ?_
            refine gx_blk_ret ?_
            refine gx_seq_ret ?_
            obtain rfl := Option.some.inj h
            exact gx_of (fun a w hE hS => lp_out nofun (inL ⟨rfl, hE.sub ⟨rfl, trivial⟩, (hS.take 0).facts _ _ [] (consItem (mem_at 0 rfl) (consItem (mem_at 1 rfl) (consItem (mem_at 2 rfl) (consItem (mem_at 3 rfl) noItem)))) (consItem (mem_at 0 rfl) (consItem (mem_at 1 rfl) noItem)) noItem⟩))
          · replace h := condF hc h
            refine g_skip ?_
            refine gx_blk ?_
            refine gx_seq ?_
            refine g_region ?_
            refine gl_batch 3 [(5, .int .i64 (IntKind.i64.wrap (s2 + 1))), (16, .int .i64 (IntKind.i64.wrap (s2 + 1))), (15, .int .i64 s2)] rfl ?_
            refine gl_nil ?_
            obtain rfl := Option.some.inj h
            exact gx_of (fun a w hE hS => lp_in ⟨hE.sub ⟨rfl, rfl, rfl, trivial⟩, (hS.take 0).facts _ _ [] (consItem (mem_at 0 rfl) (consItem (mem_at 1 rfl) (consItem (mem_at 2 rfl) (consItem (mem_at 3 rfl) noItem)))) (consItem (mem_at 0 rfl) (consItem (mem_at 1 rfl) noItem)) noItem⟩)
      · replace h := condF hc h
        refine g_exit ?_
        refine gx_seq_exit ?_
        obtain rfl := Option.some.inj h
        exact gx_of (fun a w hE hS => lp_out nofun (inR ⟨rfl, hE.sub trivial, (hS.take 0).facts _ _ [] (consItem (mem_at 0 rfl) (consItem (mem_at 1 rfl) (consItem (mem_at 2 rfl) (consItem (mem_at 3 rfl) noItem)))) (consItem (mem_at 0 rfl) (consItem (mem_at 1 rfl) noItem)) noItem⟩))
    · intro e a w hm
      rcases o1 with s8 | s9
      · replace h := elimL h
        obtain ⟨rfl, hE, hS⟩ := hm
        refine gx_to hE hS ?_
        refine gx_blk_ret ?_
        refine gx_seq_ret ?_
        obtain rfl := Option.some.inj h
        exact gx_fin rfl [.bool false] _ _ [] ⟨_, _, rfl, rfl, rfl⟩ rfl ⟨rfl, rfl, rfl⟩ (fun w hS => (hS.take 0).facts [] [] [] noItem noItem noItem) (Or.inl rfl)
      · replace h := elimR h
        obtain ⟨rfl, hE, hS⟩ := hm
        refine gx_to hE hS ?_
        refine gx_blk_hit ?_
        refine gx_seq ?_
        refine g_seq ?_
        refine g_region ?_
        refine gl_batch 1 [(4, .bool true)] rfl ?_
        refine gl_nil ?_
        refine gx_seq ?_
        refine g_ret ?_
        obtain rfl := Option.some.inj h
        exact gx_fin rfl [.bool true] _ _ [] ⟨_, _, rfl, rfl, rfl⟩ rfl ⟨rfl, rfl, rfl⟩ (fun w hS => (hS.take 0).facts [] [] [] noItem noItem noItem) (Or.inl rfl)

theorem c_spec_l28All (run : List Firing) (a_run : Option Addr) (c_run : Nat) {r : Bool} (h : spec_l28All run = some r) : CallOK Tryd.prog 42 [.slice a_run (List.length run) c_run] [] [gTab 3 pow10C, gNum 0, gErr 1, gErr 2] [SL false 47 FiringS a_run c_run run] (fun v outs ros => v = .bool r ∧ outs = [] ∧ ros = []) := by
  refine fn_ok Tryd.func42 rfl Tryd.ntmps42 rfl (fun c hF0 => ?_)
  unfold spec_l28All at h
  refine g_seq ?_
  refine g_region ?_
  refine gl_batch 1 [(2, .bool false)] rfl ?_
  refine gl_nil ?_
  refine gx_seq ?_
  refine g_seq ?_
  refine g_seq ?_
  refine g_region ?_
  refine gl_batch 1 [(3, .int .i64 0)] rfl ?_
  refine gl_nil ?_
  refine gx_seq ?_
  refine g_block ?_
  obtain ⟨o1, ho1, h⟩ := bindS h
  refine g_loop (spec_l28All_L1 run) (fun (ss_ : Int) a w => Env a 19 [(0, .slice a_run (List.length run) c_run), (3, .int .i64 ss_)] ∧ St c w [] [gTab 3 pow10C, gNum 0, gErr 1, gErr 2] [SL false 47 FiringS a_run c_run run] []) (Sum.elim (fun (ss_ : Unit) e a w => e = .ret ∧ Env a 19 [(2, .bool false)] ∧ St c w [] [gTab 3 pow10C, gNum 0, gErr 1, gErr 2] [SL false 47 FiringS a_run c_run run] []) (fun (ss_ : Unit) e a w => e = (.exit 0) ∧ Env a 19 [(0, .slice a_run (List.length run) c_run)] ∧ St c w [] [gTab 3 pow10C, gNum 0, gErr 1, gErr 2] [SL false 47 FiringS a_run c_run run] []) : (Sum Unit Unit) → Exit → Act → World → Prop) ho1 ?_ ?_ ?_
  · exact fun a w hE hS => ⟨hE.sub ⟨rfl, rfl, trivial⟩, (hS.take 0).facts _ _ [] (consItem (mem_at 0 rfl) (consItem (mem_at 1 rfl) (consItem (mem_at 2 rfl) (consItem (mem_at 3 rfl) noItem)))) (consItem (mem_at 0 rfl) noItem) noItem⟩
  · intro s2 o3 h a w hA
    obtain ⟨hE, hS⟩ := hA
    unfold spec_l28All_L1 at h
    refine g_enter hE hS ?_
    refine g_seq ?_
    refine g_seq ?_
    refine g_region ?_
    refine gl_batch 2 [(5, .slice a_run (List.length run) c_run), (4, .int .i64 s2)] rfl ?_
    refine gl_len rfl Fs26 rfl rfl ?_
    refine gl_batch 1 [(7, .bool (decide (s2 < (List.length run : Int))))] rfl ?_
    refine gl_nil ?_
    refine gx_seq ?_
    refine g_cond (b := decide (s2 < (List.length run : Int))) rfl (fun hc => ?_) (fun hc => ?_)
    · replace h := condT hc h
      refine g_skip ?_
      refine gx_seq ?_
      refine g_seq ?_
      refine g_block ?_
      refine g_seq ?_
      refine g_region ?_
      refine gl_batch 2 [(11, .int .i64 s2), (10, .slice a_run (List.length run) c_run)] rfl ?_
      obtain ⟨x4, hx4, h⟩ := bindS h
      refine gl_idxOn (k := .i64) (mem_at 0 rfl) rfl rfl Fs26 Fz47 hx4 rfl rfl ?_
      intro p5
      refine gl_ldA (vs := [.int .i64 x4.Event, .int .i64 x4.Number, .int .i64 x4.Time]) 0 hasAT (mem_at 0 rfl) rfl rfl Fm47 Fz47 rfl rfl rfl ?_
      refine gl_call rfl rfl (fun w => by kernel_rfl) (c_spec_l28Writable x4 rfl) (consItem (mem_at 0 rfl) (consItem (mem_at 1 rfl) (consItem (mem_at 2 rfl) (consItem (mem_at 3 rfl) noItem)))) noItem ?_
      rintro v outs ros ⟨rfl, rfl, rfl⟩
      refine ⟨_, rfl, ?_⟩
      refine gl_batch 1 [(15, .bool (!(spec_l28Writable x4)))] rfl ?_
      refine gl_nil ?_
      refine gx_seq ?_
      refine g_cond (b := !(spec_l28Writable x4)) rfl (fun hc => ?_) (fun hc => ?_)
      · replace h := condT hc h
        refine g_seq ?_
        refine g_region ?_
        refine gl_batch 1 [(2, .bool false)] rfl ?_
        refine gl_nil ?_
        refine gx_seq ?_
        refine g_ret ?_
        refine gx_blk_ret ?_
        refine gx_seq_ret ?_
        obtain rfl := Option.some.inj h
        exact gx_of (fun a w hE hS => lp_out nofun (inL ⟨rfl, hE.sub ⟨rfl, trivial⟩, (hS.take 0).facts _ _ [] (consItem (mem_at 0 rfl) (consItem (mem_at 1 rfl) (consItem (mem_at 2 rfl) (consItem (mem_at 3 rfl) noItem)))) (consItem (mem_at 1 rfl) noItem) noItem⟩))
      · replace h := condF hc h
        refine g_skip ?_
        refine gx_blk ?_
        refine gx_seq ?_
        refine g_region ?_
        refine gl_batch 3 [(3, .int .i64 (IntKind.i64.wrap (s2 + 1))), (9, .int .i64 (IntKind.i64.wrap (s2 + 1))), (8, .int .i64 s2)] rfl ?_
        refine gl_nil ?_
        obtain rfl := Option.some.inj h
        exact gx_of (fun a w hE hS => lp_in ⟨hE.sub ⟨rfl, rfl, trivial⟩, (hS.take 0).facts _ _ [] (consItem (mem_at 0 rfl) (consItem (mem_at 1 rfl) (consItem (mem_at 2 rfl) (consItem (mem_at 3 rfl) noItem)))) (consItem (mem_at 1 rfl) noItem) noItem⟩)
    · replace h := condF hc h
      refine g_exit ?_
      refine gx_seq_exit ?_
      obtain rfl := Option.some.inj h
      exact gx_of (fun a w hE hS => lp_out nofun (inR ⟨rfl, hE.sub ⟨rfl, trivial⟩, (hS.take 0).facts _ _ [] (consItem (mem_at 0 rfl) (consItem (mem_at 1 rfl) (consItem (mem_at 2 rfl) (consItem (mem_at 3 rfl) noItem)))) (consItem (mem_at 0 rfl) noItem) noItem⟩))
  · intro e a w hm
    rcases o1 with s6 | s7
    · replace h := elimL h
      obtain ⟨rfl, hE, hS⟩ := hm
      refine gx_to hE hS ?_
      refine gx_blk_ret ?_
      refine gx_seq_ret ?_
      obtain rfl := Option.some.inj h
      exact gx_fin rfl [.bool false] _ _ [] ⟨_, _, rfl, rfl, rfl⟩ rfl ⟨rfl, rfl, rfl⟩ (fun w hS => (hS.take 0).facts [] [] [] noItem noItem noItem) (Or.inl rfl)
    · replace h := elimR h
      obtain ⟨rfl, hE, hS⟩ := hm
      refine gx_to hE hS ?_
      refine gx_blk_hit ?_
      refine gx_seq ?_
      refine g_seq ?_
      refine g_region ?_
      refine gl_batch 1 [(16, .slice a_run (List.length run) c_run)] rfl ?_
      refine gl_len rfl Fs26 rfl rfl ?_
      refine gl_batch 2 [(2, .bool (decide ((List.length run : Int) ≤ 500))), (18, .bool (decide ((List.length run : Int) ≤ 500)))] rfl ?_
      refine gl_nil ?_
      refine gx_seq ?_
      refine g_ret ?_
      obtain rfl := Option.some.inj h
      exact gx_fin rfl [.bool (decide ((List.length run : Int) ≤ 500))] _ _ [] ⟨_, _, rfl, rfl, rfl⟩ rfl ⟨rfl, rfl, rfl⟩ (fun w hS => (hS.take 0).facts [] [] [] noItem noItem noItem) (Or.inl rfl)

theorem c_spec_l28Line (f : Firing) (chain : Int)  {r : List UInt8} (h : spec_l28Line f chain = some r) : CallOK Tryd.prog 44 [.agg #[.int .i64 f.Event, .int .i64 f.Number, .int .i64 f.Time], .int .i64 chain] [] [gTab 3 pow10C, gNum 0, gErr 1, gErr 2] [] (fun v outs ros => v = str r ∧ outs = [] ∧ ros = []) := by
  refine fn_ok Tryd.func44 rfl Tryd.ntmps44 rfl (fun c hF0 => ?_)
  unfold spec_l28Line at h
  refine g_seq ?_
  refine g_region ?_
  refine gl_new (d := 2) (T := 47) [.int .i64 f.Event, .int .i64 f.Number, .int .i64 f.Time] rfl rfl (fun _ => rfl) (fun w => by kernel_rfl) ?_
  intro b1
  refine gl_batch 1 [(4, str [])] rfl ?_
  refine gl_nil ?_
  refine gx_seq ?_
  refine g_seq ?_
  obtain ⟨o2, ho2, h⟩ := bindS h
  obtain ⟨z3, hz3, h⟩ := bindS h
  obtain ⟨o4, ho4, h⟩ := bindS h
  obtain ⟨z5, hz5, h⟩ := bindS h
  obtain ⟨z6, hz6, h⟩ := bindS h
  obtain ⟨o7, ho7, h⟩ := bindS h
  obtain ⟨z8, hz8, h⟩ := bindS h
  refine g_state (E' := [(1, .int .i64 chain), (2, .pointer (some ⟨b1, 0, none⟩))]) (Rs' := [] ++ [BK 47 b1 [.int .i64 f.Event, .int .i64 f.Number, .int .i64 f.Time]]) (Xs' := [gTab 3 pow10C, gNum 0, gErr 1, gErr 2]) (Os' := []) (Vs' := []) ⟨rfl, rfl, trivial⟩ (fun w hS => hS) ?_
  refine g_draw (Rs := [BK 47 b1 [.int .i64 f.Event, .int .i64 f.Number, .int .i64 f.Time]]) 13 (dOf [[], [0], [1], [2], [], [4], [5], [3, 6], [7], [], [9], [8, 10], [11]]) (spOf [det 0 (.pointer (some ⟨b1, 0, none⟩)), det 1 (.int .i64 f.Event), det 2 (str o2), det 3 (str z3), det 4 (.pointer (some ⟨b1, 2, none⟩)), det 5 (.int .i64 f.Time), det 6 (str o4), det 7 (str z5), det 8 (str z6), det 9 (.int .i64 chain), det 10 (str o7), det 11 (str z8), det 12 (str z8)]) [] (fun _ _ => []) (eOf [[(2, .pointer (some ⟨b1, 0, none⟩))], [], [], [], [(2, .pointer (some ⟨b1, 0, none⟩))], [], [], [], [], [(1, .int .i64 chain)], [], [], []]) mixed rfl (Or.inl rfl) ⟨⟨⟨⟨⟨⟨⟨⟨⟨⟨⟨⟨⟨trivial, ⟨rfl, trivial⟩⟩, trivial⟩, trivial⟩, trivial⟩, ⟨rfl, trivial⟩⟩, trivial⟩, trivial⟩, trivial⟩, trivial⟩, ⟨rfl, trivial⟩⟩, trivial⟩, trivial⟩, trivial⟩ rfl ⟨⟨⟨⟨⟨⟨⟨⟨⟨⟨⟨⟨⟨trivial, ?_⟩, ?_⟩, ?_⟩, ?_⟩, ?_⟩, ?_⟩, ?_⟩, ?_⟩, ?_⟩, ?_⟩, ?_⟩, ?_⟩, ?_⟩ ?_
  · intro vals E' R' O' hD
    refine gl_run (v := .pointer (some ⟨b1, 0, none⟩)) rfl rfl rfl (fun w => by kernel_rfl) ?_
    refine gl_nil ?_
    exact gx_fp (.pointer (some ⟨b1, 0, none⟩)) rfl rfl rfl rfl (fun _ h => h.sub (fun _ h => h) (st_oo (A := [])) (fun o ho => by cases ho))
  · intro vals E' R' O' hD
    have h0 : vals 0 = .pointer (some ⟨b1, 0, none⟩) := hD 0 (memN 0 rfl)
    refine gl_convV (E2 := (5, .pointer (some ⟨b1, 0, none⟩)) :: ([] ++ E')) (V2 := [] ++ ([BK 47 b1 [.int .i64 f.Event, .int .i64 f.Number, .int .i64 f.Time]] ++ [])) (by show (5, vals 0) :: ([] ++ E') = _; rw [h0]) (by show [] ++ ([BK 47 b1 [.int .i64 f.Event, .int .i64 f.Number, .int .i64 f.Time]] ++ []) = _; rfl) ?_
    refine gl_ld1 0 hasBK (memV (mem_at 0 rfl)) rfl rfl Fo2 rfl rfl rfl ?_
    refine gl_nil ?_
    exact gx_fp (.int .i64 f.Event) rfl rfl rfl rfl (fun _ h => h.sub (fun _ h => h) (st_oo (A := [])) (fun o ho => by cases ho))
  · intro vals E' R' O' hD
    have h1 : vals 1 = .int .i64 f.Event := hD 1 (memN 0 rfl)
    refine gl_convV (E2 := (6, .int .i64 f.Event) :: ([] ++ E')) (V2 := [] ++ ([BK 47 b1 [.int .i64 f.Event, .int .i64 f.Number, .int .i64 f.Time]] ++ [])) (by show (6, vals 1) :: ([] ++ E') = _; rw [h1]) (by show [] ++ ([BK 47 b1 [.int .i64 f.Event, .int .i64 f.Number, .int .i64 f.Time]] ++ []) = _; rfl) ?_
    refine gl_call rfl rfl (fun w => by kernel_rfl) (c_spec_l01Dec f.Event ho2) (consItem (mem_at 0 rfl) (consItem (mem_at 1 rfl) (consItem (mem_at 2 rfl) (consItem (mem_at 3 rfl) noItem)))) noItem ?_
    rintro v outs ros ⟨rfl, rfl, rfl⟩
    refine ⟨_, rfl, ?_⟩
    refine gl_nil ?_
    exact gx_fp (str o2) rfl rfl rfl rfl (fun _ h => h.sub (fun _ h => h) (st_oo (A := [])) (fun o ho => by cases ho))
  · intro vals E' R' O' hD
    have h2 : vals 2 = str o2 := hD 2 (memN 0 rfl)
    refine gl_convV (E2 := (7, str o2) :: ([] ++ E')) (V2 := [] ++ ([BK 47 b1 [.int .i64 f.Event, .int .i64 f.Number, .int .i64 f.Time]] ++ [])) (by show (7, vals 2) :: ([] ++ E') = _; rw [h2]) (by show [] ++ ([BK 47 b1 [.int .i64 f.Event, .int .i64 f.Number, .int .i64 f.Time]] ++ []) = _; rfl) ?_
    refine gl_scat rfl rfl hz3 rfl rfl ?_
    refine gl_nil ?_
    exact gx_fp (str z3) rfl rfl rfl rfl (fun _ h => h.sub (fun _ h => h) (st_oo (A := [])) (fun o ho => by cases ho))
  · intro vals E' R' O' hD
    refine gl_run (v := .pointer (some ⟨b1, 2, none⟩)) rfl rfl rfl (fun w => by kernel_rfl) ?_
    refine gl_nil ?_
    exact gx_fp (.pointer (some ⟨b1, 2, none⟩)) rfl rfl rfl rfl (fun _ h => h.sub (fun _ h => h) (st_oo (A := [])) (fun o ho => by cases ho))
  · intro vals E' R' O' hD
    have h4 : vals 4 = .pointer (some ⟨b1, 2, none⟩) := hD 4 (memN 0 rfl)
    refine gl_convV (E2 := (9, .pointer (some ⟨b1, 2, none⟩)) :: ([] ++ E')) (V2 := [] ++ ([BK 47 b1 [.int .i64 f.Event, .int .i64 f.Number, .int .i64 f.Time]] ++ [])) (by show (9, vals 4) :: ([] ++ E') = _; rw [h4]) (by show [] ++ ([BK 47 b1 [.int .i64 f.Event, .int .i64 f.Number, .int .i64 f.Time]] ++ []) = _; rfl) ?_
    refine gl_ld1 2 hasBK (memV (mem_at 0 rfl)) rfl rfl Fo2 rfl rfl rfl ?_
    refine gl_nil ?_
    exact gx_fp (.int .i64 f.Time) rfl rfl rfl rfl (fun _ h => h.sub (fun _ h => h) (st_oo (A := [])) (fun o ho => by cases ho))
  · intro vals E' R' O' hD
    have h5 : vals 5 = .int .i64 f.Time := hD 5 (memN 0 rfl)
    refine gl_convV (E2 := (10, .int .i64 f.Time) :: ([] ++ E')) (V2 := [] ++ ([BK 47 b1 [.int .i64 f.Event, .int .i64 f.Number, .int .i64 f.Time]] ++ [])) (by show (10, vals 5) :: ([] ++ E') = _; rw [h5]) (by show [] ++ ([BK 47 b1 [.int .i64 f.Event, .int .i64 f.Number, .int .i64 f.Time]] ++ []) = _; rfl) ?_
    refine gl_call rfl rfl (fun w => by kernel_rfl) (c_spec_l01Dec f.Time ho4) (consItem (mem_at 0 rfl) (consItem (mem_at 1 rfl) (consItem (mem_at 2 rfl) (consItem (mem_at 3 rfl) noItem)))) noItem ?_
    rintro v outs ros ⟨rfl, rfl, rfl⟩
    refine ⟨_, rfl, ?_⟩
    refine gl_nil ?_
    exact gx_fp (str o4) rfl rfl rfl rfl (fun _ h => h.sub (fun _ h => h) (st_oo (A := [])) (fun o ho => by cases ho))
  · intro vals E' R' O' hD
    have h3 : vals 3 = str z3 := hD 3 (memN 0 rfl)
    have h6 : vals 6 = str o4 := hD 6 (memN 1 rfl)
    refine gl_convV (E2 := (8, str z3) :: (11, str o4) :: ([] ++ E')) (V2 := [] ++ ([BK 47 b1 [.int .i64 f.Event, .int .i64 f.Number, .int .i64 f.Time]] ++ [])) (by show (8, vals 3) :: (11, vals 6) :: ([] ++ E') = _; rw [h3, h6]) (by show [] ++ ([BK 47 b1 [.int .i64 f.Event, .int .i64 f.Number, .int .i64 f.Time]] ++ []) = _; rfl) ?_
    refine gl_scat rfl rfl hz5 rfl rfl ?_
    refine gl_nil ?_
    exact gx_fp (str z5) rfl rfl rfl rfl (fun _ h => h.sub (fun _ h => h) (st_oo (A := [])) (fun o ho => by cases ho))
  · intro vals E' R' O' hD
    have h7 : vals 7 = str z5 := hD 7 (memN 0 rfl)
    refine gl_convV (E2 := (12, str z5) :: ([] ++ E')) (V2 := [] ++ ([BK 47 b1 [.int .i64 f.Event, .int .i64 f.Number, .int .i64 f.Time]] ++ [])) (by show (12, vals 7) :: ([] ++ E') = _; rw [h7]) (by show [] ++ ([BK 47 b1 [.int .i64 f.Event, .int .i64 f.Number, .int .i64 f.Time]] ++ []) = _; rfl) ?_
    refine gl_scat rfl rfl hz6 rfl rfl ?_
    refine gl_nil ?_
    exact gx_fp (str z6) rfl rfl rfl rfl (fun _ h => h.sub (fun _ h => h) (st_oo (A := [])) (fun o ho => by cases ho))
  · intro vals E' R' O' hD
    refine gl_batch 1 [(14, .int .i64 chain)] rfl ?_
    refine gl_nil ?_
    exact gx_fp (.int .i64 chain) rfl rfl rfl rfl (fun _ h => h.sub (fun _ h => h) (st_oo (A := [])) (fun o ho => by cases ho))
  · intro vals E' R' O' hD
    have h9 : vals 9 = .int .i64 chain := hD 9 (memN 0 rfl)
    refine gl_convV (E2 := (14, .int .i64 chain) :: ([] ++ E')) (V2 := [] ++ ([BK 47 b1 [.int .i64 f.Event, .int .i64 f.Number, .int .i64 f.Time]] ++ [])) (by show (14, vals 9) :: ([] ++ E') = _; rw [h9]) (by show [] ++ ([BK 47 b1 [.int .i64 f.Event, .int .i64 f.Number, .int .i64 f.Time]] ++ []) = _; rfl) ?_
    refine gl_call rfl rfl (fun w => by kernel_rfl) (c_spec_l01Dec chain ho7) (consItem (mem_at 0 rfl) (consItem (mem_at 1 rfl) (consItem (mem_at 2 rfl) (consItem (mem_at 3 rfl) noItem)))) noItem ?_
    rintro v outs ros ⟨rfl, rfl, rfl⟩
    refine ⟨_, rfl, ?_⟩
    refine gl_nil ?_
    exact gx_fp (str o7) rfl rfl rfl rfl (fun _ h => h.sub (fun _ h => h) (st_oo (A := [])) (fun o ho => by cases ho))
  · intro vals E' R' O' hD
    have h8 : vals 8 = str z6 := hD 8 (memN 0 rfl)
    have h10 : vals 10 = str o7 := hD 10 (memN 1 rfl)
    refine gl_convV (E2 := (13, str z6) :: (15, str o7) :: ([] ++ E')) (V2 := [] ++ ([BK 47 b1 [.int .i64 f.Event, .int .i64 f.Number, .int .i64 f.Time]] ++ [])) (by show (13, vals 8) :: (15, vals 10) :: ([] ++ E') = _; rw [h8, h10]) (by show [] ++ ([BK 47 b1 [.int .i64 f.Event, .int .i64 f.Number, .int .i64 f.Time]] ++ []) = _; rfl) ?_
    refine gl_scat rfl rfl hz8 rfl rfl ?_
    refine gl_nil ?_
    exact gx_fp (str z8) rfl rfl rfl rfl (fun _ h => h.sub (fun _ h => h) (st_oo (A := [])) (fun o ho => by cases ho))
  · intro vals E' R' O' hD
    have h11 : vals 11 = str z8 := hD 11 (memN 0 rfl)
    refine gl_convV (E2 := (16, str z8) :: ([] ++ E')) (V2 := [] ++ ([BK 47 b1 [.int .i64 f.Event, .int .i64 f.Number, .int .i64 f.Time]] ++ [])) (by show (16, vals 11) :: ([] ++ E') = _; rw [h11]) (by show [] ++ ([BK 47 b1 [.int .i64 f.Event, .int .i64 f.Number, .int .i64 f.Time]] ++ []) = _; rfl) ?_
    refine gl_batch 1 [(4, str z8)] rfl ?_
    refine gl_nil ?_
    exact gx_fp (str z8) rfl rfl rfl rfl (fun _ h => h.sub (fun _ h => h) (st_oo (A := [])) (fun o ho => by cases ho))
  · intro vals hv
    obtain ⟨⟨⟨⟨⟨⟨⟨⟨⟨⟨⟨⟨⟨_, h0⟩, h1⟩, h2⟩, h3⟩, h4⟩, h5⟩, h6⟩, h7⟩, h8⟩, h9⟩, h10⟩, h11⟩, h12⟩ := hv
    have h0 : vals 0 = .pointer (some ⟨b1, 0, none⟩) := h0
    have h1 : vals 1 = .int .i64 f.Event := h1
    have h2 : vals 2 = str o2 := h2
    have h3 : vals 3 = str z3 := h3
    have h4 : vals 4 = .pointer (some ⟨b1, 2, none⟩) := h4
    have h5 : vals 5 = .int .i64 f.Time := h5
    have h6 : vals 6 = str o4 := h6
    have h7 : vals 7 = str z5 := h7
    have h8 : vals 8 = str z6 := h8
    have h9 : vals 9 = .int .i64 chain := h9
    have h10 : vals 10 = str o7 := h10
    have h11 : vals 11 = str z8 := h11
    have h12 : vals 12 = str z8 := h12
    refine gl_conv (E2 := (5, .pointer (some ⟨b1, 0, none⟩)) :: (6, .int .i64 f.Event) :: (7, str o2) :: (8, str z3) :: (9, .pointer (some ⟨b1, 2, none⟩)) :: (10, .int .i64 f.Time) :: (11, str o4) :: (12, str z5) :: (13, str z6) :: (14, .int .i64 chain) :: (15, str o7) :: (16, str z8) :: (4, str z8) :: [(1, .int .i64 chain), (2, .pointer (some ⟨b1, 0, none⟩))]) (R2 := [] ++ ([] ++ [BK 47 b1 [.int .i64 f.Event, .int .i64 f.Number, .int .i64 f.Time]])) (O2 := [] ++ []) (by show (5, vals 0) :: (6, vals 1) :: (7, vals 2) :: (8, vals 3) :: (9, vals 4) :: (10, vals 5) :: (11, vals 6) :: (12, vals 7) :: (13, vals 8) :: (14, vals 9) :: (15, vals 10) :: (16, vals 11) :: (4, vals 12) :: [(1, .int .i64 chain), (2, .pointer (some ⟨b1, 0, none⟩))] = _; rw [h0, h1, h2, h3, h4, h5, h6, h7, h8, h9, h10, h11, h12]) (by show [] ++ ([] ++ [BK 47 b1 [.int .i64 f.Event, .int .i64 f.Number, .int .i64 f.Time]]) = _; rfl) rfl ?_
    refine gl_nil ?_
    refine gx_seq ?_
    refine g_ret ?_
    obtain rfl := Option.some.inj h
    exact gx_fin rfl [str z8] _ _ [] ⟨_, _, rfl, rfl, rfl⟩ rfl ⟨rfl, rfl, rfl⟩ (fun w hS => (hS.take 0).facts [] [] [] noItem noItem noItem) (Or.inl rfl)

theorem c_internal_stringslite_TrimPrefix (s : List UInt8) (prefix_v : List UInt8)  {r : List UInt8} (h : internal_stringslite_TrimPrefix s prefix_v = some r) : CallOK Tryd.prog 112 [str s, str prefix_v] [] [gTab 3 pow10C, gNum 0, gErr 1, gErr 2] [] (fun v outs ros => v = str r ∧ outs = [] ∧ ros = []) := by
  refine fn_ok Tryd.func112 rfl Tryd.ntmps112 rfl (fun c hF0 => ?_)
  unfold internal_stringslite_TrimPrefix at h
  refine g_seq ?_
  refine g_region ?_
  refine gl_batch 1 [(4, str [])] rfl ?_
  refine gl_nil ?_
  refine gx_seq ?_
  refine g_seq ?_
  refine g_seq ?_
  refine g_region ?_
  refine gl_batch 2 [(6, str prefix_v), (5, str s)] rfl ?_
  obtain ⟨o1, ho1, h⟩ := bindS h
  refine gl_call rfl rfl (fun w => by kernel_rfl) (c_internal_stringslite_HasPrefix s prefix_v ho1) (consItem (mem_at 0 rfl) (consItem (mem_at 1 rfl) (consItem (mem_at 2 rfl) (consItem (mem_at 3 rfl) noItem)))) noItem ?_
  rintro v outs ros ⟨rfl, rfl, rfl⟩
  refine ⟨_, rfl, ?_⟩
  refine gl_nil ?_
  refine gx_seq ?_
  refine g_cond (b := o1) rfl (fun hc => ?_) (fun hc => ?_)
  · replace h := condT hc h
    refine g_seq ?_
    refine g_region ?_
    refine gl_batch 2 [(9, str prefix_v), (8, str s)] rfl ?_
    refine gl_slen (s := prefix_v) rfl Ft9 rfl rfl ?_
    obtain ⟨z2, hz2, h⟩ := bindS h
    refine gl_ssub (i := (List.length prefix_v : Int)) (j := (List.length s : Int)) (k := .i64) (k2 := .i64) rfl rfl rfl Ft9 hz2 rfl rfl ?_
    refine gl_batch 1 [(4, str z2)] rfl ?_
    refine gl_nil ?_
    refine gx_seq ?_
    refine g_ret ?_
    refine gx_seq_ret ?_
    obtain rfl := Option.some.inj h
    exact gx_fin rfl [str z2] _ _ [] ⟨_, _, rfl, rfl, rfl⟩ rfl ⟨rfl, rfl, rfl⟩ (fun w hS => (hS.take 0).facts [] [] [] noItem noItem noItem) (Or.inl rfl)
  · replace h := condF hc h
    refine g_skip ?_
    refine gx_seq ?_
    refine g_seq ?_
    refine g_region ?_
    refine gl_batch 2 [(4, str s), (12, str s)] rfl ?_
    refine gl_nil ?_
    refine gx_seq ?_
    refine g_ret ?_
    obtain rfl := Option.some.inj h
    exact gx_fin rfl [str s] _ _ [] ⟨_, _, rfl, rfl, rfl⟩ rfl ⟨rfl, rfl, rfl⟩ (fun w hS => (hS.take 0).facts [] [] [] noItem noItem noItem) (Or.inl rfl)

theorem c_strings_TrimPrefix (s : List UInt8) (prefix_v : List UInt8)  {r : List UInt8} (h : strings_TrimPrefix s prefix_v = some r) : CallOK Tryd.prog 94 [str s, str prefix_v] [] [gTab 3 pow10C, gNum 0, gErr 1, gErr 2] [] (fun v outs ros => v = str r ∧ outs = [] ∧ ros = []) := by
  refine fn_ok Tryd.func94 rfl Tryd.ntmps94 rfl (fun c hF0 => ?_)
  unfold strings_TrimPrefix at h
  refine g_seq ?_
  refine g_region ?_
  refine gl_batch 1 [(4, str [])] rfl ?_
  refine gl_nil ?_
  refine gx_seq ?_
  refine g_seq ?_
  refine g_region ?_
  refine gl_batch 2 [(6, str prefix_v), (5, str s)] rfl ?_
  obtain ⟨o1, ho1, h⟩ := bindS h
  refine gl_call rfl rfl (fun w => by kernel_rfl) (c_internal_stringslite_TrimPrefix s prefix_v ho1) (consItem (mem_at 0 rfl) (consItem (mem_at 1 rfl) (consItem (mem_at 2 rfl) (consItem (mem_at 3 rfl) noItem)))) noItem ?_
  rintro v outs ros ⟨rfl, rfl, rfl⟩
  refine ⟨_, rfl, ?_⟩
  refine gl_batch 1 [(4, str o1)] rfl ?_
  refine gl_nil ?_
  refine gx_seq ?_
  refine g_ret ?_
  obtain rfl := Option.some.inj h
  exact gx_fin rfl [str o1] _ _ [] ⟨_, _, rfl, rfl, rfl⟩ rfl ⟨rfl, rfl, rfl⟩ (fun w hS => (hS.take 0).facts [] [] [] noItem noItem noItem) (Or.inl rfl)

end Go.Proofs.YtneifoepoccjaaaDoor
