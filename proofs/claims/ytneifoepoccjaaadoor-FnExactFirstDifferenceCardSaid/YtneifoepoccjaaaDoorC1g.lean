/-
  What each function gives when it is called: the contracts, each with the walk through its code. Written by a program of ours.
-/
import Derived.Test.YtneifoepoccjaaaDoorC10
import Derived.Test.YtneifoepoccjaaaDoorC1a
import Derived.Test.YtneifoepoccjaaaDoorC1b
import Derived.Test.YtneifoepoccjaaaDoorC1e
import Derived.Test.YtneifoepoccjaaaDoorC1f
namespace Go.Proofs.YtneifoepoccjaaaDoor
open Go Go.Proofs Go.Shelf
set_option maxHeartbeats 16000000
theorem c_laws_FnExactRecoverTrace (aS : List UInt8)  {r : Bool} (h : laws_FnExactRecoverTrace aS = some r) : CallOK Tryd.prog 7 [str aS] [] [gTab 3 pow10C, gNum 0, gErr 1, gErr 2] [] (fun v outs ros => v = .bool r ∧ outs = [] ∧ ros = []) := by
  refine fn_ok Tryd.func7 rfl Tryd.ntmps7 rfl (fun c hF0 => ?_)
  unfold laws_FnExactRecoverTrace at h
  refine g_seq ?_
  refine g_region ?_
  refine gl_batch 1 [(2, .bool false)] rfl ?_
  refine gl_nil ?_
  refine gx_seq ?_
  refine g_seq ?_
  refine g_seq ?_
  refine g_region ?_
  refine gl_batch 1 [(11, str aS)] rfl ?_
  refine gl_slen (s := aS) rfl Ft9 rfl rfl ?_
  refine gl_batch 1 [(13, .bool (decide ((List.length aS : Int) > 1048576)))] rfl ?_
  refine gl_nil ?_
  refine gx_seq ?_
  refine g_cond (b := decide ((List.length aS : Int) > 1048576)) rfl (fun hc => ?_) (fun hc => ?_)
  · replace h := condT hc h
    refine g_seq ?_
    refine g_region ?_
    refine gl_batch 1 [(2, .bool true)] rfl ?_
    refine gl_nil ?_
    refine gx_seq ?_
    refine g_ret ?_
    refine gx_seq_ret ?_
    obtain rfl := Option.some.inj h
    exact gx_fin rfl [.bool true] _ _ [] ⟨_, _, rfl, rfl, rfl⟩ rfl ⟨rfl, rfl, rfl⟩ (fun w hS => (hS.take 0).facts [] [] [] noItem noItem noItem) (Or.inl rfl)
  · replace h := condF hc h
    refine g_skip ?_
    refine gx_seq ?_
    refine g_seq ?_
    refine g_region ?_
    refine gl_batch 1 [(15, str aS)] rfl ?_
    obtain ⟨o1, ho1, h⟩ := bindS h
    refine gl_call rfl rfl (fun w => by kernel_rfl) (c_spec_RecoverTrace aS ho1) (consItem (mem_at 0 rfl) (consItem (mem_at 1 rfl) (consItem (mem_at 2 rfl) (consItem (mem_at 3 rfl) noItem)))) noItem ?_
    rintro v outs ros ⟨a_v2, c_v3, rfl, rfl, rfl⟩
    refine ⟨_, rfl, ?_⟩
    refine gl_batch 5 [(4, .int .i64 o1.2), (3, .slice a_v2 (List.length o1.1) c_v3), (18, .int .i64 o1.2), (17, .slice a_v2 (List.length o1.1) c_v3), (14, .tuple #[.slice a_v2 (List.length o1.1) c_v3, .int .i64 o1.2])] rfl ?_
    refine gl_nil ?_
    refine gx_seq ?_
    refine g_seq ?_
    refine g_region ?_
    refine gl_batch 1 [(20, str aS)] rfl ?_
    obtain ⟨o4, ho4, h⟩ := bindS h
    refine gl_call rfl rfl (fun w => by kernel_rfl) (c_impl_RecoverTrace aS ho4) (consItem (mem_at 0 rfl) (consItem (mem_at 1 rfl) (consItem (mem_at 2 rfl) (consItem (mem_at 3 rfl) noItem)))) noItem ?_
    rintro v outs ros ⟨a_v5, c_v6, rfl, rfl, rfl⟩
    refine ⟨_, rfl, ?_⟩
    refine gl_batch 5 [(6, .int .i64 o4.2), (5, .slice a_v5 (List.length o4.1) c_v6), (23, .int .i64 o4.2), (22, .slice a_v5 (List.length o4.1) c_v6), (19, .tuple #[.slice a_v5 (List.length o4.1) c_v6, .int .i64 o4.2])] rfl ?_
    refine gl_nil ?_
    refine gx_seq ?_
    refine g_seq ?_
    refine g_seq ?_
    refine g_region ?_
    refine gl_batch 2 [(25, .slice a_v2 (List.length o1.1) c_v3), (24, .slice a_v5 (List.length o4.1) c_v6)] rfl ?_
    obtain ⟨o7, ho7, h⟩ := bindS h
    refine gl_call rfl rfl (fun w => by kernel_rfl) (c_laws_eqFiringS o4.1 o1.1 a_v5 c_v6 a_v2 c_v3 ho7) (consItem (mem_at 0 rfl) (consItem (mem_at 1 rfl) (consItem (mem_at 2 rfl) (consItem (mem_at 3 rfl) noItem)))) (consItem (mem_at 0 rfl) (consItem (mem_at 1 rfl) noItem)) ?_
    rintro v outs ros ⟨rfl, rfl, rfl⟩
    refine ⟨_, rfl, ?_⟩
    refine gl_batch 2 [(28, .bool (!o7)), (27, .bool (!o7))] rfl ?_
    refine gl_join (EE := [(32, .bool ((!o7) || (o4.2 != o1.2))), (0, str aS), (3, .slice a_v2 (List.length o1.1) c_v3), (4, .int .i64 o1.2), (5, .slice a_v5 (List.length o4.1) c_v6)]) (RR := [SL false 47 FiringS a_v5 c_v6 o4.1, SL false 47 FiringS a_v2 c_v3 o1.1]) (XX := [gTab 3 pow10C, gNum 0, gErr 1, gErr 2]) (OO := []) (VV := []) 4 ?_ ?_
    · skip
      refine gl_case 28 rfl (fun hc => ?_) (fun hc => ?_)
      · skip
        refine gl_batch 4 [(32, .bool true), (31, undef), (30, undef), (29, undef)] rfl ?_
        refine gl_nil ?_
        exact gx_mid ⟨congrArg (fun z => some (Value.bool z)) (or_t hc).symm, rfl, rfl, rfl, rfl, trivial⟩ (fun w hS => hS)
      · skip
        refine gl_batch 4 [(32, .bool (o4.2 != o1.2)), (31, .bool (o4.2 != o1.2)), (30, .int .i64 o1.2), (29, .int .i64 o4.2)] rfl ?_
        refine gl_nil ?_
        exact gx_mid ⟨congrArg (fun z => some (Value.bool z)) (or_f hc).symm, rfl, rfl, rfl, rfl, trivial⟩ (fun w hS => hS)
    · skip
      refine gl_nil ?_
      refine gx_seq ?_
      refine g_cond (b := (!o7) || (o4.2 != o1.2)) rfl (fun hc => ?_) (fun hc => ?_)
      · replace h := condT hc h
        refine g_seq ?_
        refine g_region ?_
        refine gl_batch 1 [(2, .bool false)] rfl ?_
        refine gl_nil ?_
        refine gx_seq ?_
        refine g_ret ?_
        refine gx_seq_ret ?_
        obtain rfl := Option.some.inj h
        exact gx_fin rfl [.bool false] _ _ [] ⟨_, _, rfl, rfl, rfl⟩ rfl ⟨rfl, rfl, rfl⟩ (fun w hS => (hS.take 0).facts [] [] [] noItem noItem noItem) (Or.inl rfl)
      · replace h := condF hc h
        refine g_skip ?_
        refine gx_seq ?_
        refine g_seq ?_
        refine g_region ?_
        refine gl_batch 1 [(7, .int .i64 1)] rfl ?_
        refine gl_nil ?_
        refine gx_seq ?_
        refine g_seq ?_
        refine g_region ?_
        refine gl_batch 2 [(34, .int .i64 1), (33, .slice a_v5 (List.length o4.1) c_v6)] rfl ?_
        obtain ⟨o8, ho8, h⟩ := bindS h
        refine gl_callIn rfl rfl (fun w => by kernel_rfl) (c_laws_markFiringS o4.1 1 a_v5 c_v6 ho8) (consItem (mem_at 0 rfl) (consItem (mem_at 1 rfl) (consItem (mem_at 2 rfl) (consItem (mem_at 3 rfl) noItem)))) noItem ?_
        rintro v outs ros ⟨rfl, rfl, rfl⟩
        refine ⟨_, rfl, ?_⟩
        refine gl_batch 1 [(7, .int .i64 o8.1)] rfl ?_
        refine gl_nil ?_
        refine gx_seq ?_
        refine g_seq ?_
        refine g_region ?_
        refine gl_batch 1 [(8, .int .i64 1)] rfl ?_
        refine gl_nil ?_
        refine gx_seq ?_
        refine g_seq ?_
        refine g_region ?_
        refine gl_batch 2 [(37, .int .i64 1), (36, .slice a_v5 (List.length o4.1) c_v6)] rfl ?_
        refine gl_relen (fun hn9 => ?_)
        refine gl_push 5 (.slice a_v5 (List.length o8.2) c_v6) (by rw [← hn9]; rfl) ?_
        refine gl_push 33 (.slice a_v5 (List.length o8.2) c_v6) (by rw [← hn9]; rfl) ?_
        refine gl_push 36 (.slice a_v5 (List.length o8.2) c_v6) (by rw [← hn9]; rfl) ?_
        obtain ⟨o10, ho10, h⟩ := bindS h
        refine gl_call rfl rfl (fun w => by kernel_rfl) (c_laws_heldFiringS o8.2 1 a_v5 c_v6 ho10) (consItem (mem_at 0 rfl) (consItem (mem_at 1 rfl) (consItem (mem_at 2 rfl) (consItem (mem_at 3 rfl) noItem)))) (consItem (mem_at 0 rfl) noItem) ?_
        rintro v outs ros ⟨rfl, rfl, rfl⟩
        refine ⟨_, rfl, ?_⟩
        refine gl_batch 1 [(8, .int .i64 o10)] rfl ?_
        refine gl_nil ?_
        refine gx_seq ?_
        refine g_seq ?_
        refine g_seq ?_
        refine g_region ?_
        refine gl_batch 2 [(40, .bool (decide (o10 < 0))), (39, .int .i64 o10)] rfl ?_
        refine gl_nil ?_
        refine gx_seq ?_
        refine g_cond (b := decide (o10 < 0)) rfl (fun hc => ?_) (fun hc => ?_)
        · replace h := condT hc h
          refine g_seq ?_
          refine g_region ?_
          refine gl_batch 1 [(2, .bool false)] rfl ?_
          refine gl_nil ?_
          refine gx_seq ?_
          refine g_ret ?_
          refine gx_seq_ret ?_
          obtain rfl := Option.some.inj h
          exact gx_fin rfl [.bool false] _ _ [] ⟨_, _, rfl, rfl, rfl⟩ rfl ⟨rfl, rfl, rfl⟩ (fun w hS => (hS.take 0).facts [] [] [] noItem noItem noItem) (Or.inl rfl)
        · replace h := condF hc h
          refine g_skip ?_
          refine gx_seq ?_
          refine g_seq ?_
          refine g_seq ?_
          refine g_region ?_
          refine gl_batch 3 [(43, .bool (o10 != o8.1)), (42, .int .i64 o8.1), (41, .int .i64 o10)] rfl ?_
          refine gl_nil ?_
          refine gx_seq ?_
          refine g_cond (b := o10 != o8.1) rfl (fun hc => ?_) (fun hc => ?_)
          · replace h := condT hc h
            refine g_seq ?_
            refine g_region ?_
            refine gl_batch 1 [(2, .bool false)] rfl ?_
            refine gl_nil ?_
            refine gx_seq ?_
            refine g_ret ?_
            refine gx_seq_ret ?_
            obtain rfl := Option.some.inj h
            exact gx_fin rfl [.bool false] _ _ [] ⟨_, _, rfl, rfl, rfl⟩ rfl ⟨rfl, rfl, rfl⟩ (fun w hS => (hS.take 0).facts [] [] [] noItem noItem noItem) (Or.inl rfl)
          · replace h := condF hc h
            refine g_skip ?_
            refine gx_seq ?_
            refine g_seq ?_
            refine g_region ?_
            refine gl_batch 1 [(45, str aS)] rfl ?_
            obtain ⟨o11, ho11, h⟩ := bindS h
            refine gl_call rfl rfl (fun w => by kernel_rfl) (c_impl_RecoverTrace aS ho11) (consItem (mem_at 0 rfl) (consItem (mem_at 1 rfl) (consItem (mem_at 2 rfl) (consItem (mem_at 3 rfl) noItem)))) noItem ?_
            rintro v outs ros ⟨a_v12, c_v13, rfl, rfl, rfl⟩
            refine ⟨_, rfl, ?_⟩
            refine gl_batch 5 [(10, .int .i64 o11.2), (9, .slice a_v12 (List.length o11.1) c_v13), (48, .int .i64 o11.2), (47, .slice a_v12 (List.length o11.1) c_v13), (44, .tuple #[.slice a_v12 (List.length o11.1) c_v13, .int .i64 o11.2])] rfl ?_
            refine gl_nil ?_
            refine gx_seq ?_
            refine g_seq ?_
            refine g_seq ?_
            refine g_region ?_
            refine gl_batch 2 [(50, .slice a_v2 (List.length o1.1) c_v3), (49, .slice a_v12 (List.length o11.1) c_v13)] rfl ?_
            obtain ⟨o14, ho14, h⟩ := bindS h
            refine gl_call rfl rfl (fun w => by kernel_rfl) (c_laws_eqFiringS o11.1 o1.1 a_v12 c_v13 a_v2 c_v3 ho14) (consItem (mem_at 0 rfl) (consItem (mem_at 1 rfl) (consItem (mem_at 2 rfl) (consItem (mem_at 3 rfl) noItem)))) (consItem (mem_at 0 rfl) (consItem (mem_at 2 rfl) noItem)) ?_
            rintro v outs ros ⟨rfl, rfl, rfl⟩
            refine ⟨_, rfl, ?_⟩
            refine gl_batch 2 [(53, .bool (!o14)), (52, .bool (!o14))] rfl ?_
            refine gl_join (EE := [(57, .bool ((!o14) || (o11.2 != o1.2))), (5, .slice a_v5 (List.length o8.2) c_v6), (7, .int .i64 o8.1)]) (RR := [SL false 47 FiringS a_v12 c_v13 o11.1, SL false 47 FiringS a_v5 c_v6 o8.2, SL false 47 FiringS a_v2 c_v3 o1.1]) (XX := [gTab 3 pow10C, gNum 0, gErr 1, gErr 2]) (OO := []) (VV := []) 4 ?_ ?_
            · skip
              refine gl_case 53 rfl (fun hc => ?_) (fun hc => ?_)
              · skip
                refine gl_batch 4 [(57, .bool true), (56, undef), (55, undef), (54, undef)] rfl ?_
                refine gl_nil ?_
                exact gx_mid ⟨congrArg (fun z => some (Value.bool z)) (or_t hc).symm, rfl, rfl, trivial⟩ (fun w hS => hS)
              · skip
                refine gl_batch 4 [(57, .bool (o11.2 != o1.2)), (56, .bool (o11.2 != o1.2)), (55, .int .i64 o1.2), (54, .int .i64 o11.2)] rfl ?_
                refine gl_nil ?_
                exact gx_mid ⟨congrArg (fun z => some (Value.bool z)) (or_f hc).symm, rfl, rfl, trivial⟩ (fun w hS => hS)
            · skip
              refine gl_nil ?_
              refine gx_seq ?_
              refine g_cond (b := (!o14) || (o11.2 != o1.2)) rfl (fun hc => ?_) (fun hc => ?_)
              · replace h := condT hc h
                refine g_seq ?_
                refine g_region ?_
                refine gl_batch 1 [(2, .bool false)] rfl ?_
                refine gl_nil ?_
                refine gx_seq ?_
                refine g_ret ?_
                refine gx_seq_ret ?_
                obtain rfl := Option.some.inj h
                exact gx_fin rfl [.bool false] _ _ [] ⟨_, _, rfl, rfl, rfl⟩ rfl ⟨rfl, rfl, rfl⟩ (fun w hS => (hS.take 0).facts [] [] [] noItem noItem noItem) (Or.inl rfl)
              · replace h := condF hc h
                refine g_skip ?_
                refine gx_seq ?_
                refine g_seq ?_
                refine g_region ?_
                refine gl_batch 1 [(8, .int .i64 1)] rfl ?_
                refine gl_nil ?_
                refine gx_seq ?_
                refine g_seq ?_
                refine g_region ?_
                refine gl_batch 2 [(59, .int .i64 1), (58, .slice a_v5 (List.length o8.2) c_v6)] rfl ?_
                obtain ⟨o15, ho15, h⟩ := bindS h
                refine gl_call rfl rfl (fun w => by kernel_rfl) (c_laws_heldFiringS o8.2 1 a_v5 c_v6 ho15) (consItem (mem_at 0 rfl) (consItem (mem_at 1 rfl) (consItem (mem_at 2 rfl) (consItem (mem_at 3 rfl) noItem)))) (consItem (mem_at 1 rfl) noItem) ?_
                rintro v outs ros ⟨rfl, rfl, rfl⟩
                refine ⟨_, rfl, ?_⟩
                refine gl_batch 1 [(8, .int .i64 o15)] rfl ?_
                refine gl_nil ?_
                refine gx_seq ?_
                refine g_seq ?_
                refine g_seq ?_
                refine g_region ?_
                refine gl_batch 2 [(62, .bool (decide (o15 < 0))), (61, .int .i64 o15)] rfl ?_
                refine gl_nil ?_
                refine gx_seq ?_
                refine g_cond (b := decide (o15 < 0)) rfl (fun hc => ?_) (fun hc => ?_)
                · replace h := condT hc h
                  refine g_seq ?_
                  refine g_region ?_
                  refine gl_batch 1 [(2, .bool false)] rfl ?_
                  refine gl_nil ?_
                  refine gx_seq ?_
                  refine g_ret ?_
                  refine gx_seq_ret ?_
                  obtain rfl := Option.some.inj h
                  exact gx_fin rfl [.bool false] _ _ [] ⟨_, _, rfl, rfl, rfl⟩ rfl ⟨rfl, rfl, rfl⟩ (fun w hS => (hS.take 0).facts [] [] [] noItem noItem noItem) (Or.inl rfl)
                · replace h := condF hc h
                  refine g_skip ?_
                  refine gx_seq ?_
                  refine g_seq ?_
                  refine g_seq ?_
                  refine g_region ?_
                  refine gl_batch 3 [(65, .bool (o15 != o8.1)), (64, .int .i64 o8.1), (63, .int .i64 o15)] rfl ?_
                  refine gl_nil ?_
                  refine gx_seq ?_
                  refine g_cond (b := o15 != o8.1) rfl (fun hc => ?_) (fun hc => ?_)
                  · replace h := condT hc h
                    refine g_seq ?_
                    refine g_region ?_
                    refine gl_batch 1 [(2, .bool false)] rfl ?_
                    refine gl_nil ?_
                    refine gx_seq ?_
                    refine g_ret ?_
                    refine gx_seq_ret ?_
                    obtain rfl := Option.some.inj h
                    exact gx_fin rfl [.bool false] _ _ [] ⟨_, _, rfl, rfl, rfl⟩ rfl ⟨rfl, rfl, rfl⟩ (fun w hS => (hS.take 0).facts [] [] [] noItem noItem noItem) (Or.inl rfl)
                  · replace h := condF hc h
                    refine g_skip ?_
                    refine gx_seq ?_
                    refine g_seq ?_
                    refine g_region ?_
                    refine gl_batch 1 [(2, .bool true)] rfl ?_
                    refine gl_nil ?_
                    refine gx_seq ?_
                    refine g_ret ?_
                    obtain rfl := Option.some.inj h
                    exact gx_fin rfl [.bool true] _ _ [] ⟨_, _, rfl, rfl, rfl⟩ rfl ⟨rfl, rfl, rfl⟩ (fun w hS => (hS.take 0).facts [] [] [] noItem noItem noItem) (Or.inl rfl)

theorem c_laws_FnExactAppendFiring (aS : List UInt8) (aF : Firing)  {r : Bool} (h : laws_FnExactAppendFiring aS aF = some r) : CallOK Tryd.prog 8 [str aS, .agg #[.int .i64 aF.Event, .int .i64 aF.Number, .int .i64 aF.Time]] [] [gTab 3 pow10C, gNum 0, gErr 1, gErr 2] [] (fun v outs ros => v = .bool r ∧ outs = [] ∧ ros = []) := by
  refine fn_ok Tryd.func8 rfl Tryd.ntmps8 rfl (fun c hF0 => ?_)
  unfold laws_FnExactAppendFiring at h
  refine g_seq ?_
  refine g_region ?_
  refine gl_new (d := 3) (T := 45) [.int .i64 aF.Event, .int .i64 aF.Number, .int .i64 aF.Time] rfl rfl (fun _ => rfl) (fun w => by kernel_rfl) ?_
  intro b1
  refine gl_batch 1 [(4, .bool false)] rfl ?_
  refine gl_nil ?_
  refine gx_seq ?_
  refine g_seq ?_
  refine g_seq ?_
  refine g_region ?_
  refine gl_batch 1 [(9, str aS)] rfl ?_
  refine gl_slen (s := aS) rfl Ft9 rfl rfl ?_
  refine gl_batch 1 [(11, .bool (decide ((List.length aS : Int) > 1048576)))] rfl ?_
  refine gl_nil ?_
  refine gx_seq ?_
  refine g_cond (b := decide ((List.length aS : Int) > 1048576)) rfl (fun hc => ?_) (fun hc => ?_)
  · replace h := condT hc h
    refine g_seq ?_
    refine g_region ?_
    refine gl_batch 1 [(4, .bool true)] rfl ?_
    refine gl_nil ?_
    refine gx_seq ?_
    refine g_ret ?_
    refine gx_seq_ret ?_
    obtain rfl := Option.some.inj h
    exact gx_fin rfl [.bool true] _ _ [] ⟨_, _, rfl, rfl, rfl⟩ rfl ⟨rfl, rfl, rfl⟩ (fun w hS => (hS.take 0).facts [] [] [] noItem noItem noItem) (Or.inl rfl)
  · replace h := condF hc h
    refine g_skip ?_
    refine gx_seq ?_
    refine g_seq ?_
    refine g_region ?_
    refine gl_batch 1 [(13, str aS)] rfl ?_
    refine gl_ldA (vs := [.int .i64 aF.Event, .int .i64 aF.Number, .int .i64 aF.Time]) 0 hasBK (mem_at 0 rfl) rfl rfl Fm45 Fz45 rfl rfl rfl ?_
    obtain ⟨o2, ho2, h⟩ := letS h
    refine gl_call rfl rfl (fun w => by kernel_rfl) (c_laws_toFiring aF ho2) (consItem (mem_at 0 rfl) (consItem (mem_at 1 rfl) (consItem (mem_at 2 rfl) (consItem (mem_at 3 rfl) noItem)))) noItem ?_
    rintro v outs ros ⟨rfl, rfl, rfl⟩
    refine ⟨_, rfl, ?_⟩
    obtain ⟨o3, ho3, h⟩ := bindS h
    refine gl_call rfl rfl (fun w => by kernel_rfl) (c_spec_AppendFiring aS o2 ho3) (consItem (mem_at 0 rfl) (consItem (mem_at 1 rfl) (consItem (mem_at 2 rfl) (consItem (mem_at 3 rfl) noItem)))) noItem ?_
    rintro v outs ros ⟨rfl, rfl, rfl⟩
    refine ⟨_, rfl, ?_⟩
    refine gl_batch 5 [(6, .int .i64 o3.2), (5, str o3.1), (18, .int .i64 o3.2), (17, str o3.1), (12, .tuple #[str o3.1, .int .i64 o3.2])] rfl ?_
    refine gl_nil ?_
    refine gx_seq ?_
    refine g_seq ?_
    refine g_region ?_
    refine gl_batch 1 [(20, str aS)] rfl ?_
    refine gl_ldA (vs := [.int .i64 aF.Event, .int .i64 aF.Number, .int .i64 aF.Time]) 0 hasBK (mem_at 0 rfl) rfl rfl Fm45 Fz45 rfl rfl rfl ?_
    obtain ⟨o4, ho4, h⟩ := letS h
    refine gl_call rfl rfl (fun w => by kernel_rfl) (c_laws_toFiring aF ho4) (consItem (mem_at 0 rfl) (consItem (mem_at 1 rfl) (consItem (mem_at 2 rfl) (consItem (mem_at 3 rfl) noItem)))) noItem ?_
    rintro v outs ros ⟨rfl, rfl, rfl⟩
    refine ⟨_, rfl, ?_⟩
    obtain ⟨o5, ho5, h⟩ := bindS h
    refine gl_call rfl rfl (fun w => by kernel_rfl) (c_impl_AppendFiring aS o4 ho5) (consItem (mem_at 0 rfl) (consItem (mem_at 1 rfl) (consItem (mem_at 2 rfl) (consItem (mem_at 3 rfl) noItem)))) noItem ?_
    rintro v outs ros ⟨rfl, rfl, rfl⟩
    refine ⟨_, rfl, ?_⟩
    refine gl_batch 5 [(8, .int .i64 o5.2), (7, str o5.1), (25, .int .i64 o5.2), (24, str o5.1), (19, .tuple #[str o5.1, .int .i64 o5.2])] rfl ?_
    refine gl_nil ?_
    refine gx_seq ?_
    refine g_seq ?_
    refine g_seq ?_
    refine g_region ?_
    refine gl_batch 2 [(27, str o3.1), (26, str o5.1)] rfl ?_
    refine gl_sne (s := o5.1) (u := o3.1) rfl rfl rfl rfl ?_
    refine gl_batch 1 [(29, .bool (!(o5.1 == o3.1)))] rfl ?_
    refine gl_join (EE := [(33, .bool ((!(o5.1 == o3.1)) || (o5.2 != o3.2)))]) (RR := [BK 45 b1 [.int .i64 aF.Event, .int .i64 aF.Number, .int .i64 aF.Time]]) (XX := [gTab 3 pow10C, gNum 0, gErr 1, gErr 2]) (OO := []) (VV := []) 4 ?_ ?_
    · skip
      refine gl_case 29 rfl (fun hc => ?_) (fun hc => ?_)
      · skip
        refine gl_batch 4 [(33, .bool true), (32, undef), (31, undef), (30, undef)] rfl ?_
        refine gl_nil ?_
        exact gx_mid ⟨congrArg (fun z => some (Value.bool z)) (or_t hc).symm, trivial⟩ (fun w hS => hS)
      · skip
        refine gl_batch 4 [(33, .bool (o5.2 != o3.2)), (32, .bool (o5.2 != o3.2)), (31, .int .i64 o3.2), (30, .int .i64 o5.2)] rfl ?_
        refine gl_nil ?_
        exact gx_mid ⟨congrArg (fun z => some (Value.bool z)) (or_f hc).symm, trivial⟩ (fun w hS => hS)
    · skip
      refine gl_nil ?_
      refine gx_seq ?_
      refine g_cond (b := (!(o5.1 == o3.1)) || (o5.2 != o3.2)) rfl (fun hc => ?_) (fun hc => ?_)
      · replace h := condT hc h
        refine g_seq ?_
        refine g_region ?_
        refine gl_batch 1 [(4, .bool false)] rfl ?_
        refine gl_nil ?_
        refine gx_seq ?_
        refine g_ret ?_
        refine gx_seq_ret ?_
        obtain rfl := Option.some.inj h
        exact gx_fin rfl [.bool false] _ _ [] ⟨_, _, rfl, rfl, rfl⟩ rfl ⟨rfl, rfl, rfl⟩ (fun w hS => (hS.take 0).facts [] [] [] noItem noItem noItem) (Or.inl rfl)
      · replace h := condF hc h
        refine g_skip ?_
        refine gx_seq ?_
        refine g_seq ?_
        refine g_region ?_
        refine gl_batch 1 [(4, .bool true)] rfl ?_
        refine gl_nil ?_
        refine gx_seq ?_
        refine g_ret ?_
        obtain rfl := Option.some.inj h
        exact gx_fin rfl [.bool true] _ _ [] ⟨_, _, rfl, rfl, rfl⟩ rfl ⟨rfl, rfl, rfl⟩ (fun w hS => (hS.take 0).facts [] [] [] noItem noItem noItem) (Or.inl rfl)

theorem c_impl_FirstDifference (s : List UInt8) (t : List UInt8)  {r : Int × Int} (h : impl_FirstDifference s t = some r) : CallOK Tryd.prog 21 [str s, str t] [] [gTab 3 pow10C, gNum 0, gErr 1, gErr 2] [] (fun v outs ros => v = .tuple #[.int .i64 r.1, .int .i64 r.2] ∧ outs = [] ∧ ros = []) := by
  refine fn_ok Tryd.func21 rfl Tryd.ntmps21 rfl (fun c hF0 => ?_)
  unfold impl_FirstDifference at h
  refine g_seq ?_
  refine g_region ?_
  refine gl_batch 2 [(5, .int .i64 0), (4, .int .i64 0)] rfl ?_
  refine gl_nil ?_
  refine gx_seq ?_
  refine g_seq ?_
  refine g_region ?_
  refine gl_batch 1 [(11, str s)] rfl ?_
  obtain ⟨o1, ho1, h⟩ := bindS h
  refine gl_call rfl rfl (fun w => by kernel_rfl) (c_impl_RecoverTrace s ho1) (consItem (mem_at 0 rfl) (consItem (mem_at 1 rfl) (consItem (mem_at 2 rfl) (consItem (mem_at 3 rfl) noItem)))) noItem ?_
  rintro v outs ros ⟨a_v2, c_v3, rfl, rfl, rfl⟩
  refine ⟨_, rfl, ?_⟩
  refine gl_batch 5 [(7, .int .i64 o1.2), (6, .slice a_v2 (List.length o1.1) c_v3), (14, .int .i64 o1.2), (13, .slice a_v2 (List.length o1.1) c_v3), (10, .tuple #[.slice a_v2 (List.length o1.1) c_v3, .int .i64 o1.2])] rfl ?_
  refine gl_nil ?_
  refine gx_seq ?_
  refine g_seq ?_
  refine g_seq ?_
  refine g_region ?_
  refine gl_batch 2 [(16, .bool (o1.2 != 0)), (15, .int .i64 o1.2)] rfl ?_
  refine gl_nil ?_
  refine gx_seq ?_
  refine g_cond (b := o1.2 != 0) rfl (fun hc => ?_) (fun hc => ?_)
  · replace h := condT hc h
    refine g_seq ?_
    refine g_region ?_
    refine gl_batch 3 [(5, .int .i64 o1.2), (4, .int .i64 0), (17, .int .i64 o1.2)] rfl ?_
    refine gl_nil ?_
    refine gx_seq ?_
    refine g_ret ?_
    refine gx_seq_ret ?_
    obtain rfl := Option.some.inj h
    exact gx_fin rfl [.int .i64 0, .int .i64 o1.2] _ _ [] ⟨_, _, rfl, rfl, _, _, rfl, rfl, rfl⟩ rfl ⟨rfl, rfl, rfl⟩ (fun w hS => (hS.take 0).facts [] [] [] noItem noItem noItem) (Or.inl rfl)
  · replace h := condF hc h
    refine g_skip ?_
    refine gx_seq ?_
    refine g_seq ?_
    refine g_region ?_
    refine gl_batch 1 [(19, str t)] rfl ?_
    obtain ⟨o4, ho4, h⟩ := bindS h
    refine gl_call rfl rfl (fun w => by kernel_rfl) (c_impl_RecoverTrace t ho4) (consItem (mem_at 0 rfl) (consItem (mem_at 1 rfl) (consItem (mem_at 2 rfl) (consItem (mem_at 3 rfl) noItem)))) noItem ?_
    rintro v outs ros ⟨a_v5, c_v6, rfl, rfl, rfl⟩
    refine ⟨_, rfl, ?_⟩
    refine gl_batch 5 [(7, .int .i64 o4.2), (8, .slice a_v5 (List.length o4.1) c_v6), (22, .int .i64 o4.2), (21, .slice a_v5 (List.length o4.1) c_v6), (18, .tuple #[.slice a_v5 (List.length o4.1) c_v6, .int .i64 o4.2])] rfl ?_
    refine gl_nil ?_
    refine gx_seq ?_
    refine g_seq ?_
    refine g_seq ?_
    refine g_region ?_
    refine gl_batch 2 [(24, .bool (o4.2 != 0)), (23, .int .i64 o4.2)] rfl ?_
    refine gl_nil ?_
    refine gx_seq ?_
    refine g_cond (b := o4.2 != 0) rfl (fun hc => ?_) (fun hc => ?_)
    · replace h := condT hc h
      refine g_seq ?_
      refine g_region ?_
      refine gl_batch 3 [(5, .int .i64 o4.2), (4, .int .i64 0), (25, .int .i64 o4.2)] rfl ?_
      refine gl_nil ?_
      refine gx_seq ?_
      refine g_ret ?_
      refine gx_seq_ret ?_
      obtain rfl := Option.some.inj h
      exact gx_fin rfl [.int .i64 0, .int .i64 o4.2] _ _ [] ⟨_, _, rfl, rfl, _, _, rfl, rfl, rfl⟩ rfl ⟨rfl, rfl, rfl⟩ (fun w hS => (hS.take 0).facts [] [] [] noItem noItem noItem) (Or.inl rfl)
    · replace h := condF hc h
      refine g_skip ?_
      refine gx_seq ?_
      refine g_seq ?_
      refine g_seq ?_
      refine g_region ?_
      refine gl_batch 1 [(26, .slice a_v2 (List.length o1.1) c_v3)] rfl ?_
      refine gl_len rfl Fs26 rfl rfl ?_
      refine gl_batch 1 [(28, .slice a_v5 (List.length o4.1) c_v6)] rfl ?_
      refine gl_len rfl Fs26 rfl rfl ?_
      refine gl_batch 2 [(31, .int .i64 0), (30, .int .i64 (if (List.length o4.1 : Int) > (List.length o1.1 : Int) then (List.length o4.1 : Int) else (List.length o1.1 : Int)))] rfl ?_
      refine gl_nil ?_
      refine gx_seq ?_
      refine g_block ?_
      obtain ⟨o7, ho7, h⟩ := bindS h
      refine g_loop (impl_FirstDifference_L1 o1 o4) (fun (ss_ : Int) a w => Env a 72 [(6, .slice a_v2 (List.length o1.1) c_v3), (8, .slice a_v5 (List.length o4.1) c_v6), (30, .int .i64 (if (List.length o4.1 : Int) > (List.length o1.1 : Int) then (List.length o4.1 : Int) else (List.length o1.1 : Int))), (31, .int .i64 ss_)] ∧ St c w [SL false 47 FiringS a_v2 c_v3 o1.1, SL false 47 FiringS a_v5 c_v6 o4.1] [gTab 3 pow10C, gNum 0, gErr 1, gErr 2] [] []) (Sum.elim (fun (ss_ : Int) e a w => e = .ret ∧ Env a 72 [(4, .int .i64 ss_), (5, .int .i64 0)] ∧ St c w [] [gTab 3 pow10C, gNum 0, gErr 1, gErr 2] [] []) (fun (ss_ : Unit) e a w => e = (.exit 0) ∧ Env a 72 [] ∧ St c w [] [gTab 3 pow10C, gNum 0, gErr 1, gErr 2] [] []) : (Sum Int Unit) → Exit → Act → World → Prop) ho7 ?_ ?_ ?_
      · exact fun a w hE hS => ⟨hE.sub ⟨rfl, rfl, rfl, rfl, trivial⟩, (((hS.pick 0 rfl).pick 1 rfl).take 2).facts _ _ [] (consItem (mem_at 0 rfl) (consItem (mem_at 1 rfl) (consItem (mem_at 2 rfl) (consItem (mem_at 3 rfl) noItem)))) noItem noItem⟩
      · intro s8 o9 h a w hA
        obtain ⟨hE, hS⟩ := hA
        unfold impl_FirstDifference_L1 at h
        refine g_enter hE hS ?_
        refine g_seq ?_
        refine g_region ?_
        refine gl_batch 1 [(32, .bool (decide (s8 < (if (List.length o4.1 : Int) > (List.length o1.1 : Int) then (List.length o4.1 : Int) else (List.length o1.1 : Int)))))] rfl ?_
        refine gl_nil ?_
        refine gx_seq ?_
        refine g_seq ?_
        refine g_cond (b := decide (s8 < (if (List.length o4.1 : Int) > (List.length o1.1 : Int) then (List.length o4.1 : Int) else (List.length o1.1 : Int)))) rfl (fun hc => ?_) (fun hc => ?_)
        · replace h := condT hc h
          refine g_skip ?_
          refine gx_seq ?_
          refine g_seq ?_
          refine g_block ?_
          refine g_seq ?_
          refine g_region ?_
          refine gl_batch 2 [(9, .int .i64 s8), (33, .int .i64 s8)] rfl ?_
          refine gl_nil ?_
          refine gx_seq ?_
          obtain ⟨o10, ho10, h⟩ := bindS h
          refine g_mid (M := ((fun ss_ e a w => e = .normal ∧ Env a 72 [(6, .slice a_v2 (List.length o1.1) c_v3), (8, .slice a_v5 (List.length o4.1) c_v6), (9, .int .i64 s8), (30, .int .i64 (if (List.length o4.1 : Int) > (List.length o1.1 : Int) then (List.length o4.1 : Int) else (List.length o1.1 : Int))), (31, .int .i64 s8), (69, .bool ss_)] ∧ St c w [SL false 47 FiringS a_v2 c_v3 o1.1, SL false 47 FiringS a_v5 c_v6 o4.1] [gTab 3 pow10C, gNum 0, gErr 1, gErr 2] [] []) : (Bool) → Exit → Act → World → Prop) o10) ?_ ?_
          · replace h := ho10
            refine g_case (decide (s8 ≥ (List.length o1.1 : Int))) (fun hg11 => ?_) (fun hg11 => ?_)
            · replace h := condT hg11 h
              refine g_state (E' := [(6, .slice a_v2 (List.length o1.1) c_v3), (8, .slice a_v5 (List.length o4.1) c_v6), (9, .int .i64 s8), (30, .int .i64 (if (List.length o4.1 : Int) > (List.length o1.1 : Int) then (List.length o4.1 : Int) else (List.length o1.1 : Int))), (31, .int .i64 s8)]) (Rs' := [] ++ [SL false 47 FiringS a_v2 c_v3 o1.1, SL false 47 FiringS a_v5 c_v6 o4.1]) (Xs' := [gTab 3 pow10C, gNum 0, gErr 1, gErr 2]) (Os' := []) (Vs' := []) ⟨rfl, rfl, rfl, rfl, rfl, trivial⟩ (fun w hS => hS) ?_
              refine g_draw (Rs := [SL false 47 FiringS a_v2 c_v3 o1.1, SL false 47 FiringS a_v5 c_v6 o4.1]) 36 (dOf [[], [], [1], [0, 2], [3], [4], [4], [4], [4], [4, 8], [9], [10], [10], [10], [10], [10], [10], [10], [10], [10], [10], [10], [10, 21], [22], [23], [23], [23], [23], [23], [23], [23], [23], [23], [23], [23], [23, 34]]) (spOf [det 0 (.int .i64 s8), det 1 (.slice a_v2 (List.length o1.1) c_v3), det 2 (.int .i64 (List.length o1.1 : Int)), det 3 (.bool (decide (s8 ≥ (List.length o1.1 : Int)))), det 4 (.bool true), det 5 (undef), det 6 (undef), det 7 (undef), det 8 (undef), det 9 (.bool true), det 10 (.bool true), det 11 (undef), det 12 (undef), det 13 (undef), det 14 (undef), det 15 (undef), det 16 (undef), det 17 (undef), det 18 (undef), det 19 (undef), det 20 (undef), det 21 (undef), det 22 (.bool true), det 23 (.bool true), det 24 (undef), det 25 (undef), det 26 (undef), det 27 (undef), det 28 (undef), det 29 (undef), det 30 (undef), det 31 (undef), det 32 (undef), det 33 (undef), det 34 (undef), det 35 (.bool true)]) [] (fun _ _ => []) (eOf [[(9, .int .i64 s8)], [(6, .slice a_v2 (List.length o1.1) c_v3)], [], [], [], [], [], [], [], [], [], [], [], [], [], [], [], [], [], [], [], [], [], [], [], [], [], [], [], [], [], [], [], [], [], []]) mixed rfl (Or.inl rfl) ⟨⟨⟨⟨⟨⟨⟨⟨⟨⟨⟨⟨⟨⟨⟨⟨⟨⟨⟨⟨⟨⟨⟨⟨⟨⟨⟨⟨⟨⟨⟨⟨⟨⟨⟨⟨trivial, ⟨rfl, trivial⟩⟩, ⟨rfl, trivial⟩⟩, trivial⟩, trivial⟩, trivial⟩, trivial⟩, trivial⟩, trivial⟩, trivial⟩, trivial⟩, trivial⟩, trivial⟩, trivial⟩, trivial⟩, trivial⟩, trivial⟩, trivial⟩, trivial⟩, trivial⟩, trivial⟩, trivial⟩, trivial⟩, trivial⟩, trivial⟩, trivial⟩, trivial⟩, trivial⟩, trivial⟩, trivial⟩, trivial⟩, trivial⟩, trivial⟩, trivial⟩, trivial⟩, trivial⟩, trivial⟩ rfl ⟨⟨⟨⟨⟨⟨⟨⟨⟨⟨⟨⟨⟨⟨⟨⟨⟨⟨⟨⟨⟨⟨⟨⟨⟨⟨⟨⟨⟨⟨⟨⟨⟨⟨⟨⟨trivial, ?_⟩, ?_⟩, ?_⟩, ?_⟩, ?_⟩, ?_⟩, ?_⟩, ?_⟩, ?_⟩, ?_⟩, ?_⟩, ?_⟩, ?_⟩, ?_⟩, ?_⟩, ?_⟩, ?_⟩, ?_⟩, ?_⟩, ?_⟩, ?_⟩, ?_⟩, ?_⟩, ?_⟩, ?_⟩, ?_⟩, ?_⟩, ?_⟩, ?_⟩, ?_⟩, ?_⟩, ?_⟩, ?_⟩, ?_⟩, ?_⟩, ?_⟩ ?_
              · intro vals E' R' O' hD
                refine gl_batch 1 [(34, .int .i64 s8)] rfl ?_
                refine gl_nil ?_
                exact gx_fp (.int .i64 s8) rfl rfl rfl rfl (fun _ h => h.sub (fun _ h => h) (st_oo (A := [])) (fun o ho => by cases ho))
              · intro vals E' R' O' hD
                refine gl_batch 1 [(35, .slice a_v2 (List.length o1.1) c_v3)] rfl ?_
                refine gl_nil ?_
                exact gx_fp (.slice a_v2 (List.length o1.1) c_v3) rfl rfl rfl rfl (fun _ h => h.sub (fun _ h => h) (st_oo (A := [])) (fun o ho => by cases ho))
              · intro vals E' R' O' hD
                have h1 : vals 1 = .slice a_v2 (List.length o1.1) c_v3 := hD 1 (memN 0 rfl)
                refine gl_convV (E2 := (35, .slice a_v2 (List.length o1.1) c_v3) :: ([] ++ E')) (V2 := [] ++ ([SL false 47 FiringS a_v2 c_v3 o1.1, SL false 47 FiringS a_v5 c_v6 o4.1] ++ [])) (by show (35, vals 1) :: ([] ++ E') = _; rw [h1]) (by show [] ++ ([SL false 47 FiringS a_v2 c_v3 o1.1, SL false 47 FiringS a_v5 c_v6 o4.1] ++ []) = _; rfl) ?_
                refine gl_len rfl Fs26 rfl rfl ?_
                refine gl_nil ?_
                exact gx_fp (.int .i64 (List.length o1.1 : Int)) rfl rfl rfl rfl (fun _ h => h.sub (fun _ h => h) (st_oo (A := [])) (fun o ho => by cases ho))
              · intro vals E' R' O' hD
                have h0 : vals 0 = .int .i64 s8 := hD 0 (memN 0 rfl)
                have h2 : vals 2 = .int .i64 (List.length o1.1 : Int) := hD 2 (memN 1 rfl)
                refine gl_convV (E2 := (34, .int .i64 s8) :: (36, .int .i64 (List.length o1.1 : Int)) :: ([] ++ E')) (V2 := [] ++ ([SL false 47 FiringS a_v2 c_v3 o1.1, SL false 47 FiringS a_v5 c_v6 o4.1] ++ [])) (by show (34, vals 0) :: (36, vals 2) :: ([] ++ E') = _; rw [h0, h2]) (by show [] ++ ([SL false 47 FiringS a_v2 c_v3 o1.1, SL false 47 FiringS a_v5 c_v6 o4.1] ++ []) = _; rfl) ?_
                refine gl_batch 1 [(37, .bool (decide (s8 ≥ (List.length o1.1 : Int))))] rfl ?_
                refine gl_nil ?_
                exact gx_fp (.bool (decide (s8 ≥ (List.length o1.1 : Int)))) rfl rfl rfl rfl (fun _ h => h.sub (fun _ h => h) (st_oo (A := [])) (fun o ho => by cases ho))
              · intro vals E' R' O' hD
                have h3 : vals 3 = .bool (decide (s8 ≥ (List.length o1.1 : Int))) := hD 3 (memN 0 rfl)
                refine gl_convV (E2 := (37, .bool (decide (s8 ≥ (List.length o1.1 : Int)))) :: ([] ++ E')) (V2 := [] ++ ([SL false 47 FiringS a_v2 c_v3 o1.1, SL false 47 FiringS a_v5 c_v6 o4.1] ++ [])) (by show (37, vals 3) :: ([] ++ E') = _; rw [h3]) (by show [] ++ ([SL false 47 FiringS a_v2 c_v3 o1.1, SL false 47 FiringS a_v5 c_v6 o4.1] ++ []) = _; rfl) ?_
                refine gl_batch 1 [(38, .bool (decide (s8 ≥ (List.length o1.1 : Int))))] rfl ?_
                refine gl_nil ?_
                exact gx_fp (.bool true) rfl rfl (congrArg (fun z => some (Value.bool z)) hg11) rfl (fun _ h => h.sub (fun _ h => h) (st_oo (A := [])) (fun o ho => by cases ho))
              · intro vals E' R' O' hD
                have h4 : vals 4 = .bool true := hD 4 (memN 0 rfl)
                refine gl_convV (E2 := (38, .bool true) :: ([] ++ E')) (V2 := [] ++ ([SL false 47 FiringS a_v2 c_v3 o1.1, SL false 47 FiringS a_v5 c_v6 o4.1] ++ [])) (by show (38, vals 4) :: ([] ++ E') = _; rw [h4]) (by show [] ++ ([SL false 47 FiringS a_v2 c_v3 o1.1, SL false 47 FiringS a_v5 c_v6 o4.1] ++ []) = _; rfl) ?_
                refine gl_batch 1 [(39, undef)] rfl ?_
                refine gl_nil ?_
                exact gx_fp (undef) rfl rfl rfl rfl (fun _ h => h.sub (fun _ h => h) (st_oo (A := [])) (fun o ho => by cases ho))
              · intro vals E' R' O' hD
                have h4 : vals 4 = .bool true := hD 4 (memN 0 rfl)
                refine gl_convV (E2 := (38, .bool true) :: ([] ++ E')) (V2 := [] ++ ([SL false 47 FiringS a_v2 c_v3 o1.1, SL false 47 FiringS a_v5 c_v6 o4.1] ++ [])) (by show (38, vals 4) :: ([] ++ E') = _; rw [h4]) (by show [] ++ ([SL false 47 FiringS a_v2 c_v3 o1.1, SL false 47 FiringS a_v5 c_v6 o4.1] ++ []) = _; rfl) ?_
                refine gl_batch 1 [(40, undef)] rfl ?_
                refine gl_nil ?_
                exact gx_fp (undef) rfl rfl rfl rfl (fun _ h => h.sub (fun _ h => h) (st_oo (A := [])) (fun o ho => by cases ho))
              · intro vals E' R' O' hD
                have h4 : vals 4 = .bool true := hD 4 (memN 0 rfl)
                refine gl_convV (E2 := (38, .bool true) :: ([] ++ E')) (V2 := [] ++ ([SL false 47 FiringS a_v2 c_v3 o1.1, SL false 47 FiringS a_v5 c_v6 o4.1] ++ [])) (by show (38, vals 4) :: ([] ++ E') = _; rw [h4]) (by show [] ++ ([SL false 47 FiringS a_v2 c_v3 o1.1, SL false 47 FiringS a_v5 c_v6 o4.1] ++ []) = _; rfl) ?_
                refine gl_batch 1 [(41, undef)] rfl ?_
                refine gl_nil ?_
                exact gx_fp (undef) rfl rfl rfl rfl (fun _ h => h.sub (fun _ h => h) (st_oo (A := [])) (fun o ho => by cases ho))
              · intro vals E' R' O' hD
                have h4 : vals 4 = .bool true := hD 4 (memN 0 rfl)
                refine gl_convV (E2 := (38, .bool true) :: ([] ++ E')) (V2 := [] ++ ([SL false 47 FiringS a_v2 c_v3 o1.1, SL false 47 FiringS a_v5 c_v6 o4.1] ++ [])) (by show (38, vals 4) :: ([] ++ E') = _; rw [h4]) (by show [] ++ ([SL false 47 FiringS a_v2 c_v3 o1.1, SL false 47 FiringS a_v5 c_v6 o4.1] ++ []) = _; rfl) ?_
                refine gl_batch 1 [(42, undef)] rfl ?_
                refine gl_nil ?_
                exact gx_fp (undef) rfl rfl rfl rfl (fun _ h => h.sub (fun _ h => h) (st_oo (A := [])) (fun o ho => by cases ho))
              · intro vals E' R' O' hD
                have h4 : vals 4 = .bool true := hD 4 (memN 0 rfl)
                have h8 : vals 8 = undef := hD 8 (memN 1 rfl)
                refine gl_convV (E2 := (38, .bool true) :: (42, undef) :: ([] ++ E')) (V2 := [] ++ ([SL false 47 FiringS a_v2 c_v3 o1.1, SL false 47 FiringS a_v5 c_v6 o4.1] ++ [])) (by show (38, vals 4) :: (42, vals 8) :: ([] ++ E') = _; rw [h4, h8]) (by show [] ++ ([SL false 47 FiringS a_v2 c_v3 o1.1, SL false 47 FiringS a_v5 c_v6 o4.1] ++ []) = _; rfl) ?_
                refine gl_batch 1 [(43, .bool true)] rfl ?_
                refine gl_nil ?_
                exact gx_fp (.bool true) rfl rfl rfl rfl (fun _ h => h.sub (fun _ h => h) (st_oo (A := [])) (fun o ho => by cases ho))
              · intro vals E' R' O' hD
                have h9 : vals 9 = .bool true := hD 9 (memN 0 rfl)
                refine gl_convV (E2 := (43, .bool true) :: ([] ++ E')) (V2 := [] ++ ([SL false 47 FiringS a_v2 c_v3 o1.1, SL false 47 FiringS a_v5 c_v6 o4.1] ++ [])) (by show (43, vals 9) :: ([] ++ E') = _; rw [h9]) (by show [] ++ ([SL false 47 FiringS a_v2 c_v3 o1.1, SL false 47 FiringS a_v5 c_v6 o4.1] ++ []) = _; rfl) ?_
                refine gl_batch 1 [(44, .bool true)] rfl ?_
                refine gl_nil ?_
                exact gx_fp (.bool true) rfl rfl rfl rfl (fun _ h => h.sub (fun _ h => h) (st_oo (A := [])) (fun o ho => by cases ho))
              · intro vals E' R' O' hD
                have h10 : vals 10 = .bool true := hD 10 (memN 0 rfl)
                refine gl_convV (E2 := (44, .bool true) :: ([] ++ E')) (V2 := [] ++ ([SL false 47 FiringS a_v2 c_v3 o1.1, SL false 47 FiringS a_v5 c_v6 o4.1] ++ [])) (by show (44, vals 10) :: ([] ++ E') = _; rw [h10]) (by show [] ++ ([SL false 47 FiringS a_v2 c_v3 o1.1, SL false 47 FiringS a_v5 c_v6 o4.1] ++ []) = _; rfl) ?_
                refine gl_batch 1 [(45, undef)] rfl ?_
                refine gl_nil ?_
                exact gx_fp (undef) rfl rfl rfl rfl (fun _ h => h.sub (fun _ h => h) (st_oo (A := [])) (fun o ho => by cases ho))
              · intro vals E' R' O' hD
                have h10 : vals 10 = .bool true := hD 10 (memN 0 rfl)
                refine gl_convV (E2 := (44, .bool true) :: ([] ++ E')) (V2 := [] ++ ([SL false 47 FiringS a_v2 c_v3 o1.1, SL false 47 FiringS a_v5 c_v6 o4.1] ++ [])) (by show (44, vals 10) :: ([] ++ E') = _; rw [h10]) (by show [] ++ ([SL false 47 FiringS a_v2 c_v3 o1.1, SL false 47 FiringS a_v5 c_v6 o4.1] ++ []) = _; rfl) ?_
                refine gl_batch 1 [(46, undef)] rfl ?_
                refine gl_nil ?_
                exact gx_fp (undef) rfl rfl rfl rfl (fun _ h => h.sub (fun _ h => h) (st_oo (A := [])) (fun o ho => by cases ho))
              · intro vals E' R' O' hD
                have h10 : vals 10 = .bool true := hD 10 (memN 0 rfl)
                refine gl_convV (E2 := (44, .bool true) :: ([] ++ E')) (V2 := [] ++ ([SL false 47 FiringS a_v2 c_v3 o1.1, SL false 47 FiringS a_v5 c_v6 o4.1] ++ [])) (by show (44, vals 10) :: ([] ++ E') = _; rw [h10]) (by show [] ++ ([SL false 47 FiringS a_v2 c_v3 o1.1, SL false 47 FiringS a_v5 c_v6 o4.1] ++ []) = _; rfl) ?_
                refine gl_batch 1 [(47, undef)] rfl ?_
                refine gl_nil ?_
                exact gx_fp (undef) rfl rfl rfl rfl (fun _ h => h.sub (fun _ h => h) (st_oo (A := [])) (fun o ho => by cases ho))
              · intro vals E' R' O' hD
                have h10 : vals 10 = .bool true := hD 10 (memN 0 rfl)
                refine gl_convV (E2 := (44, .bool true) :: ([] ++ E')) (V2 := [] ++ ([SL false 47 FiringS a_v2 c_v3 o1.1, SL false 47 FiringS a_v5 c_v6 o4.1] ++ [])) (by show (44, vals 10) :: ([] ++ E') = _; rw [h10]) (by show [] ++ ([SL false 47 FiringS a_v2 c_v3 o1.1, SL false 47 FiringS a_v5 c_v6 o4.1] ++ []) = _; rfl) ?_
                refine gl_batch 1 [(48, undef)] rfl ?_
                refine gl_nil ?_
                exact gx_fp (undef) rfl rfl rfl rfl (fun _ h => h.sub (fun _ h => h) (st_oo (A := [])) (fun o ho => by cases ho))
              · intro vals E' R' O' hD
                have h10 : vals 10 = .bool true := hD 10 (memN 0 rfl)
                refine gl_convV (E2 := (44, .bool true) :: ([] ++ E')) (V2 := [] ++ ([SL false 47 FiringS a_v2 c_v3 o1.1, SL false 47 FiringS a_v5 c_v6 o4.1] ++ [])) (by show (44, vals 10) :: ([] ++ E') = _; rw [h10]) (by show [] ++ ([SL false 47 FiringS a_v2 c_v3 o1.1, SL false 47 FiringS a_v5 c_v6 o4.1] ++ []) = _; rfl) ?_
                refine gl_batch 1 [(49, undef)] rfl ?_
                refine gl_nil ?_
                exact gx_fp (undef) rfl rfl rfl rfl (fun _ h => h.sub (fun _ h => h) (st_oo (A := [])) (fun o ho => by cases ho))
              · intro vals E' R' O' hD
                have h10 : vals 10 = .bool true := hD 10 (memN 0 rfl)
                refine gl_convV (E2 := (44, .bool true) :: ([] ++ E')) (V2 := [] ++ ([SL false 47 FiringS a_v2 c_v3 o1.1, SL false 47 FiringS a_v5 c_v6 o4.1] ++ [])) (by show (44, vals 10) :: ([] ++ E') = _; rw [h10]) (by show [] ++ ([SL false 47 FiringS a_v2 c_v3 o1.1, SL false 47 FiringS a_v5 c_v6 o4.1] ++ []) = _; rfl) ?_
                refine gl_batch 1 [(50, undef)] rfl ?_
                refine gl_nil ?_
                exact gx_fp (undef) rfl rfl rfl rfl (fun _ h => h.sub (fun _ h => h) (st_oo (A := [])) (fun o ho => by cases ho))
              · intro vals E' R' O' hD
                have h10 : vals 10 = .bool true := hD 10 (memN 0 rfl)
                refine gl_convV (E2 := (44, .bool true) :: ([] ++ E')) (V2 := [] ++ ([SL false 47 FiringS a_v2 c_v3 o1.1, SL false 47 FiringS a_v5 c_v6 o4.1] ++ [])) (by show (44, vals 10) :: ([] ++ E') = _; rw [h10]) (by show [] ++ ([SL false 47 FiringS a_v2 c_v3 o1.1, SL false 47 FiringS a_v5 c_v6 o4.1] ++ []) = _; rfl) ?_
                refine gl_batch 1 [(51, undef)] rfl ?_
                refine gl_nil ?_
                exact gx_fp (undef) rfl rfl rfl rfl (fun _ h => h.sub (fun _ h => h) (st_oo (A := [])) (fun o ho => by cases ho))
              · intro vals E' R' O' hD
                have h10 : vals 10 = .bool true := hD 10 (memN 0 rfl)
                refine gl_convV (E2 := (44, .bool true) :: ([] ++ E')) (V2 := [] ++ ([SL false 47 FiringS a_v2 c_v3 o1.1, SL false 47 FiringS a_v5 c_v6 o4.1] ++ [])) (by show (44, vals 10) :: ([] ++ E') = _; rw [h10]) (by show [] ++ ([SL false 47 FiringS a_v2 c_v3 o1.1, SL false 47 FiringS a_v5 c_v6 o4.1] ++ []) = _; rfl) ?_
                refine gl_batch 1 [(52, undef)] rfl ?_
                refine gl_nil ?_
                exact gx_fp (undef) rfl rfl rfl rfl (fun _ h => h.sub (fun _ h => h) (st_oo (A := [])) (fun o ho => by cases ho))
              · intro vals E' R' O' hD
                have h10 : vals 10 = .bool true := hD 10 (memN 0 rfl)
                refine gl_convV (E2 := (44, .bool true) :: ([] ++ E')) (V2 := [] ++ ([SL false 47 FiringS a_v2 c_v3 o1.1, SL false 47 FiringS a_v5 c_v6 o4.1] ++ [])) (by show (44, vals 10) :: ([] ++ E') = _; rw [h10]) (by show [] ++ ([SL false 47 FiringS a_v2 c_v3 o1.1, SL false 47 FiringS a_v5 c_v6 o4.1] ++ []) = _; rfl) ?_
                refine gl_batch 1 [(53, undef)] rfl ?_
                refine gl_nil ?_
                exact gx_fp (undef) rfl rfl rfl rfl (fun _ h => h.sub (fun _ h => h) (st_oo (A := [])) (fun o ho => by cases ho))
              · intro vals E' R' O' hD
                have h10 : vals 10 = .bool true := hD 10 (memN 0 rfl)
                refine gl_convV (E2 := (44, .bool true) :: ([] ++ E')) (V2 := [] ++ ([SL false 47 FiringS a_v2 c_v3 o1.1, SL false 47 FiringS a_v5 c_v6 o4.1] ++ [])) (by show (44, vals 10) :: ([] ++ E') = _; rw [h10]) (by show [] ++ ([SL false 47 FiringS a_v2 c_v3 o1.1, SL false 47 FiringS a_v5 c_v6 o4.1] ++ []) = _; rfl) ?_
                refine gl_batch 1 [(54, undef)] rfl ?_
                refine gl_nil ?_
                exact gx_fp (undef) rfl rfl rfl rfl (fun _ h => h.sub (fun _ h => h) (st_oo (A := [])) (fun o ho => by cases ho))
              · intro vals E' R' O' hD
                have h10 : vals 10 = .bool true := hD 10 (memN 0 rfl)
                refine gl_convV (E2 := (44, .bool true) :: ([] ++ E')) (V2 := [] ++ ([SL false 47 FiringS a_v2 c_v3 o1.1, SL false 47 FiringS a_v5 c_v6 o4.1] ++ [])) (by show (44, vals 10) :: ([] ++ E') = _; rw [h10]) (by show [] ++ ([SL false 47 FiringS a_v2 c_v3 o1.1, SL false 47 FiringS a_v5 c_v6 o4.1] ++ []) = _; rfl) ?_
                refine gl_batch 1 [(55, undef)] rfl ?_
                refine gl_nil ?_
                exact gx_fp (undef) rfl rfl rfl rfl (fun _ h => h.sub (fun _ h => h) (st_oo (A := [])) (fun o ho => by cases ho))
              · intro vals E' R' O' hD
                have h10 : vals 10 = .bool true := hD 10 (memN 0 rfl)
                have h21 : vals 21 = undef := hD 21 (memN 1 rfl)
                refine gl_convV (E2 := (44, .bool true) :: (55, undef) :: ([] ++ E')) (V2 := [] ++ ([SL false 47 FiringS a_v2 c_v3 o1.1, SL false 47 FiringS a_v5 c_v6 o4.1] ++ [])) (by show (44, vals 10) :: (55, vals 21) :: ([] ++ E') = _; rw [h10, h21]) (by show [] ++ ([SL false 47 FiringS a_v2 c_v3 o1.1, SL false 47 FiringS a_v5 c_v6 o4.1] ++ []) = _; rfl) ?_
                refine gl_batch 1 [(56, .bool true)] rfl ?_
                refine gl_nil ?_
                exact gx_fp (.bool true) rfl rfl rfl rfl (fun _ h => h.sub (fun _ h => h) (st_oo (A := [])) (fun o ho => by cases ho))
              · intro vals E' R' O' hD
                have h22 : vals 22 = .bool true := hD 22 (memN 0 rfl)
                refine gl_convV (E2 := (56, .bool true) :: ([] ++ E')) (V2 := [] ++ ([SL false 47 FiringS a_v2 c_v3 o1.1, SL false 47 FiringS a_v5 c_v6 o4.1] ++ [])) (by show (56, vals 22) :: ([] ++ E') = _; rw [h22]) (by show [] ++ ([SL false 47 FiringS a_v2 c_v3 o1.1, SL false 47 FiringS a_v5 c_v6 o4.1] ++ []) = _; rfl) ?_
                refine gl_batch 1 [(57, .bool true)] rfl ?_
                refine gl_nil ?_
                exact gx_fp (.bool true) rfl rfl rfl rfl (fun _ h => h.sub (fun _ h => h) (st_oo (A := [])) (fun o ho => by cases ho))
              · intro vals E' R' O' hD
                have h23 : vals 23 = .bool true := hD 23 (memN 0 rfl)
                refine gl_convV (E2 := (57, .bool true) :: ([] ++ E')) (V2 := [] ++ ([SL false 47 FiringS a_v2 c_v3 o1.1, SL false 47 FiringS a_v5 c_v6 o4.1] ++ [])) (by show (57, vals 23) :: ([] ++ E') = _; rw [h23]) (by show [] ++ ([SL false 47 FiringS a_v2 c_v3 o1.1, SL false 47 FiringS a_v5 c_v6 o4.1] ++ []) = _; rfl) ?_
                refine gl_batch 1 [(58, undef)] rfl ?_
                refine gl_nil ?_
                exact gx_fp (undef) rfl rfl rfl rfl (fun _ h => h.sub (fun _ h => h) (st_oo (A := [])) (fun o ho => by cases ho))
              · intro vals E' R' O' hD
                have h23 : vals 23 = .bool true := hD 23 (memN 0 rfl)
                refine gl_convV (E2 := (57, .bool true) :: ([] ++ E')) (V2 := [] ++ ([SL false 47 FiringS a_v2 c_v3 o1.1, SL false 47 FiringS a_v5 c_v6 o4.1] ++ [])) (by show (57, vals 23) :: ([] ++ E') = _; rw [h23]) (by show [] ++ ([SL false 47 FiringS a_v2 c_v3 o1.1, SL false 47 FiringS a_v5 c_v6 o4.1] ++ []) = _; rfl) ?_
                refine gl_batch 1 [(59, undef)] rfl ?_
                refine gl_nil ?_
                exact gx_fp (undef) rfl rfl rfl rfl (fun _ h => h.sub (fun _ h => h) (st_oo (A := [])) (fun o ho => by cases ho))
              · intro vals E' R' O' hD
                have h23 : vals 23 = .bool true := hD 23 (memN 0 rfl)
                refine gl_convV (E2 := (57, .bool true) :: ([] ++ E')) (V2 := [] ++ ([SL false 47 FiringS a_v2 c_v3 o1.1, SL false 47 FiringS a_v5 c_v6 o4.1] ++ [])) (by show (57, vals 23) :: ([] ++ E') = _; rw [h23]) (by show [] ++ ([SL false 47 FiringS a_v2 c_v3 o1.1, SL false 47 FiringS a_v5 c_v6 o4.1] ++ []) = _; rfl) ?_
                refine gl_batch 1 [(60, undef)] rfl ?_
                refine gl_nil ?_
                exact gx_fp (undef) rfl rfl rfl rfl (fun _ h => h.sub (fun _ h => h) (st_oo (A := [])) (fun o ho => by cases ho))
              · intro vals E' R' O' hD
                have h23 : vals 23 = .bool true := hD 23 (memN 0 rfl)
                refine gl_convV (E2 := (57, .bool true) :: ([] ++ E')) (V2 := [] ++ ([SL false 47 FiringS a_v2 c_v3 o1.1, SL false 47 FiringS a_v5 c_v6 o4.1] ++ [])) (by show (57, vals 23) :: ([] ++ E') = _; rw [h23]) (by show [] ++ ([SL false 47 FiringS a_v2 c_v3 o1.1, SL false 47 FiringS a_v5 c_v6 o4.1] ++ []) = _; rfl) ?_
                refine gl_batch 1 [(61, undef)] rfl ?_
                refine gl_nil ?_
                exact gx_fp (undef) rfl rfl rfl rfl (fun _ h => h.sub (fun _ h => h) (st_oo (A := [])) (fun o ho => by cases ho))
              · intro vals E' R' O' hD
                have h23 : vals 23 = .bool true := hD 23 (memN 0 rfl)
                refine gl_convV (E2 := (57, .bool true) :: ([] ++ E')) (V2 := [] ++ ([SL false 47 FiringS a_v2 c_v3 o1.1, SL false 47 FiringS a_v5 c_v6 o4.1] ++ [])) (by show (57, vals 23) :: ([] ++ E') = _; rw [h23]) (by show [] ++ ([SL false 47 FiringS a_v2 c_v3 o1.1, SL false 47 FiringS a_v5 c_v6 o4.1] ++ []) = _; rfl) ?_
                refine gl_batch 1 [(62, undef)] rfl ?_
                refine gl_nil ?_
                exact gx_fp (undef) rfl rfl rfl rfl (fun _ h => h.sub (fun _ h => h) (st_oo (A := [])) (fun o ho => by cases ho))
              · intro vals E' R' O' hD
                have h23 : vals 23 = .bool true := hD 23 (memN 0 rfl)
                refine gl_convV (E2 := (57, .bool true) :: ([] ++ E')) (V2 := [] ++ ([SL false 47 FiringS a_v2 c_v3 o1.1, SL false 47 FiringS a_v5 c_v6 o4.1] ++ [])) (by show (57, vals 23) :: ([] ++ E') = _; rw [h23]) (by show [] ++ ([SL false 47 FiringS a_v2 c_v3 o1.1, SL false 47 FiringS a_v5 c_v6 o4.1] ++ []) = _; rfl) ?_
                refine gl_batch 1 [(63, undef)] rfl ?_
                refine gl_nil ?_
                exact gx_fp (undef) rfl rfl rfl rfl (fun _ h => h.sub (fun _ h => h) (st_oo (A := [])) (fun o ho => by cases ho))
              · intro vals E' R' O' hD
                have h23 : vals 23 = .bool true := hD 23 (memN 0 rfl)
                refine gl_convV (E2 := (57, .bool true) :: ([] ++ E')) (V2 := [] ++ ([SL false 47 FiringS a_v2 c_v3 o1.1, SL false 47 FiringS a_v5 c_v6 o4.1] ++ [])) (by show (57, vals 23) :: ([] ++ E') = _; rw [h23]) (by show [] ++ ([SL false 47 FiringS a_v2 c_v3 o1.1, SL false 47 FiringS a_v5 c_v6 o4.1] ++ []) = _; rfl) ?_
                refine gl_batch 1 [(64, undef)] rfl ?_
                refine gl_nil ?_
                exact gx_fp (undef) rfl rfl rfl rfl (fun _ h => h.sub (fun _ h => h) (st_oo (A := [])) (fun o ho => by cases ho))
              · intro vals E' R' O' hD
                have h23 : vals 23 = .bool true := hD 23 (memN 0 rfl)
                refine gl_convV (E2 := (57, .bool true) :: ([] ++ E')) (V2 := [] ++ ([SL false 47 FiringS a_v2 c_v3 o1.1, SL false 47 FiringS a_v5 c_v6 o4.1] ++ [])) (by show (57, vals 23) :: ([] ++ E') = _; rw [h23]) (by show [] ++ ([SL false 47 FiringS a_v2 c_v3 o1.1, SL false 47 FiringS a_v5 c_v6 o4.1] ++ []) = _; rfl) ?_
                refine gl_batch 1 [(65, undef)] rfl ?_
                refine gl_nil ?_
                exact gx_fp (undef) rfl rfl rfl rfl (fun _ h => h.sub (fun _ h => h) (st_oo (A := [])) (fun o ho => by cases ho))
              · intro vals E' R' O' hD
                have h23 : vals 23 = .bool true := hD 23 (memN 0 rfl)
                refine gl_convV (E2 := (57, .bool true) :: ([] ++ E')) (V2 := [] ++ ([SL false 47 FiringS a_v2 c_v3 o1.1, SL false 47 FiringS a_v5 c_v6 o4.1] ++ [])) (by show (57, vals 23) :: ([] ++ E') = _; rw [h23]) (by show [] ++ ([SL false 47 FiringS a_v2 c_v3 o1.1, SL false 47 FiringS a_v5 c_v6 o4.1] ++ []) = _; rfl) ?_
                refine gl_batch 1 [(66, undef)] rfl ?_
                refine gl_nil ?_
                exact gx_fp (undef) rfl rfl rfl rfl (fun _ h => h.sub (fun _ h => h) (st_oo (A := [])) (fun o ho => by cases ho))
              · intro vals E' R' O' hD
                have h23 : vals 23 = .bool true := hD 23 (memN 0 rfl)
                refine gl_convV (E2 := (57, .bool true) :: ([] ++ E')) (V2 := [] ++ ([SL false 47 FiringS a_v2 c_v3 o1.1, SL false 47 FiringS a_v5 c_v6 o4.1] ++ [])) (by show (57, vals 23) :: ([] ++ E') = _; rw [h23]) (by show [] ++ ([SL false 47 FiringS a_v2 c_v3 o1.1, SL false 47 FiringS a_v5 c_v6 o4.1] ++ []) = _; rfl) ?_
                refine gl_batch 1 [(67, undef)] rfl ?_
                refine gl_nil ?_
                exact gx_fp (undef) rfl rfl rfl rfl (fun _ h => h.sub (fun _ h => h) (st_oo (A := [])) (fun o ho => by cases ho))
              · intro vals E' R' O' hD
                have h23 : vals 23 = .bool true := hD 23 (memN 0 rfl)
                refine gl_convV (E2 := (57, .bool true) :: ([] ++ E')) (V2 := [] ++ ([SL false 47 FiringS a_v2 c_v3 o1.1, SL false 47 FiringS a_v5 c_v6 o4.1] ++ [])) (by show (57, vals 23) :: ([] ++ E') = _; rw [h23]) (by show [] ++ ([SL false 47 FiringS a_v2 c_v3 o1.1, SL false 47 FiringS a_v5 c_v6 o4.1] ++ []) = _; rfl) ?_
                refine gl_batch 1 [(68, undef)] rfl ?_
                refine gl_nil ?_
                exact gx_fp (undef) rfl rfl rfl rfl (fun _ h => h.sub (fun _ h => h) (st_oo (A := [])) (fun o ho => by cases ho))
              · intro vals E' R' O' hD
                have h23 : vals 23 = .bool true := hD 23 (memN 0 rfl)
                have h34 : vals 34 = undef := hD 34 (memN 1 rfl)
                refine gl_convV (E2 := (57, .bool true) :: (68, undef) :: ([] ++ E')) (V2 := [] ++ ([SL false 47 FiringS a_v2 c_v3 o1.1, SL false 47 FiringS a_v5 c_v6 o4.1] ++ [])) (by show (57, vals 23) :: (68, vals 34) :: ([] ++ E') = _; rw [h23, h34]) (by show [] ++ ([SL false 47 FiringS a_v2 c_v3 o1.1, SL false 47 FiringS a_v5 c_v6 o4.1] ++ []) = _; rfl) ?_
                refine gl_batch 1 [(69, .bool true)] rfl ?_
                refine gl_nil ?_
                exact gx_fp (.bool true) rfl rfl rfl rfl (fun _ h => h.sub (fun _ h => h) (st_oo (A := [])) (fun o ho => by cases ho))
              · intro vals hv
                obtain ⟨⟨⟨⟨⟨⟨⟨⟨⟨⟨⟨⟨⟨⟨⟨⟨⟨⟨⟨⟨⟨⟨⟨⟨⟨⟨⟨⟨⟨⟨⟨⟨⟨⟨⟨⟨_, h0⟩, h1⟩, h2⟩, h3⟩, h4⟩, h5⟩, h6⟩, h7⟩, h8⟩, h9⟩, h10⟩, h11⟩, h12⟩, h13⟩, h14⟩, h15⟩, h16⟩, h17⟩, h18⟩, h19⟩, h20⟩, h21⟩, h22⟩, h23⟩, h24⟩, h25⟩, h26⟩, h27⟩, h28⟩, h29⟩, h30⟩, h31⟩, h32⟩, h33⟩, h34⟩, h35⟩ := hv
                have h0 : vals 0 = .int .i64 s8 := h0
                have h1 : vals 1 = .slice a_v2 (List.length o1.1) c_v3 := h1
                have h2 : vals 2 = .int .i64 (List.length o1.1 : Int) := h2
                have h3 : vals 3 = .bool (decide (s8 ≥ (List.length o1.1 : Int))) := h3
                have h4 : vals 4 = .bool true := h4
                have h5 : vals 5 = undef := h5
                have h6 : vals 6 = undef := h6
                have h7 : vals 7 = undef := h7
                have h8 : vals 8 = undef := h8
                have h9 : vals 9 = .bool true := h9
                have h10 : vals 10 = .bool true := h10
                have h11 : vals 11 = undef := h11
                have h12 : vals 12 = undef := h12
                have h13 : vals 13 = undef := h13
                have h14 : vals 14 = undef := h14
                have h15 : vals 15 = undef := h15
                have h16 : vals 16 = undef := h16
                have h17 : vals 17 = undef := h17
                have h18 : vals 18 = undef := h18
                have h19 : vals 19 = undef := h19
                have h20 : vals 20 = undef := h20
                have h21 : vals 21 = undef := h21
                have h22 : vals 22 = .bool true := h22
                have h23 : vals 23 = .bool true := h23
                have h24 : vals 24 = undef := h24
                have h25 : vals 25 = undef := h25
                have h26 : vals 26 = undef := h26
                have h27 : vals 27 = undef := h27
                have h28 : vals 28 = undef := h28
                have h29 : vals 29 = undef := h29
                have h30 : vals 30 = undef := h30
                have h31 : vals 31 = undef := h31
                have h32 : vals 32 = undef := h32
                have h33 : vals 33 = undef := h33
                have h34 : vals 34 = undef := h34
                have h35 : vals 35 = .bool true := h35
                refine gl_conv (E2 := (34, .int .i64 s8) :: (35, .slice a_v2 (List.length o1.1) c_v3) :: (36, .int .i64 (List.length o1.1 : Int)) :: (37, .bool (decide (s8 ≥ (List.length o1.1 : Int)))) :: (38, .bool true) :: (39, undef) :: (40, undef) :: (41, undef) :: (42, undef) :: (43, .bool true) :: (44, .bool true) :: (45, undef) :: (46, undef) :: (47, undef) :: (48, undef) :: (49, undef) :: (50, undef) :: (51, undef) :: (52, undef) :: (53, undef) :: (54, undef) :: (55, undef) :: (56, .bool true) :: (57, .bool true) :: (58, undef) :: (59, undef) :: (60, undef) :: (61, undef) :: (62, undef) :: (63, undef) :: (64, undef) :: (65, undef) :: (66, undef) :: (67, undef) :: (68, undef) :: (69, .bool true) :: [(6, .slice a_v2 (List.length o1.1) c_v3), (8, .slice a_v5 (List.length o4.1) c_v6), (9, .int .i64 s8), (30, .int .i64 (if (List.length o4.1 : Int) > (List.length o1.1 : Int) then (List.length o4.1 : Int) else (List.length o1.1 : Int))), (31, .int .i64 s8)]) (R2 := [] ++ ([] ++ [SL false 47 FiringS a_v2 c_v3 o1.1, SL false 47 FiringS a_v5 c_v6 o4.1])) (O2 := [] ++ []) (by show (34, vals 0) :: (35, vals 1) :: (36, vals 2) :: (37, vals 3) :: (38, vals 4) :: (39, vals 5) :: (40, vals 6) :: (41, vals 7) :: (42, vals 8) :: (43, vals 9) :: (44, vals 10) :: (45, vals 11) :: (46, vals 12) :: (47, vals 13) :: (48, vals 14) :: (49, vals 15) :: (50, vals 16) :: (51, vals 17) :: (52, vals 18) :: (53, vals 19) :: (54, vals 20) :: (55, vals 21) :: (56, vals 22) :: (57, vals 23) :: (58, vals 24) :: (59, vals 25) :: (60, vals 26) :: (61, vals 27) :: (62, vals 28) :: (63, vals 29) :: (64, vals 30) :: (65, vals 31) :: (66, vals 32) :: (67, vals 33) :: (68, vals 34) :: (69, vals 35) :: [(6, .slice a_v2 (List.length o1.1) c_v3), (8, .slice a_v5 (List.length o4.1) c_v6), (9, .int .i64 s8), (30, .int .i64 (if (List.length o4.1 : Int) > (List.length o1.1 : Int) then (List.length o4.1 : Int) else (List.length o1.1 : Int))), (31, .int .i64 s8)] = _; rw [h0, h1, h2, h3, h4, h5, h6, h7, h8, h9, h10, h11, h12, h13, h14, h15, h16, h17, h18, h19, h20, h21, h22, h23, h24, h25, h26, h27, h28, h29, h30, h31, h32, h33, h34, h35]) (by show [] ++ ([] ++ [SL false 47 FiringS a_v2 c_v3 o1.1, SL false 47 FiringS a_v5 c_v6 o4.1]) = _; rfl) rfl ?_
                refine gl_nil ?_
                obtain rfl := Option.some.inj h
                exact gx_of (fun a w hE hS => ⟨rfl, hE.sub ⟨rfl, rfl, rfl, rfl, rfl, rfl, trivial⟩, (hS.take 2).facts _ _ [] (consItem (mem_at 0 rfl) (consItem (mem_at 1 rfl) (consItem (mem_at 2 rfl) (consItem (mem_at 3 rfl) noItem)))) noItem noItem⟩)
            · replace h := condF hg11 h
              refine g_case (decide (s8 ≥ (List.length o4.1 : Int))) (fun hg12 => ?_) (fun hg12 => ?_)
              · replace h := condT hg12 h
                refine g_state (E' := [(6, .slice a_v2 (List.length o1.1) c_v3), (8, .slice a_v5 (List.length o4.1) c_v6), (9, .int .i64 s8), (30, .int .i64 (if (List.length o4.1 : Int) > (List.length o1.1 : Int) then (List.length o4.1 : Int) else (List.length o1.1 : Int))), (31, .int .i64 s8)]) (Rs' := [] ++ [SL false 47 FiringS a_v2 c_v3 o1.1, SL false 47 FiringS a_v5 c_v6 o4.1]) (Xs' := [gTab 3 pow10C, gNum 0, gErr 1, gErr 2]) (Os' := []) (Vs' := []) ⟨rfl, rfl, rfl, rfl, rfl, trivial⟩ (fun w hS => hS) ?_
                refine g_draw (Rs := [SL false 47 FiringS a_v2 c_v3 o1.1, SL false 47 FiringS a_v5 c_v6 o4.1]) 36 (dOf [[], [], [1], [0, 2], [3], [4], [4], [4, 6], [4, 5, 7], [4, 8], [9], [10], [10], [10], [10], [10], [10], [10], [10], [10], [10], [10], [10, 21], [22], [23], [23], [23], [23], [23], [23], [23], [23], [23], [23], [23], [23, 34]]) (spOf [det 0 (.int .i64 s8), det 1 (.slice a_v2 (List.length o1.1) c_v3), det 2 (.int .i64 (List.length o1.1 : Int)), det 3 (.bool (decide (s8 ≥ (List.length o1.1 : Int)))), det 4 (.bool false), det 5 (.int .i64 s8), det 6 (.slice a_v5 (List.length o4.1) c_v6), det 7 (.int .i64 (List.length o4.1 : Int)), det 8 (.bool (decide (s8 ≥ (List.length o4.1 : Int)))), det 9 (.bool (decide (s8 ≥ (List.length o4.1 : Int)))), det 10 (.bool true), det 11 (undef), det 12 (undef), det 13 (undef), det 14 (undef), det 15 (undef), det 16 (undef), det 17 (undef), det 18 (undef), det 19 (undef), det 20 (undef), det 21 (undef), det 22 (.bool true), det 23 (.bool true), det 24 (undef), det 25 (undef), det 26 (undef), det 27 (undef), det 28 (undef), det 29 (undef), det 30 (undef), det 31 (undef), det 32 (undef), det 33 (undef), det 34 (undef), det 35 (.bool true)]) [] (fun _ _ => []) (eOf [[(9, .int .i64 s8)], [(6, .slice a_v2 (List.length o1.1) c_v3)], [], [], [], [(9, .int .i64 s8)], [(8, .slice a_v5 (List.length o4.1) c_v6)], [], [], [], [], [], [], [], [], [], [], [], [], [], [], [], [], [], [], [], [], [], [], [], [], [], [], [], [], []]) mixed rfl (Or.inl rfl) ⟨⟨⟨⟨⟨⟨⟨⟨⟨⟨⟨⟨⟨⟨⟨⟨⟨⟨⟨⟨⟨⟨⟨⟨⟨⟨⟨⟨⟨⟨⟨⟨⟨⟨⟨⟨trivial, ⟨rfl, trivial⟩⟩, ⟨rfl, trivial⟩⟩, trivial⟩, trivial⟩, trivial⟩, ⟨rfl, trivial⟩⟩, ⟨rfl, trivial⟩⟩, trivial⟩, trivial⟩, trivial⟩, trivial⟩, trivial⟩, trivial⟩, trivial⟩, trivial⟩, trivial⟩, trivial⟩, trivial⟩, trivial⟩, trivial⟩, trivial⟩, trivial⟩, trivial⟩, trivial⟩, trivial⟩, trivial⟩, trivial⟩, trivial⟩, trivial⟩, trivial⟩, trivial⟩, trivial⟩, trivial⟩, trivial⟩, trivial⟩, trivial⟩ rfl ⟨⟨⟨⟨⟨⟨⟨⟨⟨⟨⟨⟨⟨⟨⟨⟨⟨⟨⟨⟨⟨⟨⟨⟨⟨⟨⟨⟨⟨⟨⟨⟨⟨⟨⟨⟨trivial, ?_⟩, ?_⟩, ?_⟩, ?_⟩, ?_⟩, ?_⟩, ?_⟩, ?_⟩, ?_⟩, ?_⟩, ?_⟩, ?_⟩, ?_⟩, ?_⟩, ?_⟩, ?_⟩, ?_⟩, ?_⟩, ?_⟩, ?_⟩, ?_⟩, ?_⟩, ?_⟩, ?_⟩, ?_⟩, ?_⟩, ?_⟩, ?_⟩, ?_⟩, ?_⟩, ?_⟩, ?_⟩, ?_⟩, ?_⟩, ?_⟩, ?_⟩ ?_
                · intro vals E' R' O' hD
                  refine gl_batch 1 [(34, .int .i64 s8)] rfl ?_
                  refine gl_nil ?_
                  exact gx_fp (.int .i64 s8) rfl rfl rfl rfl (fun _ h => h.sub (fun _ h => h) (st_oo (A := [])) (fun o ho => by cases ho))
                · intro vals E' R' O' hD
                  refine gl_batch 1 [(35, .slice a_v2 (List.length o1.1) c_v3)] rfl ?_
                  refine gl_nil ?_
                  exact gx_fp (.slice a_v2 (List.length o1.1) c_v3) rfl rfl rfl rfl (fun _ h => h.sub (fun _ h => h) (st_oo (A := [])) (fun o ho => by cases ho))
                · intro vals E' R' O' hD
                  have h1 : vals 1 = .slice a_v2 (List.length o1.1) c_v3 := hD 1 (memN 0 rfl)
                  refine gl_convV (E2 := (35, .slice a_v2 (List.length o1.1) c_v3) :: ([] ++ E')) (V2 := [] ++ ([SL false 47 FiringS a_v2 c_v3 o1.1, SL false 47 FiringS a_v5 c_v6 o4.1] ++ [])) (by show (35, vals 1) :: ([] ++ E') = _; rw [h1]) (by show [] ++ ([SL false 47 FiringS a_v2 c_v3 o1.1, SL false 47 FiringS a_v5 c_v6 o4.1] ++ []) = _; rfl) ?_
                  refine gl_len rfl Fs26 rfl rfl ?_
                  refine gl_nil ?_
                  exact gx_fp (.int .i64 (List.length o1.1 : Int)) rfl rfl rfl rfl (fun _ h => h.sub (fun _ h => h) (st_oo (A := [])) (fun o ho => by cases ho))
                · intro vals E' R' O' hD
                  have h0 : vals 0 = .int .i64 s8 := hD 0 (memN 0 rfl)
                  have h2 : vals 2 = .int .i64 (List.length o1.1 : Int) := hD 2 (memN 1 rfl)
                  refine gl_convV (E2 := (34, .int .i64 s8) :: (36, .int .i64 (List.length o1.1 : Int)) :: ([] ++ E')) (V2 := [] ++ ([SL false 47 FiringS a_v2 c_v3 o1.1, SL false 47 FiringS a_v5 c_v6 o4.1] ++ [])) (by show (34, vals 0) :: (36, vals 2) :: ([] ++ E') = _; rw [h0, h2]) (by show [] ++ ([SL false 47 FiringS a_v2 c_v3 o1.1, SL false 47 FiringS a_v5 c_v6 o4.1] ++ []) = _; rfl) ?_
                  refine gl_batch 1 [(37, .bool (decide (s8 ≥ (List.length o1.1 : Int))))] rfl ?_
                  refine gl_nil ?_
                  exact gx_fp (.bool (decide (s8 ≥ (List.length o1.1 : Int)))) rfl rfl rfl rfl (fun _ h => h.sub (fun _ h => h) (st_oo (A := [])) (fun o ho => by cases ho))
                · intro vals E' R' O' hD
                  have h3 : vals 3 = .bool (decide (s8 ≥ (List.length o1.1 : Int))) := hD 3 (memN 0 rfl)
                  refine gl_convV (E2 := (37, .bool (decide (s8 ≥ (List.length o1.1 : Int)))) :: ([] ++ E')) (V2 := [] ++ ([SL false 47 FiringS a_v2 c_v3 o1.1, SL false 47 FiringS a_v5 c_v6 o4.1] ++ [])) (by show (37, vals 3) :: ([] ++ E') = _; rw [h3]) (by show [] ++ ([SL false 47 FiringS a_v2 c_v3 o1.1, SL false 47 FiringS a_v5 c_v6 o4.1] ++ []) = _; rfl) ?_
                  refine gl_batch 1 [(38, .bool (decide (s8 ≥ (List.length o1.1 : Int))))] rfl ?_
                  refine gl_nil ?_
                  exact gx_fp (.bool false) rfl rfl (congrArg (fun z => some (Value.bool z)) hg11) rfl (fun _ h => h.sub (fun _ h => h) (st_oo (A := [])) (fun o ho => by cases ho))
                · intro vals E' R' O' hD
                  have h4 : vals 4 = .bool false := hD 4 (memN 0 rfl)
                  refine gl_convV (E2 := (38, .bool false) :: ([(9, .int .i64 s8)] ++ E')) (V2 := [] ++ ([SL false 47 FiringS a_v2 c_v3 o1.1, SL false 47 FiringS a_v5 c_v6 o4.1] ++ [])) (by show (38, vals 4) :: ([(9, .int .i64 s8)] ++ E') = _; rw [h4]) (by show [] ++ ([SL false 47 FiringS a_v2 c_v3 o1.1, SL false 47 FiringS a_v5 c_v6 o4.1] ++ []) = _; rfl) ?_
                  refine gl_batch 1 [(39, .int .i64 s8)] rfl ?_
                  refine gl_nil ?_
                  exact gx_fp (.int .i64 s8) rfl rfl rfl rfl (fun _ h => h.sub (fun _ h => h) (st_oo (A := [])) (fun o ho => by cases ho))
                · intro vals E' R' O' hD
                  have h4 : vals 4 = .bool false := hD 4 (memN 0 rfl)
                  refine gl_convV (E2 := (38, .bool false) :: ([(8, .slice a_v5 (List.length o4.1) c_v6)] ++ E')) (V2 := [] ++ ([SL false 47 FiringS a_v2 c_v3 o1.1, SL false 47 FiringS a_v5 c_v6 o4.1] ++ [])) (by show (38, vals 4) :: ([(8, .slice a_v5 (List.length o4.1) c_v6)] ++ E') = _; rw [h4]) (by show [] ++ ([SL false 47 FiringS a_v2 c_v3 o1.1, SL false 47 FiringS a_v5 c_v6 o4.1] ++ []) = _; rfl) ?_
                  refine gl_batch 1 [(40, .slice a_v5 (List.length o4.1) c_v6)] rfl ?_
                  refine gl_nil ?_
                  exact gx_fp (.slice a_v5 (List.length o4.1) c_v6) rfl rfl rfl rfl (fun _ h => h.sub (fun _ h => h) (st_oo (A := [])) (fun o ho => by cases ho))
                · intro vals E' R' O' hD
                  have h4 : vals 4 = .bool false := hD 4 (memN 0 rfl)
                  have h6 : vals 6 = .slice a_v5 (List.length o4.1) c_v6 := hD 6 (memN 1 rfl)
                  refine gl_convV (E2 := (38, .bool false) :: (40, .slice a_v5 (List.length o4.1) c_v6) :: ([] ++ E')) (V2 := [] ++ ([SL false 47 FiringS a_v2 c_v3 o1.1, SL false 47 FiringS a_v5 c_v6 o4.1] ++ [])) (by show (38, vals 4) :: (40, vals 6) :: ([] ++ E') = _; rw [h4, h6]) (by show [] ++ ([SL false 47 FiringS a_v2 c_v3 o1.1, SL false 47 FiringS a_v5 c_v6 o4.1] ++ []) = _; rfl) ?_
                  refine gl_len rfl Fs26 rfl rfl ?_
                  refine gl_nil ?_
                  exact gx_fp (.int .i64 (List.length o4.1 : Int)) rfl rfl rfl rfl (fun _ h => h.sub (fun _ h => h) (st_oo (A := [])) (fun o ho => by cases ho))
                · intro vals E' R' O' hD
                  have h4 : vals 4 = .bool false := hD 4 (memN 0 rfl)
                  have h5 : vals 5 = .int .i64 s8 := hD 5 (memN 1 rfl)
                  have h7 : vals 7 = .int .i64 (List.length o4.1 : Int) := hD 7 (memN 2 rfl)
                  refine gl_convV (E2 := (38, .bool false) :: (39, .int .i64 s8) :: (41, .int .i64 (List.length o4.1 : Int)) :: ([] ++ E')) (V2 := [] ++ ([SL false 47 FiringS a_v2 c_v3 o1.1, SL false 47 FiringS a_v5 c_v6 o4.1] ++ [])) (by show (38, vals 4) :: (39, vals 5) :: (41, vals 7) :: ([] ++ E') = _; rw [h4, h5, h7]) (by show [] ++ ([SL false 47 FiringS a_v2 c_v3 o1.1, SL false 47 FiringS a_v5 c_v6 o4.1] ++ []) = _; rfl) ?_
                  refine gl_batch 1 [(42, .bool (decide (s8 ≥ (List.length o4.1 : Int))))] rfl ?_
                  refine gl_nil ?_
                  exact gx_fp (.bool (decide (s8 ≥ (List.length o4.1 : Int)))) rfl rfl rfl rfl (fun _ h => h.sub (fun _ h => h) (st_oo (A := [])) (fun o ho => by cases ho))
                · intro vals E' R' O' hD
                  have h4 : vals 4 = .bool false := hD 4 (memN 0 rfl)
                  have h8 : vals 8 = .bool (decide (s8 ≥ (List.length o4.1 : Int))) := hD 8 (memN 1 rfl)
                  refine gl_convV (E2 := (38, .bool false) :: (42, .bool (decide (s8 ≥ (List.length o4.1 : Int)))) :: ([] ++ E')) (V2 := [] ++ ([SL false 47 FiringS a_v2 c_v3 o1.1, SL false 47 FiringS a_v5 c_v6 o4.1] ++ [])) (by show (38, vals 4) :: (42, vals 8) :: ([] ++ E') = _; rw [h4, h8]) (by show [] ++ ([SL false 47 FiringS a_v2 c_v3 o1.1, SL false 47 FiringS a_v5 c_v6 o4.1] ++ []) = _; rfl) ?_
                  refine gl_batch 1 [(43, .bool (decide (s8 ≥ (List.length o4.1 : Int))))] rfl ?_
                  refine gl_nil ?_
                  exact gx_fp (.bool (decide (s8 ≥ (List.length o4.1 : Int)))) rfl rfl rfl rfl (fun _ h => h.sub (fun _ h => h) (st_oo (A := [])) (fun o ho => by cases ho))
                · intro vals E' R' O' hD
                  have h9 : vals 9 = .bool (decide (s8 ≥ (List.length o4.1 : Int))) := hD 9 (memN 0 rfl)
                  refine gl_convV (E2 := (43, .bool (decide (s8 ≥ (List.length o4.1 : Int)))) :: ([] ++ E')) (V2 := [] ++ ([SL false 47 FiringS a_v2 c_v3 o1.1, SL false 47 FiringS a_v5 c_v6 o4.1] ++ [])) (by show (43, vals 9) :: ([] ++ E') = _; rw [h9]) (by show [] ++ ([SL false 47 FiringS a_v2 c_v3 o1.1, SL false 47 FiringS a_v5 c_v6 o4.1] ++ []) = _; rfl) ?_
                  refine gl_batch 1 [(44, .bool (decide (s8 ≥ (List.length o4.1 : Int))))] rfl ?_
                  refine gl_nil ?_
                  exact gx_fp (.bool true) rfl rfl (congrArg (fun z => some (Value.bool z)) hg12) rfl (fun _ h => h.sub (fun _ h => h) (st_oo (A := [])) (fun o ho => by cases ho))
                · intro vals E' R' O' hD
                  have h10 : vals 10 = .bool true := hD 10 (memN 0 rfl)
                  refine gl_convV (E2 := (44, .bool true) :: ([] ++ E')) (V2 := [] ++ ([SL false 47 FiringS a_v2 c_v3 o1.1, SL false 47 FiringS a_v5 c_v6 o4.1] ++ [])) (by show (44, vals 10) :: ([] ++ E') = _; rw [h10]) (by show [] ++ ([SL false 47 FiringS a_v2 c_v3 o1.1, SL false 47 FiringS a_v5 c_v6 o4.1] ++ []) = _; rfl) ?_
                  refine gl_batch 1 [(45, undef)] rfl ?_
                  refine gl_nil ?_
                  exact gx_fp (undef) rfl rfl rfl rfl (fun _ h => h.sub (fun _ h => h) (st_oo (A := [])) (fun o ho => by cases ho))
                · intro vals E' R' O' hD
                  have h10 : vals 10 = .bool true := hD 10 (memN 0 rfl)
                  refine gl_convV (E2 := (44, .bool true) :: ([] ++ E')) (V2 := [] ++ ([SL false 47 FiringS a_v2 c_v3 o1.1, SL false 47 FiringS a_v5 c_v6 o4.1] ++ [])) (by show (44, vals 10) :: ([] ++ E') = _; rw [h10]) (by show [] ++ ([SL false 47 FiringS a_v2 c_v3 o1.1, SL false 47 FiringS a_v5 c_v6 o4.1] ++ []) = _; rfl) ?_
                  refine gl_batch 1 [(46, undef)] rfl ?_
                  refine gl_nil ?_
                  exact gx_fp (undef) rfl rfl rfl rfl (fun _ h => h.sub (fun _ h => h) (st_oo (A := [])) (fun o ho => by cases ho))
                · intro vals E' R' O' hD
                  have h10 : vals 10 = .bool true := hD 10 (memN 0 rfl)
                  refine gl_convV (E2 := (44, .bool true) :: ([] ++ E')) (V2 := [] ++ ([SL false 47 FiringS a_v2 c_v3 o1.1, SL false 47 FiringS a_v5 c_v6 o4.1] ++ [])) (by show (44, vals 10) :: ([] ++ E') = _; rw [h10]) (by show [] ++ ([SL false 47 FiringS a_v2 c_v3 o1.1, SL false 47 FiringS a_v5 c_v6 o4.1] ++ []) = _; rfl) ?_
                  refine gl_batch 1 [(47, undef)] rfl ?_
                  refine gl_nil ?_
                  exact gx_fp (undef) rfl rfl rfl rfl (fun _ h => h.sub (fun _ h => h) (st_oo (A := [])) (fun o ho => by cases ho))
                · intro vals E' R' O' hD
                  have h10 : vals 10 = .bool true := hD 10 (memN 0 rfl)
                  refine gl_convV (E2 := (44, .bool true) :: ([] ++ E')) (V2 := [] ++ ([SL false 47 FiringS a_v2 c_v3 o1.1, SL false 47 FiringS a_v5 c_v6 o4.1] ++ [])) (by show (44, vals 10) :: ([] ++ E') = _; rw [h10]) (by show [] ++ ([SL false 47 FiringS a_v2 c_v3 o1.1, SL false 47 FiringS a_v5 c_v6 o4.1] ++ []) = _; rfl) ?_
                  refine gl_batch 1 [(48, undef)] rfl ?_
                  refine gl_nil ?_
                  exact gx_fp (undef) rfl rfl rfl rfl (fun _ h => h.sub (fun _ h => h) (st_oo (A := [])) (fun o ho => by cases ho))
                · intro vals E' R' O' hD
                  have h10 : vals 10 = .bool true := hD 10 (memN 0 rfl)
                  refine gl_convV (E2 := (44, .bool true) :: ([] ++ E')) (V2 := [] ++ ([SL false 47 FiringS a_v2 c_v3 o1.1, SL false 47 FiringS a_v5 c_v6 o4.1] ++ [])) (by show (44, vals 10) :: ([] ++ E') = _; rw [h10]) (by show [] ++ ([SL false 47 FiringS a_v2 c_v3 o1.1, SL false 47 FiringS a_v5 c_v6 o4.1] ++ []) = _; rfl) ?_
                  refine gl_batch 1 [(49, undef)] rfl ?_
                  refine gl_nil ?_
                  exact gx_fp (undef) rfl rfl rfl rfl (fun _ h => h.sub (fun _ h => h) (st_oo (A := [])) (fun o ho => by cases ho))
                · intro vals E' R' O' hD
                  have h10 : vals 10 = .bool true := hD 10 (memN 0 rfl)
                  refine gl_convV (E2 := (44, .bool true) :: ([] ++ E')) (V2 := [] ++ ([SL false 47 FiringS a_v2 c_v3 o1.1, SL false 47 FiringS a_v5 c_v6 o4.1] ++ [])) (by show (44, vals 10) :: ([] ++ E') = _; rw [h10]) (by show [] ++ ([SL false 47 FiringS a_v2 c_v3 o1.1, SL false 47 FiringS a_v5 c_v6 o4.1] ++ []) = _; rfl) ?_
                  refine gl_batch 1 [(50, undef)] rfl ?_
                  refine gl_nil ?_
                  exact gx_fp (undef) rfl rfl rfl rfl (fun _ h => h.sub (fun _ h => h) (st_oo (A := [])) (fun o ho => by cases ho))
                · intro vals E' R' O' hD
                  have h10 : vals 10 = .bool true := hD 10 (memN 0 rfl)
                  refine gl_convV (E2 := (44, .bool true) :: ([] ++ E')) (V2 := [] ++ ([SL false 47 FiringS a_v2 c_v3 o1.1, SL false 47 FiringS a_v5 c_v6 o4.1] ++ [])) (by show (44, vals 10) :: ([] ++ E') = _; rw [h10]) (by show [] ++ ([SL false 47 FiringS a_v2 c_v3 o1.1, SL false 47 FiringS a_v5 c_v6 o4.1] ++ []) = _; rfl) ?_
                  refine gl_batch 1 [(51, undef)] rfl ?_
                  refine gl_nil ?_
                  exact gx_fp (undef) rfl rfl rfl rfl (fun _ h => h.sub (fun _ h => h) (st_oo (A := [])) (fun o ho => by cases ho))
                · intro vals E' R' O' hD
                  have h10 : vals 10 = .bool true := hD 10 (memN 0 rfl)
                  refine gl_convV (E2 := (44, .bool true) :: ([] ++ E')) (V2 := [] ++ ([SL false 47 FiringS a_v2 c_v3 o1.1, SL false 47 FiringS a_v5 c_v6 o4.1] ++ [])) (by show (44, vals 10) :: ([] ++ E') = _; rw [h10]) (by show [] ++ ([SL false 47 FiringS a_v2 c_v3 o1.1, SL false 47 FiringS a_v5 c_v6 o4.1] ++ []) = _; rfl) ?_
                  refine gl_batch 1 [(52, undef)] rfl ?_
                  refine gl_nil ?_
                  exact gx_fp (undef) rfl rfl rfl rfl (fun _ h => h.sub (fun _ h => h) (st_oo (A := [])) (fun o ho => by cases ho))
                · intro vals E' R' O' hD
                  have h10 : vals 10 = .bool true := hD 10 (memN 0 rfl)
                  refine gl_convV (E2 := (44, .bool true) :: ([] ++ E')) (V2 := [] ++ ([SL false 47 FiringS a_v2 c_v3 o1.1, SL false 47 FiringS a_v5 c_v6 o4.1] ++ [])) (by show (44, vals 10) :: ([] ++ E') = _; rw [h10]) (by show [] ++ ([SL false 47 FiringS a_v2 c_v3 o1.1, SL false 47 FiringS a_v5 c_v6 o4.1] ++ []) = _; rfl) ?_
                  refine gl_batch 1 [(53, undef)] rfl ?_
                  refine gl_nil ?_
                  exact gx_fp (undef) rfl rfl rfl rfl (fun _ h => h.sub (fun _ h => h) (st_oo (A := [])) (fun o ho => by cases ho))
                · intro vals E' R' O' hD
                  have h10 : vals 10 = .bool true := hD 10 (memN 0 rfl)
                  refine gl_convV (E2 := (44, .bool true) :: ([] ++ E')) (V2 := [] ++ ([SL false 47 FiringS a_v2 c_v3 o1.1, SL false 47 FiringS a_v5 c_v6 o4.1] ++ [])) (by show (44, vals 10) :: ([] ++ E') = _; rw [h10]) (by show [] ++ ([SL false 47 FiringS a_v2 c_v3 o1.1, SL false 47 FiringS a_v5 c_v6 o4.1] ++ []) = _; rfl) ?_
                  refine gl_batch 1 [(54, undef)] rfl ?_
                  refine gl_nil ?_
                  exact gx_fp (undef) rfl rfl rfl rfl (fun _ h => h.sub (fun _ h => h) (st_oo (A := [])) (fun o ho => by cases ho))
                · intro vals E' R' O' hD
                  have h10 : vals 10 = .bool true := hD 10 (memN 0 rfl)
                  refine gl_convV (E2 := (44, .bool true) :: ([] ++ E')) (V2 := [] ++ ([SL false 47 FiringS a_v2 c_v3 o1.1, SL false 47 FiringS a_v5 c_v6 o4.1] ++ [])) (by show (44, vals 10) :: ([] ++ E') = _; rw [h10]) (by show [] ++ ([SL false 47 FiringS a_v2 c_v3 o1.1, SL false 47 FiringS a_v5 c_v6 o4.1] ++ []) = _; rfl) ?_
                  refine gl_batch 1 [(55, undef)] rfl ?_
                  refine gl_nil ?_
                  exact gx_fp (undef) rfl rfl rfl rfl (fun _ h => h.sub (fun _ h => h) (st_oo (A := [])) (fun o ho => by cases ho))
                · intro vals E' R' O' hD
                  have h10 : vals 10 = .bool true := hD 10 (memN 0 rfl)
                  have h21 : vals 21 = undef := hD 21 (memN 1 rfl)
                  refine gl_convV (E2 := (44, .bool true) :: (55, undef) :: ([] ++ E')) (V2 := [] ++ ([SL false 47 FiringS a_v2 c_v3 o1.1, SL false 47 FiringS a_v5 c_v6 o4.1] ++ [])) (by show (44, vals 10) :: (55, vals 21) :: ([] ++ E') = _; rw [h10, h21]) (by show [] ++ ([SL false 47 FiringS a_v2 c_v3 o1.1, SL false 47 FiringS a_v5 c_v6 o4.1] ++ []) = _; rfl) ?_
                  refine gl_batch 1 [(56, .bool true)] rfl ?_
                  refine gl_nil ?_
                  exact gx_fp (.bool true) rfl rfl rfl rfl (fun _ h => h.sub (fun _ h => h) (st_oo (A := [])) (fun o ho => by cases ho))
                · intro vals E' R' O' hD
                  have h22 : vals 22 = .bool true := hD 22 (memN 0 rfl)
                  refine gl_convV (E2 := (56, .bool true) :: ([] ++ E')) (V2 := [] ++ ([SL false 47 FiringS a_v2 c_v3 o1.1, SL false 47 FiringS a_v5 c_v6 o4.1] ++ [])) (by show (56, vals 22) :: ([] ++ E') = _; rw [h22]) (by show [] ++ ([SL false 47 FiringS a_v2 c_v3 o1.1, SL false 47 FiringS a_v5 c_v6 o4.1] ++ []) = _; rfl) ?_
                  refine gl_batch 1 [(57, .bool true)] rfl ?_
                  refine gl_nil ?_
                  exact gx_fp (.bool true) rfl rfl rfl rfl (fun _ h => h.sub (fun _ h => h) (st_oo (A := [])) (fun o ho => by cases ho))
                · intro vals E' R' O' hD
                  have h23 : vals 23 = .bool true := hD 23 (memN 0 rfl)
                  refine gl_convV (E2 := (57, .bool true) :: ([] ++ E')) (V2 := [] ++ ([SL false 47 FiringS a_v2 c_v3 o1.1, SL false 47 FiringS a_v5 c_v6 o4.1] ++ [])) (by show (57, vals 23) :: ([] ++ E') = _; rw [h23]) (by show [] ++ ([SL false 47 FiringS a_v2 c_v3 o1.1, SL false 47 FiringS a_v5 c_v6 o4.1] ++ []) = _; rfl) ?_
                  refine gl_batch 1 [(58, undef)] rfl ?_
                  refine gl_nil ?_
                  exact gx_fp (undef) rfl rfl rfl rfl (fun _ h => h.sub (fun _ h => h) (st_oo (A := [])) (fun o ho => by cases ho))
                · intro vals E' R' O' hD
                  have h23 : vals 23 = .bool true := hD 23 (memN 0 rfl)
                  refine gl_convV (E2 := (57, .bool true) :: ([] ++ E')) (V2 := [] ++ ([SL false 47 FiringS a_v2 c_v3 o1.1, SL false 47 FiringS a_v5 c_v6 o4.1] ++ [])) (by show (57, vals 23) :: ([] ++ E') = _; rw [h23]) (by show [] ++ ([SL false 47 FiringS a_v2 c_v3 o1.1, SL false 47 FiringS a_v5 c_v6 o4.1] ++ []) = _; rfl) ?_
                  refine gl_batch 1 [(59, undef)] rfl ?_
                  refine gl_nil ?_
                  exact gx_fp (undef) rfl rfl rfl rfl (fun _ h => h.sub (fun _ h => h) (st_oo (A := [])) (fun o ho => by cases ho))
                · intro vals E' R' O' hD
                  have h23 : vals 23 = .bool true := hD 23 (memN 0 rfl)
                  refine gl_convV (E2 := (57, .bool true) :: ([] ++ E')) (V2 := [] ++ ([SL false 47 FiringS a_v2 c_v3 o1.1, SL false 47 FiringS a_v5 c_v6 o4.1] ++ [])) (by show (57, vals 23) :: ([] ++ E') = _; rw [h23]) (by show [] ++ ([SL false 47 FiringS a_v2 c_v3 o1.1, SL false 47 FiringS a_v5 c_v6 o4.1] ++ []) = _; rfl) ?_
                  refine gl_batch 1 [(60, undef)] rfl ?_
                  refine gl_nil ?_
                  exact gx_fp (undef) rfl rfl rfl rfl (fun _ h => h.sub (fun _ h => h) (st_oo (A := [])) (fun o ho => by cases ho))
                · intro vals E' R' O' hD
                  have h23 : vals 23 = .bool true := hD 23 (memN 0 rfl)
                  refine gl_convV (E2 := (57, .bool true) :: ([] ++ E')) (V2 := [] ++ ([SL false 47 FiringS a_v2 c_v3 o1.1, SL false 47 FiringS a_v5 c_v6 o4.1] ++ [])) (by show (57, vals 23) :: ([] ++ E') = _; rw [h23]) (by show [] ++ ([SL false 47 FiringS a_v2 c_v3 o1.1, SL false 47 FiringS a_v5 c_v6 o4.1] ++ []) = _; rfl) ?_
                  refine gl_batch 1 [(61, undef)] rfl ?_
                  refine gl_nil ?_
                  exact gx_fp (undef) rfl rfl rfl rfl (fun _ h => h.sub (fun _ h => h) (st_oo (A := [])) (fun o ho => by cases ho))
                · intro vals E' R' O' hD
                  have h23 : vals 23 = .bool true := hD 23 (memN 0 rfl)
                  refine gl_convV (E2 := (57, .bool true) :: ([] ++ E')) (V2 := [] ++ ([SL false 47 FiringS a_v2 c_v3 o1.1, SL false 47 FiringS a_v5 c_v6 o4.1] ++ [])) (by show (57, vals 23) :: ([] ++ E') = _; rw [h23]) (by show [] ++ ([SL false 47 FiringS a_v2 c_v3 o1.1, SL false 47 FiringS a_v5 c_v6 o4.1] ++ []) = _; rfl) ?_
                  refine gl_batch 1 [(62, undef)] rfl ?_
                  refine gl_nil ?_
                  exact gx_fp (undef) rfl rfl rfl rfl (fun _ h => h.sub (fun _ h => h) (st_oo (A := [])) (fun o ho => by cases ho))
                · intro vals E' R' O' hD
                  have h23 : vals 23 = .bool true := hD 23 (memN 0 rfl)
                  refine gl_convV (E2 := (57, .bool true) :: ([] ++ E')) (V2 := [] ++ ([SL false 47 FiringS a_v2 c_v3 o1.1, SL false 47 FiringS a_v5 c_v6 o4.1] ++ [])) (by show (57, vals 23) :: ([] ++ E') = _; rw [h23]) (by show [] ++ ([SL false 47 FiringS a_v2 c_v3 o1.1, SL false 47 FiringS a_v5 c_v6 o4.1] ++ []) = _; rfl) ?_
                  refine gl_batch 1 [(63, undef)] rfl ?_
                  refine gl_nil ?_
                  exact gx_fp (undef) rfl rfl rfl rfl (fun _ h => h.sub (fun _ h => h) (st_oo (A := [])) (fun o ho => by cases ho))
                · intro vals E' R' O' hD
                  have h23 : vals 23 = .bool true := hD 23 (memN 0 rfl)
                  refine gl_convV (E2 := (57, .bool true) :: ([] ++ E')) (V2 := [] ++ ([SL false 47 FiringS a_v2 c_v3 o1.1, SL false 47 FiringS a_v5 c_v6 o4.1] ++ [])) (by show (57, vals 23) :: ([] ++ E') = _; rw [h23]) (by show [] ++ ([SL false 47 FiringS a_v2 c_v3 o1.1, SL false 47 FiringS a_v5 c_v6 o4.1] ++ []) = _; rfl) ?_
                  refine gl_batch 1 [(64, undef)] rfl ?_
                  refine gl_nil ?_
                  exact gx_fp (undef) rfl rfl rfl rfl (fun _ h => h.sub (fun _ h => h) (st_oo (A := [])) (fun o ho => by cases ho))
                · intro vals E' R' O' hD
                  have h23 : vals 23 = .bool true := hD 23 (memN 0 rfl)
                  refine gl_convV (E2 := (57, .bool true) :: ([] ++ E')) (V2 := [] ++ ([SL false 47 FiringS a_v2 c_v3 o1.1, SL false 47 FiringS a_v5 c_v6 o4.1] ++ [])) (by show (57, vals 23) :: ([] ++ E') = _; rw [h23]) (by show [] ++ ([SL false 47 FiringS a_v2 c_v3 o1.1, SL false 47 FiringS a_v5 c_v6 o4.1] ++ []) = _; rfl) ?_
                  refine gl_batch 1 [(65, undef)] rfl ?_
                  refine gl_nil ?_
                  exact gx_fp (undef) rfl rfl rfl rfl (fun _ h => h.sub (fun _ h => h) (st_oo (A := [])) (fun o ho => by cases ho))
                · intro vals E' R' O' hD
                  have h23 : vals 23 = .bool true := hD 23 (memN 0 rfl)
                  refine gl_convV (E2 := (57, .bool true) :: ([] ++ E')) (V2 := [] ++ ([SL false 47 FiringS a_v2 c_v3 o1.1, SL false 47 FiringS a_v5 c_v6 o4.1] ++ [])) (by show (57, vals 23) :: ([] ++ E') = _; rw [h23]) (by show [] ++ ([SL false 47 FiringS a_v2 c_v3 o1.1, SL false 47 FiringS a_v5 c_v6 o4.1] ++ []) = _; rfl) ?_
                  refine gl_batch 1 [(66, undef)] rfl ?_
                  refine gl_nil ?_
                  exact gx_fp (undef) rfl rfl rfl rfl (fun _ h => h.sub (fun _ h => h) (st_oo (A := [])) (fun o ho => by cases ho))
                · intro vals E' R' O' hD
                  have h23 : vals 23 = .bool true := hD 23 (memN 0 rfl)
                  refine gl_convV (E2 := (57, .bool true) :: ([] ++ E')) (V2 := [] ++ ([SL false 47 FiringS a_v2 c_v3 o1.1, SL false 47 FiringS a_v5 c_v6 o4.1] ++ [])) (by show (57, vals 23) :: ([] ++ E') = _; rw [h23]) (by show [] ++ ([SL false 47 FiringS a_v2 c_v3 o1.1, SL false 47 FiringS a_v5 c_v6 o4.1] ++ []) = _; rfl) ?_
                  refine gl_batch 1 [(67, undef)] rfl ?_
                  refine gl_nil ?_
                  exact gx_fp (undef) rfl rfl rfl rfl (fun _ h => h.sub (fun _ h => h) (st_oo (A := [])) (fun o ho => by cases ho))
                · intro vals E' R' O' hD
                  have h23 : vals 23 = .bool true := hD 23 (memN 0 rfl)
                  refine gl_convV (E2 := (57, .bool true) :: ([] ++ E')) (V2 := [] ++ ([SL false 47 FiringS a_v2 c_v3 o1.1, SL false 47 FiringS a_v5 c_v6 o4.1] ++ [])) (by show (57, vals 23) :: ([] ++ E') = _; rw [h23]) (by show [] ++ ([SL false 47 FiringS a_v2 c_v3 o1.1, SL false 47 FiringS a_v5 c_v6 o4.1] ++ []) = _; rfl) ?_
                  refine gl_batch 1 [(68, undef)] rfl ?_
                  refine gl_nil ?_
                  exact gx_fp (undef) rfl rfl rfl rfl (fun _ h => h.sub (fun _ h => h) (st_oo (A := [])) (fun o ho => by cases ho))
                · intro vals E' R' O' hD
                  have h23 : vals 23 = .bool true := hD 23 (memN 0 rfl)
                  have h34 : vals 34 = undef := hD 34 (memN 1 rfl)
                  refine gl_convV (E2 := (57, .bool true) :: (68, undef) :: ([] ++ E')) (V2 := [] ++ ([SL false 47 FiringS a_v2 c_v3 o1.1, SL false 47 FiringS a_v5 c_v6 o4.1] ++ [])) (by show (57, vals 23) :: (68, vals 34) :: ([] ++ E') = _; rw [h23, h34]) (by show [] ++ ([SL false 47 FiringS a_v2 c_v3 o1.1, SL false 47 FiringS a_v5 c_v6 o4.1] ++ []) = _; rfl) ?_
                  refine gl_batch 1 [(69, .bool true)] rfl ?_
                  refine gl_nil ?_
                  exact gx_fp (.bool true) rfl rfl rfl rfl (fun _ h => h.sub (fun _ h => h) (st_oo (A := [])) (fun o ho => by cases ho))
                · intro vals hv
                  obtain ⟨⟨⟨⟨⟨⟨⟨⟨⟨⟨⟨⟨⟨⟨⟨⟨⟨⟨⟨⟨⟨⟨⟨⟨⟨⟨⟨⟨⟨⟨⟨⟨⟨⟨⟨⟨_, h0⟩, h1⟩, h2⟩, h3⟩, h4⟩, h5⟩, h6⟩, h7⟩, h8⟩, h9⟩, h10⟩, h11⟩, h12⟩, h13⟩, h14⟩, h15⟩, h16⟩, h17⟩, h18⟩, h19⟩, h20⟩, h21⟩, h22⟩, h23⟩, h24⟩, h25⟩, h26⟩, h27⟩, h28⟩, h29⟩, h30⟩, h31⟩, h32⟩, h33⟩, h34⟩, h35⟩ := hv
                  have h0 : vals 0 = .int .i64 s8 := h0
                  have h1 : vals 1 = .slice a_v2 (List.length o1.1) c_v3 := h1
                  have h2 : vals 2 = .int .i64 (List.length o1.1 : Int) := h2
                  have h3 : vals 3 = .bool (decide (s8 ≥ (List.length o1.1 : Int))) := h3
                  have h4 : vals 4 = .bool false := h4
                  have h5 : vals 5 = .int .i64 s8 := h5
                  have h6 : vals 6 = .slice a_v5 (List.length o4.1) c_v6 := h6
                  have h7 : vals 7 = .int .i64 (List.length o4.1 : Int) := h7
                  have h8 : vals 8 = .bool (decide (s8 ≥ (List.length o4.1 : Int))) := h8
                  have h9 : vals 9 = .bool (decide (s8 ≥ (List.length o4.1 : Int))) := h9
                  have h10 : vals 10 = .bool true := h10
                  have h11 : vals 11 = undef := h11
                  have h12 : vals 12 = undef := h12
                  have h13 : vals 13 = undef := h13
                  have h14 : vals 14 = undef := h14
                  have h15 : vals 15 = undef := h15
                  have h16 : vals 16 = undef := h16
                  have h17 : vals 17 = undef := h17
                  have h18 : vals 18 = undef := h18
                  have h19 : vals 19 = undef := h19
                  have h20 : vals 20 = undef := h20
                  have h21 : vals 21 = undef := h21
                  have h22 : vals 22 = .bool true := h22
                  have h23 : vals 23 = .bool true := h23
                  have h24 : vals 24 = undef := h24
                  have h25 : vals 25 = undef := h25
                  have h26 : vals 26 = undef := h26
                  have h27 : vals 27 = undef := h27
                  have h28 : vals 28 = undef := h28
                  have h29 : vals 29 = undef := h29
                  have h30 : vals 30 = undef := h30
                  have h31 : vals 31 = undef := h31
                  have h32 : vals 32 = undef := h32
                  have h33 : vals 33 = undef := h33
                  have h34 : vals 34 = undef := h34
                  have h35 : vals 35 = .bool true := h35
                  refine gl_conv (E2 := (34, .int .i64 s8) :: (35, .slice a_v2 (List.length o1.1) c_v3) :: (36, .int .i64 (List.length o1.1 : Int)) :: (37, .bool (decide (s8 ≥ (List.length o1.1 : Int)))) :: (38, .bool false) :: (39, .int .i64 s8) :: (40, .slice a_v5 (List.length o4.1) c_v6) :: (41, .int .i64 (List.length o4.1 : Int)) :: (42, .bool (decide (s8 ≥ (List.length o4.1 : Int)))) :: (43, .bool (decide (s8 ≥ (List.length o4.1 : Int)))) :: (44, .bool true) :: (45, undef) :: (46, undef) :: (47, undef) :: (48, undef) :: (49, undef) :: (50, undef) :: (51, undef) :: (52, undef) :: (53, undef) :: (54, undef) :: (55, undef) :: (56, .bool true) :: (57, .bool true) :: (58, undef) :: (59, undef) :: (60, undef) :: (61, undef) :: (62, undef) :: (63, undef) :: (64, undef) :: (65, undef) :: (66, undef) :: (67, undef) :: (68, undef) :: (69, .bool true) :: [(6, .slice a_v2 (List.length o1.1) c_v3), (8, .slice a_v5 (List.length o4.1) c_v6), (9, .int .i64 s8), (30, .int .i64 (if (List.length o4.1 : Int) > (List.length o1.1 : Int) then (List.length o4.1 : Int) else (List.length o1.1 : Int))), (31, .int .i64 s8)]) (R2 := [] ++ ([] ++ [SL false 47 FiringS a_v2 c_v3 o1.1, SL false 47 FiringS a_v5 c_v6 o4.1])) (O2 := [] ++ []) (by show (34, vals 0) :: (35, vals 1) :: (36, vals 2) :: (37, vals 3) :: (38, vals 4) :: (39, vals 5) :: (40, vals 6) :: (41, vals 7) :: (42, vals 8) :: (43, vals 9) :: (44, vals 10) :: (45, vals 11) :: (46, vals 12) :: (47, vals 13) :: (48, vals 14) :: (49, vals 15) :: (50, vals 16) :: (51, vals 17) :: (52, vals 18) :: (53, vals 19) :: (54, vals 20) :: (55, vals 21) :: (56, vals 22) :: (57, vals 23) :: (58, vals 24) :: (59, vals 25) :: (60, vals 26) :: (61, vals 27) :: (62, vals 28) :: (63, vals 29) :: (64, vals 30) :: (65, vals 31) :: (66, vals 32) :: (67, vals 33) :: (68, vals 34) :: (69, vals 35) :: [(6, .slice a_v2 (List.length o1.1) c_v3), (8, .slice a_v5 (List.length o4.1) c_v6), (9, .int .i64 s8), (30, .int .i64 (if (List.length o4.1 : Int) > (List.length o1.1 : Int) then (List.length o4.1 : Int) else (List.length o1.1 : Int))), (31, .int .i64 s8)] = _; rw [h0, h1, h2, h3, h4, h5, h6, h7, h8, h9, h10, h11, h12, h13, h14, h15, h16, h17, h18, h19, h20, h21, h22, h23, h24, h25, h26, h27, h28, h29, h30, h31, h32, h33, h34, h35]) (by show [] ++ ([] ++ [SL false 47 FiringS a_v2 c_v3 o1.1, SL false 47 FiringS a_v5 c_v6 o4.1]) = _; rfl) rfl ?_
                  refine gl_nil ?_
                  obtain rfl := Option.some.inj h
                  exact gx_of (fun a w hE hS => ⟨rfl, hE.sub ⟨rfl, rfl, rfl, rfl, rfl, rfl, trivial⟩, (hS.take 2).facts _ _ [] (consItem (mem_at 0 rfl) (consItem (mem_at 1 rfl) (consItem (mem_at 2 rfl) (consItem (mem_at 3 rfl) noItem)))) noItem noItem⟩)
              · replace h := condF hg12 h
                obtain ⟨x13, hx13, h⟩ := bindS h
                refine g_elemn (mem_at 0 rfl) hx13 ?_
                intro p14 hp14
                obtain ⟨x15, hx15, h⟩ := bindS h
                refine g_elemn (mem_at 1 rfl) hx15 ?_
                intro p16 hp16
                refine g_case (x13.Event != x15.Event) (fun hg17 => ?_) (fun hg17 => ?_)
                · replace h := condT hg17 h
                  refine g_state (E' := [(6, .slice a_v2 (List.length o1.1) c_v3), (8, .slice a_v5 (List.length o4.1) c_v6), (9, .int .i64 s8), (30, .int .i64 (if (List.length o4.1 : Int) > (List.length o1.1 : Int) then (List.length o4.1 : Int) else (List.length o1.1 : Int))), (31, .int .i64 s8)]) (Rs' := [] ++ [SL false 47 FiringS a_v2 c_v3 o1.1, SL false 47 FiringS a_v5 c_v6 o4.1]) (Xs' := [gTab 3 pow10C, gNum 0, gErr 1, gErr 2]) (Os' := []) (Vs' := []) ⟨rfl, rfl, rfl, rfl, rfl, trivial⟩ (fun w hS => hS) ?_
                  refine g_draw (Rs := [SL false 47 FiringS a_v2 c_v3 o1.1, SL false 47 FiringS a_v5 c_v6 o4.1]) 36 (dOf [[], [], [1], [0, 2], [3], [4], [4], [4, 6], [4, 5, 7], [4, 8], [9], [10], [10], [10, 11, 12], [10, 13], [10, 14], [10], [10], [10, 16, 17], [10, 18], [10, 19], [10, 15, 20], [10, 21], [22], [23], [23], [23], [23], [23], [23], [23], [23], [23], [23], [23], [23, 34]]) (spOf [det 0 (.int .i64 s8), det 1 (.slice a_v2 (List.length o1.1) c_v3), det 2 (.int .i64 (List.length o1.1 : Int)), det 3 (.bool (decide (s8 ≥ (List.length o1.1 : Int)))), det 4 (.bool false), det 5 (.int .i64 s8), det 6 (.slice a_v5 (List.length o4.1) c_v6), det 7 (.int .i64 (List.length o4.1 : Int)), det 8 (.bool (decide (s8 ≥ (List.length o4.1 : Int)))), det 9 (.bool (decide (s8 ≥ (List.length o4.1 : Int)))), det 10 (.bool false), det 11 (.slice a_v2 (List.length o1.1) c_v3), det 12 (.int .i64 s8), det 13 (.pointer (some p14)), det 14 (.pointer (some p14)), det 15 (.int .i64 x13.Event), det 16 (.slice a_v5 (List.length o4.1) c_v6), det 17 (.int .i64 s8), det 18 (.pointer (some p16)), det 19 (.pointer (some p16)), det 20 (.int .i64 x15.Event), det 21 (.bool (x13.Event != x15.Event)), det 22 (.bool (x13.Event != x15.Event)), det 23 (.bool true), det 24 (undef), det 25 (undef), det 26 (undef), det 27 (undef), det 28 (undef), det 29 (undef), det 30 (undef), det 31 (undef), det 32 (undef), det 33 (undef), det 34 (undef), det 35 (.bool true)]) [] (fun _ _ => []) (eOf [[(9, .int .i64 s8)], [(6, .slice a_v2 (List.length o1.1) c_v3)], [], [], [], [(9, .int .i64 s8)], [(8, .slice a_v5 (List.length o4.1) c_v6)], [], [], [], [], [(6, .slice a_v2 (List.length o1.1) c_v3)], [(9, .int .i64 s8)], [], [], [], [(8, .slice a_v5 (List.length o4.1) c_v6)], [(9, .int .i64 s8)], [], [], [], [], [], [], [], [], [], [], [], [], [], [], [], [], [], []]) mixed rfl (Or.inl rfl) ⟨⟨⟨⟨⟨⟨⟨⟨⟨⟨⟨⟨⟨⟨⟨⟨⟨⟨⟨⟨⟨⟨⟨⟨⟨⟨⟨⟨⟨⟨⟨⟨⟨⟨⟨⟨trivial, ⟨rfl, trivial⟩⟩, ⟨rfl, trivial⟩⟩, trivial⟩, trivial⟩, trivial⟩, ⟨rfl, trivial⟩⟩, ⟨rfl, trivial⟩⟩, trivial⟩, trivial⟩, trivial⟩, trivial⟩, ⟨rfl, trivial⟩⟩, ⟨rfl, trivial⟩⟩, trivial⟩, trivial⟩, trivial⟩, ⟨rfl, trivial⟩⟩, ⟨rfl, trivial⟩⟩, trivial⟩, trivial⟩, trivial⟩, trivial⟩, trivial⟩, trivial⟩, trivial⟩, trivial⟩, trivial⟩, trivial⟩, trivial⟩, trivial⟩, trivial⟩, trivial⟩, trivial⟩, trivial⟩, trivial⟩, trivial⟩ rfl ⟨⟨⟨⟨⟨⟨⟨⟨⟨⟨⟨⟨⟨⟨⟨⟨⟨⟨⟨⟨⟨⟨⟨⟨⟨⟨⟨⟨⟨⟨⟨⟨⟨⟨⟨⟨trivial, ?_⟩, ?_⟩, ?_⟩, ?_⟩, ?_⟩, ?_⟩, ?_⟩, ?_⟩, ?_⟩, ?_⟩, ?_⟩, ?_⟩, ?_⟩, ?_⟩, ?_⟩, ?_⟩, ?_⟩, ?_⟩, ?_⟩, ?_⟩, ?_⟩, ?_⟩, ?_⟩, ?_⟩, ?_⟩, ?_⟩, ?_⟩, ?_⟩, ?_⟩, ?_⟩, ?_⟩, ?_⟩, ?_⟩, ?_⟩, ?_⟩, ?_⟩ ?_
                  · intro vals E' R' O' hD
                    refine gl_batch 1 [(34, .int .i64 s8)] rfl ?_
                    refine gl_nil ?_
                    exact gx_fp (.int .i64 s8) rfl rfl rfl rfl (fun _ h => h.sub (fun _ h => h) (st_oo (A := [])) (fun o ho => by cases ho))
                  · intro vals E' R' O' hD
                    refine gl_batch 1 [(35, .slice a_v2 (List.length o1.1) c_v3)] rfl ?_
                    refine gl_nil ?_
                    exact gx_fp (.slice a_v2 (List.length o1.1) c_v3) rfl rfl rfl rfl (fun _ h => h.sub (fun _ h => h) (st_oo (A := [])) (fun o ho => by cases ho))
                  · intro vals E' R' O' hD
                    have h1 : vals 1 = .slice a_v2 (List.length o1.1) c_v3 := hD 1 (memN 0 rfl)
                    refine gl_convV (E2 := (35, .slice a_v2 (List.length o1.1) c_v3) :: ([] ++ E')) (V2 := [] ++ ([SL false 47 FiringS a_v2 c_v3 o1.1, SL false 47 FiringS a_v5 c_v6 o4.1] ++ [])) (by show (35, vals 1) :: ([] ++ E') = _; rw [h1]) (by show [] ++ ([SL false 47 FiringS a_v2 c_v3 o1.1, SL false 47 FiringS a_v5 c_v6 o4.1] ++ []) = _; rfl) ?_
                    refine gl_len rfl Fs26 rfl rfl ?_
                    refine gl_nil ?_
                    exact gx_fp (.int .i64 (List.length o1.1 : Int)) rfl rfl rfl rfl (fun _ h => h.sub (fun _ h => h) (st_oo (A := [])) (fun o ho => by cases ho))
                  · intro vals E' R' O' hD
                    have h0 : vals 0 = .int .i64 s8 := hD 0 (memN 0 rfl)
                    have h2 : vals 2 = .int .i64 (List.length o1.1 : Int) := hD 2 (memN 1 rfl)
                    refine gl_convV (E2 := (34, .int .i64 s8) :: (36, .int .i64 (List.length o1.1 : Int)) :: ([] ++ E')) (V2 := [] ++ ([SL false 47 FiringS a_v2 c_v3 o1.1, SL false 47 FiringS a_v5 c_v6 o4.1] ++ [])) (by show (34, vals 0) :: (36, vals 2) :: ([] ++ E') = _; rw [h0, h2]) (by show [] ++ ([SL false 47 FiringS a_v2 c_v3 o1.1, SL false 47 FiringS a_v5 c_v6 o4.1] ++ []) = _; rfl) ?_
                    refine gl_batch 1 [(37, .bool (decide (s8 ≥ (List.length o1.1 : Int))))] rfl ?_
                    refine gl_nil ?_
                    exact gx_fp (.bool (decide (s8 ≥ (List.length o1.1 : Int)))) rfl rfl rfl rfl (fun _ h => h.sub (fun _ h => h) (st_oo (A := [])) (fun o ho => by cases ho))
                  · intro vals E' R' O' hD
                    have h3 : vals 3 = .bool (decide (s8 ≥ (List.length o1.1 : Int))) := hD 3 (memN 0 rfl)
                    refine gl_convV (E2 := (37, .bool (decide (s8 ≥ (List.length o1.1 : Int)))) :: ([] ++ E')) (V2 := [] ++ ([SL false 47 FiringS a_v2 c_v3 o1.1, SL false 47 FiringS a_v5 c_v6 o4.1] ++ [])) (by show (37, vals 3) :: ([] ++ E') = _; rw [h3]) (by show [] ++ ([SL false 47 FiringS a_v2 c_v3 o1.1, SL false 47 FiringS a_v5 c_v6 o4.1] ++ []) = _; rfl) ?_
                    refine gl_batch 1 [(38, .bool (decide (s8 ≥ (List.length o1.1 : Int))))] rfl ?_
                    refine gl_nil ?_
                    exact gx_fp (.bool false) rfl rfl (congrArg (fun z => some (Value.bool z)) hg11) rfl (fun _ h => h.sub (fun _ h => h) (st_oo (A := [])) (fun o ho => by cases ho))
                  · intro vals E' R' O' hD
                    have h4 : vals 4 = .bool false := hD 4 (memN 0 rfl)
                    refine gl_convV (E2 := (38, .bool false) :: ([(9, .int .i64 s8)] ++ E')) (V2 := [] ++ ([SL false 47 FiringS a_v2 c_v3 o1.1, SL false 47 FiringS a_v5 c_v6 o4.1] ++ [])) (by show (38, vals 4) :: ([(9, .int .i64 s8)] ++ E') = _; rw [h4]) (by show [] ++ ([SL false 47 FiringS a_v2 c_v3 o1.1, SL false 47 FiringS a_v5 c_v6 o4.1] ++ []) = _; rfl) ?_
                    refine gl_batch 1 [(39, .int .i64 s8)] rfl ?_
                    refine gl_nil ?_
                    exact gx_fp (.int .i64 s8) rfl rfl rfl rfl (fun _ h => h.sub (fun _ h => h) (st_oo (A := [])) (fun o ho => by cases ho))
                  · intro vals E' R' O' hD
                    have h4 : vals 4 = .bool false := hD 4 (memN 0 rfl)
                    refine gl_convV (E2 := (38, .bool false) :: ([(8, .slice a_v5 (List.length o4.1) c_v6)] ++ E')) (V2 := [] ++ ([SL false 47 FiringS a_v2 c_v3 o1.1, SL false 47 FiringS a_v5 c_v6 o4.1] ++ [])) (by show (38, vals 4) :: ([(8, .slice a_v5 (List.length o4.1) c_v6)] ++ E') = _; rw [h4]) (by show [] ++ ([SL false 47 FiringS a_v2 c_v3 o1.1, SL false 47 FiringS a_v5 c_v6 o4.1] ++ []) = _; rfl) ?_
                    refine gl_batch 1 [(40, .slice a_v5 (List.length o4.1) c_v6)] rfl ?_
                    refine gl_nil ?_
                    exact gx_fp (.slice a_v5 (List.length o4.1) c_v6) rfl rfl rfl rfl (fun _ h => h.sub (fun _ h => h) (st_oo (A := [])) (fun o ho => by cases ho))
                  · intro vals E' R' O' hD
                    have h4 : vals 4 = .bool false := hD 4 (memN 0 rfl)
                    have h6 : vals 6 = .slice a_v5 (List.length o4.1) c_v6 := hD 6 (memN 1 rfl)
                    refine gl_convV (E2 := (38, .bool false) :: (40, .slice a_v5 (List.length o4.1) c_v6) :: ([] ++ E')) (V2 := [] ++ ([SL false 47 FiringS a_v2 c_v3 o1.1, SL false 47 FiringS a_v5 c_v6 o4.1] ++ [])) (by show (38, vals 4) :: (40, vals 6) :: ([] ++ E') = _; rw [h4, h6]) (by show [] ++ ([SL false 47 FiringS a_v2 c_v3 o1.1, SL false 47 FiringS a_v5 c_v6 o4.1] ++ []) = _; rfl) ?_
                    refine gl_len rfl Fs26 rfl rfl ?_
                    refine gl_nil ?_
                    exact gx_fp (.int .i64 (List.length o4.1 : Int)) rfl rfl rfl rfl (fun _ h => h.sub (fun _ h => h) (st_oo (A := [])) (fun o ho => by cases ho))
                  · intro vals E' R' O' hD
                    have h4 : vals 4 = .bool false := hD 4 (memN 0 rfl)
                    have h5 : vals 5 = .int .i64 s8 := hD 5 (memN 1 rfl)
                    have h7 : vals 7 = .int .i64 (List.length o4.1 : Int) := hD 7 (memN 2 rfl)
                    refine gl_convV (E2 := (38, .bool false) :: (39, .int .i64 s8) :: (41, .int .i64 (List.length o4.1 : Int)) :: ([] ++ E')) (V2 := [] ++ ([SL false 47 FiringS a_v2 c_v3 o1.1, SL false 47 FiringS a_v5 c_v6 o4.1] ++ [])) (by show (38, vals 4) :: (39, vals 5) :: (41, vals 7) :: ([] ++ E') = _; rw [h4, h5, h7]) (by show [] ++ ([SL false 47 FiringS a_v2 c_v3 o1.1, SL false 47 FiringS a_v5 c_v6 o4.1] ++ []) = _; rfl) ?_
                    refine gl_batch 1 [(42, .bool (decide (s8 ≥ (List.length o4.1 : Int))))] rfl ?_
                    refine gl_nil ?_
                    exact gx_fp (.bool (decide (s8 ≥ (List.length o4.1 : Int)))) rfl rfl rfl rfl (fun _ h => h.sub (fun _ h => h) (st_oo (A := [])) (fun o ho => by cases ho))
                  · intro vals E' R' O' hD
                    have h4 : vals 4 = .bool false := hD 4 (memN 0 rfl)
                    have h8 : vals 8 = .bool (decide (s8 ≥ (List.length o4.1 : Int))) := hD 8 (memN 1 rfl)
                    refine gl_convV (E2 := (38, .bool false) :: (42, .bool (decide (s8 ≥ (List.length o4.1 : Int)))) :: ([] ++ E')) (V2 := [] ++ ([SL false 47 FiringS a_v2 c_v3 o1.1, SL false 47 FiringS a_v5 c_v6 o4.1] ++ [])) (by show (38, vals 4) :: (42, vals 8) :: ([] ++ E') = _; rw [h4, h8]) (by show [] ++ ([SL false 47 FiringS a_v2 c_v3 o1.1, SL false 47 FiringS a_v5 c_v6 o4.1] ++ []) = _; rfl) ?_
                    refine gl_batch 1 [(43, .bool (decide (s8 ≥ (List.length o4.1 : Int))))] rfl ?_
                    refine gl_nil ?_
                    exact gx_fp (.bool (decide (s8 ≥ (List.length o4.1 : Int)))) rfl rfl rfl rfl (fun _ h => h.sub (fun _ h => h) (st_oo (A := [])) (fun o ho => by cases ho))
                  · intro vals E' R' O' hD
                    have h9 : vals 9 = .bool (decide (s8 ≥ (List.length o4.1 : Int))) := hD 9 (memN 0 rfl)
                    refine gl_convV (E2 := (43, .bool (decide (s8 ≥ (List.length o4.1 : Int)))) :: ([] ++ E')) (V2 := [] ++ ([SL false 47 FiringS a_v2 c_v3 o1.1, SL false 47 FiringS a_v5 c_v6 o4.1] ++ [])) (by show (43, vals 9) :: ([] ++ E') = _; rw [h9]) (by show [] ++ ([SL false 47 FiringS a_v2 c_v3 o1.1, SL false 47 FiringS a_v5 c_v6 o4.1] ++ []) = _; rfl) ?_
                    refine gl_batch 1 [(44, .bool (decide (s8 ≥ (List.length o4.1 : Int))))] rfl ?_
                    refine gl_nil ?_
                    exact gx_fp (.bool false) rfl rfl (congrArg (fun z => some (Value.bool z)) hg12) rfl (fun _ h => h.sub (fun _ h => h) (st_oo (A := [])) (fun o ho => by cases ho))
                  · intro vals E' R' O' hD
                    have h10 : vals 10 = .bool false := hD 10 (memN 0 rfl)
                    refine gl_convV (E2 := (44, .bool false) :: ([(6, .slice a_v2 (List.length o1.1) c_v3)] ++ E')) (V2 := [] ++ ([SL false 47 FiringS a_v2 c_v3 o1.1, SL false 47 FiringS a_v5 c_v6 o4.1] ++ [])) (by show (44, vals 10) :: ([(6, .slice a_v2 (List.length o1.1) c_v3)] ++ E') = _; rw [h10]) (by show [] ++ ([SL false 47 FiringS a_v2 c_v3 o1.1, SL false 47 FiringS a_v5 c_v6 o4.1] ++ []) = _; rfl) ?_
                    refine gl_batch 1 [(45, .slice a_v2 (List.length o1.1) c_v3)] rfl ?_
                    refine gl_nil ?_
                    exact gx_fp (.slice a_v2 (List.length o1.1) c_v3) rfl rfl rfl rfl (fun _ h => h.sub (fun _ h => h) (st_oo (A := [])) (fun o ho => by cases ho))
                  · intro vals E' R' O' hD
                    have h10 : vals 10 = .bool false := hD 10 (memN 0 rfl)
                    refine gl_convV (E2 := (44, .bool false) :: ([(9, .int .i64 s8)] ++ E')) (V2 := [] ++ ([SL false 47 FiringS a_v2 c_v3 o1.1, SL false 47 FiringS a_v5 c_v6 o4.1] ++ [])) (by show (44, vals 10) :: ([(9, .int .i64 s8)] ++ E') = _; rw [h10]) (by show [] ++ ([SL false 47 FiringS a_v2 c_v3 o1.1, SL false 47 FiringS a_v5 c_v6 o4.1] ++ []) = _; rfl) ?_
                    refine gl_batch 1 [(46, .int .i64 s8)] rfl ?_
                    refine gl_nil ?_
                    exact gx_fp (.int .i64 s8) rfl rfl rfl rfl (fun _ h => h.sub (fun _ h => h) (st_oo (A := [])) (fun o ho => by cases ho))
                  · intro vals E' R' O' hD
                    have h10 : vals 10 = .bool false := hD 10 (memN 0 rfl)
                    have h11 : vals 11 = .slice a_v2 (List.length o1.1) c_v3 := hD 11 (memN 1 rfl)
                    have h12 : vals 12 = .int .i64 s8 := hD 12 (memN 2 rfl)
                    refine gl_convV (E2 := (44, .bool false) :: (45, .slice a_v2 (List.length o1.1) c_v3) :: (46, .int .i64 s8) :: ([] ++ E')) (V2 := [] ++ ([SL false 47 FiringS a_v2 c_v3 o1.1, SL false 47 FiringS a_v5 c_v6 o4.1] ++ [])) (by show (44, vals 10) :: (45, vals 11) :: (46, vals 12) :: ([] ++ E') = _; rw [h10, h11, h12]) (by show [] ++ ([SL false 47 FiringS a_v2 c_v3 o1.1, SL false 47 FiringS a_v5 c_v6 o4.1] ++ []) = _; rfl) ?_
                    refine gl_idxVn (k := .i64) (memV (mem_at 0 rfl)) rfl rfl Fs26 Fz47 hx13 rfl rfl ?_
                    intro p_ hp_
                    obtain rfl : p14 = p_ := Option.some.inj (hp14.symm.trans hp_)
                    refine gl_nil ?_
                    exact gx_fp (.pointer (some p14)) rfl rfl rfl rfl (fun _ h => h.sub (fun _ h => h) (st_oo (A := [])) (fun o ho => by cases ho))
                  · intro vals E' R' O' hD
                    have h10 : vals 10 = .bool false := hD 10 (memN 0 rfl)
                    have h13 : vals 13 = .pointer (some p14) := hD 13 (memN 1 rfl)
                    refine gl_convV (E2 := (44, .bool false) :: (47, .pointer (some p14)) :: ([] ++ E')) (V2 := [] ++ ([SL false 47 FiringS a_v2 c_v3 o1.1, SL false 47 FiringS a_v5 c_v6 o4.1] ++ [])) (by show (44, vals 10) :: (47, vals 13) :: ([] ++ E') = _; rw [h10, h13]) (by show [] ++ ([SL false 47 FiringS a_v2 c_v3 o1.1, SL false 47 FiringS a_v5 c_v6 o4.1] ++ []) = _; rfl) ?_
                    refine gl_run (v := .pointer (some p14)) rfl rfl rfl (fun w => by kernel_rfl) ?_
                    refine gl_nil ?_
                    exact gx_fp (.pointer (some p14)) rfl rfl rfl rfl (fun _ h => h.sub (fun _ h => h) (st_oo (A := [])) (fun o ho => by cases ho))
                  · intro vals E' R' O' hD
                    have h10 : vals 10 = .bool false := hD 10 (memN 0 rfl)
                    have h14 : vals 14 = .pointer (some p14) := hD 14 (memN 1 rfl)
                    refine gl_convV (E2 := (44, .bool false) :: (48, .pointer (some p14)) :: ([] ++ E')) (V2 := [] ++ ([SL false 47 FiringS a_v2 c_v3 o1.1, SL false 47 FiringS a_v5 c_v6 o4.1] ++ [])) (by show (44, vals 10) :: (48, vals 14) :: ([] ++ E') = _; rw [h10, h14]) (by show [] ++ ([SL false 47 FiringS a_v2 c_v3 o1.1, SL false 47 FiringS a_v5 c_v6 o4.1] ++ []) = _; rfl) ?_
                    refine gl_elemVn (memV (mem_at 0 rfl)) hx13 hp14 ?_
                    refine gl_ld1 0 hasAT (memV (mem_at 0 rfl)) rfl rfl Fo2 rfl rfl rfl ?_
                    refine gl_nil ?_
                    exact gx_fp (.int .i64 x13.Event) rfl rfl rfl rfl (fun _ h => h.sub (fun _ h => h) (st_oo (A := [])) (fun o ho => by cases ho))
                  · intro vals E' R' O' hD
                    have h10 : vals 10 = .bool false := hD 10 (memN 0 rfl)
                    refine gl_convV (E2 := (44, .bool false) :: ([(8, .slice a_v5 (List.length o4.1) c_v6)] ++ E')) (V2 := [] ++ ([SL false 47 FiringS a_v2 c_v3 o1.1, SL false 47 FiringS a_v5 c_v6 o4.1] ++ [])) (by show (44, vals 10) :: ([(8, .slice a_v5 (List.length o4.1) c_v6)] ++ E') = _; rw [h10]) (by show [] ++ ([SL false 47 FiringS a_v2 c_v3 o1.1, SL false 47 FiringS a_v5 c_v6 o4.1] ++ []) = _; rfl) ?_
                    refine gl_batch 1 [(50, .slice a_v5 (List.length o4.1) c_v6)] rfl ?_
                    refine gl_nil ?_
                    exact gx_fp (.slice a_v5 (List.length o4.1) c_v6) rfl rfl rfl rfl (fun _ h => h.sub (fun _ h => h) (st_oo (A := [])) (fun o ho => by cases ho))
                  · intro vals E' R' O' hD
                    have h10 : vals 10 = .bool false := hD 10 (memN 0 rfl)
                    refine gl_convV (E2 := (44, .bool false) :: ([(9, .int .i64 s8)] ++ E')) (V2 := [] ++ ([SL false 47 FiringS a_v2 c_v3 o1.1, SL false 47 FiringS a_v5 c_v6 o4.1] ++ [])) (by show (44, vals 10) :: ([(9, .int .i64 s8)] ++ E') = _; rw [h10]) (by show [] ++ ([SL false 47 FiringS a_v2 c_v3 o1.1, SL false 47 FiringS a_v5 c_v6 o4.1] ++ []) = _; rfl) ?_
                    refine gl_batch 1 [(51, .int .i64 s8)] rfl ?_
                    refine gl_nil ?_
                    exact gx_fp (.int .i64 s8) rfl rfl rfl rfl (fun _ h => h.sub (fun _ h => h) (st_oo (A := [])) (fun o ho => by cases ho))
                  · intro vals E' R' O' hD
                    have h10 : vals 10 = .bool false := hD 10 (memN 0 rfl)
                    have h16 : vals 16 = .slice a_v5 (List.length o4.1) c_v6 := hD 16 (memN 1 rfl)
                    have h17 : vals 17 = .int .i64 s8 := hD 17 (memN 2 rfl)
                    refine gl_convV (E2 := (44, .bool false) :: (50, .slice a_v5 (List.length o4.1) c_v6) :: (51, .int .i64 s8) :: ([] ++ E')) (V2 := [] ++ ([SL false 47 FiringS a_v2 c_v3 o1.1, SL false 47 FiringS a_v5 c_v6 o4.1] ++ [])) (by show (44, vals 10) :: (50, vals 16) :: (51, vals 17) :: ([] ++ E') = _; rw [h10, h16, h17]) (by show [] ++ ([SL false 47 FiringS a_v2 c_v3 o1.1, SL false 47 FiringS a_v5 c_v6 o4.1] ++ []) = _; rfl) ?_
                    refine gl_idxVn (k := .i64) (memV (mem_at 1 rfl)) rfl rfl Fs26 Fz47 hx15 rfl rfl ?_
                    intro p_ hp_
                    obtain rfl : p16 = p_ := Option.some.inj (hp16.symm.trans hp_)
                    refine gl_nil ?_
                    exact gx_fp (.pointer (some p16)) rfl rfl rfl rfl (fun _ h => h.sub (fun _ h => h) (st_oo (A := [])) (fun o ho => by cases ho))
                  · intro vals E' R' O' hD
                    have h10 : vals 10 = .bool false := hD 10 (memN 0 rfl)
                    have h18 : vals 18 = .pointer (some p16) := hD 18 (memN 1 rfl)
                    refine gl_convV (E2 := (44, .bool false) :: (52, .pointer (some p16)) :: ([] ++ E')) (V2 := [] ++ ([SL false 47 FiringS a_v2 c_v3 o1.1, SL false 47 FiringS a_v5 c_v6 o4.1] ++ [])) (by show (44, vals 10) :: (52, vals 18) :: ([] ++ E') = _; rw [h10, h18]) (by show [] ++ ([SL false 47 FiringS a_v2 c_v3 o1.1, SL false 47 FiringS a_v5 c_v6 o4.1] ++ []) = _; rfl) ?_
                    refine gl_run (v := .pointer (some p16)) rfl rfl rfl (fun w => by kernel_rfl) ?_
                    refine gl_nil ?_
                    exact gx_fp (.pointer (some p16)) rfl rfl rfl rfl (fun _ h => h.sub (fun _ h => h) (st_oo (A := [])) (fun o ho => by cases ho))
                  · intro vals E' R' O' hD
                    have h10 : vals 10 = .bool false := hD 10 (memN 0 rfl)
                    have h19 : vals 19 = .pointer (some p16) := hD 19 (memN 1 rfl)
                    refine gl_convV (E2 := (44, .bool false) :: (53, .pointer (some p16)) :: ([] ++ E')) (V2 := [] ++ ([SL false 47 FiringS a_v2 c_v3 o1.1, SL false 47 FiringS a_v5 c_v6 o4.1] ++ [])) (by show (44, vals 10) :: (53, vals 19) :: ([] ++ E') = _; rw [h10, h19]) (by show [] ++ ([SL false 47 FiringS a_v2 c_v3 o1.1, SL false 47 FiringS a_v5 c_v6 o4.1] ++ []) = _; rfl) ?_
                    refine gl_elemVn (memV (mem_at 1 rfl)) hx15 hp16 ?_
                    refine gl_ld1 0 hasAT (memV (mem_at 0 rfl)) rfl rfl Fo2 rfl rfl rfl ?_
                    refine gl_nil ?_
                    exact gx_fp (.int .i64 x15.Event) rfl rfl rfl rfl (fun _ h => h.sub (fun _ h => h) (st_oo (A := [])) (fun o ho => by cases ho))
                  · intro vals E' R' O' hD
                    have h10 : vals 10 = .bool false := hD 10 (memN 0 rfl)
                    have h15 : vals 15 = .int .i64 x13.Event := hD 15 (memN 1 rfl)
                    have h20 : vals 20 = .int .i64 x15.Event := hD 20 (memN 2 rfl)
                    refine gl_convV (E2 := (44, .bool false) :: (49, .int .i64 x13.Event) :: (54, .int .i64 x15.Event) :: ([] ++ E')) (V2 := [] ++ ([SL false 47 FiringS a_v2 c_v3 o1.1, SL false 47 FiringS a_v5 c_v6 o4.1] ++ [])) (by show (44, vals 10) :: (49, vals 15) :: (54, vals 20) :: ([] ++ E') = _; rw [h10, h15, h20]) (by show [] ++ ([SL false 47 FiringS a_v2 c_v3 o1.1, SL false 47 FiringS a_v5 c_v6 o4.1] ++ []) = _; rfl) ?_
                    refine gl_batch 1 [(55, .bool (x13.Event != x15.Event))] rfl ?_
                    refine gl_nil ?_
                    exact gx_fp (.bool (x13.Event != x15.Event)) rfl rfl rfl rfl (fun _ h => h.sub (fun _ h => h) (st_oo (A := [])) (fun o ho => by cases ho))
                  · intro vals E' R' O' hD
                    have h10 : vals 10 = .bool false := hD 10 (memN 0 rfl)
                    have h21 : vals 21 = .bool (x13.Event != x15.Event) := hD 21 (memN 1 rfl)
                    refine gl_convV (E2 := (44, .bool false) :: (55, .bool (x13.Event != x15.Event)) :: ([] ++ E')) (V2 := [] ++ ([SL false 47 FiringS a_v2 c_v3 o1.1, SL false 47 FiringS a_v5 c_v6 o4.1] ++ [])) (by show (44, vals 10) :: (55, vals 21) :: ([] ++ E') = _; rw [h10, h21]) (by show [] ++ ([SL false 47 FiringS a_v2 c_v3 o1.1, SL false 47 FiringS a_v5 c_v6 o4.1] ++ []) = _; rfl) ?_
                    refine gl_batch 1 [(56, .bool (x13.Event != x15.Event))] rfl ?_
                    refine gl_nil ?_
                    exact gx_fp (.bool (x13.Event != x15.Event)) rfl rfl rfl rfl (fun _ h => h.sub (fun _ h => h) (st_oo (A := [])) (fun o ho => by cases ho))
                  · intro vals E' R' O' hD
                    have h22 : vals 22 = .bool (x13.Event != x15.Event) := hD 22 (memN 0 rfl)
                    refine gl_convV (E2 := (56, .bool (x13.Event != x15.Event)) :: ([] ++ E')) (V2 := [] ++ ([SL false 47 FiringS a_v2 c_v3 o1.1, SL false 47 FiringS a_v5 c_v6 o4.1] ++ [])) (by show (56, vals 22) :: ([] ++ E') = _; rw [h22]) (by show [] ++ ([SL false 47 FiringS a_v2 c_v3 o1.1, SL false 47 FiringS a_v5 c_v6 o4.1] ++ []) = _; rfl) ?_
                    refine gl_batch 1 [(57, .bool (x13.Event != x15.Event))] rfl ?_
                    refine gl_nil ?_
                    exact gx_fp (.bool true) rfl rfl (congrArg (fun z => some (Value.bool z)) hg17) rfl (fun _ h => h.sub (fun _ h => h) (st_oo (A := [])) (fun o ho => by cases ho))
                  · intro vals E' R' O' hD
                    have h23 : vals 23 = .bool true := hD 23 (memN 0 rfl)
                    refine gl_convV (E2 := (57, .bool true) :: ([] ++ E')) (V2 := [] ++ ([SL false 47 FiringS a_v2 c_v3 o1.1, SL false 47 FiringS a_v5 c_v6 o4.1] ++ [])) (by show (57, vals 23) :: ([] ++ E') = _; rw [h23]) (by show [] ++ ([SL false 47 FiringS a_v2 c_v3 o1.1, SL false 47 FiringS a_v5 c_v6 o4.1] ++ []) = _; rfl) ?_
                    refine gl_batch 1 [(58, undef)] rfl ?_
                    refine gl_nil ?_
                    exact gx_fp (undef) rfl rfl rfl rfl (fun _ h => h.sub (fun _ h => h) (st_oo (A := [])) (fun o ho => by cases ho))
                  · intro vals E' R' O' hD
                    have h23 : vals 23 = .bool true := hD 23 (memN 0 rfl)
                    refine gl_convV (E2 := (57, .bool true) :: ([] ++ E')) (V2 := [] ++ ([SL false 47 FiringS a_v2 c_v3 o1.1, SL false 47 FiringS a_v5 c_v6 o4.1] ++ [])) (by show (57, vals 23) :: ([] ++ E') = _; rw [h23]) (by show [] ++ ([SL false 47 FiringS a_v2 c_v3 o1.1, SL false 47 FiringS a_v5 c_v6 o4.1] ++ []) = _; rfl) ?_
                    refine gl_batch 1 [(59, undef)] rfl ?_
                    refine gl_nil ?_
                    exact gx_fp (undef) rfl rfl rfl rfl (fun _ h => h.sub (fun _ h => h) (st_oo (A := [])) (fun o ho => by cases ho))
                  · intro vals E' R' O' hD
                    have h23 : vals 23 = .bool true := hD 23 (memN 0 rfl)
                    refine gl_convV (E2 := (57, .bool true) :: ([] ++ E')) (V2 := [] ++ ([SL false 47 FiringS a_v2 c_v3 o1.1, SL false 47 FiringS a_v5 c_v6 o4.1] ++ [])) (by show (57, vals 23) :: ([] ++ E') = _; rw [h23]) (by show [] ++ ([SL false 47 FiringS a_v2 c_v3 o1.1, SL false 47 FiringS a_v5 c_v6 o4.1] ++ []) = _; rfl) ?_
                    refine gl_batch 1 [(60, undef)] rfl ?_
                    refine gl_nil ?_
                    exact gx_fp (undef) rfl rfl rfl rfl (fun _ h => h.sub (fun _ h => h) (st_oo (A := [])) (fun o ho => by cases ho))
                  · intro vals E' R' O' hD
                    have h23 : vals 23 = .bool true := hD 23 (memN 0 rfl)
                    refine gl_convV (E2 := (57, .bool true) :: ([] ++ E')) (V2 := [] ++ ([SL false 47 FiringS a_v2 c_v3 o1.1, SL false 47 FiringS a_v5 c_v6 o4.1] ++ [])) (by show (57, vals 23) :: ([] ++ E') = _; rw [h23]) (by show [] ++ ([SL false 47 FiringS a_v2 c_v3 o1.1, SL false 47 FiringS a_v5 c_v6 o4.1] ++ []) = _; rfl) ?_
                    refine gl_batch 1 [(61, undef)] rfl ?_
                    refine gl_nil ?_
                    exact gx_fp (undef) rfl rfl rfl rfl (fun _ h => h.sub (fun _ h => h) (st_oo (A := [])) (fun o ho => by cases ho))
                  · intro vals E' R' O' hD
                    have h23 : vals 23 = .bool true := hD 23 (memN 0 rfl)
                    refine gl_convV (E2 := (57, .bool true) :: ([] ++ E')) (V2 := [] ++ ([SL false 47 FiringS a_v2 c_v3 o1.1, SL false 47 FiringS a_v5 c_v6 o4.1] ++ [])) (by show (57, vals 23) :: ([] ++ E') = _; rw [h23]) (by show [] ++ ([SL false 47 FiringS a_v2 c_v3 o1.1, SL false 47 FiringS a_v5 c_v6 o4.1] ++ []) = _; rfl) ?_
                    refine gl_batch 1 [(62, undef)] rfl ?_
                    refine gl_nil ?_
                    exact gx_fp (undef) rfl rfl rfl rfl (fun _ h => h.sub (fun _ h => h) (st_oo (A := [])) (fun o ho => by cases ho))
                  · intro vals E' R' O' hD
                    have h23 : vals 23 = .bool true := hD 23 (memN 0 rfl)
                    refine gl_convV (E2 := (57, .bool true) :: ([] ++ E')) (V2 := [] ++ ([SL false 47 FiringS a_v2 c_v3 o1.1, SL false 47 FiringS a_v5 c_v6 o4.1] ++ [])) (by show (57, vals 23) :: ([] ++ E') = _; rw [h23]) (by show [] ++ ([SL false 47 FiringS a_v2 c_v3 o1.1, SL false 47 FiringS a_v5 c_v6 o4.1] ++ []) = _; rfl) ?_
                    refine gl_batch 1 [(63, undef)] rfl ?_
                    refine gl_nil ?_
                    exact gx_fp (undef) rfl rfl rfl rfl (fun _ h => h.sub (fun _ h => h) (st_oo (A := [])) (fun o ho => by cases ho))
                  · intro vals E' R' O' hD
                    have h23 : vals 23 = .bool true := hD 23 (memN 0 rfl)
                    refine gl_convV (E2 := (57, .bool true) :: ([] ++ E')) (V2 := [] ++ ([SL false 47 FiringS a_v2 c_v3 o1.1, SL false 47 FiringS a_v5 c_v6 o4.1] ++ [])) (by show (57, vals 23) :: ([] ++ E') = _; rw [h23]) (by show [] ++ ([SL false 47 FiringS a_v2 c_v3 o1.1, SL false 47 FiringS a_v5 c_v6 o4.1] ++ []) = _; rfl) ?_
                    refine gl_batch 1 [(64, undef)] rfl ?_
                    refine gl_nil ?_
                    exact gx_fp (undef) rfl rfl rfl rfl (fun _ h => h.sub (fun _ h => h) (st_oo (A := [])) (fun o ho => by cases ho))
                  · intro vals E' R' O' hD
                    have h23 : vals 23 = .bool true := hD 23 (memN 0 rfl)
                    refine gl_convV (E2 := (57, .bool true) :: ([] ++ E')) (V2 := [] ++ ([SL false 47 FiringS a_v2 c_v3 o1.1, SL false 47 FiringS a_v5 c_v6 o4.1] ++ [])) (by show (57, vals 23) :: ([] ++ E') = _; rw [h23]) (by show [] ++ ([SL false 47 FiringS a_v2 c_v3 o1.1, SL false 47 FiringS a_v5 c_v6 o4.1] ++ []) = _; rfl) ?_
                    refine gl_batch 1 [(65, undef)] rfl ?_
                    refine gl_nil ?_
                    exact gx_fp (undef) rfl rfl rfl rfl (fun _ h => h.sub (fun _ h => h) (st_oo (A := [])) (fun o ho => by cases ho))
                  · intro vals E' R' O' hD
                    have h23 : vals 23 = .bool true := hD 23 (memN 0 rfl)
                    refine gl_convV (E2 := (57, .bool true) :: ([] ++ E')) (V2 := [] ++ ([SL false 47 FiringS a_v2 c_v3 o1.1, SL false 47 FiringS a_v5 c_v6 o4.1] ++ [])) (by show (57, vals 23) :: ([] ++ E') = _; rw [h23]) (by show [] ++ ([SL false 47 FiringS a_v2 c_v3 o1.1, SL false 47 FiringS a_v5 c_v6 o4.1] ++ []) = _; rfl) ?_
                    refine gl_batch 1 [(66, undef)] rfl ?_
                    refine gl_nil ?_
                    exact gx_fp (undef) rfl rfl rfl rfl (fun _ h => h.sub (fun _ h => h) (st_oo (A := [])) (fun o ho => by cases ho))
                  · intro vals E' R' O' hD
                    have h23 : vals 23 = .bool true := hD 23 (memN 0 rfl)
                    refine gl_convV (E2 := (57, .bool true) :: ([] ++ E')) (V2 := [] ++ ([SL false 47 FiringS a_v2 c_v3 o1.1, SL false 47 FiringS a_v5 c_v6 o4.1] ++ [])) (by show (57, vals 23) :: ([] ++ E') = _; rw [h23]) (by show [] ++ ([SL false 47 FiringS a_v2 c_v3 o1.1, SL false 47 FiringS a_v5 c_v6 o4.1] ++ []) = _; rfl) ?_
                    refine gl_batch 1 [(67, undef)] rfl ?_
                    refine gl_nil ?_
                    exact gx_fp (undef) rfl rfl rfl rfl (fun _ h => h.sub (fun _ h => h) (st_oo (A := [])) (fun o ho => by cases ho))
                  · intro vals E' R' O' hD
                    have h23 : vals 23 = .bool true := hD 23 (memN 0 rfl)
                    refine gl_convV (E2 := (57, .bool true) :: ([] ++ E')) (V2 := [] ++ ([SL false 47 FiringS a_v2 c_v3 o1.1, SL false 47 FiringS a_v5 c_v6 o4.1] ++ [])) (by show (57, vals 23) :: ([] ++ E') = _; rw [h23]) (by show [] ++ ([SL false 47 FiringS a_v2 c_v3 o1.1, SL false 47 FiringS a_v5 c_v6 o4.1] ++ []) = _; rfl) ?_
                    refine gl_batch 1 [(68, undef)] rfl ?_
                    refine gl_nil ?_
                    exact gx_fp (undef) rfl rfl rfl rfl (fun _ h => h.sub (fun _ h => h) (st_oo (A := [])) (fun o ho => by cases ho))
                  · intro vals E' R' O' hD
                    have h23 : vals 23 = .bool true := hD 23 (memN 0 rfl)
                    have h34 : vals 34 = undef := hD 34 (memN 1 rfl)
                    refine gl_convV (E2 := (57, .bool true) :: (68, undef) :: ([] ++ E')) (V2 := [] ++ ([SL false 47 FiringS a_v2 c_v3 o1.1, SL false 47 FiringS a_v5 c_v6 o4.1] ++ [])) (by show (57, vals 23) :: (68, vals 34) :: ([] ++ E') = _; rw [h23, h34]) (by show [] ++ ([SL false 47 FiringS a_v2 c_v3 o1.1, SL false 47 FiringS a_v5 c_v6 o4.1] ++ []) = _; rfl) ?_
                    refine gl_batch 1 [(69, .bool true)] rfl ?_
                    refine gl_nil ?_
                    exact gx_fp (.bool true) rfl rfl rfl rfl (fun _ h => h.sub (fun _ h => h) (st_oo (A := [])) (fun o ho => by cases ho))
                  · intro vals hv
                    obtain ⟨⟨⟨⟨⟨⟨⟨⟨⟨⟨⟨⟨⟨⟨⟨⟨⟨⟨⟨⟨⟨⟨⟨⟨⟨⟨⟨⟨⟨⟨⟨⟨⟨⟨⟨⟨_, h0⟩, h1⟩, h2⟩, h3⟩, h4⟩, h5⟩, h6⟩, h7⟩, h8⟩, h9⟩, h10⟩, h11⟩, h12⟩, h13⟩, h14⟩, h15⟩, h16⟩, h17⟩, h18⟩, h19⟩, h20⟩, h21⟩, h22⟩, h23⟩, h24⟩, h25⟩, h26⟩, h27⟩, h28⟩, h29⟩, h30⟩, h31⟩, h32⟩, h33⟩, h34⟩, h35⟩ := hv
                    have h0 : vals 0 = .int .i64 s8 := h0
                    have h1 : vals 1 = .slice a_v2 (List.length o1.1) c_v3 := h1
                    have h2 : vals 2 = .int .i64 (List.length o1.1 : Int) := h2
                    have h3 : vals 3 = .bool (decide (s8 ≥ (List.length o1.1 : Int))) := h3
                    have h4 : vals 4 = .bool false := h4
                    have h5 : vals 5 = .int .i64 s8 := h5
                    have h6 : vals 6 = .slice a_v5 (List.length o4.1) c_v6 := h6
                    have h7 : vals 7 = .int .i64 (List.length o4.1 : Int) := h7
                    have h8 : vals 8 = .bool (decide (s8 ≥ (List.length o4.1 : Int))) := h8
                    have h9 : vals 9 = .bool (decide (s8 ≥ (List.length o4.1 : Int))) := h9
                    have h10 : vals 10 = .bool false := h10
                    have h11 : vals 11 = .slice a_v2 (List.length o1.1) c_v3 := h11
                    have h12 : vals 12 = .int .i64 s8 := h12
                    have h13 : vals 13 = .pointer (some p14) := h13
                    have h14 : vals 14 = .pointer (some p14) := h14
                    have h15 : vals 15 = .int .i64 x13.Event := h15
                    have h16 : vals 16 = .slice a_v5 (List.length o4.1) c_v6 := h16
                    have h17 : vals 17 = .int .i64 s8 := h17
                    have h18 : vals 18 = .pointer (some p16) := h18
                    have h19 : vals 19 = .pointer (some p16) := h19
                    have h20 : vals 20 = .int .i64 x15.Event := h20
                    have h21 : vals 21 = .bool (x13.Event != x15.Event) := h21
                    have h22 : vals 22 = .bool (x13.Event != x15.Event) := h22
                    have h23 : vals 23 = .bool true := h23
                    have h24 : vals 24 = undef := h24
                    have h25 : vals 25 = undef := h25
                    have h26 : vals 26 = undef := h26
                    have h27 : vals 27 = undef := h27
                    have h28 : vals 28 = undef := h28
                    have h29 : vals 29 = undef := h29
                    have h30 : vals 30 = undef := h30
                    have h31 : vals 31 = undef := h31
                    have h32 : vals 32 = undef := h32
                    have h33 : vals 33 = undef := h33
                    have h34 : vals 34 = undef := h34
                    have h35 : vals 35 = .bool true := h35
                    refine gl_conv (E2 := (34, .int .i64 s8) :: (35, .slice a_v2 (List.length o1.1) c_v3) :: (36, .int .i64 (List.length o1.1 : Int)) :: (37, .bool (decide (s8 ≥ (List.length o1.1 : Int)))) :: (38, .bool false) :: (39, .int .i64 s8) :: (40, .slice a_v5 (List.length o4.1) c_v6) :: (41, .int .i64 (List.length o4.1 : Int)) :: (42, .bool (decide (s8 ≥ (List.length o4.1 : Int)))) :: (43, .bool (decide (s8 ≥ (List.length o4.1 : Int)))) :: (44, .bool false) :: (45, .slice a_v2 (List.length o1.1) c_v3) :: (46, .int .i64 s8) :: (47, .pointer (some p14)) :: (48, .pointer (some p14)) :: (49, .int .i64 x13.Event) :: (50, .slice a_v5 (List.length o4.1) c_v6) :: (51, .int .i64 s8) :: (52, .pointer (some p16)) :: (53, .pointer (some p16)) :: (54, .int .i64 x15.Event) :: (55, .bool (x13.Event != x15.Event)) :: (56, .bool (x13.Event != x15.Event)) :: (57, .bool true) :: (58, undef) :: (59, undef) :: (60, undef) :: (61, undef) :: (62, undef) :: (63, undef) :: (64, undef) :: (65, undef) :: (66, undef) :: (67, undef) :: (68, undef) :: (69, .bool true) :: [(6, .slice a_v2 (List.length o1.1) c_v3), (8, .slice a_v5 (List.length o4.1) c_v6), (9, .int .i64 s8), (30, .int .i64 (if (List.length o4.1 : Int) > (List.length o1.1 : Int) then (List.length o4.1 : Int) else (List.length o1.1 : Int))), (31, .int .i64 s8)]) (R2 := [] ++ ([] ++ [SL false 47 FiringS a_v2 c_v3 o1.1, SL false 47 FiringS a_v5 c_v6 o4.1])) (O2 := [] ++ []) (by show (34, vals 0) :: (35, vals 1) :: (36, vals 2) :: (37, vals 3) :: (38, vals 4) :: (39, vals 5) :: (40, vals 6) :: (41, vals 7) :: (42, vals 8) :: (43, vals 9) :: (44, vals 10) :: (45, vals 11) :: (46, vals 12) :: (47, vals 13) :: (48, vals 14) :: (49, vals 15) :: (50, vals 16) :: (51, vals 17) :: (52, vals 18) :: (53, vals 19) :: (54, vals 20) :: (55, vals 21) :: (56, vals 22) :: (57, vals 23) :: (58, vals 24) :: (59, vals 25) :: (60, vals 26) :: (61, vals 27) :: (62, vals 28) :: (63, vals 29) :: (64, vals 30) :: (65, vals 31) :: (66, vals 32) :: (67, vals 33) :: (68, vals 34) :: (69, vals 35) :: [(6, .slice a_v2 (List.length o1.1) c_v3), (8, .slice a_v5 (List.length o4.1) c_v6), (9, .int .i64 s8), (30, .int .i64 (if (List.length o4.1 : Int) > (List.length o1.1 : Int) then (List.length o4.1 : Int) else (List.length o1.1 : Int))), (31, .int .i64 s8)] = _; rw [h0, h1, h2, h3, h4, h5, h6, h7, h8, h9, h10, h11, h12, h13, h14, h15, h16, h17, h18, h19, h20, h21, h22, h23, h24, h25, h26, h27, h28, h29, h30, h31, h32, h33, h34, h35]) (by show [] ++ ([] ++ [SL false 47 FiringS a_v2 c_v3 o1.1, SL false 47 FiringS a_v5 c_v6 o4.1]) = _; rfl) rfl ?_
                    refine gl_nil ?_
                    obtain rfl := Option.some.inj h
                    exact gx_of (fun a w hE hS => ⟨rfl, hE.sub ⟨rfl, rfl, rfl, rfl, rfl, rfl, trivial⟩, (hS.take 2).facts _ _ [] (consItem (mem_at 0 rfl) (consItem (mem_at 1 rfl) (consItem (mem_at 2 rfl) (consItem (mem_at 3 rfl) noItem)))) noItem noItem⟩)
                · replace h := condF hg17 h
                  obtain ⟨x18, hx18, h⟩ := bindS h
                  refine g_elemn (mem_at 0 rfl) hx18 ?_
                  intro p19 hp19
                  obtain ⟨x20, hx20, h⟩ := bindS h
                  refine g_elemn (mem_at 1 rfl) hx20 ?_
                  intro p21 hp21
                  refine g_state (E' := [(6, .slice a_v2 (List.length o1.1) c_v3), (8, .slice a_v5 (List.length o4.1) c_v6), (9, .int .i64 s8), (30, .int .i64 (if (List.length o4.1 : Int) > (List.length o1.1 : Int) then (List.length o4.1 : Int) else (List.length o1.1 : Int))), (31, .int .i64 s8)]) (Rs' := [] ++ [SL false 47 FiringS a_v2 c_v3 o1.1, SL false 47 FiringS a_v5 c_v6 o4.1]) (Xs' := [gTab 3 pow10C, gNum 0, gErr 1, gErr 2]) (Os' := []) (Vs' := []) ⟨rfl, rfl, rfl, rfl, rfl, trivial⟩ (fun w hS => hS) ?_
                  refine g_draw (Rs := [SL false 47 FiringS a_v2 c_v3 o1.1, SL false 47 FiringS a_v5 c_v6 o4.1]) 36 (dOf [[], [], [1], [0, 2], [3], [4], [4], [4, 6], [4, 5, 7], [4, 8], [9], [10], [10], [10, 11, 12], [10, 13], [10, 14], [10], [10], [10, 16, 17], [10, 18], [10, 19], [10, 15, 20], [10, 21], [22], [23], [23], [23, 24, 25], [23, 26], [23, 27], [23], [23], [23, 29, 30], [23, 31], [23, 32], [23, 28, 33], [23, 34]]) (spOf [det 0 (.int .i64 s8), det 1 (.slice a_v2 (List.length o1.1) c_v3), det 2 (.int .i64 (List.length o1.1 : Int)), det 3 (.bool (decide (s8 ≥ (List.length o1.1 : Int)))), det 4 (.bool false), det 5 (.int .i64 s8), det 6 (.slice a_v5 (List.length o4.1) c_v6), det 7 (.int .i64 (List.length o4.1 : Int)), det 8 (.bool (decide (s8 ≥ (List.length o4.1 : Int)))), det 9 (.bool (decide (s8 ≥ (List.length o4.1 : Int)))), det 10 (.bool false), det 11 (.slice a_v2 (List.length o1.1) c_v3), det 12 (.int .i64 s8), det 13 (.pointer (some p14)), det 14 (.pointer (some p14)), det 15 (.int .i64 x13.Event), det 16 (.slice a_v5 (List.length o4.1) c_v6), det 17 (.int .i64 s8), det 18 (.pointer (some p16)), det 19 (.pointer (some p16)), det 20 (.int .i64 x15.Event), det 21 (.bool (x13.Event != x15.Event)), det 22 (.bool (x13.Event != x15.Event)), det 23 (.bool false), det 24 (.slice a_v2 (List.length o1.1) c_v3), det 25 (.int .i64 s8), det 26 (.pointer (some p19)), det 27 (.pointer (some (Addr.add p19 2))), det 28 (.int .i64 x18.Time), det 29 (.slice a_v5 (List.length o4.1) c_v6), det 30 (.int .i64 s8), det 31 (.pointer (some p21)), det 32 (.pointer (some (Addr.add p21 2))), det 33 (.int .i64 x20.Time), det 34 (.bool (x18.Time != x20.Time)), det 35 (.bool (x18.Time != x20.Time))]) [] (fun _ _ => []) (eOf [[(9, .int .i64 s8)], [(6, .slice a_v2 (List.length o1.1) c_v3)], [], [], [], [(9, .int .i64 s8)], [(8, .slice a_v5 (List.length o4.1) c_v6)], [], [], [], [], [(6, .slice a_v2 (List.length o1.1) c_v3)], [(9, .int .i64 s8)], [], [], [], [(8, .slice a_v5 (List.length o4.1) c_v6)], [(9, .int .i64 s8)], [], [], [], [], [], [], [(6, .slice a_v2 (List.length o1.1) c_v3)], [(9, .int .i64 s8)], [], [], [], [(8, .slice a_v5 (List.length o4.1) c_v6)], [(9, .int .i64 s8)], [], [], [], [], []]) mixed rfl (Or.inl rfl) ⟨⟨⟨⟨⟨⟨⟨⟨⟨⟨⟨⟨⟨⟨⟨⟨⟨⟨⟨⟨⟨⟨⟨⟨⟨⟨⟨⟨⟨⟨⟨⟨⟨⟨⟨⟨trivial, ⟨rfl, trivial⟩⟩, ⟨rfl, trivial⟩⟩, trivial⟩, trivial⟩, trivial⟩, ⟨rfl, trivial⟩⟩, ⟨rfl, trivial⟩⟩, trivial⟩, trivial⟩, trivial⟩, trivial⟩, ⟨rfl, trivial⟩⟩, ⟨rfl, trivial⟩⟩, trivial⟩, trivial⟩, trivial⟩, ⟨rfl, trivial⟩⟩, ⟨rfl, trivial⟩⟩, trivial⟩, trivial⟩, trivial⟩, trivial⟩, trivial⟩, trivial⟩, ⟨rfl, trivial⟩⟩, ⟨rfl, trivial⟩⟩, trivial⟩, trivial⟩, trivial⟩, ⟨rfl, trivial⟩⟩, ⟨rfl, trivial⟩⟩, trivial⟩, trivial⟩, trivial⟩, trivial⟩, trivial⟩ rfl ⟨⟨⟨⟨⟨⟨⟨⟨⟨⟨⟨⟨⟨⟨⟨⟨⟨⟨⟨⟨⟨⟨⟨⟨⟨⟨⟨⟨⟨⟨⟨⟨⟨⟨⟨⟨trivial, ?_⟩, ?_⟩, ?_⟩, ?_⟩, ?_⟩, ?_⟩, ?_⟩, ?_⟩, ?_⟩, ?_⟩, ?_⟩, ?_⟩, ?_⟩, ?_⟩, ?_⟩, ?_⟩, ?_⟩, ?_⟩, ?_⟩, ?_⟩, ?_⟩, ?_⟩, ?_⟩, ?_⟩, ?_⟩, ?_⟩, ?_⟩, ?_⟩, ?_⟩, ?_⟩, ?_⟩, ?_⟩, ?_⟩, ?_⟩, ?_⟩, ?_⟩ ?_
                  · intro vals E' R' O' hD
                    refine gl_batch 1 [(34, .int .i64 s8)] rfl ?_
                    refine gl_nil ?_
                    exact gx_fp (.int .i64 s8) rfl rfl rfl rfl (fun _ h => h.sub (fun _ h => h) (st_oo (A := [])) (fun o ho => by cases ho))
                  · intro vals E' R' O' hD
                    refine gl_batch 1 [(35, .slice a_v2 (List.length o1.1) c_v3)] rfl ?_
                    refine gl_nil ?_
                    exact gx_fp (.slice a_v2 (List.length o1.1) c_v3) rfl rfl rfl rfl (fun _ h => h.sub (fun _ h => h) (st_oo (A := [])) (fun o ho => by cases ho))
                  · intro vals E' R' O' hD
                    have h1 : vals 1 = .slice a_v2 (List.length o1.1) c_v3 := hD 1 (memN 0 rfl)
                    refine gl_convV (E2 := (35, .slice a_v2 (List.length o1.1) c_v3) :: ([] ++ E')) (V2 := [] ++ ([SL false 47 FiringS a_v2 c_v3 o1.1, SL false 47 FiringS a_v5 c_v6 o4.1] ++ [])) (by show (35, vals 1) :: ([] ++ E') = _; rw [h1]) (by show [] ++ ([SL false 47 FiringS a_v2 c_v3 o1.1, SL false 47 FiringS a_v5 c_v6 o4.1] ++ []) = _; rfl) ?_
                    refine gl_len rfl Fs26 rfl rfl ?_
                    refine gl_nil ?_
                    exact gx_fp (.int .i64 (List.length o1.1 : Int)) rfl rfl rfl rfl (fun _ h => h.sub (fun _ h => h) (st_oo (A := [])) (fun o ho => by cases ho))
                  · intro vals E' R' O' hD
                    have h0 : vals 0 = .int .i64 s8 := hD 0 (memN 0 rfl)
                    have h2 : vals 2 = .int .i64 (List.length o1.1 : Int) := hD 2 (memN 1 rfl)
                    refine gl_convV (E2 := (34, .int .i64 s8) :: (36, .int .i64 (List.length o1.1 : Int)) :: ([] ++ E')) (V2 := [] ++ ([SL false 47 FiringS a_v2 c_v3 o1.1, SL false 47 FiringS a_v5 c_v6 o4.1] ++ [])) (by show (34, vals 0) :: (36, vals 2) :: ([] ++ E') = _; rw [h0, h2]) (by show [] ++ ([SL false 47 FiringS a_v2 c_v3 o1.1, SL false 47 FiringS a_v5 c_v6 o4.1] ++ []) = _; rfl) ?_
                    refine gl_batch 1 [(37, .bool (decide (s8 ≥ (List.length o1.1 : Int))))] rfl ?_
                    refine gl_nil ?_
                    exact gx_fp (.bool (decide (s8 ≥ (List.length o1.1 : Int)))) rfl rfl rfl rfl (fun _ h => h.sub (fun _ h => h) (st_oo (A := [])) (fun o ho => by cases ho))
                  · intro vals E' R' O' hD
                    have h3 : vals 3 = .bool (decide (s8 ≥ (List.length o1.1 : Int))) := hD 3 (memN 0 rfl)
                    refine gl_convV (E2 := (37, .bool (decide (s8 ≥ (List.length o1.1 : Int)))) :: ([] ++ E')) (V2 := [] ++ ([SL false 47 FiringS a_v2 c_v3 o1.1, SL false 47 FiringS a_v5 c_v6 o4.1] ++ [])) (by show (37, vals 3) :: ([] ++ E') = _; rw [h3]) (by show [] ++ ([SL false 47 FiringS a_v2 c_v3 o1.1, SL false 47 FiringS a_v5 c_v6 o4.1] ++ []) = _; rfl) ?_
                    refine gl_batch 1 [(38, .bool (decide (s8 ≥ (List.length o1.1 : Int))))] rfl ?_
                    refine gl_nil ?_
                    exact gx_fp (.bool false) rfl rfl (congrArg (fun z => some (Value.bool z)) hg11) rfl (fun _ h => h.sub (fun _ h => h) (st_oo (A := [])) (fun o ho => by cases ho))
                  · intro vals E' R' O' hD
                    have h4 : vals 4 = .bool false := hD 4 (memN 0 rfl)
                    refine gl_convV (E2 := (38, .bool false) :: ([(9, .int .i64 s8)] ++ E')) (V2 := [] ++ ([SL false 47 FiringS a_v2 c_v3 o1.1, SL false 47 FiringS a_v5 c_v6 o4.1] ++ [])) (by show (38, vals 4) :: ([(9, .int .i64 s8)] ++ E') = _; rw [h4]) (by show [] ++ ([SL false 47 FiringS a_v2 c_v3 o1.1, SL false 47 FiringS a_v5 c_v6 o4.1] ++ []) = _; rfl) ?_
                    refine gl_batch 1 [(39, .int .i64 s8)] rfl ?_
                    refine gl_nil ?_
                    exact gx_fp (.int .i64 s8) rfl rfl rfl rfl (fun _ h => h.sub (fun _ h => h) (st_oo (A := [])) (fun o ho => by cases ho))
                  · intro vals E' R' O' hD
                    have h4 : vals 4 = .bool false := hD 4 (memN 0 rfl)
                    refine gl_convV (E2 := (38, .bool false) :: ([(8, .slice a_v5 (List.length o4.1) c_v6)] ++ E')) (V2 := [] ++ ([SL false 47 FiringS a_v2 c_v3 o1.1, SL false 47 FiringS a_v5 c_v6 o4.1] ++ [])) (by show (38, vals 4) :: ([(8, .slice a_v5 (List.length o4.1) c_v6)] ++ E') = _; rw [h4]) (by show [] ++ ([SL false 47 FiringS a_v2 c_v3 o1.1, SL false 47 FiringS a_v5 c_v6 o4.1] ++ []) = _; rfl) ?_
                    refine gl_batch 1 [(40, .slice a_v5 (List.length o4.1) c_v6)] rfl ?_
                    refine gl_nil ?_
                    exact gx_fp (.slice a_v5 (List.length o4.1) c_v6) rfl rfl rfl rfl (fun _ h => h.sub (fun _ h => h) (st_oo (A := [])) (fun o ho => by cases ho))
                  · intro vals E' R' O' hD
                    have h4 : vals 4 = .bool false := hD 4 (memN 0 rfl)
                    have h6 : vals 6 = .slice a_v5 (List.length o4.1) c_v6 := hD 6 (memN 1 rfl)
                    refine gl_convV (E2 := (38, .bool false) :: (40, .slice a_v5 (List.length o4.1) c_v6) :: ([] ++ E')) (V2 := [] ++ ([SL false 47 FiringS a_v2 c_v3 o1.1, SL false 47 FiringS a_v5 c_v6 o4.1] ++ [])) (by show (38, vals 4) :: (40, vals 6) :: ([] ++ E') = _; rw [h4, h6]) (by show [] ++ ([SL false 47 FiringS a_v2 c_v3 o1.1, SL false 47 FiringS a_v5 c_v6 o4.1] ++ []) = _; rfl) ?_
                    refine gl_len rfl Fs26 rfl rfl ?_
                    refine gl_nil ?_
                    exact gx_fp (.int .i64 (List.length o4.1 : Int)) rfl rfl rfl rfl (fun _ h => h.sub (fun _ h => h) (st_oo (A := [])) (fun o ho => by cases ho))
                  · intro vals E' R' O' hD
                    have h4 : vals 4 = .bool false := hD 4 (memN 0 rfl)
                    have h5 : vals 5 = .int .i64 s8 := hD 5 (memN 1 rfl)
                    have h7 : vals 7 = .int .i64 (List.length o4.1 : Int) := hD 7 (memN 2 rfl)
                    refine gl_convV (E2 := (38, .bool false) :: (39, .int .i64 s8) :: (41, .int .i64 (List.length o4.1 : Int)) :: ([] ++ E')) (V2 := [] ++ ([SL false 47 FiringS a_v2 c_v3 o1.1, SL false 47 FiringS a_v5 c_v6 o4.1] ++ [])) (by show (38, vals 4) :: (39, vals 5) :: (41, vals 7) :: ([] ++ E') = _; rw [h4, h5, h7]) (by show [] ++ ([SL false 47 FiringS a_v2 c_v3 o1.1, SL false 47 FiringS a_v5 c_v6 o4.1] ++ []) = _; rfl) ?_
                    refine gl_batch 1 [(42, .bool (decide (s8 ≥ (List.length o4.1 : Int))))] rfl ?_
                    refine gl_nil ?_
                    exact gx_fp (.bool (decide (s8 ≥ (List.length o4.1 : Int)))) rfl rfl rfl rfl (fun _ h => h.sub (fun _ h => h) (st_oo (A := [])) (fun o ho => by cases ho))
                  · intro vals E' R' O' hD
                    have h4 : vals 4 = .bool false := hD 4 (memN 0 rfl)
                    have h8 : vals 8 = .bool (decide (s8 ≥ (List.length o4.1 : Int))) := hD 8 (memN 1 rfl)
                    refine gl_convV (E2 := (38, .bool false) :: (42, .bool (decide (s8 ≥ (List.length o4.1 : Int)))) :: ([] ++ E')) (V2 := [] ++ ([SL false 47 FiringS a_v2 c_v3 o1.1, SL false 47 FiringS a_v5 c_v6 o4.1] ++ [])) (by show (38, vals 4) :: (42, vals 8) :: ([] ++ E') = _; rw [h4, h8]) (by show [] ++ ([SL false 47 FiringS a_v2 c_v3 o1.1, SL false 47 FiringS a_v5 c_v6 o4.1] ++ []) = _; rfl) ?_
                    refine gl_batch 1 [(43, .bool (decide (s8 ≥ (List.length o4.1 : Int))))] rfl ?_
                    refine gl_nil ?_
                    exact gx_fp (.bool (decide (s8 ≥ (List.length o4.1 : Int)))) rfl rfl rfl rfl (fun _ h => h.sub (fun _ h => h) (st_oo (A := [])) (fun o ho => by cases ho))
                  · intro vals E' R' O' hD
                    have h9 : vals 9 = .bool (decide (s8 ≥ (List.length o4.1 : Int))) := hD 9 (memN 0 rfl)
                    refine gl_convV (E2 := (43, .bool (decide (s8 ≥ (List.length o4.1 : Int)))) :: ([] ++ E')) (V2 := [] ++ ([SL false 47 FiringS a_v2 c_v3 o1.1, SL false 47 FiringS a_v5 c_v6 o4.1] ++ [])) (by show (43, vals 9) :: ([] ++ E') = _; rw [h9]) (by show [] ++ ([SL false 47 FiringS a_v2 c_v3 o1.1, SL false 47 FiringS a_v5 c_v6 o4.1] ++ []) = _; rfl) ?_
                    refine gl_batch 1 [(44, .bool (decide (s8 ≥ (List.length o4.1 : Int))))] rfl ?_
                    refine gl_nil ?_
                    exact gx_fp (.bool false) rfl rfl (congrArg (fun z => some (Value.bool z)) hg12) rfl (fun _ h => h.sub (fun _ h => h) (st_oo (A := [])) (fun o ho => by cases ho))
                  · intro vals E' R' O' hD
                    have h10 : vals 10 = .bool false := hD 10 (memN 0 rfl)
                    refine gl_convV (E2 := (44, .bool false) :: ([(6, .slice a_v2 (List.length o1.1) c_v3)] ++ E')) (V2 := [] ++ ([SL false 47 FiringS a_v2 c_v3 o1.1, SL false 47 FiringS a_v5 c_v6 o4.1] ++ [])) (by show (44, vals 10) :: ([(6, .slice a_v2 (List.length o1.1) c_v3)] ++ E') = _; rw [h10]) (by show [] ++ ([SL false 47 FiringS a_v2 c_v3 o1.1, SL false 47 FiringS a_v5 c_v6 o4.1] ++ []) = _; rfl) ?_
                    refine gl_batch 1 [(45, .slice a_v2 (List.length o1.1) c_v3)] rfl ?_
                    refine gl_nil ?_
                    exact gx_fp (.slice a_v2 (List.length o1.1) c_v3) rfl rfl rfl rfl (fun _ h => h.sub (fun _ h => h) (st_oo (A := [])) (fun o ho => by cases ho))
                  · intro vals E' R' O' hD
                    have h10 : vals 10 = .bool false := hD 10 (memN 0 rfl)
                    refine gl_convV (E2 := (44, .bool false) :: ([(9, .int .i64 s8)] ++ E')) (V2 := [] ++ ([SL false 47 FiringS a_v2 c_v3 o1.1, SL false 47 FiringS a_v5 c_v6 o4.1] ++ [])) (by show (44, vals 10) :: ([(9, .int .i64 s8)] ++ E') = _; rw [h10]) (by show [] ++ ([SL false 47 FiringS a_v2 c_v3 o1.1, SL false 47 FiringS a_v5 c_v6 o4.1] ++ []) = _; rfl) ?_
                    refine gl_batch 1 [(46, .int .i64 s8)] rfl ?_
                    refine gl_nil ?_
                    exact gx_fp (.int .i64 s8) rfl rfl rfl rfl (fun _ h => h.sub (fun _ h => h) (st_oo (A := [])) (fun o ho => by cases ho))
                  · intro vals E' R' O' hD
                    have h10 : vals 10 = .bool false := hD 10 (memN 0 rfl)
                    have h11 : vals 11 = .slice a_v2 (List.length o1.1) c_v3 := hD 11 (memN 1 rfl)
                    have h12 : vals 12 = .int .i64 s8 := hD 12 (memN 2 rfl)
                    refine gl_convV (E2 := (44, .bool false) :: (45, .slice a_v2 (List.length o1.1) c_v3) :: (46, .int .i64 s8) :: ([] ++ E')) (V2 := [] ++ ([SL false 47 FiringS a_v2 c_v3 o1.1, SL false 47 FiringS a_v5 c_v6 o4.1] ++ [])) (by show (44, vals 10) :: (45, vals 11) :: (46, vals 12) :: ([] ++ E') = _; rw [h10, h11, h12]) (by show [] ++ ([SL false 47 FiringS a_v2 c_v3 o1.1, SL false 47 FiringS a_v5 c_v6 o4.1] ++ []) = _; rfl) ?_
                    refine gl_idxVn (k := .i64) (memV (mem_at 0 rfl)) rfl rfl Fs26 Fz47 hx13 rfl rfl ?_
                    intro p_ hp_
                    obtain rfl : p14 = p_ := Option.some.inj (hp14.symm.trans hp_)
                    refine gl_nil ?_
                    exact gx_fp (.pointer (some p14)) rfl rfl rfl rfl (fun _ h => h.sub (fun _ h => h) (st_oo (A := [])) (fun o ho => by cases ho))
                  · intro vals E' R' O' hD
                    have h10 : vals 10 = .bool false := hD 10 (memN 0 rfl)
                    have h13 : vals 13 = .pointer (some p14) := hD 13 (memN 1 rfl)
                    refine gl_convV (E2 := (44, .bool false) :: (47, .pointer (some p14)) :: ([] ++ E')) (V2 := [] ++ ([SL false 47 FiringS a_v2 c_v3 o1.1, SL false 47 FiringS a_v5 c_v6 o4.1] ++ [])) (by show (44, vals 10) :: (47, vals 13) :: ([] ++ E') = _; rw [h10, h13]) (by show [] ++ ([SL false 47 FiringS a_v2 c_v3 o1.1, SL false 47 FiringS a_v5 c_v6 o4.1] ++ []) = _; rfl) ?_
                    refine gl_run (v := .pointer (some p14)) rfl rfl rfl (fun w => by kernel_rfl) ?_
                    refine gl_nil ?_
                    exact gx_fp (.pointer (some p14)) rfl rfl rfl rfl (fun _ h => h.sub (fun _ h => h) (st_oo (A := [])) (fun o ho => by cases ho))
                  · intro vals E' R' O' hD
                    have h10 : vals 10 = .bool false := hD 10 (memN 0 rfl)
                    have h14 : vals 14 = .pointer (some p14) := hD 14 (memN 1 rfl)
                    refine gl_convV (E2 := (44, .bool false) :: (48, .pointer (some p14)) :: ([] ++ E')) (V2 := [] ++ ([SL false 47 FiringS a_v2 c_v3 o1.1, SL false 47 FiringS a_v5 c_v6 o4.1] ++ [])) (by show (44, vals 10) :: (48, vals 14) :: ([] ++ E') = _; rw [h10, h14]) (by show [] ++ ([SL false 47 FiringS a_v2 c_v3 o1.1, SL false 47 FiringS a_v5 c_v6 o4.1] ++ []) = _; rfl) ?_
                    refine gl_elemVn (memV (mem_at 0 rfl)) hx13 hp14 ?_
                    refine gl_ld1 0 hasAT (memV (mem_at 0 rfl)) rfl rfl Fo2 rfl rfl rfl ?_
                    refine gl_nil ?_
                    exact gx_fp (.int .i64 x13.Event) rfl rfl rfl rfl (fun _ h => h.sub (fun _ h => h) (st_oo (A := [])) (fun o ho => by cases ho))
                  · intro vals E' R' O' hD
                    have h10 : vals 10 = .bool false := hD 10 (memN 0 rfl)
                    refine gl_convV (E2 := (44, .bool false) :: ([(8, .slice a_v5 (List.length o4.1) c_v6)] ++ E')) (V2 := [] ++ ([SL false 47 FiringS a_v2 c_v3 o1.1, SL false 47 FiringS a_v5 c_v6 o4.1] ++ [])) (by show (44, vals 10) :: ([(8, .slice a_v5 (List.length o4.1) c_v6)] ++ E') = _; rw [h10]) (by show [] ++ ([SL false 47 FiringS a_v2 c_v3 o1.1, SL false 47 FiringS a_v5 c_v6 o4.1] ++ []) = _; rfl) ?_
                    refine gl_batch 1 [(50, .slice a_v5 (List.length o4.1) c_v6)] rfl ?_
                    refine gl_nil ?_
                    exact gx_fp (.slice a_v5 (List.length o4.1) c_v6) rfl rfl rfl rfl (fun _ h => h.sub (fun _ h => h) (st_oo (A := [])) (fun o ho => by cases ho))
                  · intro vals E' R' O' hD
                    have h10 : vals 10 = .bool false := hD 10 (memN 0 rfl)
                    refine gl_convV (E2 := (44, .bool false) :: ([(9, .int .i64 s8)] ++ E')) (V2 := [] ++ ([SL false 47 FiringS a_v2 c_v3 o1.1, SL false 47 FiringS a_v5 c_v6 o4.1] ++ [])) (by show (44, vals 10) :: ([(9, .int .i64 s8)] ++ E') = _; rw [h10]) (by show [] ++ ([SL false 47 FiringS a_v2 c_v3 o1.1, SL false 47 FiringS a_v5 c_v6 o4.1] ++ []) = _; rfl) ?_
                    refine gl_batch 1 [(51, .int .i64 s8)] rfl ?_
                    refine gl_nil ?_
                    exact gx_fp (.int .i64 s8) rfl rfl rfl rfl (fun _ h => h.sub (fun _ h => h) (st_oo (A := [])) (fun o ho => by cases ho))
                  · intro vals E' R' O' hD
                    have h10 : vals 10 = .bool false := hD 10 (memN 0 rfl)
                    have h16 : vals 16 = .slice a_v5 (List.length o4.1) c_v6 := hD 16 (memN 1 rfl)
                    have h17 : vals 17 = .int .i64 s8 := hD 17 (memN 2 rfl)
                    refine gl_convV (E2 := (44, .bool false) :: (50, .slice a_v5 (List.length o4.1) c_v6) :: (51, .int .i64 s8) :: ([] ++ E')) (V2 := [] ++ ([SL false 47 FiringS a_v2 c_v3 o1.1, SL false 47 FiringS a_v5 c_v6 o4.1] ++ [])) (by show (44, vals 10) :: (50, vals 16) :: (51, vals 17) :: ([] ++ E') = _; rw [h10, h16, h17]) (by show [] ++ ([SL false 47 FiringS a_v2 c_v3 o1.1, SL false 47 FiringS a_v5 c_v6 o4.1] ++ []) = _; rfl) ?_
                    refine gl_idxVn (k := .i64) (memV (mem_at 1 rfl)) rfl rfl Fs26 Fz47 hx15 rfl rfl ?_
                    intro p_ hp_
                    obtain rfl : p16 = p_ := Option.some.inj (hp16.symm.trans hp_)
                    refine gl_nil ?_
                    exact gx_fp (.pointer (some p16)) rfl rfl rfl rfl (fun _ h => h.sub (fun _ h => h) (st_oo (A := [])) (fun o ho => by cases ho))
                  · intro vals E' R' O' hD
                    have h10 : vals 10 = .bool false := hD 10 (memN 0 rfl)
                    have h18 : vals 18 = .pointer (some p16) := hD 18 (memN 1 rfl)
                    refine gl_convV (E2 := (44, .bool false) :: (52, .pointer (some p16)) :: ([] ++ E')) (V2 := [] ++ ([SL false 47 FiringS a_v2 c_v3 o1.1, SL false 47 FiringS a_v5 c_v6 o4.1] ++ [])) (by show (44, vals 10) :: (52, vals 18) :: ([] ++ E') = _; rw [h10, h18]) (by show [] ++ ([SL false 47 FiringS a_v2 c_v3 o1.1, SL false 47 FiringS a_v5 c_v6 o4.1] ++ []) = _; rfl) ?_
                    refine gl_run (v := .pointer (some p16)) rfl rfl rfl (fun w => by kernel_rfl) ?_
                    refine gl_nil ?_
                    exact gx_fp (.pointer (some p16)) rfl rfl rfl rfl (fun _ h => h.sub (fun _ h => h) (st_oo (A := [])) (fun o ho => by cases ho))
                  · intro vals E' R' O' hD
                    have h10 : vals 10 = .bool false := hD 10 (memN 0 rfl)
                    have h19 : vals 19 = .pointer (some p16) := hD 19 (memN 1 rfl)
                    refine gl_convV (E2 := (44, .bool false) :: (53, .pointer (some p16)) :: ([] ++ E')) (V2 := [] ++ ([SL false 47 FiringS a_v2 c_v3 o1.1, SL false 47 FiringS a_v5 c_v6 o4.1] ++ [])) (by show (44, vals 10) :: (53, vals 19) :: ([] ++ E') = _; rw [h10, h19]) (by show [] ++ ([SL false 47 FiringS a_v2 c_v3 o1.1, SL false 47 FiringS a_v5 c_v6 o4.1] ++ []) = _; rfl) ?_
                    refine gl_elemVn (memV (mem_at 1 rfl)) hx15 hp16 ?_
                    refine gl_ld1 0 hasAT (memV (mem_at 0 rfl)) rfl rfl Fo2 rfl rfl rfl ?_
                    refine gl_nil ?_
                    exact gx_fp (.int .i64 x15.Event) rfl rfl rfl rfl (fun _ h => h.sub (fun _ h => h) (st_oo (A := [])) (fun o ho => by cases ho))
                  · intro vals E' R' O' hD
                    have h10 : vals 10 = .bool false := hD 10 (memN 0 rfl)
                    have h15 : vals 15 = .int .i64 x13.Event := hD 15 (memN 1 rfl)
                    have h20 : vals 20 = .int .i64 x15.Event := hD 20 (memN 2 rfl)
                    refine gl_convV (E2 := (44, .bool false) :: (49, .int .i64 x13.Event) :: (54, .int .i64 x15.Event) :: ([] ++ E')) (V2 := [] ++ ([SL false 47 FiringS a_v2 c_v3 o1.1, SL false 47 FiringS a_v5 c_v6 o4.1] ++ [])) (by show (44, vals 10) :: (49, vals 15) :: (54, vals 20) :: ([] ++ E') = _; rw [h10, h15, h20]) (by show [] ++ ([SL false 47 FiringS a_v2 c_v3 o1.1, SL false 47 FiringS a_v5 c_v6 o4.1] ++ []) = _; rfl) ?_
                    refine gl_batch 1 [(55, .bool (x13.Event != x15.Event))] rfl ?_
                    refine gl_nil ?_
                    exact gx_fp (.bool (x13.Event != x15.Event)) rfl rfl rfl rfl (fun _ h => h.sub (fun _ h => h) (st_oo (A := [])) (fun o ho => by cases ho))
                  · intro vals E' R' O' hD
                    have h10 : vals 10 = .bool false := hD 10 (memN 0 rfl)
                    have h21 : vals 21 = .bool (x13.Event != x15.Event) := hD 21 (memN 1 rfl)
                    refine gl_convV (E2 := (44, .bool false) :: (55, .bool (x13.Event != x15.Event)) :: ([] ++ E')) (V2 := [] ++ ([SL false 47 FiringS a_v2 c_v3 o1.1, SL false 47 FiringS a_v5 c_v6 o4.1] ++ [])) (by show (44, vals 10) :: (55, vals 21) :: ([] ++ E') = _; rw [h10, h21]) (by show [] ++ ([SL false 47 FiringS a_v2 c_v3 o1.1, SL false 47 FiringS a_v5 c_v6 o4.1] ++ []) = _; rfl) ?_
                    refine gl_batch 1 [(56, .bool (x13.Event != x15.Event))] rfl ?_
                    refine gl_nil ?_
                    exact gx_fp (.bool (x13.Event != x15.Event)) rfl rfl rfl rfl (fun _ h => h.sub (fun _ h => h) (st_oo (A := [])) (fun o ho => by cases ho))
                  · intro vals E' R' O' hD
                    have h22 : vals 22 = .bool (x13.Event != x15.Event) := hD 22 (memN 0 rfl)
                    refine gl_convV (E2 := (56, .bool (x13.Event != x15.Event)) :: ([] ++ E')) (V2 := [] ++ ([SL false 47 FiringS a_v2 c_v3 o1.1, SL false 47 FiringS a_v5 c_v6 o4.1] ++ [])) (by show (56, vals 22) :: ([] ++ E') = _; rw [h22]) (by show [] ++ ([SL false 47 FiringS a_v2 c_v3 o1.1, SL false 47 FiringS a_v5 c_v6 o4.1] ++ []) = _; rfl) ?_
                    refine gl_batch 1 [(57, .bool (x13.Event != x15.Event))] rfl ?_
                    refine gl_nil ?_
                    exact gx_fp (.bool false) rfl rfl (congrArg (fun z => some (Value.bool z)) hg17) rfl (fun _ h => h.sub (fun _ h => h) (st_oo (A := [])) (fun o ho => by cases ho))
                  · intro vals E' R' O' hD
                    have h23 : vals 23 = .bool false := hD 23 (memN 0 rfl)
                    refine gl_convV (E2 := (57, .bool false) :: ([(6, .slice a_v2 (List.length o1.1) c_v3)] ++ E')) (V2 := [] ++ ([SL false 47 FiringS a_v2 c_v3 o1.1, SL false 47 FiringS a_v5 c_v6 o4.1] ++ [])) (by show (57, vals 23) :: ([(6, .slice a_v2 (List.length o1.1) c_v3)] ++ E') = _; rw [h23]) (by show [] ++ ([SL false 47 FiringS a_v2 c_v3 o1.1, SL false 47 FiringS a_v5 c_v6 o4.1] ++ []) = _; rfl) ?_
                    refine gl_batch 1 [(58, .slice a_v2 (List.length o1.1) c_v3)] rfl ?_
                    refine gl_nil ?_
                    exact gx_fp (.slice a_v2 (List.length o1.1) c_v3) rfl rfl rfl rfl (fun _ h => h.sub (fun _ h => h) (st_oo (A := [])) (fun o ho => by cases ho))
                  · intro vals E' R' O' hD
                    have h23 : vals 23 = .bool false := hD 23 (memN 0 rfl)
                    refine gl_convV (E2 := (57, .bool false) :: ([(9, .int .i64 s8)] ++ E')) (V2 := [] ++ ([SL false 47 FiringS a_v2 c_v3 o1.1, SL false 47 FiringS a_v5 c_v6 o4.1] ++ [])) (by show (57, vals 23) :: ([(9, .int .i64 s8)] ++ E') = _; rw [h23]) (by show [] ++ ([SL false 47 FiringS a_v2 c_v3 o1.1, SL false 47 FiringS a_v5 c_v6 o4.1] ++ []) = _; rfl) ?_
                    refine gl_batch 1 [(59, .int .i64 s8)] rfl ?_
                    refine gl_nil ?_
                    exact gx_fp (.int .i64 s8) rfl rfl rfl rfl (fun _ h => h.sub (fun _ h => h) (st_oo (A := [])) (fun o ho => by cases ho))
                  · intro vals E' R' O' hD
                    have h23 : vals 23 = .bool false := hD 23 (memN 0 rfl)
                    have h24 : vals 24 = .slice a_v2 (List.length o1.1) c_v3 := hD 24 (memN 1 rfl)
                    have h25 : vals 25 = .int .i64 s8 := hD 25 (memN 2 rfl)
                    refine gl_convV (E2 := (57, .bool false) :: (58, .slice a_v2 (List.length o1.1) c_v3) :: (59, .int .i64 s8) :: ([] ++ E')) (V2 := [] ++ ([SL false 47 FiringS a_v2 c_v3 o1.1, SL false 47 FiringS a_v5 c_v6 o4.1] ++ [])) (by show (57, vals 23) :: (58, vals 24) :: (59, vals 25) :: ([] ++ E') = _; rw [h23, h24, h25]) (by show [] ++ ([SL false 47 FiringS a_v2 c_v3 o1.1, SL false 47 FiringS a_v5 c_v6 o4.1] ++ []) = _; rfl) ?_
                    refine gl_idxVn (k := .i64) (memV (mem_at 0 rfl)) rfl rfl Fs26 Fz47 hx18 rfl rfl ?_
                    intro p_ hp_
                    obtain rfl : p19 = p_ := Option.some.inj (hp19.symm.trans hp_)
                    refine gl_nil ?_
                    exact gx_fp (.pointer (some p19)) rfl rfl rfl rfl (fun _ h => h.sub (fun _ h => h) (st_oo (A := [])) (fun o ho => by cases ho))
                  · intro vals E' R' O' hD
                    have h23 : vals 23 = .bool false := hD 23 (memN 0 rfl)
                    have h26 : vals 26 = .pointer (some p19) := hD 26 (memN 1 rfl)
                    refine gl_convV (E2 := (57, .bool false) :: (60, .pointer (some p19)) :: ([] ++ E')) (V2 := [] ++ ([SL false 47 FiringS a_v2 c_v3 o1.1, SL false 47 FiringS a_v5 c_v6 o4.1] ++ [])) (by show (57, vals 23) :: (60, vals 26) :: ([] ++ E') = _; rw [h23, h26]) (by show [] ++ ([SL false 47 FiringS a_v2 c_v3 o1.1, SL false 47 FiringS a_v5 c_v6 o4.1] ++ []) = _; rfl) ?_
                    refine gl_run (v := .pointer (some (Addr.add p19 2))) rfl rfl rfl (fun w => by kernel_rfl) ?_
                    refine gl_nil ?_
                    exact gx_fp (.pointer (some (Addr.add p19 2))) rfl rfl rfl rfl (fun _ h => h.sub (fun _ h => h) (st_oo (A := [])) (fun o ho => by cases ho))
                  · intro vals E' R' O' hD
                    have h23 : vals 23 = .bool false := hD 23 (memN 0 rfl)
                    have h27 : vals 27 = .pointer (some (Addr.add p19 2)) := hD 27 (memN 1 rfl)
                    refine gl_convV (E2 := (57, .bool false) :: (61, .pointer (some (Addr.add p19 2))) :: ([] ++ E')) (V2 := [] ++ ([SL false 47 FiringS a_v2 c_v3 o1.1, SL false 47 FiringS a_v5 c_v6 o4.1] ++ [])) (by show (57, vals 23) :: (61, vals 27) :: ([] ++ E') = _; rw [h23, h27]) (by show [] ++ ([SL false 47 FiringS a_v2 c_v3 o1.1, SL false 47 FiringS a_v5 c_v6 o4.1] ++ []) = _; rfl) ?_
                    refine gl_elemVn (memV (mem_at 0 rfl)) hx18 hp19 ?_
                    refine gl_ld1 2 hasAT (memV (mem_at 0 rfl)) rfl rfl Fo2 rfl rfl rfl ?_
                    refine gl_nil ?_
                    exact gx_fp (.int .i64 x18.Time) rfl rfl rfl rfl (fun _ h => h.sub (fun _ h => h) (st_oo (A := [])) (fun o ho => by cases ho))
                  · intro vals E' R' O' hD
                    have h23 : vals 23 = .bool false := hD 23 (memN 0 rfl)
                    refine gl_convV (E2 := (57, .bool false) :: ([(8, .slice a_v5 (List.length o4.1) c_v6)] ++ E')) (V2 := [] ++ ([SL false 47 FiringS a_v2 c_v3 o1.1, SL false 47 FiringS a_v5 c_v6 o4.1] ++ [])) (by show (57, vals 23) :: ([(8, .slice a_v5 (List.length o4.1) c_v6)] ++ E') = _; rw [h23]) (by show [] ++ ([SL false 47 FiringS a_v2 c_v3 o1.1, SL false 47 FiringS a_v5 c_v6 o4.1] ++ []) = _; rfl) ?_
                    refine gl_batch 1 [(63, .slice a_v5 (List.length o4.1) c_v6)] rfl ?_
                    refine gl_nil ?_
                    exact gx_fp (.slice a_v5 (List.length o4.1) c_v6) rfl rfl rfl rfl (fun _ h => h.sub (fun _ h => h) (st_oo (A := [])) (fun o ho => by cases ho))
                  · intro vals E' R' O' hD
                    have h23 : vals 23 = .bool false := hD 23 (memN 0 rfl)
                    refine gl_convV (E2 := (57, .bool false) :: ([(9, .int .i64 s8)] ++ E')) (V2 := [] ++ ([SL false 47 FiringS a_v2 c_v3 o1.1, SL false 47 FiringS a_v5 c_v6 o4.1] ++ [])) (by show (57, vals 23) :: ([(9, .int .i64 s8)] ++ E') = _; rw [h23]) (by show [] ++ ([SL false 47 FiringS a_v2 c_v3 o1.1, SL false 47 FiringS a_v5 c_v6 o4.1] ++ []) = _; rfl) ?_
                    refine gl_batch 1 [(64, .int .i64 s8)] rfl ?_
                    refine gl_nil ?_
                    exact gx_fp (.int .i64 s8) rfl rfl rfl rfl (fun _ h => h.sub (fun _ h => h) (st_oo (A := [])) (fun o ho => by cases ho))
                  · intro vals E' R' O' hD
                    have h23 : vals 23 = .bool false := hD 23 (memN 0 rfl)
                    have h29 : vals 29 = .slice a_v5 (List.length o4.1) c_v6 := hD 29 (memN 1 rfl)
                    have h30 : vals 30 = .int .i64 s8 := hD 30 (memN 2 rfl)
                    refine gl_convV (E2 := (57, .bool false) :: (63, .slice a_v5 (List.length o4.1) c_v6) :: (64, .int .i64 s8) :: ([] ++ E')) (V2 := [] ++ ([SL false 47 FiringS a_v2 c_v3 o1.1, SL false 47 FiringS a_v5 c_v6 o4.1] ++ [])) (by show (57, vals 23) :: (63, vals 29) :: (64, vals 30) :: ([] ++ E') = _; rw [h23, h29, h30]) (by show [] ++ ([SL false 47 FiringS a_v2 c_v3 o1.1, SL false 47 FiringS a_v5 c_v6 o4.1] ++ []) = _; rfl) ?_
                    refine gl_idxVn (k := .i64) (memV (mem_at 1 rfl)) rfl rfl Fs26 Fz47 hx20 rfl rfl ?_
                    intro p_ hp_
                    obtain rfl : p21 = p_ := Option.some.inj (hp21.symm.trans hp_)
                    refine gl_nil ?_
                    exact gx_fp (.pointer (some p21)) rfl rfl rfl rfl (fun _ h => h.sub (fun _ h => h) (st_oo (A := [])) (fun o ho => by cases ho))
                  · intro vals E' R' O' hD
                    have h23 : vals 23 = .bool false := hD 23 (memN 0 rfl)
                    have h31 : vals 31 = .pointer (some p21) := hD 31 (memN 1 rfl)
                    refine gl_convV (E2 := (57, .bool false) :: (65, .pointer (some p21)) :: ([] ++ E')) (V2 := [] ++ ([SL false 47 FiringS a_v2 c_v3 o1.1, SL false 47 FiringS a_v5 c_v6 o4.1] ++ [])) (by show (57, vals 23) :: (65, vals 31) :: ([] ++ E') = _; rw [h23, h31]) (by show [] ++ ([SL false 47 FiringS a_v2 c_v3 o1.1, SL false 47 FiringS a_v5 c_v6 o4.1] ++ []) = _; rfl) ?_
                    refine gl_run (v := .pointer (some (Addr.add p21 2))) rfl rfl rfl (fun w => by kernel_rfl) ?_
                    refine gl_nil ?_
                    exact gx_fp (.pointer (some (Addr.add p21 2))) rfl rfl rfl rfl (fun _ h => h.sub (fun _ h => h) (st_oo (A := [])) (fun o ho => by cases ho))
                  · intro vals E' R' O' hD
                    have h23 : vals 23 = .bool false := hD 23 (memN 0 rfl)
                    have h32 : vals 32 = .pointer (some (Addr.add p21 2)) := hD 32 (memN 1 rfl)
                    refine gl_convV (E2 := (57, .bool false) :: (66, .pointer (some (Addr.add p21 2))) :: ([] ++ E')) (V2 := [] ++ ([SL false 47 FiringS a_v2 c_v3 o1.1, SL false 47 FiringS a_v5 c_v6 o4.1] ++ [])) (by show (57, vals 23) :: (66, vals 32) :: ([] ++ E') = _; rw [h23, h32]) (by show [] ++ ([SL false 47 FiringS a_v2 c_v3 o1.1, SL false 47 FiringS a_v5 c_v6 o4.1] ++ []) = _; rfl) ?_
                    refine gl_elemVn (memV (mem_at 1 rfl)) hx20 hp21 ?_
                    refine gl_ld1 2 hasAT (memV (mem_at 0 rfl)) rfl rfl Fo2 rfl rfl rfl ?_
                    refine gl_nil ?_
                    exact gx_fp (.int .i64 x20.Time) rfl rfl rfl rfl (fun _ h => h.sub (fun _ h => h) (st_oo (A := [])) (fun o ho => by cases ho))
                  · intro vals E' R' O' hD
                    have h23 : vals 23 = .bool false := hD 23 (memN 0 rfl)
                    have h28 : vals 28 = .int .i64 x18.Time := hD 28 (memN 1 rfl)
                    have h33 : vals 33 = .int .i64 x20.Time := hD 33 (memN 2 rfl)
                    refine gl_convV (E2 := (57, .bool false) :: (62, .int .i64 x18.Time) :: (67, .int .i64 x20.Time) :: ([] ++ E')) (V2 := [] ++ ([SL false 47 FiringS a_v2 c_v3 o1.1, SL false 47 FiringS a_v5 c_v6 o4.1] ++ [])) (by show (57, vals 23) :: (62, vals 28) :: (67, vals 33) :: ([] ++ E') = _; rw [h23, h28, h33]) (by show [] ++ ([SL false 47 FiringS a_v2 c_v3 o1.1, SL false 47 FiringS a_v5 c_v6 o4.1] ++ []) = _; rfl) ?_
                    refine gl_batch 1 [(68, .bool (x18.Time != x20.Time))] rfl ?_
                    refine gl_nil ?_
                    exact gx_fp (.bool (x18.Time != x20.Time)) rfl rfl rfl rfl (fun _ h => h.sub (fun _ h => h) (st_oo (A := [])) (fun o ho => by cases ho))
                  · intro vals E' R' O' hD
                    have h23 : vals 23 = .bool false := hD 23 (memN 0 rfl)
                    have h34 : vals 34 = .bool (x18.Time != x20.Time) := hD 34 (memN 1 rfl)
                    refine gl_convV (E2 := (57, .bool false) :: (68, .bool (x18.Time != x20.Time)) :: ([] ++ E')) (V2 := [] ++ ([SL false 47 FiringS a_v2 c_v3 o1.1, SL false 47 FiringS a_v5 c_v6 o4.1] ++ [])) (by show (57, vals 23) :: (68, vals 34) :: ([] ++ E') = _; rw [h23, h34]) (by show [] ++ ([SL false 47 FiringS a_v2 c_v3 o1.1, SL false 47 FiringS a_v5 c_v6 o4.1] ++ []) = _; rfl) ?_
                    refine gl_batch 1 [(69, .bool (x18.Time != x20.Time))] rfl ?_
                    refine gl_nil ?_
                    exact gx_fp (.bool (x18.Time != x20.Time)) rfl rfl rfl rfl (fun _ h => h.sub (fun _ h => h) (st_oo (A := [])) (fun o ho => by cases ho))
                  · intro vals hv
                    obtain ⟨⟨⟨⟨⟨⟨⟨⟨⟨⟨⟨⟨⟨⟨⟨⟨⟨⟨⟨⟨⟨⟨⟨⟨⟨⟨⟨⟨⟨⟨⟨⟨⟨⟨⟨⟨_, h0⟩, h1⟩, h2⟩, h3⟩, h4⟩, h5⟩, h6⟩, h7⟩, h8⟩, h9⟩, h10⟩, h11⟩, h12⟩, h13⟩, h14⟩, h15⟩, h16⟩, h17⟩, h18⟩, h19⟩, h20⟩, h21⟩, h22⟩, h23⟩, h24⟩, h25⟩, h26⟩, h27⟩, h28⟩, h29⟩, h30⟩, h31⟩, h32⟩, h33⟩, h34⟩, h35⟩ := hv
                    have h0 : vals 0 = .int .i64 s8 := h0
                    have h1 : vals 1 = .slice a_v2 (List.length o1.1) c_v3 := h1
                    have h2 : vals 2 = .int .i64 (List.length o1.1 : Int) := h2
                    have h3 : vals 3 = .bool (decide (s8 ≥ (List.length o1.1 : Int))) := h3
                    have h4 : vals 4 = .bool false := h4
                    have h5 : vals 5 = .int .i64 s8 := h5
                    have h6 : vals 6 = .slice a_v5 (List.length o4.1) c_v6 := h6
                    have h7 : vals 7 = .int .i64 (List.length o4.1 : Int) := h7
                    have h8 : vals 8 = .bool (decide (s8 ≥ (List.length o4.1 : Int))) := h8
                    have h9 : vals 9 = .bool (decide (s8 ≥ (List.length o4.1 : Int))) := h9
                    have h10 : vals 10 = .bool false := h10
                    have h11 : vals 11 = .slice a_v2 (List.length o1.1) c_v3 := h11
                    have h12 : vals 12 = .int .i64 s8 := h12
                    have h13 : vals 13 = .pointer (some p14) := h13
                    have h14 : vals 14 = .pointer (some p14) := h14
                    have h15 : vals 15 = .int .i64 x13.Event := h15
                    have h16 : vals 16 = .slice a_v5 (List.length o4.1) c_v6 := h16
                    have h17 : vals 17 = .int .i64 s8 := h17
                    have h18 : vals 18 = .pointer (some p16) := h18
                    have h19 : vals 19 = .pointer (some p16) := h19
                    have h20 : vals 20 = .int .i64 x15.Event := h20
                    have h21 : vals 21 = .bool (x13.Event != x15.Event) := h21
                    have h22 : vals 22 = .bool (x13.Event != x15.Event) := h22
                    have h23 : vals 23 = .bool false := h23
                    have h24 : vals 24 = .slice a_v2 (List.length o1.1) c_v3 := h24
                    have h25 : vals 25 = .int .i64 s8 := h25
                    have h26 : vals 26 = .pointer (some p19) := h26
                    have h27 : vals 27 = .pointer (some (Addr.add p19 2)) := h27
                    have h28 : vals 28 = .int .i64 x18.Time := h28
                    have h29 : vals 29 = .slice a_v5 (List.length o4.1) c_v6 := h29
                    have h30 : vals 30 = .int .i64 s8 := h30
                    have h31 : vals 31 = .pointer (some p21) := h31
                    have h32 : vals 32 = .pointer (some (Addr.add p21 2)) := h32
                    have h33 : vals 33 = .int .i64 x20.Time := h33
                    have h34 : vals 34 = .bool (x18.Time != x20.Time) := h34
                    have h35 : vals 35 = .bool (x18.Time != x20.Time) := h35
                    refine gl_conv (E2 := (34, .int .i64 s8) :: (35, .slice a_v2 (List.length o1.1) c_v3) :: (36, .int .i64 (List.length o1.1 : Int)) :: (37, .bool (decide (s8 ≥ (List.length o1.1 : Int)))) :: (38, .bool false) :: (39, .int .i64 s8) :: (40, .slice a_v5 (List.length o4.1) c_v6) :: (41, .int .i64 (List.length o4.1 : Int)) :: (42, .bool (decide (s8 ≥ (List.length o4.1 : Int)))) :: (43, .bool (decide (s8 ≥ (List.length o4.1 : Int)))) :: (44, .bool false) :: (45, .slice a_v2 (List.length o1.1) c_v3) :: (46, .int .i64 s8) :: (47, .pointer (some p14)) :: (48, .pointer (some p14)) :: (49, .int .i64 x13.Event) :: (50, .slice a_v5 (List.length o4.1) c_v6) :: (51, .int .i64 s8) :: (52, .pointer (some p16)) :: (53, .pointer (some p16)) :: (54, .int .i64 x15.Event) :: (55, .bool (x13.Event != x15.Event)) :: (56, .bool (x13.Event != x15.Event)) :: (57, .bool false) :: (58, .slice a_v2 (List.length o1.1) c_v3) :: (59, .int .i64 s8) :: (60, .pointer (some p19)) :: (61, .pointer (some (Addr.add p19 2))) :: (62, .int .i64 x18.Time) :: (63, .slice a_v5 (List.length o4.1) c_v6) :: (64, .int .i64 s8) :: (65, .pointer (some p21)) :: (66, .pointer (some (Addr.add p21 2))) :: (67, .int .i64 x20.Time) :: (68, .bool (x18.Time != x20.Time)) :: (69, .bool (x18.Time != x20.Time)) :: [(6, .slice a_v2 (List.length o1.1) c_v3), (8, .slice a_v5 (List.length o4.1) c_v6), (9, .int .i64 s8), (30, .int .i64 (if (List.length o4.1 : Int) > (List.length o1.1 : Int) then (List.length o4.1 : Int) else (List.length o1.1 : Int))), (31, .int .i64 s8)]) (R2 := [] ++ ([] ++ [SL false 47 FiringS a_v2 c_v3 o1.1, SL false 47 FiringS a_v5 c_v6 o4.1])) (O2 := [] ++ []) (by show (34, vals 0) :: (35, vals 1) :: (36, vals 2) :: (37, vals 3) :: (38, vals 4) :: (39, vals 5) :: (40, vals 6) :: (41, vals 7) :: (42, vals 8) :: (43, vals 9) :: (44, vals 10) :: (45, vals 11) :: (46, vals 12) :: (47, vals 13) :: (48, vals 14) :: (49, vals 15) :: (50, vals 16) :: (51, vals 17) :: (52, vals 18) :: (53, vals 19) :: (54, vals 20) :: (55, vals 21) :: (56, vals 22) :: (57, vals 23) :: (58, vals 24) :: (59, vals 25) :: (60, vals 26) :: (61, vals 27) :: (62, vals 28) :: (63, vals 29) :: (64, vals 30) :: (65, vals 31) :: (66, vals 32) :: (67, vals 33) :: (68, vals 34) :: (69, vals 35) :: [(6, .slice a_v2 (List.length o1.1) c_v3), (8, .slice a_v5 (List.length o4.1) c_v6), (9, .int .i64 s8), (30, .int .i64 (if (List.length o4.1 : Int) > (List.length o1.1 : Int) then (List.length o4.1 : Int) else (List.length o1.1 : Int))), (31, .int .i64 s8)] = _; rw [h0, h1, h2, h3, h4, h5, h6, h7, h8, h9, h10, h11, h12, h13, h14, h15, h16, h17, h18, h19, h20, h21, h22, h23, h24, h25, h26, h27, h28, h29, h30, h31, h32, h33, h34, h35]) (by show [] ++ ([] ++ [SL false 47 FiringS a_v2 c_v3 o1.1, SL false 47 FiringS a_v5 c_v6 o4.1]) = _; rfl) rfl ?_
                    refine gl_nil ?_
                    obtain rfl := Option.some.inj h
                    exact gx_of (fun a w hE hS => ⟨rfl, hE.sub ⟨rfl, rfl, rfl, rfl, rfl, rfl, trivial⟩, (hS.take 2).facts _ _ [] (consItem (mem_at 0 rfl) (consItem (mem_at 1 rfl) (consItem (mem_at 2 rfl) (consItem (mem_at 3 rfl) noItem)))) noItem noItem⟩)
          · intro e a w hm
            obtain ⟨rfl, hE, hS⟩ := hm
            refine gx_to hE hS ?_
            refine gx_seq ?_
            refine g_cond (b := o10) rfl (fun hc => ?_) (fun hc => ?_)
            · replace h := condT hc h
              refine g_seq ?_
              refine g_region ?_
              refine gl_batch 3 [(5, .int .i64 0), (4, .int .i64 s8), (70, .int .i64 s8)] rfl ?_
              refine gl_nil ?_
              refine gx_seq ?_
              refine g_ret ?_
              refine gx_blk_ret ?_
              refine gx_seq_ret ?_
              obtain rfl := Option.some.inj h
              exact gx_of (fun a w hE hS => lp_out nofun (inL ⟨rfl, hE.sub ⟨rfl, rfl, trivial⟩, (hS.take 0).facts _ _ [] (consItem (mem_at 0 rfl) (consItem (mem_at 1 rfl) (consItem (mem_at 2 rfl) (consItem (mem_at 3 rfl) noItem)))) noItem noItem⟩))
            · replace h := condF hc h
              refine g_skip ?_
              refine gx_blk ?_
              refine gx_seq ?_
              refine g_region ?_
              refine gl_batch 2 [(31, .int .i64 (IntKind.i64.wrap (s8 + 1))), (71, .int .i64 (IntKind.i64.wrap (s8 + 1)))] rfl ?_
              refine gl_nil ?_
              obtain rfl := Option.some.inj h
              exact gx_of (fun a w hE hS => lp_in ⟨hE.sub ⟨rfl, rfl, rfl, rfl, trivial⟩, (hS.take 2).facts _ _ [] (consItem (mem_at 0 rfl) (consItem (mem_at 1 rfl) (consItem (mem_at 2 rfl) (consItem (mem_at 3 rfl) noItem)))) noItem noItem⟩)
        · replace h := condF hc h
          refine g_exit ?_
          refine gx_seq_exit ?_
          obtain rfl := Option.some.inj h
          exact gx_of (fun a w hE hS => lp_out nofun (inR ⟨rfl, hE.sub trivial, (hS.take 0).facts _ _ [] (consItem (mem_at 0 rfl) (consItem (mem_at 1 rfl) (consItem (mem_at 2 rfl) (consItem (mem_at 3 rfl) noItem)))) noItem noItem⟩))
      · intro e a w hm
        rcases o7 with s22 | s23
        · replace h := elimL h
          obtain ⟨rfl, hE, hS⟩ := hm
          refine gx_to hE hS ?_
          refine gx_blk_ret ?_
          refine gx_seq_ret ?_
          obtain rfl := Option.some.inj h
          exact gx_fin rfl [.int .i64 s22, .int .i64 0] _ _ [] ⟨_, _, rfl, rfl, _, _, rfl, rfl, rfl⟩ rfl ⟨rfl, rfl, rfl⟩ (fun w hS => (hS.take 0).facts [] [] [] noItem noItem noItem) (Or.inl rfl)
        · replace h := elimR h
          obtain ⟨rfl, hE, hS⟩ := hm
          refine gx_to hE hS ?_
          refine gx_blk_hit ?_
          refine gx_seq ?_
          refine g_seq ?_
          refine g_region ?_
          refine gl_batch 2 [(5, .int .i64 0), (4, .int .i64 (-1))] rfl ?_
          refine gl_nil ?_
          refine gx_seq ?_
          refine g_ret ?_
          obtain rfl := Option.some.inj h
          exact gx_fin rfl [.int .i64 (-1), .int .i64 0] _ _ [] ⟨_, _, rfl, rfl, _, _, rfl, rfl, rfl⟩ rfl ⟨rfl, rfl, rfl⟩ (fun w hS => (hS.take 0).facts [] [] [] noItem noItem noItem) (Or.inl rfl)

end Go.Proofs.YtneifoepoccjaaaDoor
