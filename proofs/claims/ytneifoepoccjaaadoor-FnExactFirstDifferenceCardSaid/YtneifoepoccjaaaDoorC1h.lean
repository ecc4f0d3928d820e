/-
  What each function gives when it is called: the contracts, each with the walk through its code. Written by a program of ours.
-/
import Derived.Test.YtneifoepoccjaaaDoorC10
import Derived.Test.YtneifoepoccjaaaDoorC1e
import Derived.Test.YtneifoepoccjaaaDoorC1g
namespace Go.Proofs.YtneifoepoccjaaaDoor
open Go Go.Proofs Go.Shelf
set_option maxHeartbeats 16000000
theorem c_laws_FnExactFirstDifference (aS : List UInt8) (aT : List UInt8)  {r : Bool} (h : laws_FnExactFirstDifference aS aT = some r) : CallOK Tryd.prog 6 [str aS, str aT] [] [gTab 3 pow10C, gNum 0, gErr 1, gErr 2] [] (fun v outs ros => v = .bool r ∧ outs = [] ∧ ros = []) := by
  refine fn_ok Tryd.func6 rfl Tryd.ntmps6 rfl (fun c hF0 => ?_)
  unfold laws_FnExactFirstDifference at h
  refine g_seq ?_
  refine g_region ?_
  refine gl_batch 1 [(4, .bool false)] rfl ?_
  refine gl_nil ?_
  refine gx_seq ?_
  refine g_seq ?_
  refine g_seq ?_
  refine g_region ?_
  refine gl_batch 1 [(9, str aS)] rfl ?_
  refine gl_slen (s := aS) rfl Ft9 rfl rfl ?_
  refine gl_batch 1 [(11, .bool (decide ((List.length aS : Int) > 1048576)))] rfl ?_
  refine gl_nil ?_
  refine gx_seq ?_
  refine g_cond (b := decide ((List.length aS : Int) > 1048576)) rfl (fun hc => ?_) (fun hc => ?_)
  · replace h := condT hc h
    refine g_seq ?_
    refine g_region ?_
    refine gl_batch 1 [(4, .bool true)] rfl ?_
    refine gl_nil ?_
    refine gx_seq ?_
    refine g_ret ?_
    refine gx_seq_ret ?_
    obtain rfl := Option.some.inj h
    exact gx_fin rfl [.bool true] _ _ [] ⟨_, _, rfl, rfl, rfl⟩ rfl ⟨rfl, rfl, rfl⟩ (fun w hS => (hS.take 0).facts [] [] [] noItem noItem noItem) (Or.inl rfl)
  · replace h := condF hc h
    refine g_skip ?_
    refine gx_seq ?_
    refine g_seq ?_
    refine g_seq ?_
    refine g_region ?_
    refine gl_batch 1 [(12, str aT)] rfl ?_
    refine gl_slen (s := aT) rfl Ft9 rfl rfl ?_
    refine gl_batch 1 [(14, .bool (decide ((List.length aT : Int) > 1048576)))] rfl ?_
    refine gl_nil ?_
    refine gx_seq ?_
    refine g_cond (b := decide ((List.length aT : Int) > 1048576)) rfl (fun hc => ?_) (fun hc => ?_)
    · replace h := condT hc h
      refine g_seq ?_
      refine g_region ?_
      refine gl_batch 1 [(4, .bool true)] rfl ?_
      refine gl_nil ?_
      refine gx_seq ?_
      refine g_ret ?_
      refine gx_seq_ret ?_
      obtain rfl := Option.some.inj h
      exact gx_fin rfl [.bool true] _ _ [] ⟨_, _, rfl, rfl, rfl⟩ rfl ⟨rfl, rfl, rfl⟩ (fun w hS => (hS.take 0).facts [] [] [] noItem noItem noItem) (Or.inl rfl)
    · replace h := condF hc h
      refine g_skip ?_
      refine gx_seq ?_
      refine g_seq ?_
      refine g_region ?_
      refine gl_batch 2 [(17, str aT), (16, str aS)] rfl ?_
      obtain ⟨o1, ho1, h⟩ := bindS h
      refine gl_call rfl rfl (fun w => by kernel_rfl) (c_spec_FirstDifference aS aT ho1) (consItem (mem_at 0 rfl) (consItem (mem_at 1 rfl) (consItem (mem_at 2 rfl) (consItem (mem_at 3 rfl) noItem)))) noItem ?_
      rintro v outs ros ⟨rfl, rfl, rfl⟩
      refine ⟨_, rfl, ?_⟩
      refine gl_batch 5 [(6, .int .i64 o1.2), (5, .int .i64 o1.1), (20, .int .i64 o1.2), (19, .int .i64 o1.1), (15, .tuple #[.int .i64 o1.1, .int .i64 o1.2])] rfl ?_
      refine gl_nil ?_
      refine gx_seq ?_
      refine g_seq ?_
      refine g_region ?_
      refine gl_batch 2 [(23, str aT), (22, str aS)] rfl ?_
      obtain ⟨o2, ho2, h⟩ := bindS h
      refine gl_call rfl rfl (fun w => by kernel_rfl) (c_impl_FirstDifference aS aT ho2) (consItem (mem_at 0 rfl) (consItem (mem_at 1 rfl) (consItem (mem_at 2 rfl) (consItem (mem_at 3 rfl) noItem)))) noItem ?_
      rintro v outs ros ⟨rfl, rfl, rfl⟩
      refine ⟨_, rfl, ?_⟩
      refine gl_batch 5 [(8, .int .i64 o2.2), (7, .int .i64 o2.1), (26, .int .i64 o2.2), (25, .int .i64 o2.1), (21, .tuple #[.int .i64 o2.1, .int .i64 o2.2])] rfl ?_
      refine gl_nil ?_
      refine gx_seq ?_
      refine g_seq ?_
      refine g_seq ?_
      refine g_region ?_
      refine gl_batch 4 [(30, .bool (o2.1 != o1.1)), (29, .bool (o2.1 != o1.1)), (28, .int .i64 o1.1), (27, .int .i64 o2.1)] rfl ?_
      refine gl_join (EE := [(34, .bool ((o2.1 != o1.1) || (o2.2 != o1.2)))]) (RR := []) (XX := [gTab 3 pow10C, gNum 0, gErr 1, gErr 2]) (OO := []) (VV := []) 4 ?_ ?_
      · skip
        refine gl_case 30 rfl (fun hc => ?_) (fun hc => ?_)
        · skip
          refine gl_batch 4 [(34, .bool true), (33, undef), (32, undef), (31, undef)] rfl ?_
          refine gl_nil ?_
          exact gx_mid ⟨congrArg (fun z => some (Value.bool z)) (or_t hc).symm, trivial⟩ (fun w hS => hS)
        · skip
          refine gl_batch 4 [(34, .bool (o2.2 != o1.2)), (33, .bool (o2.2 != o1.2)), (32, .int .i64 o1.2), (31, .int .i64 o2.2)] rfl ?_
          refine gl_nil ?_
          exact gx_mid ⟨congrArg (fun z => some (Value.bool z)) (or_f hc).symm, trivial⟩ (fun w hS => hS)
      · skip
        refine gl_nil ?_
        refine gx_seq ?_
        refine g_cond (b := (o2.1 != o1.1) || (o2.2 != o1.2)) rfl (fun hc => ?_) (fun hc => ?_)
        · replace h := condT hc h
          refine g_seq ?_
          refine g_region ?_
          refine gl_batch 1 [(4, .bool false)] rfl ?_
          refine gl_nil ?_
          refine gx_seq ?_
          refine g_ret ?_
          refine gx_seq_ret ?_
          obtain rfl := Option.some.inj h
          exact gx_fin rfl [.bool false] _ _ [] ⟨_, _, rfl, rfl, rfl⟩ rfl ⟨rfl, rfl, rfl⟩ (fun w hS => (hS.take 0).facts [] [] [] noItem noItem noItem) (Or.inl rfl)
        · replace h := condF hc h
          refine g_skip ?_
          refine gx_seq ?_
          refine g_seq ?_
          refine g_region ?_
          refine gl_batch 1 [(4, .bool true)] rfl ?_
          refine gl_nil ?_
          refine gx_seq ?_
          refine g_ret ?_
          obtain rfl := Option.some.inj h
          exact gx_fin rfl [.bool true] _ _ [] ⟨_, _, rfl, rfl, rfl⟩ rfl ⟨rfl, rfl, rfl⟩ (fun w hS => (hS.take 0).facts [] [] [] noItem noItem noItem) (Or.inl rfl)

end Go.Proofs.YtneifoepoccjaaaDoor
