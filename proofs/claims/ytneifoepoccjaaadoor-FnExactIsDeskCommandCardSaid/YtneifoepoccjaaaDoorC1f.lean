/-
  What each function gives when it is called: the contracts, each with the walk through its code. Written by a program of ours.
-/
import Derived.Test.YtneifoepoccjaaaDoorC10
import Derived.Test.YtneifoepoccjaaaDoorC1c
import Derived.Test.YtneifoepoccjaaaDoorC1d
import Derived.Test.YtneifoepoccjaaaDoorC1e
namespace Go.Proofs.YtneifoepoccjaaaDoor
open Go Go.Proofs Go.Shelf
set_option maxHeartbeats 16000000
theorem c_impl_RecoverTrace (s : List UInt8)  {r : List Firing × Int} (h : impl_RecoverTrace s = some r) : CallOK Tryd.prog 23 [str s] [] [gTab 3 pow10C, gNum 0, gErr 1, gErr 2] [] (fun v outs ros => ∃ (a0 : Option Addr), ∃ (c0 : Nat), v = .tuple #[.slice a0 (List.length r.1) c0, .int .i64 r.2] ∧ outs = [SL false 47 FiringS a0 c0 r.1] ∧ ros = []) := by
  refine fn_ok Tryd.func23 rfl Tryd.ntmps23 rfl (fun c hF0 => ?_)
  unfold impl_RecoverTrace at h
  refine g_seq ?_
  refine g_region ?_
  refine gl_batch 2 [(3, .int .i64 0), (2, .slice none 0 0)] rfl ?_
  refine gl_nil ?_
  refine gx_seq ?_
  refine g_seq ?_
  refine g_seq ?_
  refine g_region ?_
  refine gl_batch 1 [(6, str s)] rfl ?_
  refine gl_slen (s := s) rfl Ft9 rfl rfl ?_
  refine gl_batch 1 [(8, .bool (decide ((List.length s : Int) > 20000)))] rfl ?_
  refine gl_nil ?_
  refine gx_seq ?_
  refine g_cond (b := decide ((List.length s : Int) > 20000)) rfl (fun hc => ?_) (fun hc => ?_)
  · replace h := condT hc h
    refine g_seq ?_
    refine g_region ?_
    refine gl_batch 2 [(3, .int .i64 3), (2, .slice none 0 0)] rfl ?_
    refine gl_nil ?_
    refine gx_seq ?_
    refine g_ret ?_
    refine gx_seq_ret ?_
    obtain rfl := Option.some.inj h
    exact gx_fin rfl [.slice none 0 0, .int .i64 3] _ _ [] ⟨_, _, rfl, rfl, _, _, rfl, rfl, rfl⟩ rfl ⟨none, 0, rfl, rfl, rfl⟩ (fun w hS => ((hS.nil false 47 FiringS).take 1).facts [] [] [] noItem noItem noItem) (Or.inl rfl)
  · replace h := condF hc h
    refine g_skip ?_
    refine gx_seq ?_
    refine g_seq ?_
    refine g_region ?_
    refine gl_batch 1 [(10, str s)] rfl ?_
    obtain ⟨o1, ho1, h⟩ := bindS h
    refine gl_call rfl rfl (fun w => by kernel_rfl) (c_impl_recoverTrace s ho1) (consItem (mem_at 0 rfl) (consItem (mem_at 1 rfl) (consItem (mem_at 2 rfl) (consItem (mem_at 3 rfl) noItem)))) noItem ?_
    rintro v outs ros ⟨a_v2, c_v3, rfl, rfl, rfl⟩
    refine ⟨_, rfl, ?_⟩
    refine gl_batch 5 [(5, .int .i64 o1.2), (4, .slice a_v2 (List.length o1.1) c_v3), (13, .int .i64 o1.2), (12, .slice a_v2 (List.length o1.1) c_v3), (9, .tuple #[.slice a_v2 (List.length o1.1) c_v3, .int .i64 o1.2])] rfl ?_
    refine gl_nil ?_
    refine gx_seq ?_
    refine g_seq ?_
    refine g_region ?_
    refine gl_batch 3 [(3, .int .i64 0), (2, .slice a_v2 (List.length o1.1) c_v3), (14, .slice a_v2 (List.length o1.1) c_v3)] rfl ?_
    refine gl_nil ?_
    refine gx_seq ?_
    refine g_ret ?_
    obtain rfl := Option.some.inj h
    exact gx_fin rfl [.slice a_v2 (List.length o1.1) c_v3, .int .i64 0] _ _ [] ⟨_, _, rfl, rfl, _, _, rfl, rfl, rfl⟩ rfl ⟨a_v2, c_v3, rfl, rfl, rfl⟩ (fun w hS => (hS.take 1).facts [] [] [] noItem noItem noItem) (Or.inl rfl)

theorem c_impl_AppendFiring (s : List UInt8) (f : Firing)  {r : List UInt8 × Int} (h : impl_AppendFiring s f = some r) : CallOK Tryd.prog 28 [str s, .agg #[.int .i64 f.Event, .int .i64 f.Number, .int .i64 f.Time]] [] [gTab 3 pow10C, gNum 0, gErr 1, gErr 2] [] (fun v outs ros => v = .tuple #[str r.1, .int .i64 r.2] ∧ outs = [] ∧ ros = []) := by
  refine fn_ok Tryd.func28 rfl Tryd.ntmps28 rfl (fun c hF0 => ?_)
  unfold impl_AppendFiring at h
  refine g_seq ?_
  refine g_region ?_
  refine gl_new (d := 3) (T := 47) [.int .i64 f.Event, .int .i64 f.Number, .int .i64 f.Time] rfl rfl (fun _ => rfl) (fun w => by kernel_rfl) ?_
  intro b1
  refine gl_batch 2 [(5, .int .i64 0), (4, str [])] rfl ?_
  refine gl_nil ?_
  refine gx_seq ?_
  refine g_seq ?_
  refine g_region ?_
  refine gl_batch 1 [(11, str s)] rfl ?_
  obtain ⟨o2, ho2, h⟩ := bindS h
  refine gl_call rfl rfl (fun w => by kernel_rfl) (c_impl_recoverTrace s ho2) (consItem (mem_at 0 rfl) (consItem (mem_at 1 rfl) (consItem (mem_at 2 rfl) (consItem (mem_at 3 rfl) noItem)))) noItem ?_
  rintro v outs ros ⟨a_v3, c_v4, rfl, rfl, rfl⟩
  refine ⟨_, rfl, ?_⟩
  refine gl_batch 5 [(7, .int .i64 o2.2), (6, .slice a_v3 (List.length o2.1) c_v4), (14, .int .i64 o2.2), (13, .slice a_v3 (List.length o2.1) c_v4), (10, .tuple #[.slice a_v3 (List.length o2.1) c_v4, .int .i64 o2.2])] rfl ?_
  refine gl_nil ?_
  refine gx_seq ?_
  refine g_seq ?_
  refine g_seq ?_
  refine g_region ?_
  refine gl_batch 2 [(16, str s), (15, .int .i64 o2.2)] rfl ?_
  refine gl_slen (s := s) rfl Ft9 rfl rfl ?_
  refine gl_batch 1 [(18, .bool (o2.2 != (List.length s : Int)))] rfl ?_
  refine gl_nil ?_
  refine gx_seq ?_
  refine g_cond (b := o2.2 != (List.length s : Int)) rfl (fun hc => ?_) (fun hc => ?_)
  · replace h := condT hc h
    refine g_seq ?_
    refine g_region ?_
    refine gl_batch 2 [(5, .int .i64 6), (4, str [])] rfl ?_
    refine gl_nil ?_
    refine gx_seq ?_
    refine g_ret ?_
    refine gx_seq_ret ?_
    obtain rfl := Option.some.inj h
    exact gx_fin rfl [str [], .int .i64 6] _ _ [] ⟨_, _, rfl, rfl, _, _, rfl, rfl, rfl⟩ rfl ⟨rfl, rfl, rfl⟩ (fun w hS => (hS.take 0).facts [] [] [] noItem noItem noItem) (Or.inl rfl)
  · replace h := condF hc h
    refine g_skip ?_
    refine gx_seq ?_
    refine g_seq ?_
    refine g_seq ?_
    refine g_region ?_
    refine gl_ldA (vs := [.int .i64 f.Event, .int .i64 f.Number, .int .i64 f.Time]) 0 hasBK (mem_at 1 rfl) rfl rfl Fm47 Fz47 rfl rfl rfl ?_
    refine gl_lit (m := 3) (d := 20) (T := 47) (enc := FiringE) (hn := fun _ => rfl) false [f] rfl rfl (fun _ => rfl) nofun (Nat.le_of_ble_eq_true rfl) (fun w => by kernel_rfl) ?_
    intro a_v5 c_v6
    obtain ⟨o7, ho7, h⟩ := bindS h
    refine gl_call rfl rfl (fun w => by kernel_rfl) (c_impl_isWritable [f] a_v5 c_v6 ho7) (consItem (mem_at 0 rfl) (consItem (mem_at 1 rfl) (consItem (mem_at 2 rfl) (consItem (mem_at 3 rfl) noItem)))) (consItem (mem_at 0 rfl) noItem) ?_
    rintro v outs ros ⟨rfl, rfl, rfl⟩
    refine ⟨_, rfl, ?_⟩
    refine gl_batch 1 [(22, .bool (!o7))] rfl ?_
    refine gl_nil ?_
    refine gx_seq ?_
    refine g_cond (b := !o7) rfl (fun hc => ?_) (fun hc => ?_)
    · replace h := condT hc h
      refine g_seq ?_
      refine g_region ?_
      refine gl_batch 2 [(5, .int .i64 2), (4, str [])] rfl ?_
      refine gl_nil ?_
      refine gx_seq ?_
      refine g_ret ?_
      refine gx_seq_ret ?_
      obtain rfl := Option.some.inj h
      exact gx_fin rfl [str [], .int .i64 2] _ _ [] ⟨_, _, rfl, rfl, _, _, rfl, rfl, rfl⟩ rfl ⟨rfl, rfl, rfl⟩ (fun w hS => (hS.take 0).facts [] [] [] noItem noItem noItem) (Or.inl rfl)
    · replace h := condF hc h
      refine g_skip ?_
      refine gx_seq ?_
      refine g_seq ?_
      refine g_seq ?_
      refine g_region ?_
      refine gl_batch 1 [(23, .slice a_v3 (List.length o2.1) c_v4)] rfl ?_
      refine gl_len rfl Fs26 rfl rfl ?_
      refine gl_batch 1 [(25, .bool ((List.length o2.1 : Int) == 500))] rfl ?_
      refine gl_nil ?_
      refine gx_seq ?_
      refine g_cond (b := (List.length o2.1 : Int) == 500) rfl (fun hc => ?_) (fun hc => ?_)
      · replace h := condT hc h
        refine g_seq ?_
        refine g_region ?_
        refine gl_batch 2 [(5, .int .i64 3), (4, str [])] rfl ?_
        refine gl_nil ?_
        refine gx_seq ?_
        refine g_ret ?_
        refine gx_seq_ret ?_
        obtain rfl := Option.some.inj h
        exact gx_fin rfl [str [], .int .i64 3] _ _ [] ⟨_, _, rfl, rfl, _, _, rfl, rfl, rfl⟩ rfl ⟨rfl, rfl, rfl⟩ (fun w hS => (hS.take 0).facts [] [] [] noItem noItem noItem) (Or.inl rfl)
      · replace h := condF hc h
        refine g_skip ?_
        refine gx_seq ?_
        refine g_seq ?_
        refine g_region ?_
        refine gl_batch 1 [(27, .slice a_v3 (List.length o2.1) c_v4)] rfl ?_
        refine gl_ldA (vs := [.int .i64 f.Event, .int .i64 f.Number, .int .i64 f.Time]) 0 hasBK (mem_at 2 rfl) rfl rfl Fm47 Fz47 rfl rfl rfl ?_
        refine gl_lit (m := 3) (d := 29) (T := 47) (enc := FiringE) (hn := fun _ => rfl) false [f] rfl rfl (fun _ => rfl) nofun (Nat.le_of_ble_eq_true rfl) (fun w => by kernel_rfl) ?_
        intro a_v8 c_v9
        refine gl_pick 2 rfl ?_
        obtain ⟨z10, hz10, h⟩ := bindS h
        refine gl_appn (mem_at 1 rfl) rfl rfl Fs26 Fi47 rfl rfl (fun _ => rfl) hz10 rfl rfl ?_
        intro a_v11 c_v12
        obtain ⟨o13, ho13, h⟩ := bindS h
        refine gl_call rfl rfl (fun w => by kernel_rfl) (c_impl_traceText z10 a_v11 c_v12 ho13) (consItem (mem_at 0 rfl) (consItem (mem_at 1 rfl) (consItem (mem_at 2 rfl) (consItem (mem_at 3 rfl) noItem)))) (consItem (mem_at 0 rfl) noItem) ?_
        rintro v outs ros ⟨rfl, rfl, rfl⟩
        refine ⟨_, rfl, ?_⟩
        refine gl_batch 5 [(9, .int .i64 o13.2), (8, str o13.1), (33, .int .i64 o13.2), (32, str o13.1), (26, .tuple #[str o13.1, .int .i64 o13.2])] rfl ?_
        refine gl_nil ?_
        refine gx_seq ?_
        refine g_seq ?_
        refine g_region ?_
        refine gl_batch 3 [(5, .int .i64 0), (4, str o13.1), (34, str o13.1)] rfl ?_
        refine gl_nil ?_
        refine gx_seq ?_
        refine g_ret ?_
        obtain rfl := Option.some.inj h
        exact gx_fin rfl [str o13.1, .int .i64 0] _ _ [] ⟨_, _, rfl, rfl, _, _, rfl, rfl, rfl⟩ rfl ⟨rfl, rfl, rfl⟩ (fun w hS => (hS.take 0).facts [] [] [] noItem noItem noItem) (Or.inl rfl)

theorem c_laws_FnExactIsDeskCommand (aLine : List UInt8)  {r : Bool} (h : laws_FnExactIsDeskCommand aLine = some r) : CallOK Tryd.prog 5 [str aLine] [] [gTab 3 pow10C, gNum 0, gErr 1, gErr 2] [] (fun v outs ros => v = .bool r ∧ outs = [] ∧ ros = []) := by
  refine fn_ok Tryd.func5 rfl Tryd.ntmps5 rfl (fun c hF0 => ?_)
  unfold laws_FnExactIsDeskCommand at h
  refine g_seq ?_
  refine g_region ?_
  refine gl_batch 1 [(2, .bool false)] rfl ?_
  refine gl_nil ?_
  refine gx_seq ?_
  refine g_seq ?_
  refine g_seq ?_
  refine g_region ?_
  refine gl_batch 1 [(5, str aLine)] rfl ?_
  refine gl_slen (s := aLine) rfl Ft9 rfl rfl ?_
  refine gl_batch 1 [(7, .bool (decide ((List.length aLine : Int) > 1048576)))] rfl ?_
  refine gl_nil ?_
  refine gx_seq ?_
  refine g_cond (b := decide ((List.length aLine : Int) > 1048576)) rfl (fun hc => ?_) (fun hc => ?_)
  · replace h := condT hc h
    refine g_seq ?_
    refine g_region ?_
    refine gl_batch 1 [(2, .bool true)] rfl ?_
    refine gl_nil ?_
    refine gx_seq ?_
    refine g_ret ?_
    refine gx_seq_ret ?_
    obtain rfl := Option.some.inj h
    exact gx_fin rfl [.bool true] _ _ [] ⟨_, _, rfl, rfl, rfl⟩ rfl ⟨rfl, rfl, rfl⟩ (fun w hS => (hS.take 0).facts [] [] [] noItem noItem noItem) (Or.inl rfl)
  · replace h := condF hc h
    refine g_skip ?_
    refine gx_seq ?_
    refine g_seq ?_
    refine g_region ?_
    refine gl_batch 1 [(8, str aLine)] rfl ?_
    obtain ⟨o1, ho1, h⟩ := bindS h
    refine gl_call rfl rfl (fun w => by kernel_rfl) (c_spec_IsDeskCommand aLine ho1) (consItem (mem_at 0 rfl) (consItem (mem_at 1 rfl) (consItem (mem_at 2 rfl) (consItem (mem_at 3 rfl) noItem)))) noItem ?_
    rintro v outs ros ⟨rfl, rfl, rfl⟩
    refine ⟨_, rfl, ?_⟩
    refine gl_batch 1 [(3, .bool o1)] rfl ?_
    refine gl_nil ?_
    refine gx_seq ?_
    refine g_seq ?_
    refine g_region ?_
    refine gl_batch 1 [(10, str aLine)] rfl ?_
    obtain ⟨o2, ho2, h⟩ := bindS h
    refine gl_call rfl rfl (fun w => by kernel_rfl) (c_impl_IsDeskCommand aLine ho2) (consItem (mem_at 0 rfl) (consItem (mem_at 1 rfl) (consItem (mem_at 2 rfl) (consItem (mem_at 3 rfl) noItem)))) noItem ?_
    rintro v outs ros ⟨rfl, rfl, rfl⟩
    refine ⟨_, rfl, ?_⟩
    refine gl_batch 1 [(4, .bool o2)] rfl ?_
    refine gl_nil ?_
    refine gx_seq ?_
    refine g_seq ?_
    refine g_seq ?_
    refine g_region ?_
    refine gl_batch 2 [(13, .bool o1), (12, .bool o2)] rfl ?_
    refine gl_bne rfl rfl Fb4 rfl rfl ?_
    refine gl_nil ?_
    refine gx_seq ?_
    refine g_cond (b := o2 != o1) rfl (fun hc => ?_) (fun hc => ?_)
    · replace h := condT hc h
      refine g_seq ?_
      refine g_region ?_
      refine gl_batch 1 [(2, .bool false)] rfl ?_
      refine gl_nil ?_
      refine gx_seq ?_
      refine g_ret ?_
      refine gx_seq_ret ?_
      obtain rfl := Option.some.inj h
      exact gx_fin rfl [.bool false] _ _ [] ⟨_, _, rfl, rfl, rfl⟩ rfl ⟨rfl, rfl, rfl⟩ (fun w hS => (hS.take 0).facts [] [] [] noItem noItem noItem) (Or.inl rfl)
    · replace h := condF hc h
      refine g_skip ?_
      refine gx_seq ?_
      refine g_seq ?_
      refine g_region ?_
      refine gl_batch 1 [(2, .bool true)] rfl ?_
      refine gl_nil ?_
      refine gx_seq ?_
      refine g_ret ?_
      obtain rfl := Option.some.inj h
      exact gx_fin rfl [.bool true] _ _ [] ⟨_, _, rfl, rfl, rfl⟩ rfl ⟨rfl, rfl, rfl⟩ (fun w hS => (hS.take 0).facts [] [] [] noItem noItem noItem) (Or.inl rfl)

end Go.Proofs.YtneifoepoccjaaaDoor
