/-
  What each function gives when it is called: the contracts, each with the walk through its code. Written by a program of ours.
-/
import Derived.Test.YtneifoepoccjaaaGreatDoorC20
import Derived.Test.YtneifoepoccjaaaGreatDoorC2a
import Derived.Test.YtneifoepoccjaaaGreatDoorC2b
import Derived.Test.YtneifoepoccjaaaGreatDoorC2c
import Derived.Test.YtneifoepoccjaaaGreatDoorC2d
namespace Go.Proofs.YtneifoepoccjaaaGreatDoor
open Go Go.Proofs Go.Shelf
set_option maxHeartbeats 16000000
theorem c_spec_DrawTraceText (code : List Int) (a_code : Option Addr) (c_code : Nat) {r : List Firing} (h : spec_DrawTraceText code = some r) : CallOK Tryz.prog 7 [.slice a_code (List.length code) c_code] [] [gTab 3 pow10C, gNum 0, gErr 1, gErr 2] [SL false 5 (intS .u8) a_code c_code code] (fun v outs ros => ∃ (a0 : Option Addr), ∃ (c0 : Nat), v = .slice a0 (List.length r) c0 ∧ outs = [SL false 39 FiringS a0 c0 r] ∧ ros = []) := by
  refine fn_ok Tryz.func7 rfl Tryz.ntmps7 rfl (fun c hF0 => ?_)
  unfold spec_DrawTraceText at h
  refine g_sr ?_
  refine gl_batch 1 [(2, .slice none 0 0)] rfl ?_
  refine gl_nx ?_
  refine gl_batch 1 [(3, .slice a_code (List.length code) c_code)] rfl ?_
  obtain ⟨o1, ho1, h⟩ := bindS h
  refine gl_call rfl rfl (fun w => by kernel_rfl) (c_spec_l01From code a_code c_code ho1) (consItem (mem_at 0 rfl) (consItem (mem_at 1 rfl) (consItem (mem_at 2 rfl) (consItem (mem_at 3 rfl) noItem)))) (consItem (mem_at 0 rfl) noItem) ?_
  rintro v outs ros ⟨b2, rfl, rfl, rfl⟩
  refine ⟨_, rfl, ?_⟩
  obtain ⟨o3, ho3, h⟩ := bindS h
  refine gl_callR rfl rfl (fun w => by kernel_rfl) (c_spec_l28Draw (⟨code, o1.at_v, o1.seed⟩ : Src) b2 a_code c_code ho3) rfl (consItem (mem_at 0 rfl) (consItem (mem_at 1 rfl) (consItem (mem_at 2 rfl) (consItem (mem_at 3 rfl) noItem)))) (consItem (mem_at 0 rfl) noItem) ?_
  rintro v outs ros ⟨a_v4, c_v5, rfl, rfl, rfl⟩
  refine ⟨_, rfl, ?_⟩
  refine gl_batch 1 [(2, .slice a_v4 (List.length o3.1) c_v5)] rfl ?_
  refine gl_ns ?_
  refine g_ret ?_
  obtain rfl := Option.some.inj h
  exact gx_fin rfl [.slice a_v4 (List.length o3.1) c_v5] _ _ [] ⟨_, _, rfl, rfl, rfl⟩ rfl ⟨a_v4, c_v5, rfl, rfl, rfl⟩ (fun w hS => (hS.take 1).facts [] [] [] noItem noItem noItem) (Or.inl rfl)

theorem c_impl_TraceText (run : List Firing) (a_run : Option Addr) (c_run : Nat) {r : List UInt8 × Int} (h : impl_TraceText run = some r) : CallOK Tryz.prog 8 [.slice a_run (List.length run) c_run] [] [gTab 3 pow10C, gNum 0, gErr 1, gErr 2] [SL false 39 FiringS a_run c_run run] (fun v outs ros => v = .tuple #[str r.1, .int .i64 r.2] ∧ outs = [] ∧ ros = []) := by
  refine fn_ok Tryz.func8 rfl Tryz.ntmps8 rfl (fun c hF0 => ?_)
  unfold impl_TraceText at h
  refine g_sr ?_
  refine gl_batch 2 [(3, .int .i64 0), (2, str [])] rfl ?_
  refine gl_ns ?_
  refine g_seq ?_
  refine g_sr ?_
  refine gl_batch 1 [(6, .slice a_run (List.length run) c_run)] rfl ?_
  obtain ⟨o1, ho1, h⟩ := bindS h
  refine gl_call rfl rfl (fun w => by kernel_rfl) (c_impl_isWritable run a_run c_run ho1) (consItem (mem_at 0 rfl) (consItem (mem_at 1 rfl) (consItem (mem_at 2 rfl) (consItem (mem_at 3 rfl) noItem)))) (consItem (mem_at 0 rfl) noItem) ?_
  rintro v outs ros ⟨rfl, rfl, rfl⟩
  refine ⟨_, rfl, ?_⟩
  refine gl_batch 1 [(8, .bool (!o1))] rfl ?_
  refine gl_ns ?_
  refine g_cond (b := !o1) rfl (fun hc => ?_) (fun hc => ?_)
  · replace h := condT hc h
    refine g_sr ?_
    refine gl_batch 2 [(3, .int .i64 2), (2, str [])] rfl ?_
    refine gl_ns ?_
    refine g_ret ?_
    refine gx_seq_ret ?_
    obtain rfl := Option.some.inj h
    exact gx_fin rfl [str [], .int .i64 2] _ _ [] ⟨_, _, rfl, rfl, _, _, rfl, rfl, rfl⟩ rfl ⟨rfl, rfl, rfl⟩ (fun w hS => (hS.take 0).facts [] [] [] noItem noItem noItem) (Or.inl rfl)
  · replace h := condF hc h
    refine g_skip ?_
    refine gx_seq ?_
    refine g_sr ?_
    refine gl_batch 1 [(10, .slice a_run (List.length run) c_run)] rfl ?_
    obtain ⟨o2, ho2, h⟩ := bindS h
    refine gl_call rfl rfl (fun w => by kernel_rfl) (c_impl_traceText run a_run c_run ho2) (consItem (mem_at 0 rfl) (consItem (mem_at 1 rfl) (consItem (mem_at 2 rfl) (consItem (mem_at 3 rfl) noItem)))) (consItem (mem_at 0 rfl) noItem) ?_
    rintro v outs ros ⟨rfl, rfl, rfl⟩
    refine ⟨_, rfl, ?_⟩
    refine gl_batch 5 [(5, .int .i64 o2.2), (4, str o2.1), (13, .int .i64 o2.2), (12, str o2.1), (9, .tuple #[str o2.1, .int .i64 o2.2])] rfl ?_
    refine gl_nx ?_
    refine gl_batch 3 [(3, .int .i64 0), (2, str o2.1), (14, str o2.1)] rfl ?_
    refine gl_ns ?_
    refine g_ret ?_
    obtain rfl := Option.some.inj h
    exact gx_fin rfl [str o2.1, .int .i64 0] _ _ [] ⟨_, _, rfl, rfl, _, _, rfl, rfl, rfl⟩ rfl ⟨rfl, rfl, rfl⟩ (fun w hS => (hS.take 0).facts [] [] [] noItem noItem noItem) (Or.inl rfl)

theorem c_impl_ChainAfter (run : List Firing) (a_run : Option Addr) (c_run : Nat) {r : Int × Int} (h : impl_ChainAfter run = some r) : CallOK Tryz.prog 10 [.slice a_run (List.length run) c_run] [] [gTab 3 pow10C, gNum 0, gErr 1, gErr 2] [SL false 39 FiringS a_run c_run run] (fun v outs ros => v = .tuple #[.int .i64 r.1, .int .i64 r.2] ∧ outs = [] ∧ ros = []) := by
  refine fn_ok Tryz.func10 rfl Tryz.ntmps10 rfl (fun c hF0 => ?_)
  unfold impl_ChainAfter at h
  refine g_sr ?_
  refine gl_batch 2 [(3, .int .i64 0), (2, .int .i64 0)] rfl ?_
  refine gl_ns ?_
  refine g_seq ?_
  refine g_sr ?_
  refine gl_batch 1 [(6, .slice a_run (List.length run) c_run)] rfl ?_
  obtain ⟨o1, ho1, h⟩ := bindS h
  refine gl_call rfl rfl (fun w => by kernel_rfl) (c_impl_isWritable run a_run c_run ho1) (consItem (mem_at 0 rfl) (consItem (mem_at 1 rfl) (consItem (mem_at 2 rfl) (consItem (mem_at 3 rfl) noItem)))) (consItem (mem_at 0 rfl) noItem) ?_
  rintro v outs ros ⟨rfl, rfl, rfl⟩
  refine ⟨_, rfl, ?_⟩
  refine gl_batch 1 [(8, .bool (!o1))] rfl ?_
  refine gl_ns ?_
  refine g_cond (b := !o1) rfl (fun hc => ?_) (fun hc => ?_)
  · replace h := condT hc h
    refine g_sr ?_
    refine gl_batch 2 [(3, .int .i64 2), (2, .int .i64 0)] rfl ?_
    refine gl_ns ?_
    refine g_ret ?_
    refine gx_seq_ret ?_
    obtain rfl := Option.some.inj h
    exact gx_fin rfl [.int .i64 0, .int .i64 2] _ _ [] ⟨_, _, rfl, rfl, _, _, rfl, rfl, rfl⟩ rfl ⟨rfl, rfl, rfl⟩ (fun w hS => (hS.take 0).facts [] [] [] noItem noItem noItem) (Or.inl rfl)
  · replace h := condF hc h
    refine g_skip ?_
    refine gx_seq ?_
    refine g_sr ?_
    refine gl_batch 1 [(10, .slice a_run (List.length run) c_run)] rfl ?_
    obtain ⟨o2, ho2, h⟩ := bindS h
    refine gl_call rfl rfl (fun w => by kernel_rfl) (c_impl_traceText run a_run c_run ho2) (consItem (mem_at 0 rfl) (consItem (mem_at 1 rfl) (consItem (mem_at 2 rfl) (consItem (mem_at 3 rfl) noItem)))) (consItem (mem_at 0 rfl) noItem) ?_
    rintro v outs ros ⟨rfl, rfl, rfl⟩
    refine ⟨_, rfl, ?_⟩
    refine gl_batch 5 [(5, .int .i64 o2.2), (4, str o2.1), (13, .int .i64 o2.2), (12, str o2.1), (9, .tuple #[str o2.1, .int .i64 o2.2])] rfl ?_
    refine gl_nx ?_
    refine gl_batch 3 [(3, .int .i64 0), (2, .int .i64 o2.2), (14, .int .i64 o2.2)] rfl ?_
    refine gl_ns ?_
    refine g_ret ?_
    obtain rfl := Option.some.inj h
    exact gx_fin rfl [.int .i64 o2.2, .int .i64 0] _ _ [] ⟨_, _, rfl, rfl, _, _, rfl, rfl, rfl⟩ rfl ⟨rfl, rfl, rfl⟩ (fun w hS => (hS.take 0).facts [] [] [] noItem noItem noItem) (Or.inl rfl)

theorem c_spec_l28DrawText (s : Src) (b_s : Nat) (a_s_code : Option Addr) (c_s_code : Nat) {r : List UInt8 × Src} (h : spec_l28DrawText s = some r) : CallOK Tryz.prog 42 [.pointer (some ⟨b_s, 0, none⟩)] [BK 89 b_s [.slice a_s_code (List.length s.code) c_s_code, .int .i64 s.at_v, .int .i64 s.seed]] [gTab 3 pow10C, gNum 0, gErr 1, gErr 2] [SL false 5 (intS .u8) a_s_code c_s_code s.code] (fun v outs ros => v = str r.1 ∧ outs = [BK 89 b_s [.slice a_s_code (List.length s.code) c_s_code, .int .i64 r.2.at_v, .int .i64 r.2.seed]] ∧ ros = []) := by
  refine fn_ok Tryz.func42 rfl Tryz.ntmps42 rfl (fun c hF0 => ?_)
  unfold spec_l28DrawText at h
  refine g_sr ?_
  refine gl_batch 1 [(2, str [])] rfl ?_
  refine gl_nx ?_
  refine gl_batch 1 [(6, .pointer (some ⟨b_s, 0, none⟩))] rfl ?_
  obtain ⟨o1, ho1, h⟩ := bindS h
  refine gl_callR rfl rfl (fun w => by kernel_rfl) (c_spec_l28Draw s b_s a_s_code c_s_code ho1) rfl (consItem (mem_at 0 rfl) (consItem (mem_at 1 rfl) (consItem (mem_at 2 rfl) (consItem (mem_at 3 rfl) noItem)))) (consItem (mem_at 0 rfl) noItem) ?_
  rintro v outs ros ⟨a_v2, c_v3, rfl, rfl, rfl⟩
  refine ⟨_, rfl, ?_⟩
  obtain ⟨o4, ho4, h⟩ := bindS h
  refine gl_call rfl rfl (fun w => by kernel_rfl) (c_spec_TraceText o1.1 a_v2 c_v3 ho4) (consItem (mem_at 0 rfl) (consItem (mem_at 1 rfl) (consItem (mem_at 2 rfl) (consItem (mem_at 3 rfl) noItem)))) (consItem (mem_at 0 rfl) noItem) ?_
  rintro v outs ros ⟨rfl, rfl, rfl⟩
  refine ⟨_, rfl, ?_⟩
  refine gl_batch 5 [(4, .int .i64 o4.2), (3, str o4.1), (10, .int .i64 o4.2), (9, str o4.1), (5, .tuple #[str o4.1, .int .i64 o4.2])] rfl ?_
  refine gl_ns ?_
  refine g_seq ?_
  refine g_sr ?_
  refine gl_batch 1 [(11, .pointer (some ⟨b_s, 0, none⟩))] rfl ?_
  obtain ⟨o5, ho5, h⟩ := bindS h
  refine gl_pick 1 rfl ?_
  refine gl_callR rfl rfl (fun w => by kernel_rfl) (c_spec_l01Next (⟨s.code, o1.2.at_v, o1.2.seed⟩ : Src) 3 b_s a_s_code c_s_code ho5) rfl (consItem (mem_at 0 rfl) (consItem (mem_at 1 rfl) (consItem (mem_at 2 rfl) (consItem (mem_at 3 rfl) noItem)))) (consItem (mem_at 1 rfl) noItem) ?_
  rintro v outs ros ⟨rfl, rfl, rfl⟩
  refine ⟨_, rfl, ?_⟩
  refine gl_batch 1 [(13, .bool (o5.1 == 0))] rfl ?_
  refine gl_ns ?_
  refine g_cond (b := o5.1 == 0) rfl (fun hc => ?_) (fun hc => ?_)
  · replace h := condT hc h
    refine g_sr ?_
    refine gl_batch 2 [(15, str o4.1), (14, .pointer (some ⟨b_s, 0, none⟩))] rfl ?_
    obtain ⟨o6, ho6, h⟩ := bindS h
    refine gl_callR rfl rfl (fun w => by kernel_rfl) (c_spec_l01Damage (⟨s.code, o5.2.at_v, o5.2.seed⟩ : Src) o4.1 b_s a_s_code c_s_code ho6) rfl (consItem (mem_at 0 rfl) (consItem (mem_at 1 rfl) (consItem (mem_at 2 rfl) (consItem (mem_at 3 rfl) noItem)))) (consItem (mem_at 1 rfl) noItem) ?_
    rintro v outs ros ⟨rfl, rfl, rfl⟩
    refine ⟨_, rfl, ?_⟩
    refine gl_batch 1 [(2, str o6.1)] rfl ?_
    refine gl_ns ?_
    refine g_ret ?_
    refine gx_seq_ret ?_
    obtain rfl := Option.some.inj h
    exact gx_fin rfl [str o6.1] _ _ [] ⟨_, _, rfl, rfl, rfl⟩ rfl ⟨rfl, rfl, rfl⟩ (fun w hS => (hS.take 1).facts [] [] [] noItem noItem noItem) (Or.inl rfl)
  · replace h := condF hc h
    refine g_skip ?_
    refine gx_seq ?_
    refine g_seq ?_
    refine g_sr ?_
    refine gl_batch 1 [(17, .pointer (some ⟨b_s, 0, none⟩))] rfl ?_
    obtain ⟨o7, ho7, h⟩ := bindS h
    refine gl_callR rfl rfl (fun w => by kernel_rfl) (c_spec_l01Next (⟨s.code, o5.2.at_v, o5.2.seed⟩ : Src) 60 b_s a_s_code c_s_code ho7) rfl (consItem (mem_at 0 rfl) (consItem (mem_at 1 rfl) (consItem (mem_at 2 rfl) (consItem (mem_at 3 rfl) noItem)))) (consItem (mem_at 1 rfl) noItem) ?_
    rintro v outs ros ⟨rfl, rfl, rfl⟩
    refine ⟨_, rfl, ?_⟩
    refine gl_batch 1 [(19, .bool (o7.1 == 0))] rfl ?_
    refine gl_ns ?_
    refine g_cond (b := o7.1 == 0) rfl (fun hc => ?_) (fun hc => ?_)
    · replace h := condT hc h
      refine g_sr ?_
      refine gl_batch 1 [(20, .pointer (some ⟨b_s, 0, none⟩))] rfl ?_
      obtain ⟨o8, ho8, h⟩ := bindS h
      refine gl_callR rfl rfl (fun w => by kernel_rfl) (c_spec_l01Next (⟨s.code, o7.2.at_v, o7.2.seed⟩ : Src) 2 b_s a_s_code c_s_code ho8) rfl (consItem (mem_at 0 rfl) (consItem (mem_at 1 rfl) (consItem (mem_at 2 rfl) (consItem (mem_at 3 rfl) noItem)))) (consItem (mem_at 1 rfl) noItem) ?_
      rintro v outs ros ⟨rfl, rfl, rfl⟩
      refine ⟨_, rfl, ?_⟩
      refine gl_batch 1 [(22, .int .i64 (IntKind.i64.wrap (20000 + o8.1)))] rfl ?_
      obtain ⟨z9, hz9, h⟩ := bindS h
      refine gl_mk (enc := fun x => [.int .u8 x]) (hn := fun _ => rfl) (z0 := 0) rfl rfl Fs22 Fi5 rfl rfl hz9 rfl rfl ?_
      intro a_v10 c_v11
      refine gl_b2sn (mem_at 0 rfl) rfl Fs22 Fy5 Ft9 rfl rfl ?_
      refine gl_batch 1 [(2, str (toStr z9))] rfl ?_
      refine gl_ns ?_
      refine g_ret ?_
      refine gx_seq_ret ?_
      obtain rfl := Option.some.inj h
      exact gx_fin rfl [str (toStr z9)] _ _ [] ⟨_, _, rfl, rfl, rfl⟩ rfl ⟨rfl, rfl, rfl⟩ (fun w hS => ((hS.pick 1 rfl).take 1).facts [] [] [] noItem noItem noItem) (Or.inl rfl)
    · replace h := condF hc h
      refine g_skip ?_
      refine gx_seq ?_
      refine g_sr ?_
      refine gl_batch 2 [(2, str o4.1), (25, str o4.1)] rfl ?_
      refine gl_ns ?_
      refine g_ret ?_
      obtain rfl := Option.some.inj h
      exact gx_fin rfl [str o4.1] _ _ [] ⟨_, _, rfl, rfl, rfl⟩ rfl ⟨rfl, rfl, rfl⟩ (fun w hS => (hS.take 1).facts [] [] [] noItem noItem noItem) (Or.inl rfl)

theorem c_spec_DrawRecoverTrace (code : List Int) (a_code : Option Addr) (c_code : Nat) {r : List UInt8} (h : spec_DrawRecoverTrace code = some r) : CallOK Tryz.prog 12 [.slice a_code (List.length code) c_code] [] [gTab 3 pow10C, gNum 0, gErr 1, gErr 2] [SL false 5 (intS .u8) a_code c_code code] (fun v outs ros => v = str r ∧ outs = [] ∧ ros = []) := by
  refine fn_ok Tryz.func12 rfl Tryz.ntmps12 rfl (fun c hF0 => ?_)
  unfold spec_DrawRecoverTrace at h
  refine g_sr ?_
  refine gl_batch 1 [(2, str [])] rfl ?_
  refine gl_nx ?_
  refine gl_batch 1 [(3, .slice a_code (List.length code) c_code)] rfl ?_
  obtain ⟨o1, ho1, h⟩ := bindS h
  refine gl_call rfl rfl (fun w => by kernel_rfl) (c_spec_l01From code a_code c_code ho1) (consItem (mem_at 0 rfl) (consItem (mem_at 1 rfl) (consItem (mem_at 2 rfl) (consItem (mem_at 3 rfl) noItem)))) (consItem (mem_at 0 rfl) noItem) ?_
  rintro v outs ros ⟨b2, rfl, rfl, rfl⟩
  refine ⟨_, rfl, ?_⟩
  obtain ⟨o3, ho3, h⟩ := bindS h
  refine gl_callR rfl rfl (fun w => by kernel_rfl) (c_spec_l28DrawText (⟨code, o1.at_v, o1.seed⟩ : Src) b2 a_code c_code ho3) rfl (consItem (mem_at 0 rfl) (consItem (mem_at 1 rfl) (consItem (mem_at 2 rfl) (consItem (mem_at 3 rfl) noItem)))) (consItem (mem_at 0 rfl) noItem) ?_
  rintro v outs ros ⟨rfl, rfl, rfl⟩
  refine ⟨_, rfl, ?_⟩
  refine gl_batch 1 [(2, str o3.1)] rfl ?_
  refine gl_ns ?_
  refine g_ret ?_
  obtain rfl := Option.some.inj h
  exact gx_fin rfl [str o3.1] _ _ [] ⟨_, _, rfl, rfl, rfl⟩ rfl ⟨rfl, rfl, rfl⟩ (fun w hS => (hS.take 0).facts [] [] [] noItem noItem noItem) (Or.inl rfl)

theorem c_impl_recoverTrace (s : List UInt8)  {r : List Firing × Int} (h : impl_recoverTrace s = some r) : CallOK Tryz.prog 43 [str s] [] [gTab 3 pow10C, gNum 0, gErr 1, gErr 2] [] (fun v outs ros => ∃ (a0 : Option Addr), ∃ (c0 : Nat), v = .tuple #[.slice a0 (List.length r.1) c0, .int .i64 r.2] ∧ outs = [SL false 39 FiringS a0 c0 r.1] ∧ ros = []) := by
  refine fn_ok Tryz.func43 rfl Tryz.ntmps43 rfl (fun c hF0 => ?_)
  unfold impl_recoverTrace at h
  refine g_sr ?_
  refine gl_batch 2 [(3, .int .i64 0), (2, .slice none 0 0)] rfl ?_
  refine gl_nx ?_
  refine gl_batch 1 [(4, .slice none 0 0)] rfl ?_
  refine gl_nx ?_
  obtain ⟨z1, hz1, h⟩ := bindS h
  refine gl_mk (enc := fun x => [.int .i64 x]) (hn := fun _ => rfl) (z0 := 0) rfl rfl Fs44 Fi2 rfl rfl hz1 rfl rfl ?_
  intro a_v2 c_v3
  refine gl_batch 1 [(5, .slice a_v2 (List.length z1) c_v3)] rfl ?_
  refine gl_nx ?_
  refine gl_batch 2 [(7, .int .i64 0), (6, .int .i64 1)] rfl ?_
  refine gl_ns ?_
  refine g_seq ?_
  refine g_block ?_
  obtain ⟨o4, ho4, h⟩ := bindS h
  refine g_loop (impl_recoverTrace_L1 s) (fun (ss_ : (List Firing) × (List Int) × Int × Int) a w => ∃ (a_ss__r0 : Option Addr), ∃ (c_ss__r0 : Nat), ∃ (a_ss__r1 : Option Addr), ∃ (c_ss__r1 : Nat), Env a 101 [(0, str s), (4, .slice a_ss__r0 (List.length ss_.1) c_ss__r0), (5, .slice a_ss__r1 (List.length ss_.2.1) c_ss__r1), (6, .int .i64 ss_.2.2.1), (7, .int .i64 ss_.2.2.2)] ∧ St c w [SL false 39 FiringS a_ss__r0 c_ss__r0 ss_.1, SL false 2 (intS .i64) a_ss__r1 c_ss__r1 ss_.2.1] [gTab 3 pow10C, gNum 0, gErr 1, gErr 2] [] []) ((fun (ss_ : (List Firing) × Int) e a w => e = (.exit 0) ∧ ∃ (a_ss__r0 : Option Addr), ∃ (c_ss__r0 : Nat), Env a 101 [(4, .slice a_ss__r0 (List.length ss_.1) c_ss__r0), (7, .int .i64 ss_.2)] ∧ St c w [SL false 39 FiringS a_ss__r0 c_ss__r0 ss_.1] [gTab 3 pow10C, gNum 0, gErr 1, gErr 2] [] []) : ((List Firing) × Int) → Exit → Act → World → Prop) ho4 ?_ ?_ ?_
  · exact fun a w hE hS => ⟨none, 0, a_v2, c_v3, hE.sub ⟨rfl, rfl, rfl, rfl, rfl, trivial⟩, ((hS.nil false 39 FiringS).take 2).facts _ _ [] (consItem (mem_at 0 rfl) (consItem (mem_at 1 rfl) (consItem (mem_at 2 rfl) (consItem (mem_at 3 rfl) noItem)))) noItem noItem⟩
  · intro s5 o6 h a w hA
    obtain ⟨a_s5_r0, c_s5_r0, a_s5_r1, c_s5_r1, hE, hS⟩ := hA
    unfold impl_recoverTrace_L1 at h
    refine g_enter hE hS ?_
    refine g_seq ?_
    refine g_sr ?_
    refine gl_batch 1 [(20, .slice a_s5_r0 (List.length s5.1) c_s5_r0)] rfl ?_
    refine gl_len rfl Fs24 rfl rfl ?_
    refine gl_batch 1 [(22, .bool (decide ((List.length s5.1 : Int) < 500)))] rfl ?_
    refine gl_ns ?_
    refine g_cond (b := decide ((List.length s5.1 : Int) < 500)) rfl (fun hc => ?_) (fun hc => ?_)
    · replace h := condT hc h
      refine g_skip ?_
      refine gx_seq ?_
      refine g_block ?_
      refine g_sr ?_
      refine gl_batch 2 [(25, .int .i64 s5.2.2.2), (24, str s)] rfl ?_
      obtain ⟨z7, hz7, h⟩ := bindS h
      refine gl_ssub (i := s5.2.2.2) (j := (List.length s : Int)) (k := .i64) (k2 := .i64) rfl rfl rfl Ft9 hz7 rfl rfl ?_
      obtain ⟨o8, ho8, h⟩ := bindS h
      refine gl_call rfl rfl (fun w => by kernel_rfl) (c_strings_Cut z7 ([10] : List UInt8) ho8) (consItem (mem_at 0 rfl) (consItem (mem_at 1 rfl) (consItem (mem_at 2 rfl) (consItem (mem_at 3 rfl) noItem)))) noItem ?_
      rintro v outs ros ⟨rfl, rfl, rfl⟩
      refine ⟨_, rfl, ?_⟩
      refine gl_batch 7 [(10, .bool o8.2.2), (9, str o8.2.1), (8, str o8.1), (30, .bool o8.2.2), (29, str o8.2.1), (28, str o8.1), (23, .tuple #[str o8.1, str o8.2.1, .bool o8.2.2])] rfl ?_
      refine gl_nx ?_
      refine gl_batch 1 [(31, str o8.1)] rfl ?_
      obtain ⟨o9, ho9, h⟩ := bindS h
      refine gl_call rfl rfl (fun w => by kernel_rfl) (c_strings_Split o8.1 ([32] : List UInt8) ho9) (consItem (mem_at 0 rfl) (consItem (mem_at 1 rfl) (consItem (mem_at 2 rfl) (consItem (mem_at 3 rfl) noItem)))) noItem ?_
      rintro v outs ros ⟨a_v10, c_v11, rfl, rfl, rfl⟩
      refine ⟨_, rfl, ?_⟩
      refine gl_batch 1 [(11, .slice a_v10 (List.length o9) c_v11)] rfl ?_
      refine gl_ns ?_
      refine g_seq ?_
      refine g_sr ?_
      refine gl_batch 3 [(35, .bool (!o8.2.2)), (34, .bool (!o8.2.2)), (33, .bool o8.2.2)] rfl ?_
      refine gl_join (EE := [(39, .bool ((!o8.2.2) || ((List.length o9 : Int) != 3))), (0, str s), (4, .slice a_s5_r0 (List.length s5.1) c_s5_r0), (5, .slice a_s5_r1 (List.length s5.2.1) c_s5_r1), (6, .int .i64 s5.2.2.1), (7, .int .i64 s5.2.2.2), (8, str o8.1), (11, .slice a_v10 (List.length o9) c_v11)]) (RR := [SL false 9 strS a_v10 c_v11 o9, SL false 39 FiringS a_s5_r0 c_s5_r0 s5.1, SL false 2 (intS .i64) a_s5_r1 c_s5_r1 s5.2.1]) (XX := [gTab 3 pow10C, gNum 0, gErr 1, gErr 2]) (OO := []) (VV := []) 4 ?_ ?_
      · skip
        refine gl_case 35 rfl (fun hc => ?_) (fun hc => ?_)
        · skip
          refine gl_batch 4 [(39, .bool true), (38, undef), (37, undef), (36, undef)] rfl ?_
          refine gl_nil ?_
          exact gx_mid ⟨congrArg (fun z => some (Value.bool z)) (or_t hc).symm, rfl, rfl, rfl, rfl, rfl, rfl, rfl, trivial⟩ (fun w hS => hS)
        · skip
          refine gl_batch 1 [(36, .slice a_v10 (List.length o9) c_v11)] rfl ?_
          refine gl_len rfl Fs104 rfl rfl ?_
          refine gl_batch 2 [(39, .bool ((List.length o9 : Int) != 3)), (38, .bool ((List.length o9 : Int) != 3))] rfl ?_
          refine gl_nil ?_
          exact gx_mid ⟨congrArg (fun z => some (Value.bool z)) (or_f hc).symm, rfl, rfl, rfl, rfl, rfl, rfl, rfl, trivial⟩ (fun w hS => hS)
      · skip
        refine gl_ns ?_
        refine g_cond (b := (!o8.2.2) || ((List.length o9 : Int) != 3)) rfl (fun hc => ?_) (fun hc => ?_)
        · replace h := condT hc h
          refine g_exit ?_
          refine gx_seq_exit ?_
          refine gx_blk_miss rfl ?_
          obtain rfl := Option.some.inj h
          exact gx_of (fun a w hE hS => lp_out nofun (⟨rfl, a_s5_r0, c_s5_r0, hE.sub ⟨rfl, rfl, trivial⟩, ((hS.pick 1 rfl).take 1).facts _ _ [] (consItem (mem_at 0 rfl) (consItem (mem_at 1 rfl) (consItem (mem_at 2 rfl) (consItem (mem_at 3 rfl) noItem)))) noItem noItem⟩))
        · replace h := condF hc h
          refine g_skip ?_
          refine gx_seq ?_
          refine g_sr ?_
          refine gl_batch 1 [(41, .slice a_v10 (List.length o9) c_v11)] rfl ?_
          obtain ⟨x12, hx12, h⟩ := bindS h
          refine gl_idxVn (k := .i64) (mem_at 0 rfl) rfl rfl Fs104 Fz9 hx12 rfl rfl ?_
          intro p13 hp13
          refine gl_ld1 0 hasAT (mem_at 3 rfl) rfl rfl Fo9 rfl rfl rfl ?_
          obtain ⟨o14, ho14, h⟩ := bindS h
          refine gl_call rfl rfl (fun w => by kernel_rfl) (c_impl_readNumber x12 ho14) (consItem (mem_at 0 rfl) (consItem (mem_at 1 rfl) (consItem (mem_at 2 rfl) (consItem (mem_at 3 rfl) noItem)))) noItem ?_
          rintro v outs ros ⟨rfl, rfl, rfl⟩
          refine ⟨_, rfl, ?_⟩
          refine gl_batch 5 [(13, .bool o14.2), (12, .int .i64 o14.1), (46, .bool o14.2), (45, .int .i64 o14.1), (40, .tuple #[.int .i64 o14.1, .bool o14.2])] rfl ?_
          refine gl_nx ?_
          refine gl_batch 1 [(48, .slice a_v10 (List.length o9) c_v11)] rfl ?_
          obtain ⟨x15, hx15, h⟩ := bindS h
          refine gl_idxVn (k := .i64) (mem_at 0 rfl) rfl rfl Fs104 Fz9 hx15 rfl rfl ?_
          intro p16 hp16
          refine gl_ld1 0 hasAT (mem_at 3 rfl) rfl rfl Fo9 rfl rfl rfl ?_
          obtain ⟨o17, ho17, h⟩ := bindS h
          refine gl_call rfl rfl (fun w => by kernel_rfl) (c_impl_readNumber x15 ho17) (consItem (mem_at 0 rfl) (consItem (mem_at 1 rfl) (consItem (mem_at 2 rfl) (consItem (mem_at 3 rfl) noItem)))) noItem ?_
          rintro v outs ros ⟨rfl, rfl, rfl⟩
          refine ⟨_, rfl, ?_⟩
          refine gl_batch 5 [(15, .bool o17.2), (14, .int .i64 o17.1), (53, .bool o17.2), (52, .int .i64 o17.1), (47, .tuple #[.int .i64 o17.1, .bool o17.2])] rfl ?_
          refine gl_nx ?_
          refine gl_batch 2 [(55, .int .i64 o17.1), (54, .int .i64 o14.1)] rfl ?_
          refine gl_run (v := .agg #[.int .i64 o14.1, .int .i64 0, .int .i64 o17.1]) rfl rfl rfl (fun w => by kernel_rfl) ?_
          refine gl_new (d := 16) (T := 39) [.int .i64 0, .int .i64 0, .int .i64 0] rfl rfl (fun _ => rfl) (fun w => by kernel_rfl) ?_
          intro b18
          refine gl_stB (cells' := [.int .i64 o14.1, .int .i64 0, .int .i64 o17.1]) 0 [.int .i64 o14.1, .int .i64 0, .int .i64 o17.1] rfl rfl rfl Fz39 rfl rfl rfl rfl ?_
          refine gl_ns ?_
          refine g_seq ?_
          refine g_sr ?_
          refine gl_batch 3 [(59, .bool (!o14.2)), (58, .bool (!o14.2)), (57, .bool o14.2)] rfl ?_
          refine gl_join (EE := [(62, .bool ((!o14.2) || (!o17.2))), (0, str s), (4, .slice a_s5_r0 (List.length s5.1) c_s5_r0), (5, .slice a_s5_r1 (List.length s5.2.1) c_s5_r1), (6, .int .i64 s5.2.2.1), (7, .int .i64 s5.2.2.2), (8, str o8.1), (12, .int .i64 o14.1), (16, .pointer (some ⟨b18, 0, none⟩))]) (RR := [BK 39 b18 [.int .i64 o14.1, .int .i64 0, .int .i64 o17.1], SL false 9 strS a_v10 c_v11 o9, SL false 39 FiringS a_s5_r0 c_s5_r0 s5.1, SL false 2 (intS .i64) a_s5_r1 c_s5_r1 s5.2.1]) (XX := [gTab 3 pow10C, gNum 0, gErr 1, gErr 2]) (OO := []) (VV := []) 3 ?_ ?_
          · skip
            refine gl_case 59 rfl (fun hc => ?_) (fun hc => ?_)
            · skip
              refine gl_batch 3 [(62, .bool true), (61, undef), (60, undef)] rfl ?_
              refine gl_nil ?_
              exact gx_mid ⟨congrArg (fun z => some (Value.bool z)) (or_t hc).symm, rfl, rfl, rfl, rfl, rfl, rfl, rfl, rfl, trivial⟩ (fun w hS => hS)
            · skip
              refine gl_batch 3 [(62, .bool (!o17.2)), (61, .bool (!o17.2)), (60, .bool o17.2)] rfl ?_
              refine gl_nil ?_
              exact gx_mid ⟨congrArg (fun z => some (Value.bool z)) (or_f hc).symm, rfl, rfl, rfl, rfl, rfl, rfl, rfl, rfl, trivial⟩ (fun w hS => hS)
          · skip
            refine gl_batch 1 [(63, .bool ((!o14.2) || (!o17.2)))] rfl ?_
            obtain ⟨q19, hq19, h⟩ := bindS h
            refine gl_join (EE := [(68, .bool q19), (0, str s), (4, .slice a_s5_r0 (List.length s5.1) c_s5_r0), (5, .slice a_s5_r1 (List.length s5.2.1) c_s5_r1), (6, .int .i64 s5.2.2.1), (7, .int .i64 s5.2.2.2), (8, str o8.1), (12, .int .i64 o14.1), (16, .pointer (some ⟨b18, 0, none⟩))]) (RR := [BK 39 b18 [.int .i64 o14.1, .int .i64 0, .int .i64 o17.1], SL false 9 strS a_v10 c_v11 o9, SL false 39 FiringS a_s5_r0 c_s5_r0 s5.1, SL false 2 (intS .i64) a_s5_r1 c_s5_r1 s5.2.1]) (XX := [gTab 3 pow10C, gNum 0, gErr 1, gErr 2]) (OO := []) (VV := []) 5 ?_ ?_
            · replace h := hq19
              refine gl_case 63 rfl (fun hc => ?_) (fun hc => ?_)
              · replace h := condT hc h
                refine gl_batch 5 [(68, .bool true), (67, undef), (66, undef), (65, undef), (64, undef)] rfl ?_
                refine gl_nil ?_
                obtain rfl := Option.some.inj h
                exact gx_mid ⟨rfl, rfl, rfl, rfl, rfl, rfl, rfl, rfl, rfl, trivial⟩ (fun w hS => hS)
              · replace h := condF hc h
                refine gl_ldA (vs := [.int .i64 o14.1, .int .i64 0, .int .i64 o17.1]) 0 hasBK (mem_at 0 rfl) rfl rfl Fm39 Fz39 rfl rfl rfl ?_
                refine gl_lit (m := 3) (d := 65) (T := 39) (enc := FiringE) (hn := fun _ => rfl) false [(⟨o14.1, 0, o17.1⟩ : Firing)] rfl rfl (fun _ => rfl) nofun (Nat.le_of_ble_eq_true rfl) (fun w => by kernel_rfl) ?_
                intro a_v20 c_v21
                obtain ⟨o22, ho22, h⟩ := bindS h
                refine gl_call rfl rfl (fun w => by kernel_rfl) (c_impl_isWritable [(⟨o14.1, 0, o17.1⟩ : Firing)] a_v20 c_v21 ho22) (consItem (mem_at 0 rfl) (consItem (mem_at 1 rfl) (consItem (mem_at 2 rfl) (consItem (mem_at 3 rfl) noItem)))) (consItem (mem_at 0 rfl) noItem) ?_
                rintro v outs ros ⟨rfl, rfl, rfl⟩
                refine ⟨_, rfl, ?_⟩
                refine gl_batch 2 [(68, .bool (!o22)), (67, .bool (!o22))] rfl ?_
                refine gl_nil ?_
                obtain rfl := Option.some.inj h
                exact gx_mid ⟨rfl, rfl, rfl, rfl, rfl, rfl, rfl, rfl, rfl, trivial⟩ (fun w hS => (((((hS.pick 4 rfl).pick 4 rfl).pick 4 rfl).pick 4 rfl).take 4).facts _ _ _ (consItem (mem_at 0 rfl) (consItem (mem_at 1 rfl) (consItem (mem_at 2 rfl) (consItem (mem_at 3 rfl) noItem)))) noItem noItem)
            · skip
              refine gl_ns ?_
              refine g_cond (b := q19) rfl (fun hc => ?_) (fun hc => ?_)
              · replace h := condT hc h
                refine g_exit ?_
                refine gx_seq_exit ?_
                refine gx_blk_miss rfl ?_
                obtain rfl := Option.some.inj h
                exact gx_of (fun a w hE hS => lp_out nofun (⟨rfl, a_s5_r0, c_s5_r0, hE.sub ⟨rfl, rfl, trivial⟩, ((hS.pick 2 rfl).take 1).facts _ _ [] (consItem (mem_at 0 rfl) (consItem (mem_at 1 rfl) (consItem (mem_at 2 rfl) (consItem (mem_at 3 rfl) noItem)))) noItem noItem⟩))
              · replace h := condF hc h
                refine g_skip ?_
                refine gx_seq ?_
                refine g_sr ?_
                refine gl_ldA (vs := [.int .i64 o14.1, .int .i64 0, .int .i64 o17.1]) 0 hasBK (mem_at 0 rfl) rfl rfl Fm39 Fz39 rfl rfl rfl ?_
                refine gl_batch 1 [(71, .int .i64 s5.2.2.1)] rfl ?_
                obtain ⟨o23, ho23, h⟩ := bindS h
                refine gl_call rfl rfl (fun w => by kernel_rfl) (c_impl_traceLine (⟨o14.1, 0, o17.1⟩ : Firing) s5.2.2.1 ho23) (consItem (mem_at 0 rfl) (consItem (mem_at 1 rfl) (consItem (mem_at 2 rfl) (consItem (mem_at 3 rfl) noItem)))) noItem ?_
                rintro v outs ros ⟨rfl, rfl, rfl⟩
                refine ⟨_, rfl, ?_⟩
                refine gl_batch 5 [(18, .int .i64 o23.2), (17, str o23.1), (74, .int .i64 o23.2), (73, str o23.1), (69, .tuple #[str o23.1, .int .i64 o23.2])] rfl ?_
                refine gl_ns ?_
                refine g_seq ?_
                refine g_sr ?_
                refine gl_batch 2 [(76, str o8.1), (75, str o23.1)] rfl ?_
                obtain ⟨z24, hz24, h⟩ := bindS h
                refine gl_scat rfl rfl hz24 rfl rfl ?_
                refine gl_sne (s := o23.1) (u := z24) rfl rfl rfl rfl ?_
                refine gl_ns ?_
                refine g_cond (b := !(o23.1 == z24)) rfl (fun hc => ?_) (fun hc => ?_)
                · replace h := condT hc h
                  refine g_exit ?_
                  refine gx_seq_exit ?_
                  refine gx_blk_miss rfl ?_
                  obtain rfl := Option.some.inj h
                  exact gx_of (fun a w hE hS => lp_out nofun (⟨rfl, a_s5_r0, c_s5_r0, hE.sub ⟨rfl, rfl, trivial⟩, ((hS.pick 2 rfl).take 1).facts _ _ [] (consItem (mem_at 0 rfl) (consItem (mem_at 1 rfl) (consItem (mem_at 2 rfl) (consItem (mem_at 3 rfl) noItem)))) noItem noItem⟩))
                · replace h := condF hc h
                  refine g_skip ?_
                  refine gx_seq ?_
                  refine g_sr ?_
                  refine gl_batch 2 [(80, .int .i64 o14.1), (79, .slice a_s5_r1 (List.length s5.2.1) c_s5_r1)] rfl ?_
                  obtain ⟨x25, hx25, h⟩ := bindS h
                  refine gl_idxVn (k := .i64) (mem_at 3 rfl) rfl rfl Fs44 Fz2 hx25 rfl rfl ?_
                  intro p26 hp26
                  refine gl_ld1 0 hasAT (mem_at 4 rfl) rfl rfl Fo2 rfl rfl rfl ?_
                  refine gl_batch 1 [(83, .int .i64 (IntKind.i64.wrap (x25 + 1)))] rfl ?_
                  obtain ⟨x27, hx27, h⟩ := bindS h
                  refine gl_idxVn (k := .i64) (mem_at 3 rfl) rfl rfl Fs44 Fz2 hx27 rfl rfl ?_
                  intro p28 hp28
                  refine gl_pick 3 rfl ?_
                  obtain ⟨u29, hu29, h⟩ := letS h
                  refine gl_stEn 0 [.int .i64 (IntKind.i64.wrap (x25 + 1))] (IntKind.i64.wrap (x25 + 1)) hp28 hx27 rfl rfl rfl rfl Fz2 rfl rfl rfl rfl ?_
                  rw [hu29]
                  refine gl_relen (fun hlu29 => ?_)
                  refine gl_push 5 (.slice a_s5_r1 (List.length u29) c_s5_r1) (by rw [← hlu29]; rfl) ?_
                  refine gl_nx ?_
                  refine gl_batch 2 [(86, .int .i64 o14.1), (85, .slice a_s5_r1 (List.length u29) c_s5_r1)] rfl ?_
                  obtain ⟨x30, hx30, h⟩ := bindS h
                  refine gl_idxVn (k := .i64) (mem_at 0 rfl) rfl rfl Fs44 Fz2 hx30 rfl rfl ?_
                  intro p31 hp31
                  refine gl_ld1 0 hasAT (mem_at 4 rfl) rfl rfl Fo2 rfl rfl rfl ?_
                  refine gl_run (v := .pointer (some ⟨b18, 1, none⟩)) rfl rfl rfl (fun w => by kernel_rfl) ?_
                  refine gl_pick 1 rfl ?_
                  refine gl_stB (cells' := [.int .i64 o14.1, .int .i64 x30, .int .i64 o17.1]) 1 [.int .i64 x30] rfl rfl rfl Fz2 rfl rfl rfl rfl ?_
                  refine gl_nx ?_
                  refine gl_batch 1 [(90, .slice a_s5_r0 (List.length s5.1) c_s5_r0)] rfl ?_
                  refine gl_ldA (vs := [.int .i64 o14.1, .int .i64 x30, .int .i64 o17.1]) 0 hasBK (mem_at 0 rfl) rfl rfl Fm39 Fz39 rfl rfl rfl ?_
                  refine gl_lit (m := 3) (d := 92) (T := 39) (enc := FiringE) (hn := fun _ => rfl) false [(⟨o14.1, x30, o17.1⟩ : Firing)] rfl rfl (fun _ => rfl) nofun (Nat.le_of_ble_eq_true rfl) (fun w => by kernel_rfl) ?_
                  intro a_v32 c_v33
                  refine gl_pick 4 rfl ?_
                  obtain ⟨z34, hz34, h⟩ := bindS h
                  refine gl_appn (mem_at 1 rfl) rfl rfl Fs24 Fi39 rfl rfl (fun _ => rfl) hz34 rfl rfl ?_
                  intro a_v35 c_v36
                  refine gl_batch 1 [(4, .slice a_v35 (List.length z34) c_v36)] rfl ?_
                  refine gl_ns ?_
                  refine g_region ?_
                  refine gl_batch 3 [(96, str o23.1), (95, .int .i64 s5.2.2.2), (94, .int .i64 o23.2)] rfl ?_
                  refine gl_slen (s := o23.1) rfl Ft9 rfl rfl ?_
                  obtain ⟨long37, hlong37, h⟩ := letS h
                  refine gl_batch 3 [(7, .int .i64 long37), (6, .int .i64 o23.2), (98, .int .i64 (IntKind.i64.wrap (s5.2.2.2 + (List.length o23.1 : Int))))] (by subst hlong37; rfl) ?_
                  refine gl_nil ?_
                  refine gx_blk ?_
                  obtain rfl := Option.some.inj h
                  exact gx_of (fun a w hE hS => lp_in ⟨a_v35, c_v36, a_s5_r1, c_s5_r1, hE.sub ⟨rfl, rfl, rfl, rfl, rfl, trivial⟩, (((hS.pick 3 rfl).pick 1 rfl).take 2).facts _ _ [] (consItem (mem_at 0 rfl) (consItem (mem_at 1 rfl) (consItem (mem_at 2 rfl) (consItem (mem_at 3 rfl) noItem)))) noItem noItem⟩)
    · replace h := condF hc h
      refine g_exit ?_
      refine gx_seq_exit ?_
      obtain rfl := Option.some.inj h
      exact gx_of (fun a w hE hS => lp_out nofun (⟨rfl, a_s5_r0, c_s5_r0, hE.sub ⟨rfl, rfl, trivial⟩, (hS.take 1).facts _ _ [] (consItem (mem_at 0 rfl) (consItem (mem_at 1 rfl) (consItem (mem_at 2 rfl) (consItem (mem_at 3 rfl) noItem)))) noItem noItem⟩))
  · intro e a w hm
    obtain ⟨rfl, a_o4_r0, c_o4_r0, hE, hS⟩ := hm
    refine gx_to hE hS ?_
    refine gx_blk_hit ?_
    refine gx_seq ?_
    refine g_sr ?_
    refine gl_batch 4 [(3, .int .i64 o4.2), (2, .slice a_o4_r0 (List.length o4.1) c_o4_r0), (100, .int .i64 o4.2), (99, .slice a_o4_r0 (List.length o4.1) c_o4_r0)] rfl ?_
    refine gl_ns ?_
    refine g_ret ?_
    obtain rfl := Option.some.inj h
    exact gx_fin rfl [.slice a_o4_r0 (List.length o4.1) c_o4_r0, .int .i64 o4.2] _ _ [] ⟨_, _, rfl, rfl, _, _, rfl, rfl, rfl⟩ rfl ⟨a_o4_r0, c_o4_r0, rfl, rfl, rfl⟩ (fun w hS => (hS.take 1).facts [] [] [] noItem noItem noItem) (Or.inl rfl)

theorem c_impl_RecoverTrace (s : List UInt8)  {r : List Firing × Int} (h : impl_RecoverTrace s = some r) : CallOK Tryz.prog 13 [str s] [] [gTab 3 pow10C, gNum 0, gErr 1, gErr 2] [] (fun v outs ros => ∃ (a0 : Option Addr), ∃ (c0 : Nat), v = .tuple #[.slice a0 (List.length r.1) c0, .int .i64 r.2] ∧ outs = [SL false 39 FiringS a0 c0 r.1] ∧ ros = []) := by
  refine fn_ok Tryz.func13 rfl Tryz.ntmps13 rfl (fun c hF0 => ?_)
  unfold impl_RecoverTrace at h
  refine g_sr ?_
  refine gl_batch 2 [(3, .int .i64 0), (2, .slice none 0 0)] rfl ?_
  refine gl_ns ?_
  refine g_seq ?_
  refine g_sr ?_
  refine gl_batch 1 [(6, str s)] rfl ?_
  refine gl_slen (s := s) rfl Ft9 rfl rfl ?_
  refine gl_batch 1 [(8, .bool (decide ((List.length s : Int) > 20000)))] rfl ?_
  refine gl_ns ?_
  refine g_cond (b := decide ((List.length s : Int) > 20000)) rfl (fun hc => ?_) (fun hc => ?_)
  · replace h := condT hc h
    refine g_sr ?_
    refine gl_batch 2 [(3, .int .i64 3), (2, .slice none 0 0)] rfl ?_
    refine gl_ns ?_
    refine g_ret ?_
    refine gx_seq_ret ?_
    obtain rfl := Option.some.inj h
    exact gx_fin rfl [.slice none 0 0, .int .i64 3] _ _ [] ⟨_, _, rfl, rfl, _, _, rfl, rfl, rfl⟩ rfl ⟨none, 0, rfl, rfl, rfl⟩ (fun w hS => ((hS.nil false 39 FiringS).take 1).facts [] [] [] noItem noItem noItem) (Or.inl rfl)
  · replace h := condF hc h
    refine g_skip ?_
    refine gx_seq ?_
    refine g_sr ?_
    refine gl_batch 1 [(10, str s)] rfl ?_
    obtain ⟨o1, ho1, h⟩ := bindS h
    refine gl_call rfl rfl (fun w => by kernel_rfl) (c_impl_recoverTrace s ho1) (consItem (mem_at 0 rfl) (consItem (mem_at 1 rfl) (consItem (mem_at 2 rfl) (consItem (mem_at 3 rfl) noItem)))) noItem ?_
    rintro v outs ros ⟨a_v2, c_v3, rfl, rfl, rfl⟩
    refine ⟨_, rfl, ?_⟩
    refine gl_batch 5 [(5, .int .i64 o1.2), (4, .slice a_v2 (List.length o1.1) c_v3), (13, .int .i64 o1.2), (12, .slice a_v2 (List.length o1.1) c_v3), (9, .tuple #[.slice a_v2 (List.length o1.1) c_v3, .int .i64 o1.2])] rfl ?_
    refine gl_nx ?_
    refine gl_batch 3 [(3, .int .i64 0), (2, .slice a_v2 (List.length o1.1) c_v3), (14, .slice a_v2 (List.length o1.1) c_v3)] rfl ?_
    refine gl_ns ?_
    refine g_ret ?_
    obtain rfl := Option.some.inj h
    exact gx_fin rfl [.slice a_v2 (List.length o1.1) c_v3, .int .i64 0] _ _ [] ⟨_, _, rfl, rfl, _, _, rfl, rfl, rfl⟩ rfl ⟨a_v2, c_v3, rfl, rfl, rfl⟩ (fun w hS => (hS.take 1).facts [] [] [] noItem noItem noItem) (Or.inl rfl)

theorem c_spec_RecoverTrace (s : List UInt8)  {r : List Firing × Int} (h : spec_RecoverTrace s = some r) : CallOK Tryz.prog 14 [str s] [] [gTab 3 pow10C, gNum 0, gErr 1, gErr 2] [] (fun v outs ros => ∃ (a0 : Option Addr), ∃ (c0 : Nat), v = .tuple #[.slice a0 (List.length r.1) c0, .int .i64 r.2] ∧ outs = [SL false 39 FiringS a0 c0 r.1] ∧ ros = []) := by
  refine fn_ok Tryz.func14 rfl Tryz.ntmps14 rfl (fun c hF0 => ?_)
  unfold spec_RecoverTrace at h
  refine g_sr ?_
  refine gl_batch 2 [(3, .int .i64 0), (2, .slice none 0 0)] rfl ?_
  refine gl_ns ?_
  refine g_seq ?_
  refine g_sr ?_
  refine gl_batch 1 [(6, str s)] rfl ?_
  refine gl_slen (s := s) rfl Ft9 rfl rfl ?_
  refine gl_batch 1 [(8, .bool (decide ((List.length s : Int) > 20000)))] rfl ?_
  refine gl_ns ?_
  refine g_cond (b := decide ((List.length s : Int) > 20000)) rfl (fun hc => ?_) (fun hc => ?_)
  · replace h := condT hc h
    refine g_sr ?_
    refine gl_batch 2 [(3, .int .i64 3), (2, .slice none 0 0)] rfl ?_
    refine gl_ns ?_
    refine g_ret ?_
    refine gx_seq_ret ?_
    obtain rfl := Option.some.inj h
    exact gx_fin rfl [.slice none 0 0, .int .i64 3] _ _ [] ⟨_, _, rfl, rfl, _, _, rfl, rfl, rfl⟩ rfl ⟨none, 0, rfl, rfl, rfl⟩ (fun w hS => ((hS.nil false 39 FiringS).take 1).facts [] [] [] noItem noItem noItem) (Or.inl rfl)
  · replace h := condF hc h
    refine g_skip ?_
    refine gx_seq ?_
    refine g_sr ?_
    refine gl_batch 1 [(10, str s)] rfl ?_
    obtain ⟨o1, ho1, h⟩ := bindS h
    refine gl_call rfl rfl (fun w => by kernel_rfl) (c_spec_l28Recover s ho1) (consItem (mem_at 0 rfl) (consItem (mem_at 1 rfl) (consItem (mem_at 2 rfl) (consItem (mem_at 3 rfl) noItem)))) noItem ?_
    rintro v outs ros ⟨a_v2, c_v3, rfl, rfl, rfl⟩
    refine ⟨_, rfl, ?_⟩
    refine gl_batch 5 [(5, .int .i64 o1.2), (4, .slice a_v2 (List.length o1.1) c_v3), (13, .int .i64 o1.2), (12, .slice a_v2 (List.length o1.1) c_v3), (9, .tuple #[.slice a_v2 (List.length o1.1) c_v3, .int .i64 o1.2])] rfl ?_
    refine gl_nx ?_
    refine gl_batch 3 [(3, .int .i64 0), (2, .slice a_v2 (List.length o1.1) c_v3), (14, .slice a_v2 (List.length o1.1) c_v3)] rfl ?_
    refine gl_ns ?_
    refine g_ret ?_
    obtain rfl := Option.some.inj h
    exact gx_fin rfl [.slice a_v2 (List.length o1.1) c_v3, .int .i64 0] _ _ [] ⟨_, _, rfl, rfl, _, _, rfl, rfl, rfl⟩ rfl ⟨a_v2, c_v3, rfl, rfl, rfl⟩ (fun w hS => (hS.take 1).facts [] [] [] noItem noItem noItem) (Or.inl rfl)

theorem c_laws_FnTraces (code : List Int) (a_code : Option Addr) (c_code : Nat) {r : Bool} (h : laws_FnTraces code = some r) : CallOK Tryz.prog 3 [.slice a_code (List.length code) c_code] [] [gTab 3 pow10C, gNum 0, gErr 1, gErr 2] [SL false 5 (intS .u8) a_code c_code code] (fun v outs ros => v = .bool r ∧ outs = [] ∧ ros = []) := by
  refine fn_ok Tryz.func3 rfl Tryz.ntmps3 rfl (fun c hF0 => ?_)
  unfold laws_FnTraces at h
  refine g_sr ?_
  refine gl_batch 1 [(2, .bool false)] rfl ?_
  refine gl_ns ?_
  refine g_seq ?_
  refine g_sr ?_
  refine gl_batch 1 [(25, .slice a_code (List.length code) c_code)] rfl ?_
  refine gl_call rfl rfl (fun w => by kernel_rfl) (c_laws_big code a_code c_code rfl) (consItem (mem_at 0 rfl) (consItem (mem_at 1 rfl) (consItem (mem_at 2 rfl) (consItem (mem_at 3 rfl) noItem)))) (consItem (mem_at 0 rfl) noItem) ?_
  rintro v outs ros ⟨rfl, rfl, rfl⟩
  refine ⟨_, rfl, ?_⟩
  refine gl_ns ?_
  refine g_cond (b := (laws_big code)) rfl (fun hc => ?_) (fun hc => ?_)
  · replace h := condT hc h
    refine g_sr ?_
    refine gl_batch 1 [(2, .bool true)] rfl ?_
    refine gl_ns ?_
    refine g_ret ?_
    refine gx_seq_ret ?_
    obtain rfl := Option.some.inj h
    exact gx_fin rfl [.bool true] _ _ [] ⟨_, _, rfl, rfl, rfl⟩ rfl ⟨rfl, rfl, rfl⟩ (fun w hS => (hS.take 0).facts [] [] [] noItem noItem noItem) (Or.inl rfl)
  · replace h := condF hc h
    refine g_skip ?_
    refine gx_seq ?_
    refine g_sr ?_
    refine gl_batch 1 [(27, .slice a_code (List.length code) c_code)] rfl ?_
    obtain ⟨o1, ho1, h⟩ := bindS h
    refine gl_call rfl rfl (fun w => by kernel_rfl) (c_spec_DrawTraceText code a_code c_code ho1) (consItem (mem_at 0 rfl) (consItem (mem_at 1 rfl) (consItem (mem_at 2 rfl) (consItem (mem_at 3 rfl) noItem)))) (consItem (mem_at 0 rfl) noItem) ?_
    rintro v outs ros ⟨a_v2, c_v3, rfl, rfl, rfl⟩
    refine ⟨_, rfl, ?_⟩
    refine gl_batch 1 [(3, .slice a_v2 (List.length o1) c_v3)] rfl ?_
    refine gl_nx ?_
    refine gl_batch 1 [(30, .slice a_v2 (List.length o1) c_v3)] rfl ?_
    obtain ⟨o4, ho4, h⟩ := bindS h
    refine gl_call rfl rfl (fun w => by kernel_rfl) (c_impl_TraceText o1 a_v2 c_v3 ho4) (consItem (mem_at 0 rfl) (consItem (mem_at 1 rfl) (consItem (mem_at 2 rfl) (consItem (mem_at 3 rfl) noItem)))) (consItem (mem_at 0 rfl) noItem) ?_
    rintro v outs ros ⟨rfl, rfl, rfl⟩
    refine ⟨_, rfl, ?_⟩
    refine gl_batch 5 [(5, .int .i64 o4.2), (4, str o4.1), (33, .int .i64 o4.2), (32, str o4.1), (29, .tuple #[str o4.1, .int .i64 o4.2])] rfl ?_
    refine gl_nx ?_
    refine gl_batch 1 [(35, .slice a_v2 (List.length o1) c_v3)] rfl ?_
    obtain ⟨o5, ho5, h⟩ := bindS h
    refine gl_call rfl rfl (fun w => by kernel_rfl) (c_spec_TraceText o1 a_v2 c_v3 ho5) (consItem (mem_at 0 rfl) (consItem (mem_at 1 rfl) (consItem (mem_at 2 rfl) (consItem (mem_at 3 rfl) noItem)))) (consItem (mem_at 0 rfl) noItem) ?_
    rintro v outs ros ⟨rfl, rfl, rfl⟩
    refine ⟨_, rfl, ?_⟩
    refine gl_batch 5 [(7, .int .i64 o5.2), (6, str o5.1), (38, .int .i64 o5.2), (37, str o5.1), (34, .tuple #[str o5.1, .int .i64 o5.2])] rfl ?_
    refine gl_nx ?_
    refine gl_batch 1 [(40, .slice a_v2 (List.length o1) c_v3)] rfl ?_
    obtain ⟨o6, ho6, h⟩ := bindS h
    refine gl_call rfl rfl (fun w => by kernel_rfl) (c_impl_ChainAfter o1 a_v2 c_v3 ho6) (consItem (mem_at 0 rfl) (consItem (mem_at 1 rfl) (consItem (mem_at 2 rfl) (consItem (mem_at 3 rfl) noItem)))) (consItem (mem_at 0 rfl) noItem) ?_
    rintro v outs ros ⟨rfl, rfl, rfl⟩
    refine ⟨_, rfl, ?_⟩
    refine gl_batch 5 [(9, .int .i64 o6.2), (8, .int .i64 o6.1), (43, .int .i64 o6.2), (42, .int .i64 o6.1), (39, .tuple #[.int .i64 o6.1, .int .i64 o6.2])] rfl ?_
    refine gl_nx ?_
    refine gl_batch 1 [(45, .slice a_v2 (List.length o1) c_v3)] rfl ?_
    obtain ⟨o7, ho7, h⟩ := bindS h
    refine gl_call rfl rfl (fun w => by kernel_rfl) (c_spec_ChainAfter o1 a_v2 c_v3 ho7) (consItem (mem_at 0 rfl) (consItem (mem_at 1 rfl) (consItem (mem_at 2 rfl) (consItem (mem_at 3 rfl) noItem)))) (consItem (mem_at 0 rfl) noItem) ?_
    rintro v outs ros ⟨rfl, rfl, rfl⟩
    refine ⟨_, rfl, ?_⟩
    refine gl_batch 5 [(11, .int .i64 o7.2), (10, .int .i64 o7.1), (48, .int .i64 o7.2), (47, .int .i64 o7.1), (44, .tuple #[.int .i64 o7.1, .int .i64 o7.2])] rfl ?_
    refine gl_nx ?_
    refine gl_batch 1 [(49, .slice a_code (List.length code) c_code)] rfl ?_
    obtain ⟨o8, ho8, h⟩ := bindS h
    refine gl_call rfl rfl (fun w => by kernel_rfl) (c_spec_DrawRecoverTrace code a_code c_code ho8) (consItem (mem_at 0 rfl) (consItem (mem_at 1 rfl) (consItem (mem_at 2 rfl) (consItem (mem_at 3 rfl) noItem)))) (consItem (mem_at 1 rfl) noItem) ?_
    rintro v outs ros ⟨rfl, rfl, rfl⟩
    refine ⟨_, rfl, ?_⟩
    refine gl_batch 1 [(12, str o8)] rfl ?_
    refine gl_nx ?_
    refine gl_batch 1 [(52, str o8)] rfl ?_
    obtain ⟨o9, ho9, h⟩ := bindS h
    refine gl_call rfl rfl (fun w => by kernel_rfl) (c_impl_RecoverTrace o8 ho9) (consItem (mem_at 0 rfl) (consItem (mem_at 1 rfl) (consItem (mem_at 2 rfl) (consItem (mem_at 3 rfl) noItem)))) noItem ?_
    rintro v outs ros ⟨a_v10, c_v11, rfl, rfl, rfl⟩
    refine ⟨_, rfl, ?_⟩
    refine gl_batch 5 [(14, .int .i64 o9.2), (13, .slice a_v10 (List.length o9.1) c_v11), (55, .int .i64 o9.2), (54, .slice a_v10 (List.length o9.1) c_v11), (51, .tuple #[.slice a_v10 (List.length o9.1) c_v11, .int .i64 o9.2])] rfl ?_
    refine gl_nx ?_
    refine gl_batch 1 [(57, str o8)] rfl ?_
    obtain ⟨o12, ho12, h⟩ := bindS h
    refine gl_call rfl rfl (fun w => by kernel_rfl) (c_spec_RecoverTrace o8 ho12) (consItem (mem_at 0 rfl) (consItem (mem_at 1 rfl) (consItem (mem_at 2 rfl) (consItem (mem_at 3 rfl) noItem)))) noItem ?_
    rintro v outs ros ⟨a_v13, c_v14, rfl, rfl, rfl⟩
    refine ⟨_, rfl, ?_⟩
    refine gl_batch 5 [(16, .int .i64 o12.2), (15, .slice a_v13 (List.length o12.1) c_v14), (60, .int .i64 o12.2), (59, .slice a_v13 (List.length o12.1) c_v14), (56, .tuple #[.slice a_v13 (List.length o12.1) c_v14, .int .i64 o12.2])] rfl ?_
    refine gl_ns ?_
    refine g_seq ?_
    refine g_sr ?_
    refine gl_batch 4 [(64, .bool (o4.2 != o5.2)), (63, .bool (o4.2 != o5.2)), (62, .int .i64 o5.2), (61, .int .i64 o4.2)] rfl ?_
    refine gl_join (EE := [(68, .bool ((o4.2 != o5.2) || (!(o4.1 == o5.1)))), (0, .slice a_code (List.length code) c_code), (3, .slice a_v2 (List.length o1) c_v3), (4, str o4.1), (5, .int .i64 o4.2), (8, .int .i64 o6.1), (9, .int .i64 o6.2), (10, .int .i64 o7.1), (11, .int .i64 o7.2), (13, .slice a_v10 (List.length o9.1) c_v11), (14, .int .i64 o9.2), (15, .slice a_v13 (List.length o12.1) c_v14), (16, .int .i64 o12.2)]) (RR := [SL false 39 FiringS a_v13 c_v14 o12.1, SL false 39 FiringS a_v10 c_v11 o9.1, SL false 39 FiringS a_v2 c_v3 o1]) (XX := [gTab 3 pow10C, gNum 0, gErr 1, gErr 2]) (OO := [SL false 5 (intS .u8) a_code c_code code]) (VV := []) 4 ?_ ?_
    · skip
      refine gl_case 64 rfl (fun hc => ?_) (fun hc => ?_)
      · skip
        refine gl_batch 4 [(68, .bool true), (67, undef), (66, undef), (65, undef)] rfl ?_
        refine gl_nil ?_
        exact gx_mid ⟨congrArg (fun z => some (Value.bool z)) (or_t hc).symm, rfl, rfl, rfl, rfl, rfl, rfl, rfl, rfl, rfl, rfl, rfl, rfl, trivial⟩ (fun w hS => hS)
      · skip
        refine gl_batch 2 [(66, str o5.1), (65, str o4.1)] rfl ?_
        refine gl_sne (s := o4.1) (u := o5.1) rfl rfl rfl rfl ?_
        refine gl_batch 1 [(68, .bool (!(o4.1 == o5.1)))] rfl ?_
        refine gl_nil ?_
        exact gx_mid ⟨congrArg (fun z => some (Value.bool z)) (or_f hc).symm, rfl, rfl, rfl, rfl, rfl, rfl, rfl, rfl, rfl, rfl, rfl, rfl, trivial⟩ (fun w hS => hS)
    · skip
      refine gl_batch 1 [(69, .bool ((o4.2 != o5.2) || (!(o4.1 == o5.1))))] rfl ?_
      refine gl_join (EE := [(73, .bool (((o4.2 != o5.2) || (!(o4.1 == o5.1))) || (o6.2 != o7.2))), (0, .slice a_code (List.length code) c_code), (3, .slice a_v2 (List.length o1) c_v3), (4, str o4.1), (5, .int .i64 o4.2), (8, .int .i64 o6.1), (9, .int .i64 o6.2), (10, .int .i64 o7.1), (13, .slice a_v10 (List.length o9.1) c_v11), (14, .int .i64 o9.2), (15, .slice a_v13 (List.length o12.1) c_v14), (16, .int .i64 o12.2)]) (RR := [SL false 39 FiringS a_v13 c_v14 o12.1, SL false 39 FiringS a_v10 c_v11 o9.1, SL false 39 FiringS a_v2 c_v3 o1]) (XX := [gTab 3 pow10C, gNum 0, gErr 1, gErr 2]) (OO := [SL false 5 (intS .u8) a_code c_code code]) (VV := []) 4 ?_ ?_
      · skip
        refine gl_case 69 rfl (fun hc => ?_) (fun hc => ?_)
        · skip
          refine gl_batch 4 [(73, .bool true), (72, undef), (71, undef), (70, undef)] rfl ?_
          refine gl_nil ?_
          exact gx_mid ⟨congrArg (fun z => some (Value.bool z)) (or_t hc).symm, rfl, rfl, rfl, rfl, rfl, rfl, rfl, rfl, rfl, rfl, rfl, trivial⟩ (fun w hS => hS)
        · skip
          refine gl_batch 4 [(73, .bool (o6.2 != o7.2)), (72, .bool (o6.2 != o7.2)), (71, .int .i64 o7.2), (70, .int .i64 o6.2)] rfl ?_
          refine gl_nil ?_
          exact gx_mid ⟨congrArg (fun z => some (Value.bool z)) (or_f hc).symm, rfl, rfl, rfl, rfl, rfl, rfl, rfl, rfl, rfl, rfl, rfl, trivial⟩ (fun w hS => hS)
      · skip
        refine gl_batch 1 [(74, .bool (((o4.2 != o5.2) || (!(o4.1 == o5.1))) || (o6.2 != o7.2)))] rfl ?_
        refine gl_join (EE := [(78, .bool ((((o4.2 != o5.2) || (!(o4.1 == o5.1))) || (o6.2 != o7.2)) || (o6.1 != o7.1))), (0, .slice a_code (List.length code) c_code), (3, .slice a_v2 (List.length o1) c_v3), (4, str o4.1), (5, .int .i64 o4.2), (8, .int .i64 o6.1), (9, .int .i64 o6.2), (13, .slice a_v10 (List.length o9.1) c_v11), (14, .int .i64 o9.2), (15, .slice a_v13 (List.length o12.1) c_v14), (16, .int .i64 o12.2)]) (RR := [SL false 39 FiringS a_v13 c_v14 o12.1, SL false 39 FiringS a_v10 c_v11 o9.1, SL false 39 FiringS a_v2 c_v3 o1]) (XX := [gTab 3 pow10C, gNum 0, gErr 1, gErr 2]) (OO := [SL false 5 (intS .u8) a_code c_code code]) (VV := []) 4 ?_ ?_
        · skip
          refine gl_case 74 rfl (fun hc => ?_) (fun hc => ?_)
          · skip
            refine gl_batch 4 [(78, .bool true), (77, undef), (76, undef), (75, undef)] rfl ?_
            refine gl_nil ?_
            exact gx_mid ⟨congrArg (fun z => some (Value.bool z)) (or_t hc).symm, rfl, rfl, rfl, rfl, rfl, rfl, rfl, rfl, rfl, rfl, trivial⟩ (fun w hS => hS)
          · skip
            refine gl_batch 4 [(78, .bool (o6.1 != o7.1)), (77, .bool (o6.1 != o7.1)), (76, .int .i64 o7.1), (75, .int .i64 o6.1)] rfl ?_
            refine gl_nil ?_
            exact gx_mid ⟨congrArg (fun z => some (Value.bool z)) (or_f hc).symm, rfl, rfl, rfl, rfl, rfl, rfl, rfl, rfl, rfl, rfl, trivial⟩ (fun w hS => hS)
        · skip
          refine gl_batch 1 [(79, .bool ((((o4.2 != o5.2) || (!(o4.1 == o5.1))) || (o6.2 != o7.2)) || (o6.1 != o7.1)))] rfl ?_
          refine gl_join (EE := [(83, .bool (((((o4.2 != o5.2) || (!(o4.1 == o5.1))) || (o6.2 != o7.2)) || (o6.1 != o7.1)) || (o9.2 != o12.2))), (0, .slice a_code (List.length code) c_code), (3, .slice a_v2 (List.length o1) c_v3), (4, str o4.1), (5, .int .i64 o4.2), (8, .int .i64 o6.1), (9, .int .i64 o6.2), (13, .slice a_v10 (List.length o9.1) c_v11), (15, .slice a_v13 (List.length o12.1) c_v14)]) (RR := [SL false 39 FiringS a_v13 c_v14 o12.1, SL false 39 FiringS a_v10 c_v11 o9.1, SL false 39 FiringS a_v2 c_v3 o1]) (XX := [gTab 3 pow10C, gNum 0, gErr 1, gErr 2]) (OO := [SL false 5 (intS .u8) a_code c_code code]) (VV := []) 4 ?_ ?_
          · skip
            refine gl_case 79 rfl (fun hc => ?_) (fun hc => ?_)
            · skip
              refine gl_batch 4 [(83, .bool true), (82, undef), (81, undef), (80, undef)] rfl ?_
              refine gl_nil ?_
              exact gx_mid ⟨congrArg (fun z => some (Value.bool z)) (or_t hc).symm, rfl, rfl, rfl, rfl, rfl, rfl, rfl, rfl, trivial⟩ (fun w hS => hS)
            · skip
              refine gl_batch 4 [(83, .bool (o9.2 != o12.2)), (82, .bool (o9.2 != o12.2)), (81, .int .i64 o12.2), (80, .int .i64 o9.2)] rfl ?_
              refine gl_nil ?_
              exact gx_mid ⟨congrArg (fun z => some (Value.bool z)) (or_f hc).symm, rfl, rfl, rfl, rfl, rfl, rfl, rfl, rfl, trivial⟩ (fun w hS => hS)
          · skip
            refine gl_batch 1 [(84, .bool (((((o4.2 != o5.2) || (!(o4.1 == o5.1))) || (o6.2 != o7.2)) || (o6.1 != o7.1)) || (o9.2 != o12.2)))] rfl ?_
            obtain ⟨q15, hq15, h⟩ := bindS h
            refine gl_join (EE := [(89, .bool q15), (0, .slice a_code (List.length code) c_code), (3, .slice a_v2 (List.length o1) c_v3), (4, str o4.1), (5, .int .i64 o4.2), (8, .int .i64 o6.1), (9, .int .i64 o6.2)]) (RR := [SL false 39 FiringS a_v13 c_v14 o12.1, SL false 39 FiringS a_v10 c_v11 o9.1, SL false 39 FiringS a_v2 c_v3 o1]) (XX := [gTab 3 pow10C, gNum 0, gErr 1, gErr 2]) (OO := [SL false 5 (intS .u8) a_code c_code code]) (VV := []) 5 ?_ ?_
            · replace h := hq15
              refine gl_case 84 rfl (fun hc => ?_) (fun hc => ?_)
              · replace h := condT hc h
                refine gl_batch 5 [(89, .bool true), (88, undef), (87, undef), (86, undef), (85, undef)] rfl ?_
                refine gl_nil ?_
                obtain rfl := Option.some.inj h
                exact gx_mid ⟨rfl, rfl, rfl, rfl, rfl, rfl, rfl, trivial⟩ (fun w hS => hS)
              · replace h := condF hc h
                refine gl_batch 2 [(86, .slice a_v13 (List.length o12.1) c_v14), (85, .slice a_v10 (List.length o9.1) c_v11)] rfl ?_
                obtain ⟨o16, ho16, h⟩ := bindS h
                refine gl_call rfl rfl (fun w => by kernel_rfl) (c_laws_likeRuns9 o9.1 o12.1 a_v10 c_v11 a_v13 c_v14 ho16) (consItem (mem_at 0 rfl) (consItem (mem_at 1 rfl) (consItem (mem_at 2 rfl) (consItem (mem_at 3 rfl) noItem)))) (consItem (mem_at 1 rfl) (consItem (mem_at 0 rfl) noItem)) ?_
                rintro v outs ros ⟨rfl, rfl, rfl⟩
                refine ⟨_, rfl, ?_⟩
                refine gl_batch 2 [(89, .bool (!o16)), (88, .bool (!o16))] rfl ?_
                refine gl_nil ?_
                obtain rfl := Option.some.inj h
                exact gx_mid ⟨rfl, rfl, rfl, rfl, rfl, rfl, rfl, trivial⟩ (fun w hS => hS)
            · skip
              refine gl_batch 1 [(90, .bool q15)] rfl ?_
              refine gl_join (EE := [(94, .bool (q15 || (o6.2 != o4.2))), (0, .slice a_code (List.length code) c_code), (3, .slice a_v2 (List.length o1) c_v3), (4, str o4.1), (5, .int .i64 o4.2), (8, .int .i64 o6.1)]) (RR := [SL false 39 FiringS a_v13 c_v14 o12.1, SL false 39 FiringS a_v10 c_v11 o9.1, SL false 39 FiringS a_v2 c_v3 o1]) (XX := [gTab 3 pow10C, gNum 0, gErr 1, gErr 2]) (OO := [SL false 5 (intS .u8) a_code c_code code]) (VV := []) 4 ?_ ?_
              · skip
                refine gl_case 90 rfl (fun hc => ?_) (fun hc => ?_)
                · skip
                  refine gl_batch 4 [(94, .bool true), (93, undef), (92, undef), (91, undef)] rfl ?_
                  refine gl_nil ?_
                  exact gx_mid ⟨congrArg (fun z => some (Value.bool z)) (or_t hc).symm, rfl, rfl, rfl, rfl, rfl, trivial⟩ (fun w hS => hS)
                · skip
                  refine gl_batch 4 [(94, .bool (o6.2 != o4.2)), (93, .bool (o6.2 != o4.2)), (92, .int .i64 o4.2), (91, .int .i64 o6.2)] rfl ?_
                  refine gl_nil ?_
                  exact gx_mid ⟨congrArg (fun z => some (Value.bool z)) (or_f hc).symm, rfl, rfl, rfl, rfl, rfl, trivial⟩ (fun w hS => hS)
              · skip
                refine gl_ns ?_
                refine g_cond (b := q15 || (o6.2 != o4.2)) rfl (fun hc => ?_) (fun hc => ?_)
                · replace h := condT hc h
                  refine g_sr ?_
                  refine gl_batch 1 [(2, .bool false)] rfl ?_
                  refine gl_ns ?_
                  refine g_ret ?_
                  refine gx_seq_ret ?_
                  obtain rfl := Option.some.inj h
                  exact gx_fin rfl [.bool false] _ _ [] ⟨_, _, rfl, rfl, rfl⟩ rfl ⟨rfl, rfl, rfl⟩ (fun w hS => (hS.take 0).facts [] [] [] noItem noItem noItem) (Or.inl rfl)
                · replace h := condF hc h
                  refine g_skip ?_
                  refine gx_seq ?_
                  refine g_seq ?_
                  refine g_sr ?_
                  refine gl_batch 2 [(96, .bool (o4.2 != 0)), (95, .int .i64 o4.2)] rfl ?_
                  refine gl_ns ?_
                  refine g_cond (b := o4.2 != 0) rfl (fun hc => ?_) (fun hc => ?_)
                  · replace h := condT hc h
                    refine g_sr ?_
                    refine gl_batch 1 [(2, .bool true)] rfl ?_
                    refine gl_ns ?_
                    refine g_ret ?_
                    refine gx_seq_ret ?_
                    obtain rfl := Option.some.inj h
                    exact gx_fin rfl [.bool true] _ _ [] ⟨_, _, rfl, rfl, rfl⟩ rfl ⟨rfl, rfl, rfl⟩ (fun w hS => (hS.take 0).facts [] [] [] noItem noItem noItem) (Or.inl rfl)
                  · replace h := condF hc h
                    refine g_skip ?_
                    refine gx_seq ?_
                    refine g_sr ?_
                    refine gl_batch 1 [(97, .slice a_code (List.length code) c_code)] rfl ?_
                    obtain ⟨o17, ho17, h⟩ := bindS h
                    refine gl_call rfl rfl (fun w => by kernel_rfl) (c_laws_roll code 2801 a_code c_code ho17) (consItem (mem_at 0 rfl) (consItem (mem_at 1 rfl) (consItem (mem_at 2 rfl) (consItem (mem_at 3 rfl) noItem)))) (consItem (mem_at 3 rfl) noItem) ?_
                    rintro v outs ros ⟨b18, rfl, rfl, rfl⟩
                    refine ⟨_, rfl, ?_⟩
                    refine gl_batch 1 [(99, str o4.1)] rfl ?_
                    refine gl_slen (s := o4.1) rfl Ft9 rfl rfl ?_
                    refine gl_batch 1 [(101, .int .i64 (IntKind.i64.wrap ((List.length o4.1 : Int) + 1)))] rfl ?_
                    obtain ⟨o19, ho19, h⟩ := bindS h
                    refine gl_callR rfl rfl (fun w => by kernel_rfl) (c_laws_dice_below (⟨code, o17.i, o17.h_v⟩ : Dice) (IntKind.i64.wrap ((List.length o4.1 : Int) + 1)) b18 a_code c_code ho19) rfl (consItem (mem_at 0 rfl) (consItem (mem_at 1 rfl) (consItem (mem_at 2 rfl) (consItem (mem_at 3 rfl) noItem)))) (consItem (mem_at 3 rfl) noItem) ?_
                    rintro v outs ros ⟨rfl, rfl, rfl⟩
                    refine ⟨_, rfl, ?_⟩
                    refine gl_batch 1 [(17, .int .i64 o19.1)] rfl ?_
                    refine gl_nx ?_
                    refine gl_batch 1 [(18, .int .i64 0)] rfl ?_
                    refine gl_ns ?_
                    refine g_seq ?_
                    refine g_sr ?_
                    refine gl_batch 1 [(19, .int .i64 0)] rfl ?_
                    refine gl_ns ?_
                    refine g_block ?_
                    obtain ⟨o20, ho20, h⟩ := bindS h
                    refine g_loop (laws_FnTraces_L1 o4 o19) (fun (ss_ : Int × Int) a w => Env a 183 [(3, .slice a_v2 (List.length o1) c_v3), (4, str o4.1), (8, .int .i64 o6.1), (17, .int .i64 o19.1), (18, .int .i64 ss_.1), (19, .int .i64 ss_.2)] ∧ St c w [SL false 39 FiringS a_v2 c_v3 o1] [gTab 3 pow10C, gNum 0, gErr 1, gErr 2] [SL false 5 (intS .u8) a_code c_code code] []) ((fun (ss_ : Int) e a w => e = (.exit 0) ∧ Env a 183 [(3, .slice a_v2 (List.length o1) c_v3), (4, str o4.1), (8, .int .i64 o6.1), (17, .int .i64 o19.1), (18, .int .i64 ss_)] ∧ St c w [SL false 39 FiringS a_v2 c_v3 o1] [gTab 3 pow10C, gNum 0, gErr 1, gErr 2] [SL false 5 (intS .u8) a_code c_code code] []) : (Int) → Exit → Act → World → Prop) ho20 ?_ ?_ ?_
                    · exact fun a w hE hS => ⟨hE.sub ⟨rfl, rfl, rfl, rfl, rfl, rfl, trivial⟩, ((hS.pick 3 rfl).take 1).facts _ _ [] (consItem (mem_at 0 rfl) (consItem (mem_at 1 rfl) (consItem (mem_at 2 rfl) (consItem (mem_at 3 rfl) noItem)))) (consItem (mem_at 0 rfl) noItem) noItem⟩
                    · intro s21 o22 h a w hA
                      obtain ⟨hE, hS⟩ := hA
                      unfold laws_FnTraces_L1 at h
                      refine g_enter hE hS ?_
                      refine g_seq ?_
                      refine g_sr ?_
                      refine gl_batch 3 [(105, .bool (decide (s21.2 < o19.1))), (104, .int .i64 o19.1), (103, .int .i64 s21.2)] rfl ?_
                      refine gl_ns ?_
                      refine g_cond (b := decide (s21.2 < o19.1)) rfl (fun hc => ?_) (fun hc => ?_)
                      · replace h := condT hc h
                        refine g_skip ?_
                        refine gx_seq ?_
                        obtain ⟨o23, ho23, h⟩ := bindS h
                        refine g_mid (M := ((fun ss_ e a w => e = .normal ∧ Env a 183 [(3, .slice a_v2 (List.length o1) c_v3), (4, str o4.1), (8, .int .i64 o6.1), (17, .int .i64 o19.1), (18, .int .i64 ss_), (19, .int .i64 s21.2)] ∧ St c w [SL false 39 FiringS a_v2 c_v3 o1] [gTab 3 pow10C, gNum 0, gErr 1, gErr 2] [SL false 5 (intS .u8) a_code c_code code] []) : (Int) → Exit → Act → World → Prop) o23) ?_ ?_
                        · replace h := ho23
                          refine g_block ?_
                          refine g_sr ?_
                          refine gl_batch 2 [(109, .int .i64 s21.2), (108, str o4.1)] rfl ?_
                          obtain ⟨y24, hy24, h⟩ := bindS h
                          refine gl_sidx (k := .i64) rfl rfl Ft9 hy24 rfl rfl ?_
                          refine gl_batch 1 [(111, .bool ((y24.toNat : Int) == 10))] rfl ?_
                          refine gl_ns ?_
                          refine g_cond (b := (y24.toNat : Int) == 10) rfl (fun hc => ?_) (fun hc => ?_)
                          · replace h := condT hc h
                            refine g_region ?_
                            refine gl_batch 3 [(18, .int .i64 (IntKind.i64.wrap (s21.1 + 1))), (113, .int .i64 (IntKind.i64.wrap (s21.1 + 1))), (112, .int .i64 s21.1)] rfl ?_
                            refine gl_nil ?_
                            refine gx_blk ?_
                            obtain rfl := Option.some.inj h
                            exact gx_of (fun a w hE hS => ⟨rfl, hE.sub ⟨rfl, rfl, rfl, rfl, rfl, rfl, trivial⟩, (hS.take 1).facts _ _ [] (consItem (mem_at 0 rfl) (consItem (mem_at 1 rfl) (consItem (mem_at 2 rfl) (consItem (mem_at 3 rfl) noItem)))) (consItem (mem_at 0 rfl) noItem) noItem⟩)
                          · replace h := condF hc h
                            refine g_skip ?_
                            refine gx_blk ?_
                            obtain rfl := Option.some.inj h
                            exact gx_of (fun a w hE hS => ⟨rfl, hE.sub ⟨rfl, rfl, rfl, rfl, rfl, rfl, trivial⟩, (hS.take 1).facts _ _ [] (consItem (mem_at 0 rfl) (consItem (mem_at 1 rfl) (consItem (mem_at 2 rfl) (consItem (mem_at 3 rfl) noItem)))) (consItem (mem_at 0 rfl) noItem) noItem⟩)
                        · intro e a w hm
                          obtain ⟨rfl, hE, hS⟩ := hm
                          refine gx_to hE hS ?_
                          refine gx_seq ?_
                          refine g_region ?_
                          refine gl_batch 3 [(19, .int .i64 (IntKind.i64.wrap (s21.2 + 1))), (107, .int .i64 (IntKind.i64.wrap (s21.2 + 1))), (106, .int .i64 s21.2)] rfl ?_
                          refine gl_nil ?_
                          obtain rfl := Option.some.inj h
                          exact gx_of (fun a w hE hS => lp_in ⟨hE.sub ⟨rfl, rfl, rfl, rfl, rfl, rfl, trivial⟩, (hS.take 1).facts _ _ [] (consItem (mem_at 0 rfl) (consItem (mem_at 1 rfl) (consItem (mem_at 2 rfl) (consItem (mem_at 3 rfl) noItem)))) (consItem (mem_at 0 rfl) noItem) noItem⟩)
                      · replace h := condF hc h
                        refine g_exit ?_
                        refine gx_seq_exit ?_
                        obtain rfl := Option.some.inj h
                        exact gx_of (fun a w hE hS => lp_out nofun (⟨rfl, hE.sub ⟨rfl, rfl, rfl, rfl, rfl, trivial⟩, (hS.take 1).facts _ _ [] (consItem (mem_at 0 rfl) (consItem (mem_at 1 rfl) (consItem (mem_at 2 rfl) (consItem (mem_at 3 rfl) noItem)))) (consItem (mem_at 0 rfl) noItem) noItem⟩))
                    · intro e a w hm
                      obtain ⟨rfl, hE, hS⟩ := hm
                      refine gx_to hE hS ?_
                      refine gx_blk_hit ?_
                      refine gx_seq ?_
                      refine g_sr ?_
                      refine gl_batch 1 [(115, str o4.1)] rfl ?_
                      obtain ⟨o25, ho25, h⟩ := bindS h
                      refine gl_call rfl rfl (fun w => by kernel_rfl) (c_impl_RecoverTrace o4.1 ho25) (consItem (mem_at 0 rfl) (consItem (mem_at 1 rfl) (consItem (mem_at 2 rfl) (consItem (mem_at 3 rfl) noItem)))) noItem ?_
                      rintro v outs ros ⟨a_v26, c_v27, rfl, rfl, rfl⟩
                      refine ⟨_, rfl, ?_⟩
                      refine gl_batch 5 [(21, .int .i64 o25.2), (20, .slice a_v26 (List.length o25.1) c_v27), (118, .int .i64 o25.2), (117, .slice a_v26 (List.length o25.1) c_v27), (114, .tuple #[.slice a_v26 (List.length o25.1) c_v27, .int .i64 o25.2])] rfl ?_
                      refine gl_nx ?_
                      refine gl_batch 2 [(121, .int .i64 o19.1), (120, str o4.1)] rfl ?_
                      obtain ⟨z28, hz28, h⟩ := bindS h
                      refine gl_ssub (i := 0) (j := o19.1) (k := .i64) (k2 := .i64) rfl rfl rfl Ft9 hz28 rfl rfl ?_
                      obtain ⟨o29, ho29, h⟩ := bindS h
                      refine gl_call rfl rfl (fun w => by kernel_rfl) (c_impl_RecoverTrace z28 ho29) (consItem (mem_at 0 rfl) (consItem (mem_at 1 rfl) (consItem (mem_at 2 rfl) (consItem (mem_at 3 rfl) noItem)))) noItem ?_
                      rintro v outs ros ⟨a_v30, c_v31, rfl, rfl, rfl⟩
                      refine ⟨_, rfl, ?_⟩
                      refine gl_batch 5 [(23, .int .i64 o29.2), (22, .slice a_v30 (List.length o29.1) c_v31), (125, .int .i64 o29.2), (124, .slice a_v30 (List.length o29.1) c_v31), (119, .tuple #[.slice a_v30 (List.length o29.1) c_v31, .int .i64 o29.2])] rfl ?_
                      refine gl_ns ?_
                      refine g_seq ?_
                      refine g_sr ?_
                      refine gl_batch 3 [(128, .bool (o25.2 != 0)), (127, .bool (o25.2 != 0)), (126, .int .i64 o25.2)] rfl ?_
                      refine gl_join (EE := [(131, .bool ((o25.2 != 0) || (o29.2 != 0))), (3, .slice a_v2 (List.length o1) c_v3), (8, .int .i64 o6.1), (18, .int .i64 o20), (20, .slice a_v26 (List.length o25.1) c_v27), (22, .slice a_v30 (List.length o29.1) c_v31)]) (RR := [SL false 39 FiringS a_v30 c_v31 o29.1, SL false 39 FiringS a_v26 c_v27 o25.1, SL false 39 FiringS a_v2 c_v3 o1]) (XX := [gTab 3 pow10C, gNum 0, gErr 1, gErr 2]) (OO := [SL false 5 (intS .u8) a_code c_code code]) (VV := []) 3 ?_ ?_
                      · skip
                        refine gl_case 128 rfl (fun hc => ?_) (fun hc => ?_)
                        · skip
                          refine gl_batch 3 [(131, .bool true), (130, undef), (129, undef)] rfl ?_
                          refine gl_nil ?_
                          exact gx_mid ⟨congrArg (fun z => some (Value.bool z)) (or_t hc).symm, rfl, rfl, rfl, rfl, rfl, trivial⟩ (fun w hS => hS)
                        · skip
                          refine gl_batch 3 [(131, .bool (o29.2 != 0)), (130, .bool (o29.2 != 0)), (129, .int .i64 o29.2)] rfl ?_
                          refine gl_nil ?_
                          exact gx_mid ⟨congrArg (fun z => some (Value.bool z)) (or_f hc).symm, rfl, rfl, rfl, rfl, rfl, trivial⟩ (fun w hS => hS)
                      · skip
                        refine gl_batch 1 [(132, .bool ((o25.2 != 0) || (o29.2 != 0)))] rfl ?_
                        refine gl_join (EE := [(138, .bool (((o25.2 != 0) || (o29.2 != 0)) || ((List.length o25.1 : Int) != (List.length o1 : Int)))), (3, .slice a_v2 (List.length o1) c_v3), (8, .int .i64 o6.1), (18, .int .i64 o20), (20, .slice a_v26 (List.length o25.1) c_v27), (22, .slice a_v30 (List.length o29.1) c_v31)]) (RR := [SL false 39 FiringS a_v30 c_v31 o29.1, SL false 39 FiringS a_v26 c_v27 o25.1, SL false 39 FiringS a_v2 c_v3 o1]) (XX := [gTab 3 pow10C, gNum 0, gErr 1, gErr 2]) (OO := [SL false 5 (intS .u8) a_code c_code code]) (VV := []) 6 ?_ ?_
                        · skip
                          refine gl_case 132 rfl (fun hc => ?_) (fun hc => ?_)
                          · skip
                            refine gl_batch 6 [(138, .bool true), (137, undef), (136, undef), (135, undef), (134, undef), (133, undef)] rfl ?_
                            refine gl_nil ?_
                            exact gx_mid ⟨congrArg (fun z => some (Value.bool z)) (or_t hc).symm, rfl, rfl, rfl, rfl, rfl, trivial⟩ (fun w hS => hS)
                          · skip
                            refine gl_batch 1 [(133, .slice a_v26 (List.length o25.1) c_v27)] rfl ?_
                            refine gl_len rfl Fs24 rfl rfl ?_
                            refine gl_batch 1 [(135, .slice a_v2 (List.length o1) c_v3)] rfl ?_
                            refine gl_len rfl Fs24 rfl rfl ?_
                            refine gl_batch 2 [(138, .bool ((List.length o25.1 : Int) != (List.length o1 : Int))), (137, .bool ((List.length o25.1 : Int) != (List.length o1 : Int)))] rfl ?_
                            refine gl_nil ?_
                            exact gx_mid ⟨congrArg (fun z => some (Value.bool z)) (or_f hc).symm, rfl, rfl, rfl, rfl, rfl, trivial⟩ (fun w hS => hS)
                        · skip
                          refine gl_batch 1 [(139, .bool (((o25.2 != 0) || (o29.2 != 0)) || ((List.length o25.1 : Int) != (List.length o1 : Int))))] rfl ?_
                          obtain ⟨q32, hq32, h⟩ := bindS h
                          refine gl_join (EE := [(146, .bool q32), (3, .slice a_v2 (List.length o1) c_v3), (8, .int .i64 o6.1), (20, .slice a_v26 (List.length o25.1) c_v27)]) (RR := [SL false 39 FiringS a_v30 c_v31 o29.1, SL false 39 FiringS a_v26 c_v27 o25.1, SL false 39 FiringS a_v2 c_v3 o1]) (XX := [gTab 3 pow10C, gNum 0, gErr 1, gErr 2]) (OO := [SL false 5 (intS .u8) a_code c_code code]) (VV := []) 7 ?_ ?_
                          · replace h := hq32
                            refine gl_case 139 rfl (fun hc => ?_) (fun hc => ?_)
                            · replace h := condT hc h
                              refine gl_batch 7 [(146, .bool true), (145, undef), (144, undef), (143, undef), (142, undef), (141, undef), (140, undef)] rfl ?_
                              refine gl_nil ?_
                              obtain rfl := Option.some.inj h
                              exact gx_mid ⟨rfl, rfl, rfl, rfl, trivial⟩ (fun w hS => hS)
                            · replace h := condF hc h
                              refine gl_batch 3 [(142, .int .i64 o20), (141, .slice a_v26 (List.length o25.1) c_v27), (140, .slice a_v30 (List.length o29.1) c_v31)] rfl ?_
                              obtain ⟨z33, hz33, h⟩ := bindS h
                              refine gl_subV (i := 0) (j := o20) (k := .i64) (k2 := .i64) (mem_at 1 rfl) rfl rfl rfl Fs24 Fz39 hz33 rfl rfl ?_
                              intro a_v34 c_v35
                              obtain ⟨o36, ho36, h⟩ := bindS h
                              refine gl_call rfl rfl (fun w => by kernel_rfl) (c_laws_likeRuns9 o29.1 z33 a_v30 c_v31 a_v34 c_v35 ho36) (consItem (mem_at 0 rfl) (consItem (mem_at 1 rfl) (consItem (mem_at 2 rfl) (consItem (mem_at 3 rfl) noItem)))) (consItem (mem_at 0 rfl) (consItem (mem_at 3 rfl) noItem)) ?_
                              rintro v outs ros ⟨rfl, rfl, rfl⟩
                              refine ⟨_, rfl, ?_⟩
                              refine gl_batch 2 [(146, .bool (!o36)), (145, .bool (!o36))] rfl ?_
                              refine gl_nil ?_
                              obtain rfl := Option.some.inj h
                              exact gx_mid ⟨rfl, rfl, rfl, rfl, trivial⟩ (fun w hS => (hS.take 3).facts _ _ _ (consItem (mem_at 0 rfl) (consItem (mem_at 1 rfl) (consItem (mem_at 2 rfl) (consItem (mem_at 3 rfl) noItem)))) (consItem (mem_at 0 rfl) noItem) noItem)
                          · skip
                            refine gl_ns ?_
                            refine g_cond (b := q32) rfl (fun hc => ?_) (fun hc => ?_)
                            · replace h := condT hc h
                              refine g_sr ?_
                              refine gl_batch 1 [(2, .bool false)] rfl ?_
                              refine gl_ns ?_
                              refine g_ret ?_
                              refine gx_seq_ret ?_
                              obtain rfl := Option.some.inj h
                              exact gx_fin rfl [.bool false] _ _ [] ⟨_, _, rfl, rfl, rfl⟩ rfl ⟨rfl, rfl, rfl⟩ (fun w hS => (hS.take 0).facts [] [] [] noItem noItem noItem) (Or.inl rfl)
                            · replace h := condF hc h
                              refine g_skip ?_
                              refine gx_seq ?_
                              refine g_seq ?_
                              refine g_sr ?_
                              refine gl_batch 1 [(24, .int .i64 0)] rfl ?_
                              refine gl_ns ?_
                              refine g_block ?_
                              obtain ⟨o37, ho37, h⟩ := bindS h
                              refine g_loop (laws_FnTraces_L2 o1 o25) (fun (ss_ : Int) a w => Env a 183 [(3, .slice a_v2 (List.length o1) c_v3), (8, .int .i64 o6.1), (20, .slice a_v26 (List.length o25.1) c_v27), (24, .int .i64 ss_)] ∧ St c w [SL false 39 FiringS a_v2 c_v3 o1, SL false 39 FiringS a_v26 c_v27 o25.1] [gTab 3 pow10C, gNum 0, gErr 1, gErr 2] [SL false 5 (intS .u8) a_code c_code code] []) (Sum.elim (fun (ss_ : Unit) e a w => e = .ret ∧ Env a 183 [(2, .bool false)] ∧ St c w [] [gTab 3 pow10C, gNum 0, gErr 1, gErr 2] [SL false 5 (intS .u8) a_code c_code code] []) (fun (ss_ : Unit) e a w => e = (.exit 2) ∧ Env a 183 [(8, .int .i64 o6.1)] ∧ St c w [] [gTab 3 pow10C, gNum 0, gErr 1, gErr 2] [SL false 5 (intS .u8) a_code c_code code] []) : (Sum Unit Unit) → Exit → Act → World → Prop) ho37 ?_ ?_ ?_
                              · exact fun a w hE hS => ⟨hE.sub ⟨rfl, rfl, rfl, rfl, trivial⟩, (((hS.pick 1 rfl).pick 2 rfl).take 2).facts _ _ [] (consItem (mem_at 0 rfl) (consItem (mem_at 1 rfl) (consItem (mem_at 2 rfl) (consItem (mem_at 3 rfl) noItem)))) (consItem (mem_at 0 rfl) noItem) noItem⟩
                              · intro s38 o39 h a w hA
                                obtain ⟨hE, hS⟩ := hA
                                unfold laws_FnTraces_L2 at h
                                refine g_enter hE hS ?_
                                refine g_seq ?_
                                refine g_sr ?_
                                refine gl_batch 2 [(148, .slice a_v26 (List.length o25.1) c_v27), (147, .int .i64 s38)] rfl ?_
                                refine gl_len rfl Fs24 rfl rfl ?_
                                refine gl_batch 1 [(150, .bool (decide (s38 < (List.length o25.1 : Int))))] rfl ?_
                                refine gl_ns ?_
                                refine g_cond (b := decide (s38 < (List.length o25.1 : Int))) rfl (fun hc => ?_) (fun hc => ?_)
                                · replace h := condT hc h
                                  refine g_skip ?_
                                  refine gx_seq ?_
                                  refine g_seq ?_
                                  refine g_block ?_
                                  obtain ⟨o40, ho40, h⟩ := bindS h
                                  refine g_mid (M := ((fun ss_ e a w => e = .normal ∧ Env a 183 [(3, .slice a_v2 (List.length o1) c_v3), (8, .int .i64 o6.1), (20, .slice a_v26 (List.length o25.1) c_v27), (24, .int .i64 s38), (176, .bool ss_)] ∧ St c w [SL false 39 FiringS a_v2 c_v3 o1, SL false 39 FiringS a_v26 c_v27 o25.1] [gTab 3 pow10C, gNum 0, gErr 1, gErr 2] [SL false 5 (intS .u8) a_code c_code code] []) : (Bool) → Exit → Act → World → Prop) o40) ?_ ?_
                                  · replace h := ho40
                                    obtain ⟨x41, hx41, h⟩ := bindS h
                                    refine g_elemn (mem_at 1 rfl) hx41 ?_
                                    intro p42 hp42
                                    obtain ⟨x43, hx43, h⟩ := bindS h
                                    refine g_elemn (mem_at 0 rfl) hx43 ?_
                                    intro p44 hp44
                                    refine g_case (x41.Event != x43.Event) (fun hg45 => ?_) (fun hg45 => ?_)
                                    · replace h := condT hg45 h
                                      refine g_drawD 24 [[], [], [0, 1], [2], [3], [], [], [5, 6], [7], [8], [4, 9], [10], [11], [11], [11], [11], [11], [11], [11], [11], [11], [11], [11], [11, 22]] [[20], [24], [], [], [], [3], [24], [], [], [], [], [], [], [], [], [], [], [], [], [], [], [], [], []] [.slice a_v26 (List.length o25.1) c_v27, .int .i64 s38, .pointer (some p42), .pointer (some p42), .int .i64 x41.Event, .slice a_v2 (List.length o1) c_v3, .int .i64 s38, .pointer (some p44), .pointer (some p44), .int .i64 x43.Event, .bool (x41.Event != x43.Event), .bool true, undef, undef, undef, undef, undef, undef, undef, undef, undef, undef, undef, .bool true] mixed rfl rfl ⟨⟨⟨⟨⟨⟨⟨⟨⟨⟨⟨⟨⟨⟨⟨⟨⟨⟨⟨⟨⟨⟨⟨⟨trivial, ?_⟩, ?_⟩, ?_⟩, ?_⟩, ?_⟩, ?_⟩, ?_⟩, ?_⟩, ?_⟩, ?_⟩, ?_⟩, ?_⟩, ?_⟩, ?_⟩, ?_⟩, ?_⟩, ?_⟩, ?_⟩, ?_⟩, ?_⟩, ?_⟩, ?_⟩, ?_⟩, ?_⟩ ?_
                                      · exact obl_pure rfl rfl rfl rfl rfl rfl rfl rfl
                                      · exact obl_pure rfl rfl rfl rfl rfl rfl rfl rfl
                                      · refine obl_in rfl rfl rfl rfl (fun R' O' => ?_)
                                        refine gl_idxVn (k := .i64) (memV (mem_at 1 rfl)) rfl rfl Fs24 Fz39 hx41 rfl rfl ?_
                                        intro p_ hp_
                                        obtain rfl : p42 = p_ := Option.some.inj (hp42.symm.trans hp_)
                                        exact gl_dp rfl rfl rfl
                                      · refine obl_in rfl rfl rfl rfl (fun R' O' => ?_)
                                        refine gl_run (v := .pointer (some p42)) rfl rfl rfl (fun w => by kernel_rfl) ?_
                                        exact gl_dp rfl rfl rfl
                                      · refine obl_in rfl rfl rfl rfl (fun R' O' => ?_)
                                        refine gl_elemVn (memV (mem_at 1 rfl)) hx41 hp42 ?_
                                        refine gl_ld1 0 hasAT (memV (mem_at 0 rfl)) rfl rfl Fo2 rfl rfl rfl ?_
                                        exact gl_dp rfl rfl rfl
                                      · exact obl_pure rfl rfl rfl rfl rfl rfl rfl rfl
                                      · exact obl_pure rfl rfl rfl rfl rfl rfl rfl rfl
                                      · refine obl_in rfl rfl rfl rfl (fun R' O' => ?_)
                                        refine gl_idxVn (k := .i64) (memV (mem_at 0 rfl)) rfl rfl Fs24 Fz39 hx43 rfl rfl ?_
                                        intro p_ hp_
                                        obtain rfl : p44 = p_ := Option.some.inj (hp44.symm.trans hp_)
                                        exact gl_dp rfl rfl rfl
                                      · refine obl_in rfl rfl rfl rfl (fun R' O' => ?_)
                                        refine gl_run (v := .pointer (some p44)) rfl rfl rfl (fun w => by kernel_rfl) ?_
                                        exact gl_dp rfl rfl rfl
                                      · refine obl_in rfl rfl rfl rfl (fun R' O' => ?_)
                                        refine gl_elemVn (memV (mem_at 0 rfl)) hx43 hp44 ?_
                                        refine gl_ld1 0 hasAT (memV (mem_at 0 rfl)) rfl rfl Fo2 rfl rfl rfl ?_
                                        exact gl_dp rfl rfl rfl
                                      · exact obl_pure rfl rfl rfl rfl rfl rfl rfl rfl
                                      · refine obl_in rfl rfl rfl rfl (fun R' O' => ?_)
                                        refine gl_batch 1 [(164, .bool (x41.Event != x43.Event))] rfl ?_
                                        exact gl_dp rfl rfl (congrArg (fun z => some (Value.bool z)) hg45)
                                      · exact obl_pure rfl rfl rfl rfl rfl rfl rfl rfl
                                      · exact obl_pure rfl rfl rfl rfl rfl rfl rfl rfl
                                      · exact obl_pure rfl rfl rfl rfl rfl rfl rfl rfl
                                      · exact obl_pure rfl rfl rfl rfl rfl rfl rfl rfl
                                      · exact obl_pure rfl rfl rfl rfl rfl rfl rfl rfl
                                      · exact obl_pure rfl rfl rfl rfl rfl rfl rfl rfl
                                      · exact obl_pure rfl rfl rfl rfl rfl rfl rfl rfl
                                      · exact obl_pure rfl rfl rfl rfl rfl rfl rfl rfl
                                      · exact obl_pure rfl rfl rfl rfl rfl rfl rfl rfl
                                      · exact obl_pure rfl rfl rfl rfl rfl rfl rfl rfl
                                      · exact obl_pure rfl rfl rfl rfl rfl rfl rfl rfl
                                      · exact obl_pure rfl rfl rfl rfl rfl rfl rfl rfl
                                      · skip
                                        refine gl_nil ?_
                                        obtain rfl := Option.some.inj h
                                        exact gx_of (fun a w hE hS => ⟨rfl, hE.sub ⟨rfl, rfl, rfl, rfl, rfl, trivial⟩, (hS.take 2).facts _ _ [] (consItem (mem_at 0 rfl) (consItem (mem_at 1 rfl) (consItem (mem_at 2 rfl) (consItem (mem_at 3 rfl) noItem)))) (consItem (mem_at 0 rfl) noItem) noItem⟩)
                                    · replace h := condF hg45 h
                                      obtain ⟨x46, hx46, h⟩ := bindS h
                                      refine g_elemn (mem_at 1 rfl) hx46 ?_
                                      intro p47 hp47
                                      obtain ⟨x48, hx48, h⟩ := bindS h
                                      refine g_elemn (mem_at 0 rfl) hx48 ?_
                                      intro p49 hp49
                                      refine g_drawD 24 [[], [], [0, 1], [2], [3], [], [], [5, 6], [7], [8], [4, 9], [10], [11], [11], [11, 12, 13], [11, 14], [11, 15], [11], [11], [11, 17, 18], [11, 19], [11, 20], [11, 16, 21], [11, 22]] [[20], [24], [], [], [], [3], [24], [], [], [], [], [], [20], [24], [], [], [], [3], [24], [], [], [], [], []] [.slice a_v26 (List.length o25.1) c_v27, .int .i64 s38, .pointer (some p42), .pointer (some p42), .int .i64 x41.Event, .slice a_v2 (List.length o1) c_v3, .int .i64 s38, .pointer (some p44), .pointer (some p44), .int .i64 x43.Event, .bool (x41.Event != x43.Event), .bool false, .slice a_v26 (List.length o25.1) c_v27, .int .i64 s38, .pointer (some p47), .pointer (some (Addr.add p47 2)), .int .i64 x46.Time, .slice a_v2 (List.length o1) c_v3, .int .i64 s38, .pointer (some p49), .pointer (some (Addr.add p49 2)), .int .i64 x48.Time, .bool (x46.Time != x48.Time), .bool (x46.Time != x48.Time)] mixed rfl rfl ⟨⟨⟨⟨⟨⟨⟨⟨⟨⟨⟨⟨⟨⟨⟨⟨⟨⟨⟨⟨⟨⟨⟨⟨trivial, ?_⟩, ?_⟩, ?_⟩, ?_⟩, ?_⟩, ?_⟩, ?_⟩, ?_⟩, ?_⟩, ?_⟩, ?_⟩, ?_⟩, ?_⟩, ?_⟩, ?_⟩, ?_⟩, ?_⟩, ?_⟩, ?_⟩, ?_⟩, ?_⟩, ?_⟩, ?_⟩, ?_⟩ ?_
                                      · exact obl_pure rfl rfl rfl rfl rfl rfl rfl rfl
                                      · exact obl_pure rfl rfl rfl rfl rfl rfl rfl rfl
                                      · refine obl_in rfl rfl rfl rfl (fun R' O' => ?_)
                                        refine gl_idxVn (k := .i64) (memV (mem_at 1 rfl)) rfl rfl Fs24 Fz39 hx41 rfl rfl ?_
                                        intro p_ hp_
                                        obtain rfl : p42 = p_ := Option.some.inj (hp42.symm.trans hp_)
                                        exact gl_dp rfl rfl rfl
                                      · refine obl_in rfl rfl rfl rfl (fun R' O' => ?_)
                                        refine gl_run (v := .pointer (some p42)) rfl rfl rfl (fun w => by kernel_rfl) ?_
                                        exact gl_dp rfl rfl rfl
                                      · refine obl_in rfl rfl rfl rfl (fun R' O' => ?_)
                                        refine gl_elemVn (memV (mem_at 1 rfl)) hx41 hp42 ?_
                                        refine gl_ld1 0 hasAT (memV (mem_at 0 rfl)) rfl rfl Fo2 rfl rfl rfl ?_
                                        exact gl_dp rfl rfl rfl
                                      · exact obl_pure rfl rfl rfl rfl rfl rfl rfl rfl
                                      · exact obl_pure rfl rfl rfl rfl rfl rfl rfl rfl
                                      · refine obl_in rfl rfl rfl rfl (fun R' O' => ?_)
                                        refine gl_idxVn (k := .i64) (memV (mem_at 0 rfl)) rfl rfl Fs24 Fz39 hx43 rfl rfl ?_
                                        intro p_ hp_
                                        obtain rfl : p44 = p_ := Option.some.inj (hp44.symm.trans hp_)
                                        exact gl_dp rfl rfl rfl
                                      · refine obl_in rfl rfl rfl rfl (fun R' O' => ?_)
                                        refine gl_run (v := .pointer (some p44)) rfl rfl rfl (fun w => by kernel_rfl) ?_
                                        exact gl_dp rfl rfl rfl
                                      · refine obl_in rfl rfl rfl rfl (fun R' O' => ?_)
                                        refine gl_elemVn (memV (mem_at 0 rfl)) hx43 hp44 ?_
                                        refine gl_ld1 0 hasAT (memV (mem_at 0 rfl)) rfl rfl Fo2 rfl rfl rfl ?_
                                        exact gl_dp rfl rfl rfl
                                      · exact obl_pure rfl rfl rfl rfl rfl rfl rfl rfl
                                      · refine obl_in rfl rfl rfl rfl (fun R' O' => ?_)
                                        refine gl_batch 1 [(164, .bool (x41.Event != x43.Event))] rfl ?_
                                        exact gl_dp rfl rfl (congrArg (fun z => some (Value.bool z)) hg45)
                                      · exact obl_pure rfl rfl rfl rfl rfl rfl rfl rfl
                                      · exact obl_pure rfl rfl rfl rfl rfl rfl rfl rfl
                                      · refine obl_in rfl rfl rfl rfl (fun R' O' => ?_)
                                        refine gl_idxVn (k := .i64) (memV (mem_at 1 rfl)) rfl rfl Fs24 Fz39 hx46 rfl rfl ?_
                                        intro p_ hp_
                                        obtain rfl : p47 = p_ := Option.some.inj (hp47.symm.trans hp_)
                                        exact gl_dp rfl rfl rfl
                                      · refine obl_in rfl rfl rfl rfl (fun R' O' => ?_)
                                        refine gl_run (v := .pointer (some (Addr.add p47 2))) rfl rfl rfl (fun w => by kernel_rfl) ?_
                                        exact gl_dp rfl rfl rfl
                                      · refine obl_in rfl rfl rfl rfl (fun R' O' => ?_)
                                        refine gl_elemVn (memV (mem_at 1 rfl)) hx46 hp47 ?_
                                        refine gl_ld1 2 hasAT (memV (mem_at 0 rfl)) rfl rfl Fo2 rfl rfl rfl ?_
                                        exact gl_dp rfl rfl rfl
                                      · exact obl_pure rfl rfl rfl rfl rfl rfl rfl rfl
                                      · exact obl_pure rfl rfl rfl rfl rfl rfl rfl rfl
                                      · refine obl_in rfl rfl rfl rfl (fun R' O' => ?_)
                                        refine gl_idxVn (k := .i64) (memV (mem_at 0 rfl)) rfl rfl Fs24 Fz39 hx48 rfl rfl ?_
                                        intro p_ hp_
                                        obtain rfl : p49 = p_ := Option.some.inj (hp49.symm.trans hp_)
                                        exact gl_dp rfl rfl rfl
                                      · refine obl_in rfl rfl rfl rfl (fun R' O' => ?_)
                                        refine gl_run (v := .pointer (some (Addr.add p49 2))) rfl rfl rfl (fun w => by kernel_rfl) ?_
                                        exact gl_dp rfl rfl rfl
                                      · refine obl_in rfl rfl rfl rfl (fun R' O' => ?_)
                                        refine gl_elemVn (memV (mem_at 0 rfl)) hx48 hp49 ?_
                                        refine gl_ld1 2 hasAT (memV (mem_at 0 rfl)) rfl rfl Fo2 rfl rfl rfl ?_
                                        exact gl_dp rfl rfl rfl
                                      · exact obl_pure rfl rfl rfl rfl rfl rfl rfl rfl
                                      · exact obl_pure rfl rfl rfl rfl rfl rfl rfl rfl
                                      · skip
                                        refine gl_nil ?_
                                        obtain rfl := Option.some.inj h
                                        exact gx_of (fun a w hE hS => ⟨rfl, hE.sub ⟨rfl, rfl, rfl, rfl, rfl, trivial⟩, (hS.take 2).facts _ _ [] (consItem (mem_at 0 rfl) (consItem (mem_at 1 rfl) (consItem (mem_at 2 rfl) (consItem (mem_at 3 rfl) noItem)))) (consItem (mem_at 0 rfl) noItem) noItem⟩)
                                  · intro e a w hm
                                    obtain ⟨rfl, hE, hS⟩ := hm
                                    refine gx_to hE hS ?_
                                    refine gx_seq ?_
                                    refine g_cond (b := o40) rfl (fun hc => ?_) (fun hc => ?_)
                                    · replace h := condT hc h
                                      refine g_sr ?_
                                      refine gl_batch 1 [(2, .bool false)] rfl ?_
                                      refine gl_ns ?_
                                      refine g_ret ?_
                                      refine gx_blk_ret ?_
                                      refine gx_seq_ret ?_
                                      obtain rfl := Option.some.inj h
                                      exact gx_of (fun a w hE hS => lp_out nofun (inL ⟨rfl, hE.sub ⟨rfl, trivial⟩, (hS.take 0).facts _ _ [] (consItem (mem_at 0 rfl) (consItem (mem_at 1 rfl) (consItem (mem_at 2 rfl) (consItem (mem_at 3 rfl) noItem)))) (consItem (mem_at 0 rfl) noItem) noItem⟩))
                                    · replace h := condF hc h
                                      refine g_skip ?_
                                      refine gx_blk ?_
                                      refine gx_seq ?_
                                      refine g_region ?_
                                      refine gl_batch 3 [(24, .int .i64 (IntKind.i64.wrap (s38 + 1))), (152, .int .i64 (IntKind.i64.wrap (s38 + 1))), (151, .int .i64 s38)] rfl ?_
                                      refine gl_nil ?_
                                      obtain rfl := Option.some.inj h
                                      exact gx_of (fun a w hE hS => lp_in ⟨hE.sub ⟨rfl, rfl, rfl, rfl, trivial⟩, (hS.take 2).facts _ _ [] (consItem (mem_at 0 rfl) (consItem (mem_at 1 rfl) (consItem (mem_at 2 rfl) (consItem (mem_at 3 rfl) noItem)))) (consItem (mem_at 0 rfl) noItem) noItem⟩)
                                · replace h := condF hc h
                                  refine g_exit ?_
                                  refine gx_seq_exit ?_
                                  obtain rfl := Option.some.inj h
                                  exact gx_of (fun a w hE hS => lp_out nofun (inR ⟨rfl, hE.sub ⟨rfl, trivial⟩, (hS.take 0).facts _ _ [] (consItem (mem_at 0 rfl) (consItem (mem_at 1 rfl) (consItem (mem_at 2 rfl) (consItem (mem_at 3 rfl) noItem)))) (consItem (mem_at 0 rfl) noItem) noItem⟩))
                              · intro e a w hm
                                rcases o37 with s50 | s51
                                · replace h := elimL h
                                  obtain ⟨rfl, hE, hS⟩ := hm
                                  refine gx_to hE hS ?_
                                  refine gx_blk_ret ?_
                                  refine gx_seq_ret ?_
                                  obtain rfl := Option.some.inj h
                                  exact gx_fin rfl [.bool false] _ _ [] ⟨_, _, rfl, rfl, rfl⟩ rfl ⟨rfl, rfl, rfl⟩ (fun w hS => (hS.take 0).facts [] [] [] noItem noItem noItem) (Or.inl rfl)
                                · replace h := elimR h
                                  obtain ⟨rfl, hE, hS⟩ := hm
                                  refine gx_to hE hS ?_
                                  refine gx_blk_hit ?_
                                  refine gx_seq ?_
                                  refine g_sr ?_
                                  refine gl_batch 3 [(179, .bool (decide (o6.1 ≥ 0))), (178, .bool (decide (o6.1 ≥ 0))), (177, .int .i64 o6.1)] rfl ?_
                                  refine gl_join (EE := [(182, .bool ((decide (o6.1 ≥ 0)) && (decide (o6.1 < 9973))))]) (RR := []) (XX := [gTab 3 pow10C, gNum 0, gErr 1, gErr 2]) (OO := [SL false 5 (intS .u8) a_code c_code code]) (VV := []) 3 ?_ ?_
                                  · skip
                                    refine gl_case 179 rfl (fun hc => ?_) (fun hc => ?_)
                                    · skip
                                      refine gl_batch 3 [(182, .bool (decide (o6.1 < 9973))), (181, .bool (decide (o6.1 < 9973))), (180, .int .i64 o6.1)] rfl ?_
                                      refine gl_nil ?_
                                      exact gx_mid ⟨congrArg (fun z => some (Value.bool z)) (and_t hc).symm, trivial⟩ (fun w hS => hS)
                                    · skip
                                      refine gl_batch 3 [(182, .bool false), (181, undef), (180, undef)] rfl ?_
                                      refine gl_nil ?_
                                      exact gx_mid ⟨congrArg (fun z => some (Value.bool z)) (and_f hc).symm, trivial⟩ (fun w hS => hS)
                                  · skip
                                    refine gl_batch 1 [(2, .bool ((decide (o6.1 ≥ 0)) && (decide (o6.1 < 9973))))] rfl ?_
                                    refine gl_ns ?_
                                    refine g_ret ?_
                                    obtain rfl := Option.some.inj h
                                    exact gx_fin rfl [.bool ((decide (o6.1 ≥ 0)) && (decide (o6.1 < 9973)))] _ _ [] ⟨_, _, rfl, rfl, rfl⟩ rfl ⟨rfl, rfl, rfl⟩ (fun w hS => (hS.take 0).facts [] [] [] noItem noItem noItem) (Or.inl rfl)

end Go.Proofs.YtneifoepoccjaaaGreatDoor
