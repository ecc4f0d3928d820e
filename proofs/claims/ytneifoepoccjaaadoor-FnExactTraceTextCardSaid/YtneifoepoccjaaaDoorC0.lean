/-
  What each function gives when it is called: the contracts, each with the walk through its code. Written by a program of ours.
-/
import Derived.Test.YtneifoepoccjaaaDoorChecked
import Derived.Test.YtneifoepoccjaaaDoorP0
import Derived.Lib.ItoaNum
import Derived.Shelf.Strconv.Itoa4
import Derived.Lib.Builder
import Derived.Laws.Pointers
namespace Go.Proofs
open Go.Shelf
def Tryd.lay173_ren : Go.Shelf.Ren := ⟨fun | 173 => 102 | 246 => 116 | 283 => 132 | 284 => 133 | 285 => 134 | 286 => 135 | 129 => 148 | 317 => 147 | 318 => 149 | 319 => 150 | 320 => 151 | 337 => 154 | 338 => 155 | n => n, fun | 2 => 2 | 3 => 3 | 9 => 9 | 4 => 4 | 171 => 157 | 0 => 0 | 53 => 149 | 37 => 50 | 5 => 5 | 173 => 160 | 212 => 174 | 51 => 162 | 20 => 20 | 213 => 175 | 46 => 147 | 232 => 186 | 233 => 187 | n => n, fun | 17 => 3 | 18 => 6 | 19 => 7 | n => n⟩
theorem Tryd.lay173 : Go.Proofs.LaysM.n173 Tryd.prog Tryd.lay173_ren := {
  mixed := by kernel_rfl
  f129 := Tryd.func148.trans (congrArg some (by kernel_rfl))
  f173 := Tryd.func102.trans (congrArg some (by kernel_rfl))
  f246 := Tryd.func116.trans (congrArg some (by kernel_rfl))
  f283 := Tryd.func132.trans (congrArg some (by kernel_rfl))
  f284 := Tryd.func133.trans (congrArg some (by kernel_rfl))
  f285 := Tryd.func134.trans (congrArg some (by kernel_rfl))
  f286 := Tryd.func135.trans (congrArg some (by kernel_rfl))
  f317 := Tryd.func147.trans (congrArg some (by kernel_rfl))
  f318 := Tryd.func149.trans (congrArg some (by kernel_rfl))
  f319 := Tryd.func150.trans (congrArg some (by kernel_rfl))
  f320 := Tryd.func151.trans (congrArg some (by kernel_rfl))
  f337 := Tryd.func154.trans (congrArg some (by kernel_rfl))
  f338 := Tryd.func155.trans (congrArg some (by kernel_rfl))
  t0 := Tryd.underlying0
  a0 := Tryd.isAgg0
  z0 := Tryd.sizeOf0
  v0 := Tryd.zeroValue0
  t2 := Tryd.underlying2
  a2 := Tryd.isAgg2
  z2 := Tryd.sizeOf2
  v2 := Tryd.zeroValue2
  t3 := Tryd.underlying3
  a3 := Tryd.isAgg3
  z3 := Tryd.sizeOf3
  v3 := Tryd.zeroValue3
  t4 := Tryd.underlying4
  a4 := Tryd.isAgg4
  z4 := Tryd.sizeOf4
  v4 := Tryd.zeroValue4
  t5 := Tryd.underlying5
  a5 := Tryd.isAgg5
  z5 := Tryd.sizeOf5
  v5 := Tryd.zeroValue5
  t9 := Tryd.underlying9
  a9 := Tryd.isAgg9
  z9 := Tryd.sizeOf9
  v9 := Tryd.zeroValue9
  t20 := Tryd.underlying20
  a20 := Tryd.isAgg20
  z20 := Tryd.sizeOf20
  v20 := Tryd.zeroValue20
  t37 := Tryd.underlying50
  a37 := Tryd.isAgg50
  z37 := Tryd.sizeOf50
  v37 := Tryd.zeroValue50
  t46 := Tryd.underlying147
  a46 := Tryd.isAgg147
  z46 := Tryd.sizeOf147
  v46 := Tryd.zeroValue147
  t51 := Tryd.underlying162
  a51 := Tryd.isAgg162
  z51 := Tryd.sizeOf162
  v51 := Tryd.zeroValue162
  t53 := Tryd.underlying149
  a53 := Tryd.isAgg149
  z53 := Tryd.sizeOf149
  v53 := Tryd.zeroValue149
  t171 := Tryd.underlying157
  a171 := Tryd.isAgg157
  z171 := Tryd.sizeOf157
  v171 := Tryd.zeroValue157
  t173 := Tryd.underlying160
  a173 := Tryd.isAgg160
  z173 := Tryd.sizeOf160
  v173 := Tryd.zeroValue160
  t212 := Tryd.underlying174
  a212 := Tryd.isAgg174
  z212 := Tryd.sizeOf174
  v212 := Tryd.zeroValue174
  t213 := Tryd.underlying175
  a213 := Tryd.isAgg175
  z213 := Tryd.sizeOf175
  t232 := Tryd.underlying186
  a232 := Tryd.isAgg186
  z232 := Tryd.sizeOf186
  v232 := Tryd.zeroValue186
  t233 := Tryd.underlying187
  a233 := Tryd.isAgg187
  z233 := Tryd.sizeOf187
  v233 := Tryd.zeroValue187
  g17 := by kernel_rfl
  g18 := by kernel_rfl
  g19 := by kernel_rfl
  i0 := by kernel_rfl
  i2 := by kernel_rfl
  i3 := by kernel_rfl
  i4 := by kernel_rfl
  i5 := by kernel_rfl
  i9 := by kernel_rfl
  i20 := by kernel_rfl
  i37 := by kernel_rfl
  i46 := by kernel_rfl
  i51 := by kernel_rfl
  i53 := by kernel_rfl
  i171 := by kernel_rfl
  i173 := by kernel_rfl
  i212 := by kernel_rfl
  i232 := by kernel_rfl
  i233 := by kernel_rfl
  m17 := by kernel_rfl
  m18 := by kernel_rfl
  m19 := by kernel_rfl }

end Go.Proofs
namespace Go.Proofs.YtneifoepoccjaaaDoor
open Go Go.Proofs Go.Shelf
theorem mixed : Tryd.prog.follows .mixedOrders = true := Checked.mixed Tryd.checked
theorem gn_pow10 : Tryd.prog.globalNamed "internal/strconv.uint64pow10" = some 3 := by kernel_rfl
theorem pow10_tab {g : Nat} {w : World} {S : Nat → Prop} (hn : Tryd.prog.globalNamed "internal/strconv.uint64pow10" = some g) (h : (gTab g pow10C).ro w S) : Lib.TabIs Tryd.prog w "internal/strconv.uint64pow10" .u64 Lib.pow10Tab := gTab_var hn h
theorem Fi5 : (Tryd.prog.info? 5).map (fun i => (i.zero, i.size, i.bytes)) = some (some (.int .u8 0), 1, 1) := by kernel_rfl
theorem Fi47 : (Tryd.prog.info? 47).map (fun i => (i.zero, i.size, i.bytes)) = some (some (.agg #[.int .i64 0, .int .i64 0, .int .i64 0]), 3, 24) := by kernel_rfl
theorem Fm45 : isMany Tryd.prog 45 = true := by kernel_rfl
theorem Fm47 : isMany Tryd.prog 47 = true := by kernel_rfl
theorem Fo2 : isOne Tryd.prog 2 = true := by kernel_rfl
theorem Fo50 : isOne Tryd.prog 50 = true := by kernel_rfl
theorem Fo107 : isOne Tryd.prog 107 = true := by kernel_rfl
theorem Fp136 : Tryd.prog.underlying 136 = some (.pointer 5) := by kernel_rfl
theorem Fq5 : Tryd.prog.cellsOf 5 = 1 := by kernel_rfl
theorem Fs22 : Tryd.prog.underlying 22 = some (.slice 45) := by kernel_rfl
theorem Fs26 : Tryd.prog.underlying 26 = some (.slice 47) := by kernel_rfl
theorem Fs50 : Tryd.prog.underlying 50 = some (.slice 5) := by kernel_rfl
theorem Ft9 : Tryd.prog.underlying 9 = some .string := by kernel_rfl
theorem Fy5 : Tryd.prog.underlying 5 = some (.int .u8) := by kernel_rfl
theorem Fz2 : (Tryd.prog.info? 2).map (·.size) = some 1 := by kernel_rfl
theorem Fz45 : (Tryd.prog.info? 45).map (·.size) = some 3 := by kernel_rfl
theorem Fz47 : (Tryd.prog.info? 47).map (·.size) = some 3 := by kernel_rfl
theorem Fz50 : (Tryd.prog.info? 50).map (·.size) = some 1 := by kernel_rfl
theorem Fz107 : (Tryd.prog.info? 107).map (·.size) = some 1 := by kernel_rfl
/-- The builder's check: behind it its block bears its own address. -/
theorem c_copyCheck (b : Nat) (p hd : Value) (hp : p = .pointer none ∨ p = .pointer (some ⟨b, 0, none⟩)) : CallOK Tryd.prog 106 [.pointer (some ⟨b, 0, none⟩)] [BK 109 b [p, hd]] [gTab 3 pow10C, gNum 0] []
    (fun v outs ros => v = .tuple #[] ∧ outs = [BK 109 b [.pointer (some ⟨b, 0, none⟩), hd]] ∧ ros = []) := by
  have hptr : Tryd.prog.underlying 107 = some (.pointer 109) := by kernel_rfl
  have hun : Tryd.prog.underlying 143 = some .unsafePointer := by kernel_rfl
  have hsz : (Tryd.prog.info? 109).map (·.size) = some 2 := by kernel_rfl
  have hlie : liesAt Tryd.prog Tryd.prog.depth 109 (2 / Tryd.prog.cellsOf 109) 0 109 1 = true := by kernel_rfl
  obtain ⟨j, hj, hjs⟩ := Option.map_eq_some_iff.1 hsz
  refine fn_ok Tryd.func106 rfl Tryd.ntmps106 rfl (fun c hF0 => ?_)
  refine g_seq ?_
  refine g_region ?_
  refine gl_batch 2 [(3, .pointer (some ⟨b, 0, none⟩)), (2, .pointer (some ⟨b, 0, none⟩))] rfl ?_
  refine gl_run (v := .pointer (some ⟨b, 0, none⟩)) rfl rfl rfl (fun w => by kernel_rfl) ?_
  refine gl_ld1 0 hasBK (mem_at 0 rfl) rfl rfl Fo107 rfl rfl rfl ?_
  rcases hp with rfl | rfl
  · refine gl_pcmp rfl rfl (fun w => run_eql_pointer_nil w 107 none (by kernel_rfl)) rfl rfl ?_
    refine gl_nil ?_
    refine gx_seq ?_
    refine g_condT rfl ?_
    refine g_region ?_
    refine gl_batch 2 [(8, .pointer (some ⟨b, 0, none⟩)), (7, .pointer (some ⟨b, 0, none⟩))] rfl ?_
    refine gl_pcvt rfl (fun w hs => Lib.run_to_unsafe w ⟨b, 0, none⟩ hptr hun hj (by rw [hjs]; decide) hs (Nat.zero_lt_succ 1)) rfl rfl ?_
    refine gl_noesc rfl (fun w => by rw [run_callFunc_extern Tryd.func117 (by kernel_rfl) (by kernel_rfl) (by kernel_rfl) (e := Extern.AbiNoEscape.same) (by kernel_rfl), Lib.run_noEscape]; rfl) rfl rfl ?_
    refine gl_pcvt rfl (fun w hs => Lib.run_from_unsafe w ⟨b, 0, none⟩ hun hptr hj hs hlie) rfl rfl ?_
    refine gl_batch 1 [(12, .pointer (some ⟨b, 0, none⟩))] rfl ?_
    refine gl_run (v := .pointer (some ⟨b, 0, none⟩)) rfl rfl rfl (fun w => by kernel_rfl) ?_
    refine gl_stB (cells' := [.pointer (some ⟨b, 0, none⟩), hd]) 0 [.pointer (some ⟨b, 0, none⟩)] rfl rfl rfl Fz107 rfl rfl rfl rfl ?_
    refine gl_nil ?_
    exact gx_fin rfl [] _ _ [] rfl rfl ⟨rfl, rfl, rfl⟩ (fun w hS => (hS.take 1).facts [] [] [] noItem noItem noItem) (Or.inr rfl)
  · refine gl_pcmp rfl rfl (fun w => run_eql_pointer_nil w 107 _ (by kernel_rfl)) rfl rfl ?_
    refine gl_nil ?_
    refine gx_seq ?_
    refine g_condF rfl ?_
    refine g_seq ?_
    refine g_region ?_
    refine gl_batch 2 [(15, .pointer (some ⟨b, 0, none⟩)), (14, .pointer (some ⟨b, 0, none⟩))] rfl ?_
    refine gl_run (v := .pointer (some ⟨b, 0, none⟩)) rfl rfl rfl (fun w => by kernel_rfl) ?_
    refine gl_ld1 0 hasBK (mem_at 0 rfl) rfl rfl Fo107 rfl rfl rfl ?_
    refine gl_batch 1 [(18, .pointer (some ⟨b, 0, none⟩))] rfl ?_
    refine gl_pcmp rfl rfl (fun w => Lib.run_neq_ptr_same w _ hptr hj) rfl rfl ?_
    refine gl_nil ?_
    refine gx_seq ?_
    refine g_condF rfl ?_
    refine g_skip ?_
    exact gx_fin rfl [] _ _ [] rfl rfl ⟨rfl, rfl, rfl⟩ (fun w hS => (hS.take 1).facts [] [] [] noItem noItem noItem) (Or.inr rfl)


theorem c_laws_szFiringS (a_v : List Firing) (left : Int) (a_a_v : Option Addr) (c_a_v : Nat) {r : Int} (h : laws_szFiringS a_v left = r) : CallOK Tryd.prog 10 [.slice a_a_v (List.length a_v) c_a_v, .int .i64 left] [] [gTab 3 pow10C, gNum 0] [SL false 45 FiringS a_a_v c_a_v a_v] (fun v outs ros => v = .int .i64 r ∧ outs = [] ∧ ros = []) := by
  refine fn_ok Tryd.func10 rfl Tryd.ntmps10 rfl (fun c hF0 => ?_)
  unfold laws_szFiringS at h
  refine g_seq ?_
  refine g_region ?_
  refine gl_batch 1 [(4, .int .i64 0)] rfl ?_
  refine gl_nil ?_
  refine gx_seq ?_
  refine g_seq ?_
  refine g_region ?_
  refine gl_batch 2 [(6, .slice a_a_v (List.length a_v) c_a_v), (5, .int .i64 left)] rfl ?_
  refine gl_len rfl Fs22 rfl rfl ?_
  obtain ⟨left1, hleft1, h⟩ := letS h
  refine gl_batch 2 [(1, .int .i64 left1), (8, .int .i64 (IntKind.i64.wrap (left - (List.length a_v : Int))))] (by subst hleft1; rfl) ?_
  refine gl_nil ?_
  refine gx_seq ?_
  refine g_seq ?_
  refine g_seq ?_
  refine g_region ?_
  refine gl_batch 2 [(10, .bool (decide (left1 < 0))), (9, .int .i64 left1)] rfl ?_
  refine gl_nil ?_
  refine gx_seq ?_
  refine g_cond (b := decide (left1 < 0)) rfl (fun hc => ?_) (fun hc => ?_)
  · replace h := condTt hc h
    refine g_seq ?_
    refine g_region ?_
    refine gl_batch 1 [(4, .int .i64 (-1))] rfl ?_
    refine gl_nil ?_
    refine gx_seq ?_
    refine g_ret ?_
    refine gx_seq_ret ?_
    subst h
    exact gx_fin rfl [.int .i64 (-1)] _ _ [] ⟨_, _, rfl, rfl, rfl⟩ rfl ⟨rfl, rfl, rfl⟩ (fun w hS => (hS.take 0).facts [] [] [] noItem noItem noItem) (Or.inl rfl)
  · replace h := condFt hc h
    refine g_skip ?_
    refine gx_seq ?_
    refine g_seq ?_
    refine g_region ?_
    refine gl_batch 2 [(4, .int .i64 left1), (11, .int .i64 left1)] rfl ?_
    refine gl_nil ?_
    refine gx_seq ?_
    refine g_ret ?_
    subst h
    exact gx_fin rfl [.int .i64 left1] _ _ [] ⟨_, _, rfl, rfl, rfl⟩ rfl ⟨rfl, rfl, rfl⟩ (fun w hS => (hS.take 0).facts [] [] [] noItem noItem noItem) (Or.inl rfl)

theorem c_laws_toFiring (a_v : Firing)  {r : Firing} (h : laws_toFiring a_v = r) : CallOK Tryd.prog 27 [.agg #[.int .i64 a_v.Event, .int .i64 a_v.Number, .int .i64 a_v.Time]] [] [gTab 3 pow10C, gNum 0] [] (fun v outs ros => v = .agg #[.int .i64 r.Event, .int .i64 r.Number, .int .i64 r.Time] ∧ outs = [] ∧ ros = []) := by
  refine fn_ok Tryd.func27 rfl Tryd.ntmps27 rfl (fun c hF0 => ?_)
  unfold laws_toFiring at h
  refine g_seq ?_
  refine g_region ?_
  refine gl_new (d := 1) (T := 45) [.int .i64 a_v.Event, .int .i64 a_v.Number, .int .i64 a_v.Time] rfl rfl (fun _ => rfl) (fun w => by kernel_rfl) ?_
  intro b1
  refine gl_new (d := 2) (T := 47) [.int .i64 0, .int .i64 0, .int .i64 0] rfl rfl (fun _ => rfl) (fun w => by kernel_rfl) ?_
  intro b2
  refine gl_nil ?_
  refine gx_seq ?_
  refine g_seq ?_
  refine g_region ?_
  refine gl_new (d := 3) (T := 47) [.int .i64 0, .int .i64 0, .int .i64 0] rfl rfl (fun _ => rfl) (fun w => by kernel_rfl) ?_
  intro b3
  refine gl_nil ?_
  refine gx_seq ?_
  refine g_seq ?_
  refine g_region ?_
  refine gl_run (v := .pointer (some ⟨b1, 0, none⟩)) rfl rfl rfl (fun w => by kernel_rfl) ?_
  refine gl_ld1 0 hasBK (mem_at 2 rfl) rfl rfl Fo2 rfl rfl rfl ?_
  refine gl_run (v := .pointer (some ⟨b3, 0, none⟩)) rfl rfl rfl (fun w => by kernel_rfl) ?_
  refine gl_stB (cells' := [.int .i64 a_v.Event, .int .i64 0, .int .i64 0]) 0 [.int .i64 a_v.Event] rfl rfl rfl Fz2 rfl rfl rfl rfl ?_
  refine gl_nil ?_
  refine gx_seq ?_
  refine g_seq ?_
  refine g_region ?_
  refine gl_run (v := .pointer (some ⟨b1, 1, none⟩)) rfl rfl rfl (fun w => by kernel_rfl) ?_
  refine gl_ld1 1 hasBK (mem_at 2 rfl) rfl rfl Fo2 rfl rfl rfl ?_
  refine gl_run (v := .pointer (some ⟨b3, 1, none⟩)) rfl rfl rfl (fun w => by kernel_rfl) ?_
  refine gl_stB (cells' := [.int .i64 a_v.Event, .int .i64 a_v.Number, .int .i64 0]) 1 [.int .i64 a_v.Number] rfl rfl rfl Fz2 rfl rfl rfl rfl ?_
  refine gl_nil ?_
  refine gx_seq ?_
  refine g_seq ?_
  refine g_region ?_
  refine gl_run (v := .pointer (some ⟨b1, 2, none⟩)) rfl rfl rfl (fun w => by kernel_rfl) ?_
  refine gl_ld1 2 hasBK (mem_at 2 rfl) rfl rfl Fo2 rfl rfl rfl ?_
  refine gl_run (v := .pointer (some ⟨b3, 2, none⟩)) rfl rfl rfl (fun w => by kernel_rfl) ?_
  refine gl_stB (cells' := [.int .i64 a_v.Event, .int .i64 a_v.Number, .int .i64 a_v.Time]) 2 [.int .i64 a_v.Time] rfl rfl rfl Fz2 rfl rfl rfl rfl ?_
  refine gl_nil ?_
  refine gx_seq ?_
  refine g_seq ?_
  refine g_region ?_
  refine gl_ldA (vs := [.int .i64 a_v.Event, .int .i64 a_v.Number, .int .i64 a_v.Time]) 0 hasBK (mem_at 0 rfl) rfl rfl Fm47 Fz47 rfl rfl rfl ?_
  refine gl_pick 1 rfl ?_
  refine gl_stB (cells' := [.int .i64 a_v.Event, .int .i64 a_v.Number, .int .i64 a_v.Time]) 0 [.int .i64 a_v.Event, .int .i64 a_v.Number, .int .i64 a_v.Time] rfl rfl rfl Fz47 rfl rfl rfl rfl ?_
  refine gl_nil ?_
  refine gx_seq ?_
  refine g_ret ?_
  subst h
  exact gx_fin rfl [.agg #[.int .i64 a_v.Event, .int .i64 a_v.Number, .int .i64 a_v.Time]] _ _ [] ⟨_, _, rfl, ⟨_, _, _, rfl, mem_at 0 rfl, hasBK, Or.inl ⟨Fm47, Fz47, rfl⟩⟩, rfl⟩ rfl ⟨rfl, rfl, rfl⟩ (fun w hS => (hS.take 0).facts [] [] [] noItem noItem noItem) (Or.inl rfl)

theorem c_laws_toFiringS (a_v : List Firing) (a_a_v : Option Addr) (c_a_v : Nat) {r : List Firing} (h : laws_toFiringS a_v = some r) : CallOK Tryd.prog 12 [.slice a_a_v (List.length a_v) c_a_v] [] [gTab 3 pow10C, gNum 0] [SL false 45 FiringS a_a_v c_a_v a_v] (fun v outs ros => ∃ (a0 : Option Addr), ∃ (c0 : Nat), v = .slice a0 (List.length r) c0 ∧ outs = [SL false 47 FiringS a0 c0 r] ∧ ros = []) := by
  refine fn_ok Tryd.func12 rfl Tryd.ntmps12 rfl (fun c hF0 => ?_)
  unfold laws_toFiringS at h
  refine g_seq ?_
  refine g_region ?_
  refine gl_batch 1 [(2, .slice none 0 0)] rfl ?_
  refine gl_nil ?_
  refine gx_seq ?_
  refine g_seq ?_
  refine g_region ?_
  refine gl_batch 1 [(5, .slice a_a_v (List.length a_v) c_a_v)] rfl ?_
  refine gl_len rfl Fs22 rfl rfl ?_
  obtain ⟨z1, hz1, h⟩ := bindS h
  refine gl_mk (enc := FiringE) (hn := fun _ => rfl) (z0 := (⟨0, 0, 0⟩ : Firing)) rfl rfl Fs26 Fi47 rfl rfl hz1 rfl rfl ?_
  intro a_v2 c_v3
  refine gl_batch 1 [(3, .slice a_v2 (List.length z1) c_v3)] rfl ?_
  refine gl_nil ?_
  refine gx_seq ?_
  refine g_seq ?_
  refine g_seq ?_
  refine g_region ?_
  refine gl_batch 1 [(4, .int .i64 0)] rfl ?_
  refine gl_nil ?_
  refine gx_seq ?_
  refine g_block ?_
  obtain ⟨o4, ho4, h⟩ := bindS h
  refine g_loop (laws_toFiringS_L1 a_v) (fun (ss_ : (List Firing) × Int) a w => Env a 23 [(0, .slice a_a_v (List.length a_v) c_a_v), (3, .slice a_v2 (List.length ss_.1) c_v3), (4, .int .i64 ss_.2)] ∧ St c w [SL false 47 FiringS a_v2 c_v3 ss_.1] [gTab 3 pow10C, gNum 0] [SL false 45 FiringS a_a_v c_a_v a_v] []) ((fun (ss_ : (List Firing)) e a w => e = (.exit 0) ∧ Env a 23 [(3, .slice a_v2 (List.length ss_) c_v3)] ∧ St c w [SL false 47 FiringS a_v2 c_v3 ss_] [gTab 3 pow10C, gNum 0] [SL false 45 FiringS a_a_v c_a_v a_v] []) : ((List Firing)) → Exit → Act → World → Prop) ho4 ?_ ?_ ?_
  · exact fun a w hE hS => ⟨hE.sub ⟨rfl, rfl, rfl, trivial⟩, (hS.take 1).facts _ _ [] (consItem (mem_at 0 rfl) (consItem (mem_at 1 rfl) noItem)) (consItem (mem_at 0 rfl) noItem) noItem⟩
  · intro s5 o6 h a w hA
    obtain ⟨hE, hS⟩ := hA
    unfold laws_toFiringS_L1 at h
    refine g_enter hE hS ?_
    refine g_seq ?_
    refine g_seq ?_
    refine g_region ?_
    refine gl_batch 2 [(9, .slice a_a_v (List.length a_v) c_a_v), (8, .int .i64 s5.2)] rfl ?_
    refine gl_len rfl Fs22 rfl rfl ?_
    refine gl_batch 1 [(11, .bool (decide (s5.2 < (List.length a_v : Int))))] rfl ?_
    refine gl_nil ?_
    refine gx_seq ?_
    refine g_cond (b := decide (s5.2 < (List.length a_v : Int))) rfl (fun hc => ?_) (fun hc => ?_)
    · replace h := condT hc h
      refine g_skip ?_
      refine gx_seq ?_
      refine g_seq ?_
      refine g_block ?_
      refine g_region ?_
      refine gl_batch 4 [(17, .int .i64 s5.2), (16, .slice a_a_v (List.length a_v) c_a_v), (15, .int .i64 s5.2), (14, .slice a_v2 (List.length s5.1) c_v3)] rfl ?_
      obtain ⟨x7, hx7, h⟩ := bindS h
      refine gl_idxO (k := .i64) (mem_at 0 rfl) rfl rfl Fs22 Fz45 hx7 rfl rfl ?_
      intro p8
      refine gl_ldA (vs := [.int .i64 x7.Event, .int .i64 x7.Number, .int .i64 x7.Time]) 0 hasAT (mem_at 1 rfl) rfl rfl Fm45 Fz45 rfl rfl rfl ?_
      obtain ⟨o9, ho9, h⟩ := letS h
      refine gl_call rfl rfl (fun w => by kernel_rfl) (c_laws_toFiring x7 ho9) (consItem (mem_at 0 rfl) (consItem (mem_at 1 rfl) noItem)) noItem ?_
      rintro v outs ros ⟨rfl, rfl, rfl⟩
      refine ⟨_, rfl, ?_⟩
      obtain ⟨x10, hx10, h⟩ := bindS h
      refine gl_idxV (k := .i64) (mem_at 0 rfl) rfl rfl Fs26 Fz47 hx10 rfl rfl ?_
      intro p11 hp11
      obtain ⟨u12, hu12, h⟩ := letS h
      have hlu12 : List.length s5.1 = List.length u12 := by rw [← hu12, List.length_set]
      refine gl_stE 0 [.int .i64 o9.Event, .int .i64 o9.Number, .int .i64 o9.Time] o9 hp11 hx10 rfl rfl rfl rfl Fz47 rfl rfl rfl rfl ?_
      rw [hu12]
      refine gl_push 3 (.slice a_v2 (List.length u12) c_v3) (by rw [← hlu12]; rfl) ?_
      refine gl_nil ?_
      refine gx_blk ?_
      refine gx_seq ?_
      refine g_region ?_
      refine gl_batch 3 [(4, .int .i64 (IntKind.i64.wrap (s5.2 + 1))), (13, .int .i64 (IntKind.i64.wrap (s5.2 + 1))), (12, .int .i64 s5.2)] rfl ?_
      refine gl_nil ?_
      obtain rfl := Option.some.inj h
      exact gx_of (fun a w hE hS => lp_in ⟨hE.sub ⟨rfl, rfl, rfl, trivial⟩, (hS.take 1).facts _ _ [] (consItem (mem_at 0 rfl) (consItem (mem_at 1 rfl) noItem)) (consItem (mem_at 1 rfl) noItem) noItem⟩)
    · replace h := condF hc h
      refine g_exit ?_
      refine gx_seq_exit ?_
      obtain rfl := Option.some.inj h
      exact gx_of (fun a w hE hS => lp_out nofun (⟨rfl, hE.sub ⟨rfl, trivial⟩, (hS.take 1).facts _ _ [] (consItem (mem_at 0 rfl) (consItem (mem_at 1 rfl) noItem)) (consItem (mem_at 0 rfl) noItem) noItem⟩))
  · intro e a w hm
    obtain ⟨rfl, hE, hS⟩ := hm
    refine gx_to hE hS ?_
    refine gx_blk_hit ?_
    refine gx_seq ?_
    refine g_seq ?_
    refine g_region ?_
    refine gl_batch 2 [(2, .slice a_v2 (List.length o4) c_v3), (22, .slice a_v2 (List.length o4) c_v3)] rfl ?_
    refine gl_nil ?_
    refine gx_seq ?_
    refine g_ret ?_
    obtain rfl := Option.some.inj h
    exact gx_fin rfl [.slice a_v2 (List.length o4) c_v3] _ _ [] ⟨_, _, rfl, rfl, rfl⟩ rfl ⟨a_v2, c_v3, rfl, rfl, rfl⟩ (fun w hS => (hS.take 1).facts [] [] [] noItem noItem noItem) (Or.inl rfl)

theorem c_spec_l01In (n_v : Int) (low : Int) (high : Int)  {r : Bool} (h : spec_l01In n_v low high = r) : CallOK Tryd.prog 77 [.int .i64 n_v, .int .i64 low, .int .i64 high] [] [gTab 3 pow10C, gNum 0] [] (fun v outs ros => v = .bool r ∧ outs = [] ∧ ros = []) := by
  refine fn_ok Tryd.func77 rfl Tryd.ntmps77 rfl (fun c hF0 => ?_)
  unfold spec_l01In at h
  refine g_seq ?_
  refine g_region ?_
  refine gl_batch 1 [(6, .bool false)] rfl ?_
  refine gl_nil ?_
  refine gx_seq ?_
  refine g_seq ?_
  refine g_region ?_
  refine gl_batch 4 [(10, .bool (decide (n_v ≥ low))), (9, .bool (decide (n_v ≥ low))), (8, .int .i64 low), (7, .int .i64 n_v)] rfl ?_
  refine gl_join (EE := [(14, .bool ((decide (n_v ≥ low)) && (decide (n_v ≤ high))))]) (RR := []) (XX := [gTab 3 pow10C, gNum 0]) (OO := []) (VV := []) 4 ?_ ?_
  · skip
    refine gl_case 10 rfl (fun hc => ?_) (fun hc => ?_)
    · skip
      refine gl_batch 4 [(14, .bool (decide (n_v ≤ high))), (13, .bool (decide (n_v ≤ high))), (12, .int .i64 high), (11, .int .i64 n_v)] rfl ?_
      refine gl_nil ?_
      exact gx_mid ⟨congrArg (fun z => some (Value.bool z)) (and_t hc).symm, trivial⟩ (fun w hS => hS)
    · skip
      refine gl_batch 4 [(14, .bool false), (13, undef), (12, undef), (11, undef)] rfl ?_
      refine gl_nil ?_
      exact gx_mid ⟨congrArg (fun z => some (Value.bool z)) (and_f hc).symm, trivial⟩ (fun w hS => hS)
  · skip
    refine gl_batch 1 [(6, .bool ((decide (n_v ≥ low)) && (decide (n_v ≤ high))))] rfl ?_
    refine gl_nil ?_
    refine gx_seq ?_
    refine g_ret ?_
    subst h
    exact gx_fin rfl [.bool ((decide (n_v ≥ low)) && (decide (n_v ≤ high)))] _ _ [] ⟨_, _, rfl, rfl, rfl⟩ rfl ⟨rfl, rfl, rfl⟩ (fun w hS => (hS.take 0).facts [] [] [] noItem noItem noItem) (Or.inl rfl)

theorem c_spec_l28Writable (f : Firing)  {r : Bool} (h : spec_l28Writable f = r) : CallOK Tryd.prog 61 [.agg #[.int .i64 f.Event, .int .i64 f.Number, .int .i64 f.Time]] [] [gTab 3 pow10C, gNum 0] [] (fun v outs ros => v = .bool r ∧ outs = [] ∧ ros = []) := by
  refine fn_ok Tryd.func61 rfl Tryd.ntmps61 rfl (fun c hF0 => ?_)
  unfold spec_l28Writable at h
  refine g_seq ?_
  refine g_region ?_
  refine gl_new (d := 1) (T := 47) [.int .i64 f.Event, .int .i64 f.Number, .int .i64 f.Time] rfl rfl (fun _ => rfl) (fun w => by kernel_rfl) ?_
  intro b1
  refine gl_batch 1 [(2, .bool false)] rfl ?_
  refine gl_nil ?_
  refine gx_seq ?_
  refine g_seq ?_
  refine g_region ?_
  refine gl_run (v := .pointer (some ⟨b1, 0, none⟩)) rfl rfl rfl (fun w => by kernel_rfl) ?_
  refine gl_ld1 0 hasBK (mem_at 0 rfl) rfl rfl Fo2 rfl rfl rfl ?_
  refine gl_call rfl rfl (fun w => by kernel_rfl) (c_spec_l01In f.Event 0 9 rfl) (consItem (mem_at 0 rfl) (consItem (mem_at 1 rfl) noItem)) noItem ?_
  rintro v outs ros ⟨rfl, rfl, rfl⟩
  refine ⟨_, rfl, ?_⟩
  refine gl_batch 1 [(6, .bool (spec_l01In f.Event 0 9))] rfl ?_
  refine gl_join (EE := [(10, .bool ((spec_l01In f.Event 0 9) && (spec_l01In f.Time 0 1000000)))]) (RR := [BK 47 b1 [.int .i64 f.Event, .int .i64 f.Number, .int .i64 f.Time]]) (XX := [gTab 3 pow10C, gNum 0]) (OO := []) (VV := []) 4 ?_ ?_
  · skip
    refine gl_case 6 rfl (fun hc => ?_) (fun hc => ?_)
    · skip
      refine gl_run (v := .pointer (some ⟨b1, 2, none⟩)) rfl rfl rfl (fun w => by kernel_rfl) ?_
      refine gl_ld1 2 hasBK (mem_at 0 rfl) rfl rfl Fo2 rfl rfl rfl ?_
      refine gl_call rfl rfl (fun w => by kernel_rfl) (c_spec_l01In f.Time 0 1000000 rfl) (consItem (mem_at 0 rfl) (consItem (mem_at 1 rfl) noItem)) noItem ?_
      rintro v outs ros ⟨rfl, rfl, rfl⟩
      refine ⟨_, rfl, ?_⟩
      refine gl_batch 1 [(10, .bool (spec_l01In f.Time 0 1000000))] rfl ?_
      refine gl_nil ?_
      exact gx_mid ⟨congrArg (fun z => some (Value.bool z)) (and_t hc).symm, trivial⟩ (fun w hS => hS)
    · skip
      refine gl_batch 4 [(10, .bool false), (9, undef), (8, undef), (7, undef)] rfl ?_
      refine gl_nil ?_
      exact gx_mid ⟨congrArg (fun z => some (Value.bool z)) (and_f hc).symm, trivial⟩ (fun w hS => hS)
  · skip
    refine gl_batch 1 [(2, .bool ((spec_l01In f.Event 0 9) && (spec_l01In f.Time 0 1000000)))] rfl ?_
    refine gl_nil ?_
    refine gx_seq ?_
    refine g_ret ?_
    subst h
    exact gx_fin rfl [.bool ((spec_l01In f.Event 0 9) && (spec_l01In f.Time 0 1000000))] _ _ [] ⟨_, _, rfl, rfl, rfl⟩ rfl ⟨rfl, rfl, rfl⟩ (fun w hS => (hS.take 0).facts [] [] [] noItem noItem noItem) (Or.inl rfl)

theorem c_spec_l28All (run : List Firing) (a_run : Option Addr) (c_run : Nat) {r : Bool} (h : spec_l28All run = some r) : CallOK Tryd.prog 42 [.slice a_run (List.length run) c_run] [] [gTab 3 pow10C, gNum 0] [SL false 47 FiringS a_run c_run run] (fun v outs ros => v = .bool r ∧ outs = [] ∧ ros = []) := by
  refine fn_ok Tryd.func42 rfl Tryd.ntmps42 rfl (fun c hF0 => ?_)
  unfold spec_l28All at h
  refine g_seq ?_
  refine g_region ?_
  refine gl_batch 1 [(2, .bool false)] rfl ?_
  refine gl_nil ?_
  refine gx_seq ?_
  refine g_seq ?_
  refine g_seq ?_
  refine g_region ?_
  refine gl_batch 1 [(3, .int .i64 0)] rfl ?_
  refine gl_nil ?_
  refine gx_seq ?_
  refine g_block ?_
  obtain ⟨o1, ho1, h⟩ := bindS h
  refine g_loop (spec_l28All_L1 run) (fun (ss_ : Int) a w => Env a 19 [(0, .slice a_run (List.length run) c_run), (3, .int .i64 ss_)] ∧ St c w [] [gTab 3 pow10C, gNum 0] [SL false 47 FiringS a_run c_run run] []) (Sum.elim (fun (ss_ : Unit) e a w => e = .ret ∧ Env a 19 [(2, .bool false)] ∧ St c w [] [gTab 3 pow10C, gNum 0] [SL false 47 FiringS a_run c_run run] []) (fun (ss_ : Unit) e a w => e = (.exit 0) ∧ Env a 19 [(0, .slice a_run (List.length run) c_run)] ∧ St c w [] [gTab 3 pow10C, gNum 0] [SL false 47 FiringS a_run c_run run] []) : (Sum Unit Unit) → Exit → Act → World → Prop) ho1 ?_ ?_ ?_
  · exact fun a w hE hS => ⟨hE.sub ⟨rfl, rfl, trivial⟩, (hS.take 0).facts _ _ [] (consItem (mem_at 0 rfl) (consItem (mem_at 1 rfl) noItem)) (consItem (mem_at 0 rfl) noItem) noItem⟩
  · intro s2 o3 h a w hA
    obtain ⟨hE, hS⟩ := hA
    unfold spec_l28All_L1 at h
    refine g_enter hE hS ?_
    refine g_seq ?_
    refine g_seq ?_
    refine g_region ?_
    refine gl_batch 2 [(5, .slice a_run (List.length run) c_run), (4, .int .i64 s2)] rfl ?_
    refine gl_len rfl Fs26 rfl rfl ?_
    refine gl_batch 1 [(7, .bool (decide (s2 < (List.length run : Int))))] rfl ?_
    refine gl_nil ?_
    refine gx_seq ?_
    refine g_cond (b := decide (s2 < (List.length run : Int))) rfl (fun hc => ?_) (fun hc => ?_)
    · replace h := condT hc h
      refine g_skip ?_
      refine gx_seq ?_
      refine g_seq ?_
      refine g_block ?_
      refine g_seq ?_
      refine g_region ?_
      refine gl_batch 2 [(11, .int .i64 s2), (10, .slice a_run (List.length run) c_run)] rfl ?_
      obtain ⟨x4, hx4, h⟩ := bindS h
      refine gl_idxO (k := .i64) (mem_at 0 rfl) rfl rfl Fs26 Fz47 hx4 rfl rfl ?_
      intro p5
      refine gl_ldA (vs := [.int .i64 x4.Event, .int .i64 x4.Number, .int .i64 x4.Time]) 0 hasAT (mem_at 0 rfl) rfl rfl Fm47 Fz47 rfl rfl rfl ?_
      refine gl_call rfl rfl (fun w => by kernel_rfl) (c_spec_l28Writable x4 rfl) (consItem (mem_at 0 rfl) (consItem (mem_at 1 rfl) noItem)) noItem ?_
      rintro v outs ros ⟨rfl, rfl, rfl⟩
      refine ⟨_, rfl, ?_⟩
      refine gl_batch 1 [(15, .bool (!(spec_l28Writable x4)))] rfl ?_
      refine gl_nil ?_
      refine gx_seq ?_
      refine g_cond (b := !(spec_l28Writable x4)) rfl (fun hc => ?_) (fun hc => ?_)
      · replace h := condT hc h
        refine g_seq ?_
        refine g_region ?_
        refine gl_batch 1 [(2, .bool false)] rfl ?_
        refine gl_nil ?_
        refine gx_seq ?_
        refine g_ret ?_
        refine gx_blk_ret ?_
        refine gx_seq_ret ?_
        obtain rfl := Option.some.inj h
        exact gx_of (fun a w hE hS => lp_out nofun (inL ⟨rfl, hE.sub ⟨rfl, trivial⟩, (hS.take 0).facts _ _ [] (consItem (mem_at 0 rfl) (consItem (mem_at 1 rfl) noItem)) (consItem (mem_at 1 rfl) noItem) noItem⟩))
      · replace h := condF hc h
        refine g_skip ?_
        refine gx_blk ?_
        refine gx_seq ?_
        refine g_region ?_
        refine gl_batch 3 [(3, .int .i64 (IntKind.i64.wrap (s2 + 1))), (9, .int .i64 (IntKind.i64.wrap (s2 + 1))), (8, .int .i64 s2)] rfl ?_
        refine gl_nil ?_
        obtain rfl := Option.some.inj h
        exact gx_of (fun a w hE hS => lp_in ⟨hE.sub ⟨rfl, rfl, trivial⟩, (hS.take 0).facts _ _ [] (consItem (mem_at 0 rfl) (consItem (mem_at 1 rfl) noItem)) (consItem (mem_at 1 rfl) noItem) noItem⟩)
    · replace h := condF hc h
      refine g_exit ?_
      refine gx_seq_exit ?_
      obtain rfl := Option.some.inj h
      exact gx_of (fun a w hE hS => lp_out nofun (inR ⟨rfl, hE.sub ⟨rfl, trivial⟩, (hS.take 0).facts _ _ [] (consItem (mem_at 0 rfl) (consItem (mem_at 1 rfl) noItem)) (consItem (mem_at 0 rfl) noItem) noItem⟩))
  · intro e a w hm
    rcases o1 with s6 | s7
    · replace h := elimL h
      obtain ⟨rfl, hE, hS⟩ := hm
      refine gx_to hE hS ?_
      refine gx_blk_ret ?_
      refine gx_seq_ret ?_
      obtain rfl := Option.some.inj h
      exact gx_fin rfl [.bool false] _ _ [] ⟨_, _, rfl, rfl, rfl⟩ rfl ⟨rfl, rfl, rfl⟩ (fun w hS => (hS.take 0).facts [] [] [] noItem noItem noItem) (Or.inl rfl)
    · replace h := elimR h
      obtain ⟨rfl, hE, hS⟩ := hm
      refine gx_to hE hS ?_
      refine gx_blk_hit ?_
      refine gx_seq ?_
      refine g_seq ?_
      refine g_region ?_
      refine gl_batch 1 [(16, .slice a_run (List.length run) c_run)] rfl ?_
      refine gl_len rfl Fs26 rfl rfl ?_
      refine gl_batch 2 [(2, .bool (decide ((List.length run : Int) ≤ 500))), (18, .bool (decide ((List.length run : Int) ≤ 500)))] rfl ?_
      refine gl_nil ?_
      refine gx_seq ?_
      refine g_ret ?_
      obtain rfl := Option.some.inj h
      exact gx_fin rfl [.bool (decide ((List.length run : Int) ≤ 500))] _ _ [] ⟨_, _, rfl, rfl, rfl⟩ rfl ⟨rfl, rfl, rfl⟩ (fun w hS => (hS.take 0).facts [] [] [] noItem noItem noItem) (Or.inl rfl)

theorem c_spec_l28Next (chain : Int) (f : Firing)  {r : Int} (h : spec_l28Next chain f = r) : CallOK Tryd.prog 43 [.int .i64 chain, .agg #[.int .i64 f.Event, .int .i64 f.Number, .int .i64 f.Time]] [] [gTab 3 pow10C, gNum 0] [] (fun v outs ros => v = .int .i64 r ∧ outs = [] ∧ ros = []) := by
  refine fn_ok Tryd.func43 rfl Tryd.ntmps43 rfl (fun c hF0 => ?_)
  unfold spec_l28Next at h
  refine g_seq ?_
  refine g_region ?_
  refine gl_new (d := 3) (T := 47) [.int .i64 f.Event, .int .i64 f.Number, .int .i64 f.Time] rfl rfl (fun _ => rfl) (fun w => by kernel_rfl) ?_
  intro b1
  refine gl_batch 1 [(4, .int .i64 0)] rfl ?_
  refine gl_nil ?_
  refine gx_seq ?_
  refine g_seq ?_
  refine g_region ?_
  refine gl_batch 2 [(6, .int .i64 (IntKind.i64.wrap (31 * chain))), (5, .int .i64 chain)] rfl ?_
  refine gl_run (v := .pointer (some ⟨b1, 0, none⟩)) rfl rfl rfl (fun w => by kernel_rfl) ?_
  refine gl_ld1 0 hasBK (mem_at 0 rfl) rfl rfl Fo2 rfl rfl rfl ?_
  refine gl_batch 2 [(10, .int .i64 (IntKind.i64.wrap ((IntKind.i64.wrap (31 * chain)) + (IntKind.i64.wrap (7 * f.Event))))), (9, .int .i64 (IntKind.i64.wrap (7 * f.Event)))] rfl ?_
  refine gl_run (v := .pointer (some ⟨b1, 2, none⟩)) rfl rfl rfl (fun w => by kernel_rfl) ?_
  refine gl_ld1 2 hasBK (mem_at 0 rfl) rfl rfl Fo2 rfl rfl rfl ?_
  refine gl_batch 3 [(4, .int .i64 (Int.tmod (IntKind.i64.wrap ((IntKind.i64.wrap ((IntKind.i64.wrap (31 * chain)) + (IntKind.i64.wrap (7 * f.Event)))) + f.Time)) 9973)), (14, .int .i64 (Int.tmod (IntKind.i64.wrap ((IntKind.i64.wrap ((IntKind.i64.wrap (31 * chain)) + (IntKind.i64.wrap (7 * f.Event)))) + f.Time)) 9973)), (13, .int .i64 (IntKind.i64.wrap ((IntKind.i64.wrap ((IntKind.i64.wrap (31 * chain)) + (IntKind.i64.wrap (7 * f.Event)))) + f.Time)))] rfl ?_
  refine gl_nil ?_
  refine gx_seq ?_
  refine g_ret ?_
  subst h
  exact gx_fin rfl [.int .i64 (Int.tmod (IntKind.i64.wrap ((IntKind.i64.wrap ((IntKind.i64.wrap (31 * chain)) + (IntKind.i64.wrap (7 * f.Event)))) + f.Time)) 9973)] _ _ [] ⟨_, _, rfl, rfl, rfl⟩ rfl ⟨rfl, rfl, rfl⟩ (fun w hS => (hS.take 0).facts [] [] [] noItem noItem noItem) (Or.inl rfl)

theorem c_spec_l01Dec_F (kf : Nat) : ∀ (n_v : Int)  {r : List UInt8}, spec_l01Dec_F kf n_v = some r → CallOK Tryd.prog 79 [.int .i64 n_v] [] [gTab 3 pow10C, gNum 0] [] (fun v outs ros => v = str r ∧ outs = [] ∧ ros = []) := by
  induction kf with
  | zero => intro n_v  r h; cases h
  | succ kf ih =>
  intro n_v  r h
  refine fn_ok Tryd.func79 rfl Tryd.ntmps79 rfl (fun c hF0 => ?_)
  rw [spec_l01Dec_F] at h
  refine g_seq ?_
  refine g_region ?_
  refine gl_batch 1 [(2, str [])] rfl ?_
  refine gl_nil ?_
  refine gx_seq ?_
  refine g_seq ?_
  refine g_seq ?_
  refine g_region ?_
  refine gl_batch 2 [(4, .bool (decide (n_v < 10))), (3, .int .i64 n_v)] rfl ?_
  refine gl_nil ?_
  refine gx_seq ?_
  refine g_cond (b := decide (n_v < 10)) rfl (fun hc => ?_) (fun hc => ?_)
  · replace h := condT hc h
    refine g_seq ?_
    refine g_region ?_
    refine gl_batch 2 [(6, .int .i64 (IntKind.i64.wrap (48 + n_v))), (5, .int .i64 n_v)] rfl ?_
    refine gl_run (v := .int .u8 (IntKind.u8.wrap (IntKind.i64.wrap (48 + n_v)))) rfl rfl rfl (fun w => by kernel_rfl) ?_
    refine gl_lit (d := 8) (T := 5) (enc := fun x => [.int .u8 x]) (hn := fun _ => rfl) false [IntKind.u8.wrap (IntKind.i64.wrap (48 + n_v))] rfl rfl (fun _ => rfl) nofun (Nat.le_of_ble_eq_true rfl) (fun w => by kernel_rfl) ?_
    intro a_v1 c_v2
    refine gl_b2s (mem_at 0 rfl) rfl Fs50 Fy5 Ft9 rfl rfl ?_
    refine gl_batch 1 [(2, str (toStr [IntKind.u8.wrap (IntKind.i64.wrap (48 + n_v))]))] rfl ?_
    refine gl_nil ?_
    refine gx_seq ?_
    refine g_ret ?_
    refine gx_seq_ret ?_
    obtain rfl := Option.some.inj h
    exact gx_fin rfl [str (toStr [IntKind.u8.wrap (IntKind.i64.wrap (48 + n_v))])] _ _ [] ⟨_, _, rfl, rfl, rfl⟩ rfl ⟨rfl, rfl, rfl⟩ (fun w hS => (hS.take 0).facts [] [] [] noItem noItem noItem) (Or.inl rfl)
  · replace h := condF hc h
    refine g_skip ?_
    refine gx_seq ?_
    refine g_seq ?_
    refine g_state (E' := [(0, .int .i64 n_v)]) (Rs' := []) (Xs' := [gTab 3 pow10C, gNum 0]) (Os' := []) (Vs' := []) ⟨rfl, trivial⟩ (fun w hS => hS) ?_
    obtain ⟨o3, ho3, h⟩ := bindS h
    obtain ⟨z6, hz6, h⟩ := bindS h
    refine draw0 10 [[], [0], [1], [], [3], [4], [5], [6], [7], [2, 8]] [det 0 (.int .i64 n_v), det 1 (.int .i64 (IntKind.i64.wrap (Int.tdiv n_v 10))), det 2 (str o3), det 3 (.int .i64 n_v), det 4 (.int .i64 (Int.tmod n_v 10)), det 5 (.int .i64 (IntKind.i64.wrap (48 + (Int.tmod n_v 10)))), det 6 (.int .u8 (IntKind.u8.wrap (IntKind.i64.wrap (48 + (Int.tmod n_v 10))))), litF 7 5 (enc := fun x => [.int .u8 x]) (hn := fun _ => rfl) [IntKind.u8.wrap (IntKind.i64.wrap (48 + (Int.tmod n_v 10)))], det 8 (str (toStr [IntKind.u8.wrap (IntKind.i64.wrap (48 + (Int.tmod n_v 10)))])), det 9 (str z6)] mixed rfl rfl ⟨⟨⟨⟨⟨⟨⟨⟨⟨⟨trivial, ?_⟩, ?_⟩, ?_⟩, ?_⟩, ?_⟩, ?_⟩, ?_⟩, ?_⟩, ?_⟩, ?_⟩ ?_
    · intro vals E' R' O' hD
      refine gl_batch 1 [(10, .int .i64 n_v)] rfl ?_
      refine gl_nil ?_
      exact gx_fp _ rfl rfl rfl rfl st_det0
    · intro vals E' R' O' hD
      have h0 : vals 0 = .int .i64 n_v := hD 0 (memN 0 rfl)
      refine gl_convV (E2 := (10, .int .i64 n_v) :: ([(0, .int .i64 n_v)] ++ E')) (V2 := [] ++ ([] ++ [])) (by show (10, vals 0) :: ([(0, .int .i64 n_v)] ++ E') = _; rw [h0]) rfl ?_
      refine gl_batch 1 [(11, .int .i64 (IntKind.i64.wrap (Int.tdiv n_v 10)))] rfl ?_
      refine gl_nil ?_
      exact gx_fp _ rfl rfl rfl rfl st_det0
    · intro vals E' R' O' hD
      have h1 : vals 1 = .int .i64 (IntKind.i64.wrap (Int.tdiv n_v 10)) := hD 1 (memN 0 rfl)
      refine gl_convV (E2 := (11, .int .i64 (IntKind.i64.wrap (Int.tdiv n_v 10))) :: ([(0, .int .i64 n_v)] ++ E')) (V2 := [] ++ ([] ++ [])) (by show (11, vals 1) :: ([(0, .int .i64 n_v)] ++ E') = _; rw [h1]) rfl ?_
      refine gl_call rfl rfl (fun w => by kernel_rfl) (ih (IntKind.i64.wrap (Int.tdiv n_v 10)) ho3) (consItem (mem_at 0 rfl) (consItem (mem_at 1 rfl) noItem)) noItem ?_
      rintro v outs ros ⟨rfl, rfl, rfl⟩
      refine ⟨_, rfl, ?_⟩
      refine gl_nil ?_
      exact gx_fp _ rfl rfl rfl rfl st_det0
    · intro vals E' R' O' hD
      refine gl_batch 1 [(13, .int .i64 n_v)] rfl ?_
      refine gl_nil ?_
      exact gx_fp _ rfl rfl rfl rfl st_det0
    · intro vals E' R' O' hD
      have h3 : vals 3 = .int .i64 n_v := hD 3 (memN 0 rfl)
      refine gl_convV (E2 := (13, .int .i64 n_v) :: ([(0, .int .i64 n_v)] ++ E')) (V2 := [] ++ ([] ++ [])) (by show (13, vals 3) :: ([(0, .int .i64 n_v)] ++ E') = _; rw [h3]) rfl ?_
      refine gl_batch 1 [(14, .int .i64 (Int.tmod n_v 10))] rfl ?_
      refine gl_nil ?_
      exact gx_fp _ rfl rfl rfl rfl st_det0
    · intro vals E' R' O' hD
      have h4 : vals 4 = .int .i64 (Int.tmod n_v 10) := hD 4 (memN 0 rfl)
      refine gl_convV (E2 := (14, .int .i64 (Int.tmod n_v 10)) :: ([(0, .int .i64 n_v)] ++ E')) (V2 := [] ++ ([] ++ [])) (by show (14, vals 4) :: ([(0, .int .i64 n_v)] ++ E') = _; rw [h4]) rfl ?_
      refine gl_batch 1 [(15, .int .i64 (IntKind.i64.wrap (48 + (Int.tmod n_v 10))))] rfl ?_
      refine gl_nil ?_
      exact gx_fp _ rfl rfl rfl rfl st_det0
    · intro vals E' R' O' hD
      have h5 : vals 5 = .int .i64 (IntKind.i64.wrap (48 + (Int.tmod n_v 10))) := hD 5 (memN 0 rfl)
      refine gl_convV (E2 := (15, .int .i64 (IntKind.i64.wrap (48 + (Int.tmod n_v 10)))) :: ([(0, .int .i64 n_v)] ++ E')) (V2 := [] ++ ([] ++ [])) (by show (15, vals 5) :: ([(0, .int .i64 n_v)] ++ E') = _; rw [h5]) rfl ?_
      refine gl_run (v := .int .u8 (IntKind.u8.wrap (IntKind.i64.wrap (48 + (Int.tmod n_v 10))))) rfl rfl rfl (fun w => by kernel_rfl) ?_
      refine gl_nil ?_
      exact gx_fp _ rfl rfl rfl rfl st_det0
    · intro vals E' R' O' hD
      have h6 : vals 6 = .int .u8 (IntKind.u8.wrap (IntKind.i64.wrap (48 + (Int.tmod n_v 10)))) := hD 6 (memN 0 rfl)
      refine gl_convV (E2 := (16, .int .u8 (IntKind.u8.wrap (IntKind.i64.wrap (48 + (Int.tmod n_v 10))))) :: ([(0, .int .i64 n_v)] ++ E')) (V2 := [] ++ ([] ++ [])) (by show (16, vals 6) :: ([(0, .int .i64 n_v)] ++ E') = _; rw [h6]) rfl ?_
      refine gl_lit (d := 17) (T := 5) (enc := fun x => [.int .u8 x]) (hn := fun _ => rfl) false [IntKind.u8.wrap (IntKind.i64.wrap (48 + (Int.tmod n_v 10)))] rfl rfl (fun _ => rfl) nofun (Nat.le_of_ble_eq_true rfl) (fun w => by kernel_rfl) ?_
      intro a_ c_
      refine gl_nil ?_
      exact gx_fp _ rfl rfl rfl ⟨a_, c_, rfl⟩ st_mk
    · intro vals E' R' O' hD
      obtain ⟨a_v4, c_v5, h7⟩ : ∃ a c, vals 7 = .slice a (List.length [IntKind.u8.wrap (IntKind.i64.wrap (48 + (Int.tmod n_v 10)))]) c := hD 7 (memN 0 rfl)
      refine gl_convV (E2 := (17, .slice a_v4 (List.length [IntKind.u8.wrap (IntKind.i64.wrap (48 + (Int.tmod n_v 10)))]) c_v5) :: ([(0, .int .i64 n_v)] ++ E')) (V2 := [SL false 5 (intS .u8) a_v4 c_v5 [IntKind.u8.wrap (IntKind.i64.wrap (48 + (Int.tmod n_v 10)))]] ++ ([] ++ [])) (by show (17, vals 7) :: ([(0, .int .i64 n_v)] ++ E') = _; rw [h7]) (by show [(⟨_, sliceS false 5 (intS .u8), [vals 7], [IntKind.u8.wrap (IntKind.i64.wrap (48 + (Int.tmod n_v 10)))]⟩ : Item)] ++ ([] ++ []) = _; rw [h7]) ?_
      refine gl_b2s (memV (mem_at 0 rfl)) rfl Fs50 Fy5 Ft9 rfl rfl ?_
      refine gl_nil ?_
      exact gx_fp _ rfl rfl rfl rfl st_det0
    · intro vals E' R' O' hD
      have h2 : vals 2 = str o3 := hD 2 (memN 0 rfl)
      have h8 : vals 8 = str (toStr [IntKind.u8.wrap (IntKind.i64.wrap (48 + (Int.tmod n_v 10)))]) := hD 8 (memN 1 rfl)
      refine gl_convV (E2 := (12, str o3) :: (18, str (toStr [IntKind.u8.wrap (IntKind.i64.wrap (48 + (Int.tmod n_v 10)))])) :: ([(0, .int .i64 n_v)] ++ E')) (V2 := [] ++ ([] ++ [])) (by show (12, vals 2) :: (18, vals 8) :: ([(0, .int .i64 n_v)] ++ E') = _; rw [h2, h8]) rfl ?_
      refine gl_scat rfl rfl hz6 rfl rfl ?_
      refine gl_nil ?_
      exact gx_fp _ rfl rfl rfl rfl st_det0
    · intro vals hv
      obtain ⟨⟨⟨⟨⟨⟨⟨⟨⟨⟨_, h0⟩, h1⟩, h2⟩, h3⟩, h4⟩, h5⟩, h6⟩, h7⟩, h8⟩, h9⟩ := hv
      have h0 : vals 0 = .int .i64 n_v := h0
      have h1 : vals 1 = .int .i64 (IntKind.i64.wrap (Int.tdiv n_v 10)) := h1
      have h2 : vals 2 = str o3 := h2
      have h3 : vals 3 = .int .i64 n_v := h3
      have h4 : vals 4 = .int .i64 (Int.tmod n_v 10) := h4
      have h5 : vals 5 = .int .i64 (IntKind.i64.wrap (48 + (Int.tmod n_v 10))) := h5
      have h6 : vals 6 = .int .u8 (IntKind.u8.wrap (IntKind.i64.wrap (48 + (Int.tmod n_v 10)))) := h6
      obtain ⟨a_v4, c_v5, h7⟩ : ∃ a c, vals 7 = .slice a (List.length [IntKind.u8.wrap (IntKind.i64.wrap (48 + (Int.tmod n_v 10)))]) c := h7
      have h8 : vals 8 = str (toStr [IntKind.u8.wrap (IntKind.i64.wrap (48 + (Int.tmod n_v 10)))]) := h8
      have h9 : vals 9 = str z6 := h9
      refine gl_conv (E2 := (10, .int .i64 n_v) :: (11, .int .i64 (IntKind.i64.wrap (Int.tdiv n_v 10))) :: (12, str o3) :: (13, .int .i64 n_v) :: (14, .int .i64 (Int.tmod n_v 10)) :: (15, .int .i64 (IntKind.i64.wrap (48 + (Int.tmod n_v 10)))) :: (16, .int .u8 (IntKind.u8.wrap (IntKind.i64.wrap (48 + (Int.tmod n_v 10))))) :: (17, .slice a_v4 (List.length [IntKind.u8.wrap (IntKind.i64.wrap (48 + (Int.tmod n_v 10)))]) c_v5) :: (18, str (toStr [IntKind.u8.wrap (IntKind.i64.wrap (48 + (Int.tmod n_v 10)))])) :: (19, str z6) :: [(0, .int .i64 n_v)]) (R2 := [SL false 5 (intS .u8) a_v4 c_v5 [IntKind.u8.wrap (IntKind.i64.wrap (48 + (Int.tmod n_v 10)))]] ++ []) (O2 := []) (by show (10, vals 0) :: (11, vals 1) :: (12, vals 2) :: (13, vals 3) :: (14, vals 4) :: (15, vals 5) :: (16, vals 6) :: (17, vals 7) :: (18, vals 8) :: (19, vals 9) :: [(0, .int .i64 n_v)] = _; rw [h0, h1, h2, h3, h4, h5, h6, h7, h8, h9]) (by show [(⟨_, sliceS false 5 (intS .u8), [vals 7], [IntKind.u8.wrap (IntKind.i64.wrap (48 + (Int.tmod n_v 10)))]⟩ : Item)] ++ [] = _; rw [h7]) rfl ?_
      refine gl_batch 1 [(2, str z6)] rfl ?_
      refine gl_nil ?_
      refine gx_seq ?_
      refine g_ret ?_
      obtain rfl := Option.some.inj h
      exact gx_fin rfl [str z6] _ _ [] ⟨_, _, rfl, rfl, rfl⟩ rfl ⟨rfl, rfl, rfl⟩ (fun w hS => (hS.take 0).facts [] [] [] noItem noItem noItem) (Or.inl rfl)
theorem c_spec_l01Dec (n_v : Int)  {r : List UInt8} (h : spec_l01Dec n_v = some r) : CallOK Tryd.prog 79 [.int .i64 n_v] [] [gTab 3 pow10C, gNum 0] [] (fun v outs ros => v = str r ∧ outs = [] ∧ ros = []) := by
  obtain ⟨k, hk⟩ := lim_some h
  exact c_spec_l01Dec_F k n_v  hk

theorem c_spec_l28Line (f : Firing) (chain : Int)  {r : List UInt8} (h : spec_l28Line f chain = some r) : CallOK Tryd.prog 44 [.agg #[.int .i64 f.Event, .int .i64 f.Number, .int .i64 f.Time], .int .i64 chain] [] [gTab 3 pow10C, gNum 0] [] (fun v outs ros => v = str r ∧ outs = [] ∧ ros = []) := by
  refine fn_ok Tryd.func44 rfl Tryd.ntmps44 rfl (fun c hF0 => ?_)
  unfold spec_l28Line at h
  refine g_seq ?_
  refine g_region ?_
  refine gl_new (d := 2) (T := 47) [.int .i64 f.Event, .int .i64 f.Number, .int .i64 f.Time] rfl rfl (fun _ => rfl) (fun w => by kernel_rfl) ?_
  intro b1
  refine gl_batch 1 [(4, str [])] rfl ?_
  refine gl_nil ?_
  refine gx_seq ?_
  refine g_seq ?_
  refine g_state (E' := [(1, .int .i64 chain), (2, .pointer (some ⟨b1, 0, none⟩))]) (Rs' := [BK 47 b1 [.int .i64 f.Event, .int .i64 f.Number, .int .i64 f.Time]]) (Xs' := [gTab 3 pow10C, gNum 0]) (Os' := []) (Vs' := []) ⟨rfl, rfl, trivial⟩ (fun w hS => hS) ?_
  obtain ⟨o2, ho2, h⟩ := bindS h
  obtain ⟨z3, hz3, h⟩ := bindS h
  obtain ⟨o4, ho4, h⟩ := bindS h
  obtain ⟨z5, hz5, h⟩ := bindS h
  obtain ⟨z6, hz6, h⟩ := bindS h
  obtain ⟨o7, ho7, h⟩ := bindS h
  obtain ⟨z8, hz8, h⟩ := bindS h
  refine draw0 12 [[], [0], [1], [2], [], [4], [5], [3, 6], [7], [], [9], [8, 10]] [det 0 (.pointer (some ⟨b1, 0, none⟩)), det 1 (.int .i64 f.Event), det 2 (str o2), det 3 (str z3), det 4 (.pointer (some ⟨b1, 2, none⟩)), det 5 (.int .i64 f.Time), det 6 (str o4), det 7 (str z5), det 8 (str z6), det 9 (.int .i64 chain), det 10 (str o7), det 11 (str z8)] mixed rfl rfl ⟨⟨⟨⟨⟨⟨⟨⟨⟨⟨⟨⟨trivial, ?_⟩, ?_⟩, ?_⟩, ?_⟩, ?_⟩, ?_⟩, ?_⟩, ?_⟩, ?_⟩, ?_⟩, ?_⟩, ?_⟩ ?_
  · intro vals E' R' O' hD
    refine gl_run (v := .pointer (some ⟨b1, 0, none⟩)) rfl rfl rfl (fun w => by kernel_rfl) ?_
    refine gl_nil ?_
    exact gx_fp _ rfl rfl rfl rfl st_det0
  · intro vals E' R' O' hD
    have h0 : vals 0 = .pointer (some ⟨b1, 0, none⟩) := hD 0 (memN 0 rfl)
    refine gl_convV (E2 := (5, .pointer (some ⟨b1, 0, none⟩)) :: ([(1, .int .i64 chain), (2, .pointer (some ⟨b1, 0, none⟩))] ++ E')) (V2 := [] ++ ([BK 47 b1 [.int .i64 f.Event, .int .i64 f.Number, .int .i64 f.Time]] ++ [])) (by show (5, vals 0) :: ([(1, .int .i64 chain), (2, .pointer (some ⟨b1, 0, none⟩))] ++ E') = _; rw [h0]) rfl ?_
    refine gl_ld1 0 hasBK (memV (mem_at 0 rfl)) rfl rfl Fo2 rfl rfl rfl ?_
    refine gl_nil ?_
    exact gx_fp _ rfl rfl rfl rfl st_det0
  · intro vals E' R' O' hD
    have h1 : vals 1 = .int .i64 f.Event := hD 1 (memN 0 rfl)
    refine gl_convV (E2 := (6, .int .i64 f.Event) :: ([(1, .int .i64 chain), (2, .pointer (some ⟨b1, 0, none⟩))] ++ E')) (V2 := [] ++ ([BK 47 b1 [.int .i64 f.Event, .int .i64 f.Number, .int .i64 f.Time]] ++ [])) (by show (6, vals 1) :: ([(1, .int .i64 chain), (2, .pointer (some ⟨b1, 0, none⟩))] ++ E') = _; rw [h1]) rfl ?_
    refine gl_call rfl rfl (fun w => by kernel_rfl) (c_spec_l01Dec f.Event ho2) (consItem (mem_at 0 rfl) (consItem (mem_at 1 rfl) noItem)) noItem ?_
    rintro v outs ros ⟨rfl, rfl, rfl⟩
    refine ⟨_, rfl, ?_⟩
    refine gl_nil ?_
    exact gx_fp _ rfl rfl rfl rfl st_det0
  · intro vals E' R' O' hD
    have h2 : vals 2 = str o2 := hD 2 (memN 0 rfl)
    refine gl_convV (E2 := (7, str o2) :: ([(1, .int .i64 chain), (2, .pointer (some ⟨b1, 0, none⟩))] ++ E')) (V2 := [] ++ ([BK 47 b1 [.int .i64 f.Event, .int .i64 f.Number, .int .i64 f.Time]] ++ [])) (by show (7, vals 2) :: ([(1, .int .i64 chain), (2, .pointer (some ⟨b1, 0, none⟩))] ++ E') = _; rw [h2]) rfl ?_
    refine gl_scat rfl rfl hz3 rfl rfl ?_
    refine gl_nil ?_
    exact gx_fp _ rfl rfl rfl rfl st_det0
  · intro vals E' R' O' hD
    refine gl_run (v := .pointer (some ⟨b1, 2, none⟩)) rfl rfl rfl (fun w => by kernel_rfl) ?_
    refine gl_nil ?_
    exact gx_fp _ rfl rfl rfl rfl st_det0
  · intro vals E' R' O' hD
    have h4 : vals 4 = .pointer (some ⟨b1, 2, none⟩) := hD 4 (memN 0 rfl)
    refine gl_convV (E2 := (9, .pointer (some ⟨b1, 2, none⟩)) :: ([(1, .int .i64 chain), (2, .pointer (some ⟨b1, 0, none⟩))] ++ E')) (V2 := [] ++ ([BK 47 b1 [.int .i64 f.Event, .int .i64 f.Number, .int .i64 f.Time]] ++ [])) (by show (9, vals 4) :: ([(1, .int .i64 chain), (2, .pointer (some ⟨b1, 0, none⟩))] ++ E') = _; rw [h4]) rfl ?_
    refine gl_ld1 2 hasBK (memV (mem_at 0 rfl)) rfl rfl Fo2 rfl rfl rfl ?_
    refine gl_nil ?_
    exact gx_fp _ rfl rfl rfl rfl st_det0
  · intro vals E' R' O' hD
    have h5 : vals 5 = .int .i64 f.Time := hD 5 (memN 0 rfl)
    refine gl_convV (E2 := (10, .int .i64 f.Time) :: ([(1, .int .i64 chain), (2, .pointer (some ⟨b1, 0, none⟩))] ++ E')) (V2 := [] ++ ([BK 47 b1 [.int .i64 f.Event, .int .i64 f.Number, .int .i64 f.Time]] ++ [])) (by show (10, vals 5) :: ([(1, .int .i64 chain), (2, .pointer (some ⟨b1, 0, none⟩))] ++ E') = _; rw [h5]) rfl ?_
    refine gl_call rfl rfl (fun w => by kernel_rfl) (c_spec_l01Dec f.Time ho4) (consItem (mem_at 0 rfl) (consItem (mem_at 1 rfl) noItem)) noItem ?_
    rintro v outs ros ⟨rfl, rfl, rfl⟩
    refine ⟨_, rfl, ?_⟩
    refine gl_nil ?_
    exact gx_fp _ rfl rfl rfl rfl st_det0
  · intro vals E' R' O' hD
    have h3 : vals 3 = str z3 := hD 3 (memN 0 rfl)
    have h6 : vals 6 = str o4 := hD 6 (memN 1 rfl)
    refine gl_convV (E2 := (8, str z3) :: (11, str o4) :: ([(1, .int .i64 chain), (2, .pointer (some ⟨b1, 0, none⟩))] ++ E')) (V2 := [] ++ ([BK 47 b1 [.int .i64 f.Event, .int .i64 f.Number, .int .i64 f.Time]] ++ [])) (by show (8, vals 3) :: (11, vals 6) :: ([(1, .int .i64 chain), (2, .pointer (some ⟨b1, 0, none⟩))] ++ E') = _; rw [h3, h6]) rfl ?_
    refine gl_scat rfl rfl hz5 rfl rfl ?_
    refine gl_nil ?_
    exact gx_fp _ rfl rfl rfl rfl st_det0
  · intro vals E' R' O' hD
    have h7 : vals 7 = str z5 := hD 7 (memN 0 rfl)
    refine gl_convV (E2 := (12, str z5) :: ([(1, .int .i64 chain), (2, .pointer (some ⟨b1, 0, none⟩))] ++ E')) (V2 := [] ++ ([BK 47 b1 [.int .i64 f.Event, .int .i64 f.Number, .int .i64 f.Time]] ++ [])) (by show (12, vals 7) :: ([(1, .int .i64 chain), (2, .pointer (some ⟨b1, 0, none⟩))] ++ E') = _; rw [h7]) rfl ?_
    refine gl_scat rfl rfl hz6 rfl rfl ?_
    refine gl_nil ?_
    exact gx_fp _ rfl rfl rfl rfl st_det0
  · intro vals E' R' O' hD
    refine gl_batch 1 [(14, .int .i64 chain)] rfl ?_
    refine gl_nil ?_
    exact gx_fp _ rfl rfl rfl rfl st_det0
  · intro vals E' R' O' hD
    have h9 : vals 9 = .int .i64 chain := hD 9 (memN 0 rfl)
    refine gl_convV (E2 := (14, .int .i64 chain) :: ([(1, .int .i64 chain), (2, .pointer (some ⟨b1, 0, none⟩))] ++ E')) (V2 := [] ++ ([BK 47 b1 [.int .i64 f.Event, .int .i64 f.Number, .int .i64 f.Time]] ++ [])) (by show (14, vals 9) :: ([(1, .int .i64 chain), (2, .pointer (some ⟨b1, 0, none⟩))] ++ E') = _; rw [h9]) rfl ?_
    refine gl_call rfl rfl (fun w => by kernel_rfl) (c_spec_l01Dec chain ho7) (consItem (mem_at 0 rfl) (consItem (mem_at 1 rfl) noItem)) noItem ?_
    rintro v outs ros ⟨rfl, rfl, rfl⟩
    refine ⟨_, rfl, ?_⟩
    refine gl_nil ?_
    exact gx_fp _ rfl rfl rfl rfl st_det0
  · intro vals E' R' O' hD
    have h8 : vals 8 = str z6 := hD 8 (memN 0 rfl)
    have h10 : vals 10 = str o7 := hD 10 (memN 1 rfl)
    refine gl_convV (E2 := (13, str z6) :: (15, str o7) :: ([(1, .int .i64 chain), (2, .pointer (some ⟨b1, 0, none⟩))] ++ E')) (V2 := [] ++ ([BK 47 b1 [.int .i64 f.Event, .int .i64 f.Number, .int .i64 f.Time]] ++ [])) (by show (13, vals 8) :: (15, vals 10) :: ([(1, .int .i64 chain), (2, .pointer (some ⟨b1, 0, none⟩))] ++ E') = _; rw [h8, h10]) rfl ?_
    refine gl_scat rfl rfl hz8 rfl rfl ?_
    refine gl_nil ?_
    exact gx_fp _ rfl rfl rfl rfl st_det0
  · intro vals hv
    obtain ⟨⟨⟨⟨⟨⟨⟨⟨⟨⟨⟨⟨_, h0⟩, h1⟩, h2⟩, h3⟩, h4⟩, h5⟩, h6⟩, h7⟩, h8⟩, h9⟩, h10⟩, h11⟩ := hv
    have h0 : vals 0 = .pointer (some ⟨b1, 0, none⟩) := h0
    have h1 : vals 1 = .int .i64 f.Event := h1
    have h2 : vals 2 = str o2 := h2
    have h3 : vals 3 = str z3 := h3
    have h4 : vals 4 = .pointer (some ⟨b1, 2, none⟩) := h4
    have h5 : vals 5 = .int .i64 f.Time := h5
    have h6 : vals 6 = str o4 := h6
    have h7 : vals 7 = str z5 := h7
    have h8 : vals 8 = str z6 := h8
    have h9 : vals 9 = .int .i64 chain := h9
    have h10 : vals 10 = str o7 := h10
    have h11 : vals 11 = str z8 := h11
    refine gl_conv (E2 := (5, .pointer (some ⟨b1, 0, none⟩)) :: (6, .int .i64 f.Event) :: (7, str o2) :: (8, str z3) :: (9, .pointer (some ⟨b1, 2, none⟩)) :: (10, .int .i64 f.Time) :: (11, str o4) :: (12, str z5) :: (13, str z6) :: (14, .int .i64 chain) :: (15, str o7) :: (16, str z8) :: [(1, .int .i64 chain), (2, .pointer (some ⟨b1, 0, none⟩))]) (R2 := [] ++ [BK 47 b1 [.int .i64 f.Event, .int .i64 f.Number, .int .i64 f.Time]]) (O2 := []) (by show (5, vals 0) :: (6, vals 1) :: (7, vals 2) :: (8, vals 3) :: (9, vals 4) :: (10, vals 5) :: (11, vals 6) :: (12, vals 7) :: (13, vals 8) :: (14, vals 9) :: (15, vals 10) :: (16, vals 11) :: [(1, .int .i64 chain), (2, .pointer (some ⟨b1, 0, none⟩))] = _; rw [h0, h1, h2, h3, h4, h5, h6, h7, h8, h9, h10, h11]) rfl rfl ?_
    refine gl_batch 1 [(4, str z8)] rfl ?_
    refine gl_nil ?_
    refine gx_seq ?_
    refine g_ret ?_
    obtain rfl := Option.some.inj h
    exact gx_fin rfl [str z8] _ _ [] ⟨_, _, rfl, rfl, rfl⟩ rfl ⟨rfl, rfl, rfl⟩ (fun w hS => (hS.take 0).facts [] [] [] noItem noItem noItem) (Or.inl rfl)

theorem c_spec_TraceText (run : List Firing) (a_run : Option Addr) (c_run : Nat) {r : List UInt8 × Int} (h : spec_TraceText run = some r) : CallOK Tryd.prog 11 [.slice a_run (List.length run) c_run] [] [gTab 3 pow10C, gNum 0] [SL false 47 FiringS a_run c_run run] (fun v outs ros => v = .tuple #[str r.1, .int .i64 r.2] ∧ outs = [] ∧ ros = []) := by
  refine fn_ok Tryd.func11 rfl Tryd.ntmps11 rfl (fun c hF0 => ?_)
  unfold spec_TraceText at h
  refine g_seq ?_
  refine g_region ?_
  refine gl_batch 2 [(3, .int .i64 0), (2, str [])] rfl ?_
  refine gl_nil ?_
  refine gx_seq ?_
  refine g_seq ?_
  refine g_seq ?_
  refine g_region ?_
  refine gl_batch 1 [(7, .slice a_run (List.length run) c_run)] rfl ?_
  obtain ⟨o1, ho1, h⟩ := bindS h
  refine gl_call rfl rfl (fun w => by kernel_rfl) (c_spec_l28All run a_run c_run ho1) (consItem (mem_at 0 rfl) (consItem (mem_at 1 rfl) noItem)) (consItem (mem_at 0 rfl) noItem) ?_
  rintro v outs ros ⟨rfl, rfl, rfl⟩
  refine ⟨_, rfl, ?_⟩
  refine gl_batch 1 [(9, .bool (!o1))] rfl ?_
  refine gl_nil ?_
  refine gx_seq ?_
  refine g_cond (b := !o1) rfl (fun hc => ?_) (fun hc => ?_)
  · replace h := condT hc h
    refine g_seq ?_
    refine g_region ?_
    refine gl_batch 2 [(3, .int .i64 2), (2, str [])] rfl ?_
    refine gl_nil ?_
    refine gx_seq ?_
    refine g_ret ?_
    refine gx_seq_ret ?_
    obtain rfl := Option.some.inj h
    exact gx_fin rfl [str [], .int .i64 2] _ _ [] ⟨_, _, rfl, rfl, _, _, rfl, rfl, rfl⟩ rfl ⟨rfl, rfl, rfl⟩ (fun w hS => (hS.take 0).facts [] [] [] noItem noItem noItem) (Or.inl rfl)
  · replace h := condF hc h
    refine g_skip ?_
    refine gx_seq ?_
    refine g_seq ?_
    refine g_region ?_
    refine gl_lit (d := 10) (T := 5) (enc := fun x => [.int .u8 x]) (hn := fun _ => rfl) false ([] : List Int) rfl rfl (fun _ => rfl) nofun (Nat.le_of_ble_eq_true rfl) (fun w => by kernel_rfl) ?_
    intro a_v2 c_v3
    refine gl_batch 2 [(5, .slice a_v2 (List.length []) c_v3), (4, .int .i64 1)] rfl ?_
    refine gl_nil ?_
    refine gx_seq ?_
    refine g_seq ?_
    refine g_seq ?_
    refine g_region ?_
    refine gl_batch 1 [(6, .int .i64 0)] rfl ?_
    refine gl_nil ?_
    refine gx_seq ?_
    refine g_block ?_
    obtain ⟨o4, ho4, h⟩ := bindS h
    refine g_loop (spec_TraceText_L1 run) (fun (ss_ : Int × (List Int) × Int) a w => ∃ (a_ss__r0 : Option Addr), ∃ (c_ss__r0 : Nat), Env a 34 [(0, .slice a_run (List.length run) c_run), (4, .int .i64 ss_.1), (5, .slice a_ss__r0 (List.length ss_.2.1) c_ss__r0), (6, .int .i64 ss_.2.2)] ∧ St c w [SL false 5 (intS .u8) a_ss__r0 c_ss__r0 ss_.2.1] [gTab 3 pow10C, gNum 0] [SL false 47 FiringS a_run c_run run] []) ((fun (ss_ : (List Int)) e a w => e = (.exit 0) ∧ ∃ (a_ss__r0 : Option Addr), ∃ (c_ss__r0 : Nat), Env a 34 [(5, .slice a_ss__r0 (List.length ss_) c_ss__r0)] ∧ St c w [SL false 5 (intS .u8) a_ss__r0 c_ss__r0 ss_] [gTab 3 pow10C, gNum 0] [SL false 47 FiringS a_run c_run run] []) : ((List Int)) → Exit → Act → World → Prop) ho4 ?_ ?_ ?_
    · exact fun a w hE hS => ⟨a_v2, c_v3, hE.sub ⟨rfl, rfl, rfl, rfl, trivial⟩, (hS.take 1).facts _ _ [] (consItem (mem_at 0 rfl) (consItem (mem_at 1 rfl) noItem)) (consItem (mem_at 0 rfl) noItem) noItem⟩
    · intro s5 o6 h a w hA
      obtain ⟨a_s5_r0, c_s5_r0, hE, hS⟩ := hA
      unfold spec_TraceText_L1 at h
      refine g_enter hE hS ?_
      refine g_seq ?_
      refine g_seq ?_
      refine g_region ?_
      refine gl_batch 2 [(12, .slice a_run (List.length run) c_run), (11, .int .i64 s5.2.2)] rfl ?_
      refine gl_len rfl Fs26 rfl rfl ?_
      refine gl_batch 1 [(14, .bool (decide (s5.2.2 < (List.length run : Int))))] rfl ?_
      refine gl_nil ?_
      refine gx_seq ?_
      refine g_cond (b := decide (s5.2.2 < (List.length run : Int))) rfl (fun hc => ?_) (fun hc => ?_)
      · replace h := condT hc h
        refine g_skip ?_
        refine gx_seq ?_
        refine g_seq ?_
        refine g_block ?_
        refine g_seq ?_
        refine g_region ?_
        refine gl_batch 3 [(19, .int .i64 s5.2.2), (18, .slice a_run (List.length run) c_run), (17, .int .i64 s5.1)] rfl ?_
        obtain ⟨x7, hx7, h⟩ := bindS h
        refine gl_idxO (k := .i64) (mem_at 0 rfl) rfl rfl Fs26 Fz47 hx7 rfl rfl ?_
        intro p8
        refine gl_ldA (vs := [.int .i64 x7.Event, .int .i64 x7.Number, .int .i64 x7.Time]) 0 hasAT (mem_at 1 rfl) rfl rfl Fm47 Fz47 rfl rfl rfl ?_
        refine gl_call rfl rfl (fun w => by kernel_rfl) (c_spec_l28Next s5.1 x7 rfl) (consItem (mem_at 0 rfl) (consItem (mem_at 1 rfl) noItem)) noItem ?_
        rintro v outs ros ⟨rfl, rfl, rfl⟩
        refine ⟨_, rfl, ?_⟩
        refine gl_batch 1 [(4, .int .i64 (spec_l28Next s5.1 x7))] rfl ?_
        refine gl_nil ?_
        refine gx_seq ?_
        refine g_region ?_
        refine gl_batch 3 [(25, .int .i64 s5.2.2), (24, .slice a_run (List.length run) c_run), (23, .slice a_s5_r0 (List.length s5.2.1) c_s5_r0)] rfl ?_
        obtain ⟨x9, hx9, h⟩ := bindS h
        refine gl_idxO (k := .i64) (mem_at 1 rfl) rfl rfl Fs26 Fz47 hx9 rfl rfl ?_
        intro p10
        refine gl_ldA (vs := [.int .i64 x9.Event, .int .i64 x9.Number, .int .i64 x9.Time]) 0 hasAT (mem_at 1 rfl) rfl rfl Fm47 Fz47 rfl rfl rfl ?_
        refine gl_batch 1 [(28, .int .i64 (spec_l28Next s5.1 x7))] rfl ?_
        obtain ⟨o11, ho11, h⟩ := bindS h
        refine gl_call rfl rfl (fun w => by kernel_rfl) (c_spec_l28Line x9 (spec_l28Next s5.1 x7) ho11) (consItem (mem_at 0 rfl) (consItem (mem_at 1 rfl) noItem)) noItem ?_
        rintro v outs ros ⟨rfl, rfl, rfl⟩
        refine ⟨_, rfl, ?_⟩
        obtain ⟨z12, hz12, h⟩ := bindS h
        refine gl_scat rfl rfl hz12 rfl rfl ?_
        obtain ⟨z13, hz13, h⟩ := bindS h
        refine gl_apps rfl rfl Fs50 Ft9 Fi5 hz13 rfl rfl ?_
        intro a_v14 c_v15
        refine gl_batch 1 [(5, .slice a_v14 (List.length z13) c_v15)] rfl ?_
        refine gl_nil ?_
        refine gx_blk ?_
        refine gx_seq ?_
        refine g_region ?_
        refine gl_batch 3 [(6, .int .i64 (IntKind.i64.wrap (s5.2.2 + 1))), (16, .int .i64 (IntKind.i64.wrap (s5.2.2 + 1))), (15, .int .i64 s5.2.2)] rfl ?_
        refine gl_nil ?_
        obtain rfl := Option.some.inj h
        exact gx_of (fun a w hE hS => lp_in ⟨a_v14, c_v15, hE.sub ⟨rfl, rfl, rfl, rfl, trivial⟩, (hS.take 1).facts _ _ [] (consItem (mem_at 0 rfl) (consItem (mem_at 1 rfl) noItem)) (consItem (mem_at 2 rfl) noItem) noItem⟩)
      · replace h := condF hc h
        refine g_exit ?_
        refine gx_seq_exit ?_
        obtain rfl := Option.some.inj h
        exact gx_of (fun a w hE hS => lp_out nofun (⟨rfl, a_s5_r0, c_s5_r0, hE.sub ⟨rfl, trivial⟩, (hS.take 1).facts _ _ [] (consItem (mem_at 0 rfl) (consItem (mem_at 1 rfl) noItem)) (consItem (mem_at 0 rfl) noItem) noItem⟩))
    · intro e a w hm
      obtain ⟨rfl, a_o4_r0, c_o4_r0, hE, hS⟩ := hm
      refine gx_to hE hS ?_
      refine gx_blk_hit ?_
      refine gx_seq ?_
      refine g_seq ?_
      refine g_region ?_
      refine gl_batch 1 [(32, .slice a_o4_r0 (List.length o4) c_o4_r0)] rfl ?_
      refine gl_b2s (mem_at 0 rfl) rfl Fs50 Fy5 Ft9 rfl rfl ?_
      refine gl_batch 2 [(3, .int .i64 0), (2, str (toStr o4))] rfl ?_
      refine gl_nil ?_
      refine gx_seq ?_
      refine g_ret ?_
      obtain rfl := Option.some.inj h
      exact gx_fin rfl [str (toStr o4), .int .i64 0] _ _ [] ⟨_, _, rfl, rfl, _, _, rfl, rfl, rfl⟩ rfl ⟨rfl, rfl, rfl⟩ (fun w hS => (hS.take 0).facts [] [] [] noItem noItem noItem) (Or.inl rfl)

theorem c_impl_within (n_v : Int) (low : Int) (high : Int)  {r : Bool} (h : impl_within n_v low high = r) : CallOK Tryd.prog 80 [.int .i64 n_v, .int .i64 low, .int .i64 high] [] [gTab 3 pow10C, gNum 0] [] (fun v outs ros => v = .bool r ∧ outs = [] ∧ ros = []) := by
  refine fn_ok Tryd.func80 rfl Tryd.ntmps80 rfl (fun c hF0 => ?_)
  unfold impl_within at h
  refine g_seq ?_
  refine g_region ?_
  refine gl_batch 1 [(6, .bool false)] rfl ?_
  refine gl_nil ?_
  refine gx_seq ?_
  refine g_seq ?_
  refine g_region ?_
  refine gl_batch 4 [(10, .bool (decide (n_v ≥ low))), (9, .bool (decide (n_v ≥ low))), (8, .int .i64 low), (7, .int .i64 n_v)] rfl ?_
  refine gl_join (EE := [(14, .bool ((decide (n_v ≥ low)) && (decide (n_v ≤ high))))]) (RR := []) (XX := [gTab 3 pow10C, gNum 0]) (OO := []) (VV := []) 4 ?_ ?_
  · skip
    refine gl_case 10 rfl (fun hc => ?_) (fun hc => ?_)
    · skip
      refine gl_batch 4 [(14, .bool (decide (n_v ≤ high))), (13, .bool (decide (n_v ≤ high))), (12, .int .i64 high), (11, .int .i64 n_v)] rfl ?_
      refine gl_nil ?_
      exact gx_mid ⟨congrArg (fun z => some (Value.bool z)) (and_t hc).symm, trivial⟩ (fun w hS => hS)
    · skip
      refine gl_batch 4 [(14, .bool false), (13, undef), (12, undef), (11, undef)] rfl ?_
      refine gl_nil ?_
      exact gx_mid ⟨congrArg (fun z => some (Value.bool z)) (and_f hc).symm, trivial⟩ (fun w hS => hS)
  · skip
    refine gl_batch 1 [(6, .bool ((decide (n_v ≥ low)) && (decide (n_v ≤ high))))] rfl ?_
    refine gl_nil ?_
    refine gx_seq ?_
    refine g_ret ?_
    subst h
    exact gx_fin rfl [.bool ((decide (n_v ≥ low)) && (decide (n_v ≤ high)))] _ _ [] ⟨_, _, rfl, rfl, rfl⟩ rfl ⟨rfl, rfl, rfl⟩ (fun w hS => (hS.take 0).facts [] [] [] noItem noItem noItem) (Or.inl rfl)

theorem c_impl_isWritable_c1 (f : Firing)  {r : Bool} (h : impl_isWritable_c1 f = r) : CallOK Tryd.prog 85 [.agg #[.int .i64 f.Event, .int .i64 f.Number, .int .i64 f.Time]] [] [gTab 3 pow10C, gNum 0] [] (fun v outs ros => v = .bool r ∧ outs = [] ∧ ros = []) := by
  refine fn_ok Tryd.func85 rfl Tryd.ntmps85 rfl (fun c hF0 => ?_)
  unfold impl_isWritable_c1 at h
  refine g_seq ?_
  refine g_region ?_
  refine gl_new (d := 1) (T := 47) [.int .i64 f.Event, .int .i64 f.Number, .int .i64 f.Time] rfl rfl (fun _ => rfl) (fun w => by kernel_rfl) ?_
  intro b1
  refine gl_batch 1 [(2, .bool false)] rfl ?_
  refine gl_nil ?_
  refine gx_seq ?_
  refine g_seq ?_
  refine g_region ?_
  refine gl_run (v := .pointer (some ⟨b1, 0, none⟩)) rfl rfl rfl (fun w => by kernel_rfl) ?_
  refine gl_ld1 0 hasBK (mem_at 0 rfl) rfl rfl Fo2 rfl rfl rfl ?_
  refine gl_call rfl rfl (fun w => by kernel_rfl) (c_impl_within f.Event 0 9 rfl) (consItem (mem_at 0 rfl) (consItem (mem_at 1 rfl) noItem)) noItem ?_
  rintro v outs ros ⟨rfl, rfl, rfl⟩
  refine ⟨_, rfl, ?_⟩
  refine gl_batch 2 [(7, .bool (!(impl_within f.Event 0 9))), (6, .bool (!(impl_within f.Event 0 9)))] rfl ?_
  refine gl_join (EE := [(12, .bool ((!(impl_within f.Event 0 9)) || (!(impl_within f.Time 0 1000000))))]) (RR := [BK 47 b1 [.int .i64 f.Event, .int .i64 f.Number, .int .i64 f.Time]]) (XX := [gTab 3 pow10C, gNum 0]) (OO := []) (VV := []) 5 ?_ ?_
  · skip
    refine gl_case 7 rfl (fun hc => ?_) (fun hc => ?_)
    · skip
      refine gl_batch 5 [(12, .bool true), (11, undef), (10, undef), (9, undef), (8, undef)] rfl ?_
      refine gl_nil ?_
      exact gx_mid ⟨congrArg (fun z => some (Value.bool z)) (or_t hc).symm, trivial⟩ (fun w hS => hS)
    · skip
      refine gl_run (v := .pointer (some ⟨b1, 2, none⟩)) rfl rfl rfl (fun w => by kernel_rfl) ?_
      refine gl_ld1 2 hasBK (mem_at 0 rfl) rfl rfl Fo2 rfl rfl rfl ?_
      refine gl_call rfl rfl (fun w => by kernel_rfl) (c_impl_within f.Time 0 1000000 rfl) (consItem (mem_at 0 rfl) (consItem (mem_at 1 rfl) noItem)) noItem ?_
      rintro v outs ros ⟨rfl, rfl, rfl⟩
      refine ⟨_, rfl, ?_⟩
      refine gl_batch 2 [(12, .bool (!(impl_within f.Time 0 1000000))), (11, .bool (!(impl_within f.Time 0 1000000)))] rfl ?_
      refine gl_nil ?_
      exact gx_mid ⟨congrArg (fun z => some (Value.bool z)) (or_f hc).symm, trivial⟩ (fun w hS => hS)
  · skip
    refine gl_batch 1 [(2, .bool ((!(impl_within f.Event 0 9)) || (!(impl_within f.Time 0 1000000))))] rfl ?_
    refine gl_nil ?_
    refine gx_seq ?_
    refine g_ret ?_
    subst h
    exact gx_fin rfl [.bool ((!(impl_within f.Event 0 9)) || (!(impl_within f.Time 0 1000000)))] _ _ [] ⟨_, _, rfl, rfl, rfl⟩ rfl ⟨rfl, rfl, rfl⟩ (fun w hS => (hS.take 0).facts [] [] [] noItem noItem noItem) (Or.inl rfl)

theorem c_slices_IndexFunc_Firing_isWritable_c1 (s : List Firing) (a_s : Option Addr) (c_s : Nat) {r : Int} (h : slices_IndexFunc_Firing_isWritable_c1 s = some r) : CallOK Tryd.prog 105 [.slice a_s (List.length s) c_s, .func (.func 85) #[] #[]] [] [gTab 3 pow10C, gNum 0] [SL false 47 FiringS a_s c_s s] (fun v outs ros => v = .int .i64 r ∧ outs = [] ∧ ros = []) := by
  refine fn_ok Tryd.func105 rfl Tryd.ntmps105 rfl (fun c hF0 => ?_)
  unfold slices_IndexFunc_Firing_isWritable_c1 at h
  refine g_seq ?_
  refine g_region ?_
  refine gl_batch 1 [(4, .int .i64 0)] rfl ?_
  refine gl_nil ?_
  refine gx_seq ?_
  refine g_seq ?_
  refine g_seq ?_
  refine g_region ?_
  refine gl_batch 1 [(6, .slice a_s (List.length s) c_s)] rfl ?_
  refine gl_len rfl Fs26 rfl rfl ?_
  refine gl_batch 1 [(8, .int .i64 0)] rfl ?_
  refine gl_nil ?_
  refine gx_seq ?_
  refine g_block ?_
  obtain ⟨o1, ho1, h⟩ := bindS h
  refine g_loop (slices_IndexFunc_Firing_isWritable_c1_L1 s) (fun (ss_ : Int) a w => Env a 19 [(0, .slice a_s (List.length s) c_s), (1, .func (.func 85) #[] #[]), (7, .int .i64 (List.length s : Int)), (8, .int .i64 ss_)] ∧ St c w [] [gTab 3 pow10C, gNum 0] [SL false 47 FiringS a_s c_s s] []) (Sum.elim (fun (ss_ : Int) e a w => e = .ret ∧ Env a 19 [(4, .int .i64 ss_)] ∧ St c w [] [gTab 3 pow10C, gNum 0] [SL false 47 FiringS a_s c_s s] []) (fun (ss_ : Unit) e a w => e = (.exit 0) ∧ Env a 19 [] ∧ St c w [] [gTab 3 pow10C, gNum 0] [SL false 47 FiringS a_s c_s s] []) : (Sum Int Unit) → Exit → Act → World → Prop) ho1 ?_ ?_ ?_
  · exact fun a w hE hS => ⟨hE.sub ⟨rfl, rfl, rfl, rfl, trivial⟩, (hS.take 0).facts _ _ [] (consItem (mem_at 0 rfl) (consItem (mem_at 1 rfl) noItem)) (consItem (mem_at 0 rfl) noItem) noItem⟩
  · intro s2 o3 h a w hA
    obtain ⟨hE, hS⟩ := hA
    unfold slices_IndexFunc_Firing_isWritable_c1_L1 at h
    refine g_enter hE hS ?_
    refine g_seq ?_
    refine g_region ?_
    refine gl_batch 1 [(9, .bool (decide (s2 < (List.length s : Int))))] rfl ?_
    refine gl_nil ?_
    refine gx_seq ?_
    refine g_seq ?_
    refine g_cond (b := decide (s2 < (List.length s : Int))) rfl (fun hc => ?_) (fun hc => ?_)
    · replace h := condT hc h
      refine g_skip ?_
      refine gx_seq ?_
      refine g_seq ?_
      refine g_block ?_
      refine g_seq ?_
      refine g_region ?_
      refine gl_batch 2 [(5, .int .i64 s2), (10, .int .i64 s2)] rfl ?_
      refine gl_nil ?_
      refine gx_seq ?_
      refine g_seq ?_
      refine g_region ?_
      refine gl_batch 3 [(13, .int .i64 s2), (12, .slice a_s (List.length s) c_s), (11, .func (.func 85) #[] #[])] rfl ?_
      obtain ⟨x4, hx4, h⟩ := bindS h
      refine gl_idxO (k := .i64) (mem_at 0 rfl) rfl rfl Fs26 Fz47 hx4 rfl rfl ?_
      intro p5
      refine gl_ldA (vs := [.int .i64 x4.Event, .int .i64 x4.Number, .int .i64 x4.Time]) 0 hasAT (mem_at 0 rfl) rfl rfl Fm47 Fz47 rfl rfl rfl ?_
      refine gl_call rfl rfl (fun w => by kernel_rfl) (c_impl_isWritable_c1 x4 rfl) (consItem (mem_at 0 rfl) (consItem (mem_at 1 rfl) noItem)) noItem ?_
      rintro v outs ros ⟨rfl, rfl, rfl⟩
      refine ⟨_, rfl, ?_⟩
      refine gl_nil ?_
      refine gx_seq ?_
      refine g_cond (b := (impl_isWritable_c1 x4)) rfl (fun hc => ?_) (fun hc => ?_)
      · replace h := condT hc h
        refine g_seq ?_
        refine g_region ?_
        refine gl_batch 2 [(4, .int .i64 s2), (17, .int .i64 s2)] rfl ?_
        refine gl_nil ?_
        refine gx_seq ?_
        refine g_ret ?_
        refine gx_blk_ret ?_
        refine gx_seq_ret ?_
        obtain rfl := Option.some.inj h
        exact gx_of (fun a w hE hS => lp_out nofun (inL ⟨rfl, hE.sub ⟨rfl, trivial⟩, (hS.take 0).facts _ _ [] (consItem (mem_at 0 rfl) (consItem (mem_at 1 rfl) noItem)) (consItem (mem_at 1 rfl) noItem) noItem⟩))
      · replace h := condF hc h
        refine g_skip ?_
        refine gx_blk ?_
        refine gx_seq ?_
        refine g_region ?_
        refine gl_batch 2 [(8, .int .i64 (IntKind.i64.wrap (s2 + 1))), (18, .int .i64 (IntKind.i64.wrap (s2 + 1)))] rfl ?_
        refine gl_nil ?_
        obtain rfl := Option.some.inj h
        exact gx_of (fun a w hE hS => lp_in ⟨hE.sub ⟨rfl, rfl, rfl, rfl, trivial⟩, (hS.take 0).facts _ _ [] (consItem (mem_at 0 rfl) (consItem (mem_at 1 rfl) noItem)) (consItem (mem_at 1 rfl) noItem) noItem⟩)
    · replace h := condF hc h
      refine g_exit ?_
      refine gx_seq_exit ?_
      obtain rfl := Option.some.inj h
      exact gx_of (fun a w hE hS => lp_out nofun (inR ⟨rfl, hE.sub trivial, (hS.take 0).facts _ _ [] (consItem (mem_at 0 rfl) (consItem (mem_at 1 rfl) noItem)) (consItem (mem_at 0 rfl) noItem) noItem⟩))
  · intro e a w hm
    rcases o1 with s6 | s7
    · replace h := elimL h
      obtain ⟨rfl, hE, hS⟩ := hm
      refine gx_to hE hS ?_
      refine gx_blk_ret ?_
      refine gx_seq_ret ?_
      obtain rfl := Option.some.inj h
      exact gx_fin rfl [.int .i64 s6] _ _ [] ⟨_, _, rfl, rfl, rfl⟩ rfl ⟨rfl, rfl, rfl⟩ (fun w hS => (hS.take 0).facts [] [] [] noItem noItem noItem) (Or.inl rfl)
    · replace h := elimR h
      obtain ⟨rfl, hE, hS⟩ := hm
      refine gx_to hE hS ?_
      refine gx_blk_hit ?_
      refine gx_seq ?_
      refine g_seq ?_
      refine g_region ?_
      refine gl_batch 1 [(4, .int .i64 (-1))] rfl ?_
      refine gl_nil ?_
      refine gx_seq ?_
      refine g_ret ?_
      obtain rfl := Option.some.inj h
      exact gx_fin rfl [.int .i64 (-1)] _ _ [] ⟨_, _, rfl, rfl, rfl⟩ rfl ⟨rfl, rfl, rfl⟩ (fun w hS => (hS.take 0).facts [] [] [] noItem noItem noItem) (Or.inl rfl)

theorem c_slices_ContainsFunc_Firing_isWritable_c1 (s : List Firing) (a_s : Option Addr) (c_s : Nat) {r : Bool} (h : slices_ContainsFunc_Firing_isWritable_c1 s = some r) : CallOK Tryd.prog 84 [.slice a_s (List.length s) c_s, .func (.func 85) #[] #[]] [] [gTab 3 pow10C, gNum 0] [SL false 47 FiringS a_s c_s s] (fun v outs ros => v = .bool r ∧ outs = [] ∧ ros = []) := by
  refine fn_ok Tryd.func84 rfl Tryd.ntmps84 rfl (fun c hF0 => ?_)
  unfold slices_ContainsFunc_Firing_isWritable_c1 at h
  refine g_seq ?_
  refine g_region ?_
  refine gl_batch 1 [(4, .bool false)] rfl ?_
  refine gl_nil ?_
  refine gx_seq ?_
  refine g_seq ?_
  refine g_region ?_
  refine gl_batch 2 [(6, .func (.func 85) #[] #[]), (5, .slice a_s (List.length s) c_s)] rfl ?_
  obtain ⟨o1, ho1, h⟩ := bindS h
  refine gl_call rfl rfl (fun w => by kernel_rfl) (c_slices_IndexFunc_Firing_isWritable_c1 s a_s c_s ho1) (consItem (mem_at 0 rfl) (consItem (mem_at 1 rfl) noItem)) (consItem (mem_at 0 rfl) noItem) ?_
  rintro v outs ros ⟨rfl, rfl, rfl⟩
  refine ⟨_, rfl, ?_⟩
  refine gl_batch 2 [(4, .bool (decide (o1 ≥ 0))), (8, .bool (decide (o1 ≥ 0)))] rfl ?_
  refine gl_nil ?_
  refine gx_seq ?_
  refine g_ret ?_
  obtain rfl := Option.some.inj h
  exact gx_fin rfl [.bool (decide (o1 ≥ 0))] _ _ [] ⟨_, _, rfl, rfl, rfl⟩ rfl ⟨rfl, rfl, rfl⟩ (fun w hS => (hS.take 0).facts [] [] [] noItem noItem noItem) (Or.inl rfl)

theorem c_impl_isWritable (run : List Firing) (a_run : Option Addr) (c_run : Nat) {r : Bool} (h : impl_isWritable run = some r) : CallOK Tryd.prog 45 [.slice a_run (List.length run) c_run] [] [gTab 3 pow10C, gNum 0] [SL false 47 FiringS a_run c_run run] (fun v outs ros => v = .bool r ∧ outs = [] ∧ ros = []) := by
  refine fn_ok Tryd.func45 rfl Tryd.ntmps45 rfl (fun c hF0 => ?_)
  unfold impl_isWritable at h
  refine g_seq ?_
  refine g_region ?_
  refine gl_batch 1 [(2, .bool false)] rfl ?_
  refine gl_nil ?_
  refine gx_seq ?_
  refine g_seq ?_
  refine g_region ?_
  refine gl_batch 1 [(3, .slice a_run (List.length run) c_run)] rfl ?_
  refine gl_len rfl Fs26 rfl rfl ?_
  refine gl_batch 2 [(6, .bool (decide ((List.length run : Int) ≤ 500))), (5, .bool (decide ((List.length run : Int) ≤ 500)))] rfl ?_
  obtain ⟨q1, hq1, h⟩ := bindS h
  refine gl_join (EE := [(10, .bool q1)]) (RR := []) (XX := [gTab 3 pow10C, gNum 0]) (OO := [SL false 47 FiringS a_run c_run run]) (VV := []) 4 ?_ ?_
  · replace h := hq1
    refine gl_case 6 rfl (fun hc => ?_) (fun hc => ?_)
    · replace h := condT hc h
      refine gl_batch 1 [(7, .slice a_run (List.length run) c_run)] rfl ?_
      obtain ⟨o2, ho2, h⟩ := bindS h
      refine gl_call rfl rfl (fun w => by kernel_rfl) (c_slices_ContainsFunc_Firing_isWritable_c1 run a_run c_run ho2) (consItem (mem_at 0 rfl) (consItem (mem_at 1 rfl) noItem)) (consItem (mem_at 0 rfl) noItem) ?_
      rintro v outs ros ⟨rfl, rfl, rfl⟩
      refine ⟨_, rfl, ?_⟩
      refine gl_batch 2 [(10, .bool (!o2)), (9, .bool (!o2))] rfl ?_
      refine gl_nil ?_
      obtain rfl := Option.some.inj h
      exact gx_mid ⟨rfl, trivial⟩ (fun w hS => hS)
    · replace h := condF hc h
      refine gl_batch 4 [(10, .bool false), (9, undef), (8, undef), (7, undef)] rfl ?_
      refine gl_nil ?_
      obtain rfl := Option.some.inj h
      exact gx_mid ⟨rfl, trivial⟩ (fun w hS => hS)
  · skip
    refine gl_batch 1 [(2, .bool q1)] rfl ?_
    refine gl_nil ?_
    refine gx_seq ?_
    refine g_ret ?_
    obtain rfl := Option.some.inj h
    exact gx_fin rfl [.bool q1] _ _ [] ⟨_, _, rfl, rfl, rfl⟩ rfl ⟨rfl, rfl, rfl⟩ (fun w hS => (hS.take 0).facts [] [] [] noItem noItem noItem) (Or.inl rfl)

theorem c_strconv_FormatInt (i : Int) (base : Int)  {r : List UInt8} (h : strconv_FormatInt i base = some r) : CallOK Tryd.prog 102 [.int .i64 i, .int .i64 base] [] [gTab 3 pow10C, gNum 0] [] (fun v outs ros => v = str r ∧ outs = [] ∧ ros = []) := by
  unfold strconv_FormatInt at h
  split at h
  · rename_i hc
    obtain ⟨rfl, h0, h1⟩ := hc
    obtain rfl := Option.some.inj h
    refine ok_flat (fun w hX => (Any.strconv_FormatInt_10 Tryd.lay173 i h0 h1 w (pow10_tab gn_pow10 (hX _ (mem_at 0 rfl)))).mono ?_)
    rintro e w' ⟨rfl, k, os, rfl⟩
    exact ⟨rfl, (Keep.drewN w k []).trans (Keep.grow _ os []) (fun x hx => by cases hx)⟩
  · cases h

theorem c_impl_decimal (n_v : Int)  {r : List UInt8} (h : impl_decimal n_v = some r) : CallOK Tryd.prog 73 [.int .i64 n_v] [] [gTab 3 pow10C, gNum 0] [] (fun v outs ros => v = str r ∧ outs = [] ∧ ros = []) := by
  refine fn_ok Tryd.func73 rfl Tryd.ntmps73 rfl (fun c hF0 => ?_)
  unfold impl_decimal at h
  refine g_seq ?_
  refine g_region ?_
  refine gl_batch 1 [(2, str [])] rfl ?_
  refine gl_nil ?_
  refine gx_seq ?_
  refine g_seq ?_
  refine g_region ?_
  refine gl_batch 1 [(3, .int .i64 n_v)] rfl ?_
  obtain ⟨o1, ho1, h⟩ := bindS h
  refine gl_call rfl rfl (fun w => by kernel_rfl) (c_strconv_FormatInt n_v 10 ho1) (consItem (mem_at 0 rfl) (consItem (mem_at 1 rfl) noItem)) noItem ?_
  rintro v outs ros ⟨rfl, rfl, rfl⟩
  refine ⟨_, rfl, ?_⟩
  refine gl_batch 1 [(2, str o1)] rfl ?_
  refine gl_nil ?_
  refine gx_seq ?_
  refine g_ret ?_
  obtain rfl := Option.some.inj h
  exact gx_fin rfl [str o1] _ _ [] ⟨_, _, rfl, rfl, rfl⟩ rfl ⟨rfl, rfl, rfl⟩ (fun w hS => (hS.take 0).facts [] [] [] noItem noItem noItem) (Or.inl rfl)

theorem c_impl_traceLine (f : Firing) (chain : Int)  {r : List UInt8 × Int} (h : impl_traceLine f chain = some r) : CallOK Tryd.prog 86 [.agg #[.int .i64 f.Event, .int .i64 f.Number, .int .i64 f.Time], .int .i64 chain] [] [gTab 3 pow10C, gNum 0] [] (fun v outs ros => v = .tuple #[str r.1, .int .i64 r.2] ∧ outs = [] ∧ ros = []) := by
  refine fn_ok Tryd.func86 rfl Tryd.ntmps86 rfl (fun c hF0 => ?_)
  unfold impl_traceLine at h
  refine g_seq ?_
  refine g_region ?_
  refine gl_new (d := 2) (T := 47) [.int .i64 f.Event, .int .i64 f.Number, .int .i64 f.Time] rfl rfl (fun _ => rfl) (fun w => by kernel_rfl) ?_
  intro b1
  refine gl_batch 2 [(5, .int .i64 0), (4, str [])] rfl ?_
  refine gl_nil ?_
  refine gx_seq ?_
  refine g_seq ?_
  refine g_region ?_
  refine gl_batch 2 [(7, .int .i64 (IntKind.i64.wrap (31 * chain))), (6, .int .i64 chain)] rfl ?_
  refine gl_run (v := .pointer (some ⟨b1, 0, none⟩)) rfl rfl rfl (fun w => by kernel_rfl) ?_
  refine gl_ld1 0 hasBK (mem_at 0 rfl) rfl rfl Fo2 rfl rfl rfl ?_
  refine gl_batch 2 [(11, .int .i64 (IntKind.i64.wrap ((IntKind.i64.wrap (31 * chain)) + (IntKind.i64.wrap (7 * f.Event))))), (10, .int .i64 (IntKind.i64.wrap (7 * f.Event)))] rfl ?_
  refine gl_run (v := .pointer (some ⟨b1, 2, none⟩)) rfl rfl rfl (fun w => by kernel_rfl) ?_
  refine gl_ld1 2 hasBK (mem_at 0 rfl) rfl rfl Fo2 rfl rfl rfl ?_
  obtain ⟨chain2, hchain2, h⟩ := letS h
  refine gl_batch 3 [(1, .int .i64 chain2), (15, .int .i64 (Int.tmod (IntKind.i64.wrap ((IntKind.i64.wrap ((IntKind.i64.wrap (31 * chain)) + (IntKind.i64.wrap (7 * f.Event)))) + f.Time)) 9973)), (14, .int .i64 (IntKind.i64.wrap ((IntKind.i64.wrap ((IntKind.i64.wrap (31 * chain)) + (IntKind.i64.wrap (7 * f.Event)))) + f.Time)))] (by subst hchain2; rfl) ?_
  refine gl_nil ?_
  refine gx_seq ?_
  refine g_seq ?_
  refine g_state (E' := [(1, .int .i64 chain2), (2, .pointer (some ⟨b1, 0, none⟩))]) (Rs' := [BK 47 b1 [.int .i64 f.Event, .int .i64 f.Number, .int .i64 f.Time]]) (Xs' := [gTab 3 pow10C, gNum 0]) (Os' := []) (Vs' := []) ⟨rfl, rfl, trivial⟩ (fun w hS => hS) ?_
  obtain ⟨o3, ho3, h⟩ := bindS h
  obtain ⟨z4, hz4, h⟩ := bindS h
  obtain ⟨o5, ho5, h⟩ := bindS h
  obtain ⟨z6, hz6, h⟩ := bindS h
  obtain ⟨z7, hz7, h⟩ := bindS h
  obtain ⟨o8, ho8, h⟩ := bindS h
  obtain ⟨z9, hz9, h⟩ := bindS h
  obtain ⟨z10, hz10, h⟩ := bindS h
  refine draw0 15 [[], [0], [1], [2], [], [4], [5], [3, 6], [7], [], [9], [8, 10], [11], [], [12]] [det 0 (.pointer (some ⟨b1, 0, none⟩)), det 1 (.int .i64 f.Event), det 2 (str o3), det 3 (str z4), det 4 (.pointer (some ⟨b1, 2, none⟩)), det 5 (.int .i64 f.Time), det 6 (str o5), det 7 (str z6), det 8 (str z7), det 9 (.int .i64 chain2), det 10 (str o8), det 11 (str z9), det 12 (str z10), det 13 (.int .i64 chain2), det 14 (str z10)] mixed rfl rfl ⟨⟨⟨⟨⟨⟨⟨⟨⟨⟨⟨⟨⟨⟨⟨trivial, ?_⟩, ?_⟩, ?_⟩, ?_⟩, ?_⟩, ?_⟩, ?_⟩, ?_⟩, ?_⟩, ?_⟩, ?_⟩, ?_⟩, ?_⟩, ?_⟩, ?_⟩ ?_
  · intro vals E' R' O' hD
    refine gl_run (v := .pointer (some ⟨b1, 0, none⟩)) rfl rfl rfl (fun w => by kernel_rfl) ?_
    refine gl_nil ?_
    exact gx_fp _ rfl rfl rfl rfl st_det0
  · intro vals E' R' O' hD
    have h0 : vals 0 = .pointer (some ⟨b1, 0, none⟩) := hD 0 (memN 0 rfl)
    refine gl_convV (E2 := (16, .pointer (some ⟨b1, 0, none⟩)) :: ([(1, .int .i64 chain2), (2, .pointer (some ⟨b1, 0, none⟩))] ++ E')) (V2 := [] ++ ([BK 47 b1 [.int .i64 f.Event, .int .i64 f.Number, .int .i64 f.Time]] ++ [])) (by show (16, vals 0) :: ([(1, .int .i64 chain2), (2, .pointer (some ⟨b1, 0, none⟩))] ++ E') = _; rw [h0]) rfl ?_
    refine gl_ld1 0 hasBK (memV (mem_at 0 rfl)) rfl rfl Fo2 rfl rfl rfl ?_
    refine gl_nil ?_
    exact gx_fp _ rfl rfl rfl rfl st_det0
  · intro vals E' R' O' hD
    have h1 : vals 1 = .int .i64 f.Event := hD 1 (memN 0 rfl)
    refine gl_convV (E2 := (17, .int .i64 f.Event) :: ([(1, .int .i64 chain2), (2, .pointer (some ⟨b1, 0, none⟩))] ++ E')) (V2 := [] ++ ([BK 47 b1 [.int .i64 f.Event, .int .i64 f.Number, .int .i64 f.Time]] ++ [])) (by show (17, vals 1) :: ([(1, .int .i64 chain2), (2, .pointer (some ⟨b1, 0, none⟩))] ++ E') = _; rw [h1]) rfl ?_
    refine gl_call rfl rfl (fun w => by kernel_rfl) (c_impl_decimal f.Event ho3) (consItem (mem_at 0 rfl) (consItem (mem_at 1 rfl) noItem)) noItem ?_
    rintro v outs ros ⟨rfl, rfl, rfl⟩
    refine ⟨_, rfl, ?_⟩
    refine gl_nil ?_
    exact gx_fp _ rfl rfl rfl rfl st_det0
  · intro vals E' R' O' hD
    have h2 : vals 2 = str o3 := hD 2 (memN 0 rfl)
    refine gl_convV (E2 := (18, str o3) :: ([(1, .int .i64 chain2), (2, .pointer (some ⟨b1, 0, none⟩))] ++ E')) (V2 := [] ++ ([BK 47 b1 [.int .i64 f.Event, .int .i64 f.Number, .int .i64 f.Time]] ++ [])) (by show (18, vals 2) :: ([(1, .int .i64 chain2), (2, .pointer (some ⟨b1, 0, none⟩))] ++ E') = _; rw [h2]) rfl ?_
    refine gl_scat rfl rfl hz4 rfl rfl ?_
    refine gl_nil ?_
    exact gx_fp _ rfl rfl rfl rfl st_det0
  · intro vals E' R' O' hD
    refine gl_run (v := .pointer (some ⟨b1, 2, none⟩)) rfl rfl rfl (fun w => by kernel_rfl) ?_
    refine gl_nil ?_
    exact gx_fp _ rfl rfl rfl rfl st_det0
  · intro vals E' R' O' hD
    have h4 : vals 4 = .pointer (some ⟨b1, 2, none⟩) := hD 4 (memN 0 rfl)
    refine gl_convV (E2 := (20, .pointer (some ⟨b1, 2, none⟩)) :: ([(1, .int .i64 chain2), (2, .pointer (some ⟨b1, 0, none⟩))] ++ E')) (V2 := [] ++ ([BK 47 b1 [.int .i64 f.Event, .int .i64 f.Number, .int .i64 f.Time]] ++ [])) (by show (20, vals 4) :: ([(1, .int .i64 chain2), (2, .pointer (some ⟨b1, 0, none⟩))] ++ E') = _; rw [h4]) rfl ?_
    refine gl_ld1 2 hasBK (memV (mem_at 0 rfl)) rfl rfl Fo2 rfl rfl rfl ?_
    refine gl_nil ?_
    exact gx_fp _ rfl rfl rfl rfl st_det0
  · intro vals E' R' O' hD
    have h5 : vals 5 = .int .i64 f.Time := hD 5 (memN 0 rfl)
    refine gl_convV (E2 := (21, .int .i64 f.Time) :: ([(1, .int .i64 chain2), (2, .pointer (some ⟨b1, 0, none⟩))] ++ E')) (V2 := [] ++ ([BK 47 b1 [.int .i64 f.Event, .int .i64 f.Number, .int .i64 f.Time]] ++ [])) (by show (21, vals 5) :: ([(1, .int .i64 chain2), (2, .pointer (some ⟨b1, 0, none⟩))] ++ E') = _; rw [h5]) rfl ?_
    refine gl_call rfl rfl (fun w => by kernel_rfl) (c_impl_decimal f.Time ho5) (consItem (mem_at 0 rfl) (consItem (mem_at 1 rfl) noItem)) noItem ?_
    rintro v outs ros ⟨rfl, rfl, rfl⟩
    refine ⟨_, rfl, ?_⟩
    refine gl_nil ?_
    exact gx_fp _ rfl rfl rfl rfl st_det0
  · intro vals E' R' O' hD
    have h3 : vals 3 = str z4 := hD 3 (memN 0 rfl)
    have h6 : vals 6 = str o5 := hD 6 (memN 1 rfl)
    refine gl_convV (E2 := (19, str z4) :: (22, str o5) :: ([(1, .int .i64 chain2), (2, .pointer (some ⟨b1, 0, none⟩))] ++ E')) (V2 := [] ++ ([BK 47 b1 [.int .i64 f.Event, .int .i64 f.Number, .int .i64 f.Time]] ++ [])) (by show (19, vals 3) :: (22, vals 6) :: ([(1, .int .i64 chain2), (2, .pointer (some ⟨b1, 0, none⟩))] ++ E') = _; rw [h3, h6]) rfl ?_
    refine gl_scat rfl rfl hz6 rfl rfl ?_
    refine gl_nil ?_
    exact gx_fp _ rfl rfl rfl rfl st_det0
  · intro vals E' R' O' hD
    have h7 : vals 7 = str z6 := hD 7 (memN 0 rfl)
    refine gl_convV (E2 := (23, str z6) :: ([(1, .int .i64 chain2), (2, .pointer (some ⟨b1, 0, none⟩))] ++ E')) (V2 := [] ++ ([BK 47 b1 [.int .i64 f.Event, .int .i64 f.Number, .int .i64 f.Time]] ++ [])) (by show (23, vals 7) :: ([(1, .int .i64 chain2), (2, .pointer (some ⟨b1, 0, none⟩))] ++ E') = _; rw [h7]) rfl ?_
    refine gl_scat rfl rfl hz7 rfl rfl ?_
    refine gl_nil ?_
    exact gx_fp _ rfl rfl rfl rfl st_det0
  · intro vals E' R' O' hD
    refine gl_batch 1 [(25, .int .i64 chain2)] rfl ?_
    refine gl_nil ?_
    exact gx_fp _ rfl rfl rfl rfl st_det0
  · intro vals E' R' O' hD
    have h9 : vals 9 = .int .i64 chain2 := hD 9 (memN 0 rfl)
    refine gl_convV (E2 := (25, .int .i64 chain2) :: ([(1, .int .i64 chain2), (2, .pointer (some ⟨b1, 0, none⟩))] ++ E')) (V2 := [] ++ ([BK 47 b1 [.int .i64 f.Event, .int .i64 f.Number, .int .i64 f.Time]] ++ [])) (by show (25, vals 9) :: ([(1, .int .i64 chain2), (2, .pointer (some ⟨b1, 0, none⟩))] ++ E') = _; rw [h9]) rfl ?_
    refine gl_call rfl rfl (fun w => by kernel_rfl) (c_impl_decimal chain2 ho8) (consItem (mem_at 0 rfl) (consItem (mem_at 1 rfl) noItem)) noItem ?_
    rintro v outs ros ⟨rfl, rfl, rfl⟩
    refine ⟨_, rfl, ?_⟩
    refine gl_nil ?_
    exact gx_fp _ rfl rfl rfl rfl st_det0
  · intro vals E' R' O' hD
    have h8 : vals 8 = str z7 := hD 8 (memN 0 rfl)
    have h10 : vals 10 = str o8 := hD 10 (memN 1 rfl)
    refine gl_convV (E2 := (24, str z7) :: (26, str o8) :: ([(1, .int .i64 chain2), (2, .pointer (some ⟨b1, 0, none⟩))] ++ E')) (V2 := [] ++ ([BK 47 b1 [.int .i64 f.Event, .int .i64 f.Number, .int .i64 f.Time]] ++ [])) (by show (24, vals 8) :: (26, vals 10) :: ([(1, .int .i64 chain2), (2, .pointer (some ⟨b1, 0, none⟩))] ++ E') = _; rw [h8, h10]) rfl ?_
    refine gl_scat rfl rfl hz9 rfl rfl ?_
    refine gl_nil ?_
    exact gx_fp _ rfl rfl rfl rfl st_det0
  · intro vals E' R' O' hD
    have h11 : vals 11 = str z9 := hD 11 (memN 0 rfl)
    refine gl_convV (E2 := (27, str z9) :: ([(1, .int .i64 chain2), (2, .pointer (some ⟨b1, 0, none⟩))] ++ E')) (V2 := [] ++ ([BK 47 b1 [.int .i64 f.Event, .int .i64 f.Number, .int .i64 f.Time]] ++ [])) (by show (27, vals 11) :: ([(1, .int .i64 chain2), (2, .pointer (some ⟨b1, 0, none⟩))] ++ E') = _; rw [h11]) rfl ?_
    refine gl_scat rfl rfl hz10 rfl rfl ?_
    refine gl_nil ?_
    exact gx_fp _ rfl rfl rfl rfl st_det0
  · intro vals E' R' O' hD
    refine gl_batch 1 [(29, .int .i64 chain2)] rfl ?_
    refine gl_nil ?_
    exact gx_fp _ rfl rfl rfl rfl st_det0
  · intro vals E' R' O' hD
    have h12 : vals 12 = str z10 := hD 12 (memN 0 rfl)
    refine gl_convV (E2 := (28, str z10) :: ([(1, .int .i64 chain2), (2, .pointer (some ⟨b1, 0, none⟩))] ++ E')) (V2 := [] ++ ([BK 47 b1 [.int .i64 f.Event, .int .i64 f.Number, .int .i64 f.Time]] ++ [])) (by show (28, vals 12) :: ([(1, .int .i64 chain2), (2, .pointer (some ⟨b1, 0, none⟩))] ++ E') = _; rw [h12]) rfl ?_
    refine gl_batch 1 [(4, str z10)] rfl ?_
    refine gl_nil ?_
    exact gx_fp _ rfl rfl rfl rfl st_det0
  · intro vals hv
    obtain ⟨⟨⟨⟨⟨⟨⟨⟨⟨⟨⟨⟨⟨⟨⟨_, h0⟩, h1⟩, h2⟩, h3⟩, h4⟩, h5⟩, h6⟩, h7⟩, h8⟩, h9⟩, h10⟩, h11⟩, h12⟩, h13⟩, h14⟩ := hv
    have h0 : vals 0 = .pointer (some ⟨b1, 0, none⟩) := h0
    have h1 : vals 1 = .int .i64 f.Event := h1
    have h2 : vals 2 = str o3 := h2
    have h3 : vals 3 = str z4 := h3
    have h4 : vals 4 = .pointer (some ⟨b1, 2, none⟩) := h4
    have h5 : vals 5 = .int .i64 f.Time := h5
    have h6 : vals 6 = str o5 := h6
    have h7 : vals 7 = str z6 := h7
    have h8 : vals 8 = str z7 := h8
    have h9 : vals 9 = .int .i64 chain2 := h9
    have h10 : vals 10 = str o8 := h10
    have h11 : vals 11 = str z9 := h11
    have h12 : vals 12 = str z10 := h12
    have h13 : vals 13 = .int .i64 chain2 := h13
    have h14 : vals 14 = str z10 := h14
    refine gl_conv (E2 := (16, .pointer (some ⟨b1, 0, none⟩)) :: (17, .int .i64 f.Event) :: (18, str o3) :: (19, str z4) :: (20, .pointer (some ⟨b1, 2, none⟩)) :: (21, .int .i64 f.Time) :: (22, str o5) :: (23, str z6) :: (24, str z7) :: (25, .int .i64 chain2) :: (26, str o8) :: (27, str z9) :: (28, str z10) :: (29, .int .i64 chain2) :: (4, str z10) :: [(1, .int .i64 chain2), (2, .pointer (some ⟨b1, 0, none⟩))]) (R2 := [] ++ [BK 47 b1 [.int .i64 f.Event, .int .i64 f.Number, .int .i64 f.Time]]) (O2 := []) (by show (16, vals 0) :: (17, vals 1) :: (18, vals 2) :: (19, vals 3) :: (20, vals 4) :: (21, vals 5) :: (22, vals 6) :: (23, vals 7) :: (24, vals 8) :: (25, vals 9) :: (26, vals 10) :: (27, vals 11) :: (28, vals 12) :: (29, vals 13) :: (4, vals 14) :: [(1, .int .i64 chain2), (2, .pointer (some ⟨b1, 0, none⟩))] = _; rw [h0, h1, h2, h3, h4, h5, h6, h7, h8, h9, h10, h11, h12, h13, h14]) rfl rfl ?_
    refine gl_batch 1 [(5, .int .i64 chain2)] rfl ?_
    refine gl_nil ?_
    refine gx_seq ?_
    refine g_ret ?_
    obtain rfl := Option.some.inj h
    exact gx_fin rfl [str z10, .int .i64 chain2] _ _ [] ⟨_, _, rfl, rfl, _, _, rfl, rfl, rfl⟩ rfl ⟨rfl, rfl, rfl⟩ (fun w hS => (hS.take 0).facts [] [] [] noItem noItem noItem) (Or.inl rfl)

theorem c_strings_Builder_WriteString (x : List UInt8) (s : List UInt8) (b : Nat) {r : Int × Unit × List UInt8} (h : strings_Builder_WriteString x s = some r) : CallOK Tryd.prog 87 [.pointer (some ⟨b, 0, none⟩), str s] [BLD 109 5 b x] [gTab 3 pow10C, gNum 0] [] (fun v outs ros => v = .tuple #[.int .i64 r.1, .nilIface] ∧ outs = [BLD 109 5 b r.2.2] ∧ ros = []) := by
  unfold strings_Builder_WriteString at h
  split at h
  case isFalse => cases h
  rename_i hlen
  obtain rfl := Option.some.inj h
  have hz : appsO (toBytes x) s = some (toBytes (x ++ s)) := by
    unfold appsO
    rw [if_pos hlen]
    simp [toBytes]
  refine fn_ok Tryd.func87 rfl Tryd.ntmps87 rfl (fun c hF0 => ?_)
  refine g_openB ?_
  intro p a cp hp hcp
  refine g_seq ?_
  refine g_region ?_
  refine gl_batch 2 [(5, .nilIface), (4, .int .i64 0)] rfl ?_
  refine gl_nil ?_
  refine gx_seq ?_
  refine g_seq ?_
  refine g_region ?_
  refine gl_batch 1 [(6, .pointer (some ⟨b, 0, none⟩))] rfl ?_
  refine gl_callIn rfl rfl (fun w => by kernel_rfl) (c_copyCheck b p _ hp) (consItem (mem_at 0 rfl) (consItem (mem_at 1 rfl) noItem)) noItem ?_
  rintro v outs ros ⟨rfl, rfl, rfl⟩
  refine ⟨_, rfl, ?_⟩
  refine gl_nil ?_
  refine gx_seq ?_
  refine g_seq ?_
  refine g_region ?_
  refine gl_batch 3 [(10, .pointer (some ⟨b, 0, none⟩)), (9, .pointer (some ⟨b, 0, none⟩)), (8, .pointer (some ⟨b, 0, none⟩))] rfl ?_
  refine gl_run (v := .pointer (some ⟨b, 1, none⟩)) rfl rfl rfl (fun w => by kernel_rfl) ?_
  refine gl_ld1 1 hasBK (mem_at 0 rfl) rfl rfl Fo50 rfl rfl rfl ?_
  refine gl_batch 1 [(13, str s)] rfl ?_
  refine gl_pick 1 rfl ?_
  refine gl_apps rfl rfl Fs50 Ft9 Fi5 hz rfl rfl ?_
  intro a2 c2
  refine gl_batch 1 [(15, .pointer (some ⟨b, 0, none⟩))] rfl ?_
  refine gl_run (v := .pointer (some ⟨b, 1, none⟩)) rfl rfl rfl (fun w => by kernel_rfl) ?_
  refine gl_pick 1 rfl ?_
  refine gl_stB (cells' := [.pointer (some ⟨b, 0, none⟩), .slice a2 (toBytes (x ++ s)).length c2]) 1 [.slice a2 (toBytes (x ++ s)).length c2] rfl rfl rfl Fz50 rfl rfl rfl rfl ?_
  refine gl_nil ?_
  refine gx_seq ?_
  refine g_seq ?_
  refine g_region ?_
  refine gl_batch 1 [(17, str s)] rfl ?_
  refine gl_slen (s := s) rfl Ft9 rfl rfl ?_
  refine gl_batch 2 [(5, .nilIface), (4, .int .i64 (List.length s : Int))] rfl ?_
  refine gl_nil ?_
  refine gx_seq ?_
  refine g_ret ?_
  exact gx_fin rfl [.int .i64 (List.length s : Int), .nilIface] _ _ [] ⟨_, _, rfl, rfl, _, _, rfl, rfl, rfl⟩ rfl ⟨rfl, rfl, rfl⟩ (fun w hS => ((St.closeB rfl (Or.inr rfl) hS).take 1).facts [] [] [] noItem noItem noItem) (Or.inl rfl)

theorem c_strings_Builder_String (x : List UInt8) (b : Nat) {r : List UInt8} (h : strings_Builder_String x = r) : CallOK Tryd.prog 88 [.pointer (some ⟨b, 0, none⟩)] [BLD 109 5 b x] [gTab 3 pow10C, gNum 0] [] (fun v outs ros => v = str r ∧ outs = [] ∧ ros = []) := by
  have hr : x = r := h
  subst hr
  refine fn_ok Tryd.func88 rfl Tryd.ntmps88 rfl (fun c hF0 => ?_)
  refine g_openB ?_
  intro p a cp hp hcp
  refine g_seq ?_
  refine g_region ?_
  refine gl_batch 1 [(2, str [])] rfl ?_
  refine gl_nil ?_
  refine gx_seq ?_
  refine g_seq ?_
  refine g_state (E' := [(2, str []), (0, .pointer (some ⟨b, 0, none⟩))]) (Rs' := [SL true 5 (intS .u8) a cp (toBytes x)] ++ [BK 109 b [p, .slice a (toBytes x).length cp]]) (Xs' := [gTab 3 pow10C, gNum 0]) (Os' := []) (Vs' := []) ⟨rfl, rfl, trivial⟩ (fun w hS => hS.pick 1 rfl) ?_
  refine g_draw (Rs := [BK 109 b [p, .slice a (toBytes x).length cp]]) 11 (dOf [[], [0], [1], [2], [3], [], [5], [6], [7], [8], [4, 9]]) (spOf [det 0 (.pointer (some ⟨b, 0, none⟩)), det 1 (.pointer (some ⟨b, 0, none⟩)), det 2 (.pointer (some ⟨b, 1, none⟩)), det 3 (.slice a (toBytes x).length cp), det 4 (.pointer a), det 5 (.pointer (some ⟨b, 0, none⟩)), det 6 (.pointer (some ⟨b, 0, none⟩)), det 7 (.pointer (some ⟨b, 1, none⟩)), det 8 (.slice a (toBytes x).length cp), det 9 (.int .i64 (List.length (toBytes x) : Int)), det 10 (str x)]) [10] (fun k => match k with | 0 => [SL true 5 (intS .u8) a cp (toBytes x)] | _ => []) mixed rfl (Or.inr rfl) rfl ⟨⟨⟨⟨⟨⟨⟨⟨⟨⟨⟨trivial, ?_⟩, ?_⟩, ?_⟩, ?_⟩, ?_⟩, ?_⟩, ?_⟩, ?_⟩, ?_⟩, ?_⟩, ?_⟩ ?_
  · intro vals E' R' O' hD
    refine gl_batch 1 [(3, .pointer (some ⟨b, 0, none⟩))] rfl ?_
    refine gl_nil ?_
    exact gx_fp _ rfl rfl rfl rfl st_det0
  · intro vals E' R' O' hD
    have h0 : vals 0 = .pointer (some ⟨b, 0, none⟩) := hD 0 (memN 0 rfl)
    refine gl_convV (E2 := (3, .pointer (some ⟨b, 0, none⟩)) :: ([(2, str []), (0, .pointer (some ⟨b, 0, none⟩))] ++ E')) (V2 := [BK 109 b [p, .slice a (toBytes x).length cp]]) (by show (3, vals 0) :: ([(2, str []), (0, .pointer (some ⟨b, 0, none⟩))] ++ E') = _; rw [h0]) rfl ?_
    refine gl_batch 1 [(4, .pointer (some ⟨b, 0, none⟩))] rfl ?_
    refine gl_nil ?_
    exact gx_fp _ rfl rfl rfl rfl st_det0
  · intro vals E' R' O' hD
    have h1 : vals 1 = .pointer (some ⟨b, 0, none⟩) := hD 1 (memN 0 rfl)
    refine gl_convV (E2 := (4, .pointer (some ⟨b, 0, none⟩)) :: ([(2, str []), (0, .pointer (some ⟨b, 0, none⟩))] ++ E')) (V2 := [BK 109 b [p, .slice a (toBytes x).length cp]]) (by show (4, vals 1) :: ([(2, str []), (0, .pointer (some ⟨b, 0, none⟩))] ++ E') = _; rw [h1]) rfl ?_
    refine gl_run (v := .pointer (some ⟨b, 1, none⟩)) rfl rfl rfl (fun w => by kernel_rfl) ?_
    refine gl_nil ?_
    exact gx_fp _ rfl rfl rfl rfl st_det0
  · intro vals E' R' O' hD
    have h2 : vals 2 = .pointer (some ⟨b, 1, none⟩) := hD 2 (memN 0 rfl)
    refine gl_convV (E2 := (5, .pointer (some ⟨b, 1, none⟩)) :: ([(2, str []), (0, .pointer (some ⟨b, 0, none⟩))] ++ E')) (V2 := [BK 109 b [p, .slice a (toBytes x).length cp]]) (by show (5, vals 2) :: ([(2, str []), (0, .pointer (some ⟨b, 0, none⟩))] ++ E') = _; rw [h2]) rfl ?_
    refine gl_ld1 1 hasBK (memV (mem_at 0 rfl)) rfl rfl Fo50 rfl rfl rfl ?_
    refine gl_nil ?_
    exact gx_fp _ rfl rfl rfl rfl st_det0
  · intro vals E' R' O' hD
    have h3 : vals 3 = .slice a (toBytes x).length cp := hD 3 (memN 0 rfl)
    refine gl_convV (E2 := (6, .slice a (toBytes x).length cp) :: ([(2, str []), (0, .pointer (some ⟨b, 0, none⟩))] ++ E')) (V2 := [BK 109 b [p, .slice a (toBytes x).length cp]]) (by show (6, vals 3) :: ([(2, str []), (0, .pointer (some ⟨b, 0, none⟩))] ++ E') = _; rw [h3]) rfl ?_
    refine gl_usd rfl hcp rfl rfl ?_
    refine gl_nil ?_
    exact gx_fp _ rfl rfl rfl rfl st_det0
  · intro vals E' R' O' hD
    refine gl_batch 1 [(8, .pointer (some ⟨b, 0, none⟩))] rfl ?_
    refine gl_nil ?_
    exact gx_fp _ rfl rfl rfl rfl st_det0
  · intro vals E' R' O' hD
    have h5 : vals 5 = .pointer (some ⟨b, 0, none⟩) := hD 5 (memN 0 rfl)
    refine gl_convV (E2 := (8, .pointer (some ⟨b, 0, none⟩)) :: ([(2, str []), (0, .pointer (some ⟨b, 0, none⟩))] ++ E')) (V2 := [BK 109 b [p, .slice a (toBytes x).length cp]]) (by show (8, vals 5) :: ([(2, str []), (0, .pointer (some ⟨b, 0, none⟩))] ++ E') = _; rw [h5]) rfl ?_
    refine gl_batch 1 [(9, .pointer (some ⟨b, 0, none⟩))] rfl ?_
    refine gl_nil ?_
    exact gx_fp _ rfl rfl rfl rfl st_det0
  · intro vals E' R' O' hD
    have h6 : vals 6 = .pointer (some ⟨b, 0, none⟩) := hD 6 (memN 0 rfl)
    refine gl_convV (E2 := (9, .pointer (some ⟨b, 0, none⟩)) :: ([(2, str []), (0, .pointer (some ⟨b, 0, none⟩))] ++ E')) (V2 := [BK 109 b [p, .slice a (toBytes x).length cp]]) (by show (9, vals 6) :: ([(2, str []), (0, .pointer (some ⟨b, 0, none⟩))] ++ E') = _; rw [h6]) rfl ?_
    refine gl_run (v := .pointer (some ⟨b, 1, none⟩)) rfl rfl rfl (fun w => by kernel_rfl) ?_
    refine gl_nil ?_
    exact gx_fp _ rfl rfl rfl rfl st_det0
  · intro vals E' R' O' hD
    have h7 : vals 7 = .pointer (some ⟨b, 1, none⟩) := hD 7 (memN 0 rfl)
    refine gl_convV (E2 := (10, .pointer (some ⟨b, 1, none⟩)) :: ([(2, str []), (0, .pointer (some ⟨b, 0, none⟩))] ++ E')) (V2 := [BK 109 b [p, .slice a (toBytes x).length cp]]) (by show (10, vals 7) :: ([(2, str []), (0, .pointer (some ⟨b, 0, none⟩))] ++ E') = _; rw [h7]) rfl ?_
    refine gl_ld1 1 hasBK (memV (mem_at 0 rfl)) rfl rfl Fo50 rfl rfl rfl ?_
    refine gl_nil ?_
    exact gx_fp _ rfl rfl rfl rfl st_det0
  · intro vals E' R' O' hD
    have h8 : vals 8 = .slice a (toBytes x).length cp := hD 8 (memN 0 rfl)
    refine gl_convV (E2 := (11, .slice a (toBytes x).length cp) :: ([(2, str []), (0, .pointer (some ⟨b, 0, none⟩))] ++ E')) (V2 := [BK 109 b [p, .slice a (toBytes x).length cp]]) (by show (11, vals 8) :: ([(2, str []), (0, .pointer (some ⟨b, 0, none⟩))] ++ E') = _; rw [h8]) rfl ?_
    refine gl_len rfl Fs50 rfl rfl ?_
    refine gl_nil ?_
    exact gx_fp _ rfl rfl rfl rfl st_det0
  · intro vals E' R' O' hD hR
    have h4 : vals 4 = .pointer a := hD 4 (memN 0 rfl)
    have h9 : vals 9 = .int .i64 (List.length (toBytes x) : Int) := hD 9 (memN 1 rfl)
    refine gl_convV (E2 := (7, .pointer a) :: (12, .int .i64 (List.length (toBytes x) : Int)) :: ([(2, str []), (0, .pointer (some ⟨b, 0, none⟩))] ++ E')) (V2 := [BK 109 b [p, .slice a (toBytes x).length cp]]) (by show (7, vals 4) :: (12, vals 9) :: ([(2, str []), (0, .pointer (some ⟨b, 0, none⟩))] ++ E') = _; rw [h4, h9]) rfl ?_
    refine gl_ustr rfl rfl Fp136 Fq5 rfl rfl ?_
    refine gl_nil ?_
    exact gx_fp _ rfl rfl rfl rfl st_det0
  · intro vals hv
    obtain ⟨⟨⟨⟨⟨⟨⟨⟨⟨⟨⟨_, h0⟩, h1⟩, h2⟩, h3⟩, h4⟩, h5⟩, h6⟩, h7⟩, h8⟩, h9⟩, h10⟩ := hv
    have h0 : vals 0 = .pointer (some ⟨b, 0, none⟩) := h0
    have h1 : vals 1 = .pointer (some ⟨b, 0, none⟩) := h1
    have h2 : vals 2 = .pointer (some ⟨b, 1, none⟩) := h2
    have h3 : vals 3 = .slice a (toBytes x).length cp := h3
    have h4 : vals 4 = .pointer a := h4
    have h5 : vals 5 = .pointer (some ⟨b, 0, none⟩) := h5
    have h6 : vals 6 = .pointer (some ⟨b, 0, none⟩) := h6
    have h7 : vals 7 = .pointer (some ⟨b, 1, none⟩) := h7
    have h8 : vals 8 = .slice a (toBytes x).length cp := h8
    have h9 : vals 9 = .int .i64 (List.length (toBytes x) : Int) := h9
    have h10 : vals 10 = str x := h10
    refine gl_conv (E2 := (3, .pointer (some ⟨b, 0, none⟩)) :: (4, .pointer (some ⟨b, 0, none⟩)) :: (5, .pointer (some ⟨b, 1, none⟩)) :: (6, .slice a (toBytes x).length cp) :: (7, .pointer a) :: (8, .pointer (some ⟨b, 0, none⟩)) :: (9, .pointer (some ⟨b, 0, none⟩)) :: (10, .pointer (some ⟨b, 1, none⟩)) :: (11, .slice a (toBytes x).length cp) :: (12, .int .i64 (List.length (toBytes x) : Int)) :: (13, str x) :: [(2, str []), (0, .pointer (some ⟨b, 0, none⟩))]) (R2 := [BK 109 b [p, .slice a (toBytes x).length cp]]) (O2 := []) (by show (3, vals 0) :: (4, vals 1) :: (5, vals 2) :: (6, vals 3) :: (7, vals 4) :: (8, vals 5) :: (9, vals 6) :: (10, vals 7) :: (11, vals 8) :: (12, vals 9) :: (13, vals 10) :: [(2, str []), (0, .pointer (some ⟨b, 0, none⟩))] = _; rw [h0, h1, h2, h3, h4, h5, h6, h7, h8, h9, h10]) rfl rfl ?_
    refine gl_batch 1 [(2, str x)] rfl ?_
    refine gl_nil ?_
    refine gx_seq ?_
    refine g_ret ?_
    exact gx_fin rfl [str x] _ _ [] ⟨_, _, rfl, rfl, rfl⟩ rfl ⟨rfl, rfl, rfl⟩ (fun w hS => (hS.take 0).facts [] [] [] noItem noItem noItem) (Or.inl rfl)

theorem c_impl_traceText (run : List Firing) (a_run : Option Addr) (c_run : Nat) {r : List UInt8 × Int} (h : impl_traceText run = some r) : CallOK Tryd.prog 46 [.slice a_run (List.length run) c_run] [] [gTab 3 pow10C, gNum 0] [SL false 47 FiringS a_run c_run run] (fun v outs ros => v = .tuple #[str r.1, .int .i64 r.2] ∧ outs = [] ∧ ros = []) := by
  refine fn_ok Tryd.func46 rfl Tryd.ntmps46 rfl (fun c hF0 => ?_)
  unfold impl_traceText at h
  refine g_seq ?_
  refine g_region ?_
  refine gl_batch 2 [(3, .int .i64 0), (2, str [])] rfl ?_
  refine gl_nil ?_
  refine gx_seq ?_
  refine g_seq ?_
  refine g_region ?_
  refine gl_new (d := 4) (T := 109) [.pointer none, .slice none 0 0] rfl rfl (fun _ => rfl) (fun w => by kernel_rfl) ?_
  intro b1
  refine gl_st (fun w hS => St.newB (T := 109) (eT := 5) hS) ?_
  refine gl_nil ?_
  refine gx_seq ?_
  refine g_seq ?_
  refine g_region ?_
  refine gl_batch 1 [(5, .int .i64 1)] rfl ?_
  refine gl_nil ?_
  refine gx_seq ?_
  refine g_seq ?_
  refine g_seq ?_
  refine g_region ?_
  refine gl_batch 1 [(10, .slice a_run (List.length run) c_run)] rfl ?_
  refine gl_len rfl Fs26 rfl rfl ?_
  refine gl_batch 1 [(12, .int .i64 0)] rfl ?_
  refine gl_nil ?_
  refine gx_seq ?_
  refine g_block ?_
  obtain ⟨o2, ho2, h⟩ := bindS h
  refine g_loop (impl_traceText_L1 run) (fun (ss_ : (List UInt8) × Int × Int) a w => Env a 28 [(4, .pointer (some ⟨b1, 0, none⟩)), (5, .int .i64 ss_.2.1), (10, .slice a_run (List.length run) c_run), (11, .int .i64 (List.length run : Int)), (12, .int .i64 ss_.2.2)] ∧ St c w [BLD 109 5 b1 ss_.1] [gTab 3 pow10C, gNum 0] [SL false 47 FiringS a_run c_run run] []) ((fun (ss_ : (List UInt8) × Int) e a w => e = (.exit 0) ∧ Env a 28 [(4, .pointer (some ⟨b1, 0, none⟩)), (5, .int .i64 ss_.2)] ∧ St c w [BLD 109 5 b1 ss_.1] [gTab 3 pow10C, gNum 0] [SL false 47 FiringS a_run c_run run] []) : ((List UInt8) × Int) → Exit → Act → World → Prop) ho2 ?_ ?_ ?_
  · exact fun a w hE hS => ⟨hE.sub ⟨rfl, rfl, rfl, rfl, rfl, trivial⟩, (hS.take 1).facts _ _ [] (consItem (mem_at 0 rfl) (consItem (mem_at 1 rfl) noItem)) (consItem (mem_at 0 rfl) noItem) noItem⟩
  · intro s3 o4 h a w hA
    obtain ⟨hE, hS⟩ := hA
    unfold impl_traceText_L1 at h
    refine g_enter hE hS ?_
    refine g_seq ?_
    refine g_region ?_
    refine gl_batch 1 [(13, .bool (decide (s3.2.2 < (List.length run : Int))))] rfl ?_
    refine gl_nil ?_
    refine gx_seq ?_
    refine g_seq ?_
    refine g_cond (b := decide (s3.2.2 < (List.length run : Int))) rfl (fun hc => ?_) (fun hc => ?_)
    · replace h := condT hc h
      refine g_skip ?_
      refine gx_seq ?_
      refine g_seq ?_
      refine g_block ?_
      refine g_seq ?_
      refine g_region ?_
      obtain ⟨x5, hx5, h⟩ := bindS h
      refine gl_idxO (k := .i64) (mem_at 0 rfl) rfl rfl Fs26 Fz47 hx5 rfl rfl ?_
      intro p6
      refine gl_ldA (vs := [.int .i64 x5.Event, .int .i64 x5.Number, .int .i64 x5.Time]) 0 hasAT (mem_at 1 rfl) rfl rfl Fm47 Fz47 rfl rfl rfl ?_
      refine gl_new (d := 7) (T := 47) [.int .i64 0, .int .i64 0, .int .i64 0] rfl rfl (fun _ => rfl) (fun w => by kernel_rfl) ?_
      intro b7
      refine gl_stB (cells' := [.int .i64 x5.Event, .int .i64 x5.Number, .int .i64 x5.Time]) 0 [.int .i64 x5.Event, .int .i64 x5.Number, .int .i64 x5.Time] rfl rfl rfl Fz47 rfl rfl rfl rfl ?_
      refine gl_nil ?_
      refine gx_seq ?_
      refine g_seq ?_
      refine g_region ?_
      refine gl_ldA (vs := [.int .i64 x5.Event, .int .i64 x5.Number, .int .i64 x5.Time]) 0 hasBK (mem_at 0 rfl) rfl rfl Fm47 Fz47 rfl rfl rfl ?_
      refine gl_batch 1 [(18, .int .i64 s3.2.1)] rfl ?_
      obtain ⟨o8, ho8, h⟩ := bindS h
      refine gl_call rfl rfl (fun w => by kernel_rfl) (c_impl_traceLine x5 s3.2.1 ho8) (consItem (mem_at 0 rfl) (consItem (mem_at 1 rfl) noItem)) noItem ?_
      rintro v outs ros ⟨rfl, rfl, rfl⟩
      refine ⟨_, rfl, ?_⟩
      refine gl_batch 5 [(9, .int .i64 o8.2), (8, str o8.1), (21, .int .i64 o8.2), (20, str o8.1), (16, .tuple #[str o8.1, .int .i64 o8.2])] rfl ?_
      refine gl_nil ?_
      refine gx_seq ?_
      refine g_seq ?_
      refine g_region ?_
      refine gl_batch 1 [(22, str o8.1)] rfl ?_
      obtain ⟨o9, ho9, h⟩ := bindS h
      refine gl_pick 1 rfl ?_
      refine gl_callIn rfl rfl (fun w => by kernel_rfl) (c_strings_Builder_WriteString s3.1 o8.1 b1 ho9) (consItem (mem_at 0 rfl) (consItem (mem_at 1 rfl) noItem)) noItem ?_
      rintro v outs ros ⟨rfl, rfl, rfl⟩
      refine ⟨_, rfl, ?_⟩
      refine gl_nil ?_
      refine gx_seq ?_
      refine g_region ?_
      refine gl_batch 2 [(5, .int .i64 o8.2), (24, .int .i64 o8.2)] rfl ?_
      refine gl_nil ?_
      refine gx_blk ?_
      refine gx_seq ?_
      refine g_region ?_
      refine gl_batch 2 [(12, .int .i64 (IntKind.i64.wrap (s3.2.2 + 1))), (25, .int .i64 (IntKind.i64.wrap (s3.2.2 + 1)))] rfl ?_
      refine gl_nil ?_
      obtain rfl := Option.some.inj h
      exact gx_of (fun a w hE hS => lp_in ⟨hE.sub ⟨rfl, rfl, rfl, rfl, rfl, trivial⟩, (hS.take 1).facts _ _ [] (consItem (mem_at 0 rfl) (consItem (mem_at 1 rfl) noItem)) (consItem (mem_at 1 rfl) noItem) noItem⟩)
    · replace h := condF hc h
      refine g_exit ?_
      refine gx_seq_exit ?_
      obtain rfl := Option.some.inj h
      exact gx_of (fun a w hE hS => lp_out nofun (⟨rfl, hE.sub ⟨rfl, rfl, trivial⟩, (hS.take 1).facts _ _ [] (consItem (mem_at 0 rfl) (consItem (mem_at 1 rfl) noItem)) (consItem (mem_at 0 rfl) noItem) noItem⟩))
  · intro e a w hm
    obtain ⟨rfl, hE, hS⟩ := hm
    refine gx_to hE hS ?_
    refine gx_blk_hit ?_
    refine gx_seq ?_
    refine g_seq ?_
    refine g_region ?_
    refine gl_callIn rfl rfl (fun w => by kernel_rfl) (c_strings_Builder_String o2.1 b1 rfl) (consItem (mem_at 0 rfl) (consItem (mem_at 1 rfl) noItem)) noItem ?_
    rintro v outs ros ⟨rfl, rfl, rfl⟩
    refine ⟨_, rfl, ?_⟩
    refine gl_batch 3 [(3, .int .i64 o2.2), (2, str (strings_Builder_String o2.1)), (27, .int .i64 o2.2)] rfl ?_
    refine gl_nil ?_
    refine gx_seq ?_
    refine g_ret ?_
    obtain rfl := Option.some.inj h
    exact gx_fin rfl [str (strings_Builder_String o2.1), .int .i64 o2.2] _ _ [] ⟨_, _, rfl, rfl, _, _, rfl, rfl, rfl⟩ rfl ⟨rfl, rfl, rfl⟩ (fun w hS => (hS.take 0).facts [] [] [] noItem noItem noItem) (Or.inl rfl)

theorem c_impl_TraceText (run : List Firing) (a_run : Option Addr) (c_run : Nat) {r : List UInt8 × Int} (h : impl_TraceText run = some r) : CallOK Tryd.prog 13 [.slice a_run (List.length run) c_run] [] [gTab 3 pow10C, gNum 0] [SL false 47 FiringS a_run c_run run] (fun v outs ros => v = .tuple #[str r.1, .int .i64 r.2] ∧ outs = [] ∧ ros = []) := by
  refine fn_ok Tryd.func13 rfl Tryd.ntmps13 rfl (fun c hF0 => ?_)
  unfold impl_TraceText at h
  refine g_seq ?_
  refine g_region ?_
  refine gl_batch 2 [(3, .int .i64 0), (2, str [])] rfl ?_
  refine gl_nil ?_
  refine gx_seq ?_
  refine g_seq ?_
  refine g_seq ?_
  refine g_region ?_
  refine gl_batch 1 [(6, .slice a_run (List.length run) c_run)] rfl ?_
  obtain ⟨o1, ho1, h⟩ := bindS h
  refine gl_call rfl rfl (fun w => by kernel_rfl) (c_impl_isWritable run a_run c_run ho1) (consItem (mem_at 0 rfl) (consItem (mem_at 1 rfl) noItem)) (consItem (mem_at 0 rfl) noItem) ?_
  rintro v outs ros ⟨rfl, rfl, rfl⟩
  refine ⟨_, rfl, ?_⟩
  refine gl_batch 1 [(8, .bool (!o1))] rfl ?_
  refine gl_nil ?_
  refine gx_seq ?_
  refine g_cond (b := !o1) rfl (fun hc => ?_) (fun hc => ?_)
  · replace h := condT hc h
    refine g_seq ?_
    refine g_region ?_
    refine gl_batch 2 [(3, .int .i64 2), (2, str [])] rfl ?_
    refine gl_nil ?_
    refine gx_seq ?_
    refine g_ret ?_
    refine gx_seq_ret ?_
    obtain rfl := Option.some.inj h
    exact gx_fin rfl [str [], .int .i64 2] _ _ [] ⟨_, _, rfl, rfl, _, _, rfl, rfl, rfl⟩ rfl ⟨rfl, rfl, rfl⟩ (fun w hS => (hS.take 0).facts [] [] [] noItem noItem noItem) (Or.inl rfl)
  · replace h := condF hc h
    refine g_skip ?_
    refine gx_seq ?_
    refine g_seq ?_
    refine g_region ?_
    refine gl_batch 1 [(10, .slice a_run (List.length run) c_run)] rfl ?_
    obtain ⟨o2, ho2, h⟩ := bindS h
    refine gl_call rfl rfl (fun w => by kernel_rfl) (c_impl_traceText run a_run c_run ho2) (consItem (mem_at 0 rfl) (consItem (mem_at 1 rfl) noItem)) (consItem (mem_at 0 rfl) noItem) ?_
    rintro v outs ros ⟨rfl, rfl, rfl⟩
    refine ⟨_, rfl, ?_⟩
    refine gl_batch 5 [(5, .int .i64 o2.2), (4, str o2.1), (13, .int .i64 o2.2), (12, str o2.1), (9, .tuple #[str o2.1, .int .i64 o2.2])] rfl ?_
    refine gl_nil ?_
    refine gx_seq ?_
    refine g_seq ?_
    refine g_region ?_
    refine gl_batch 3 [(3, .int .i64 0), (2, str o2.1), (14, str o2.1)] rfl ?_
    refine gl_nil ?_
    refine gx_seq ?_
    refine g_ret ?_
    obtain rfl := Option.some.inj h
    exact gx_fin rfl [str o2.1, .int .i64 0] _ _ [] ⟨_, _, rfl, rfl, _, _, rfl, rfl, rfl⟩ rfl ⟨rfl, rfl, rfl⟩ (fun w hS => (hS.take 0).facts [] [] [] noItem noItem noItem) (Or.inl rfl)

theorem c_laws_eqFiring (a_v : Firing) (b : Firing)  {r : Bool} (h : laws_eqFiring a_v b = r) : CallOK Tryd.prog 47 [.agg #[.int .i64 a_v.Event, .int .i64 a_v.Number, .int .i64 a_v.Time], .agg #[.int .i64 b.Event, .int .i64 b.Number, .int .i64 b.Time]] [] [gTab 3 pow10C, gNum 0] [] (fun v outs ros => v = .bool r ∧ outs = [] ∧ ros = []) := by
  refine fn_ok Tryd.func47 rfl Tryd.ntmps47 rfl (fun c hF0 => ?_)
  unfold laws_eqFiring at h
  refine g_seq ?_
  refine g_region ?_
  refine gl_new (d := 2) (T := 47) [.int .i64 a_v.Event, .int .i64 a_v.Number, .int .i64 a_v.Time] rfl rfl (fun _ => rfl) (fun w => by kernel_rfl) ?_
  intro b1
  refine gl_new (d := 3) (T := 47) [.int .i64 b.Event, .int .i64 b.Number, .int .i64 b.Time] rfl rfl (fun _ => rfl) (fun w => by kernel_rfl) ?_
  intro b2
  refine gl_batch 1 [(4, .bool false)] rfl ?_
  refine gl_nil ?_
  refine gx_seq ?_
  refine g_seq ?_
  refine g_seq ?_
  refine g_region ?_
  refine gl_run (v := .pointer (some ⟨b1, 0, none⟩)) rfl rfl rfl (fun w => by kernel_rfl) ?_
  refine gl_ld1 0 hasBK (mem_at 1 rfl) rfl rfl Fo2 rfl rfl rfl ?_
  refine gl_run (v := .pointer (some ⟨b2, 0, none⟩)) rfl rfl rfl (fun w => by kernel_rfl) ?_
  refine gl_ld1 0 hasBK (mem_at 0 rfl) rfl rfl Fo2 rfl rfl rfl ?_
  refine gl_batch 1 [(9, .bool (a_v.Event != b.Event))] rfl ?_
  refine gl_nil ?_
  refine gx_seq ?_
  refine g_cond (b := a_v.Event != b.Event) rfl (fun hc => ?_) (fun hc => ?_)
  · replace h := condTt hc h
    refine g_seq ?_
    refine g_region ?_
    refine gl_batch 1 [(4, .bool false)] rfl ?_
    refine gl_nil ?_
    refine gx_seq ?_
    refine g_ret ?_
    refine gx_seq_ret ?_
    subst h
    exact gx_fin rfl [.bool false] _ _ [] ⟨_, _, rfl, rfl, rfl⟩ rfl ⟨rfl, rfl, rfl⟩ (fun w hS => (hS.take 0).facts [] [] [] noItem noItem noItem) (Or.inl rfl)
  · replace h := condFt hc h
    refine g_skip ?_
    refine gx_seq ?_
    refine g_seq ?_
    refine g_seq ?_
    refine g_region ?_
    refine gl_run (v := .pointer (some ⟨b1, 1, none⟩)) rfl rfl rfl (fun w => by kernel_rfl) ?_
    refine gl_ld1 1 hasBK (mem_at 1 rfl) rfl rfl Fo2 rfl rfl rfl ?_
    refine gl_run (v := .pointer (some ⟨b2, 1, none⟩)) rfl rfl rfl (fun w => by kernel_rfl) ?_
    refine gl_ld1 1 hasBK (mem_at 0 rfl) rfl rfl Fo2 rfl rfl rfl ?_
    refine gl_batch 1 [(14, .bool (a_v.Number != b.Number))] rfl ?_
    refine gl_nil ?_
    refine gx_seq ?_
    refine g_cond (b := a_v.Number != b.Number) rfl (fun hc => ?_) (fun hc => ?_)
    · replace h := condTt hc h
      refine g_seq ?_
      refine g_region ?_
      refine gl_batch 1 [(4, .bool false)] rfl ?_
      refine gl_nil ?_
      refine gx_seq ?_
      refine g_ret ?_
      refine gx_seq_ret ?_
      subst h
      exact gx_fin rfl [.bool false] _ _ [] ⟨_, _, rfl, rfl, rfl⟩ rfl ⟨rfl, rfl, rfl⟩ (fun w hS => (hS.take 0).facts [] [] [] noItem noItem noItem) (Or.inl rfl)
    · replace h := condFt hc h
      refine g_skip ?_
      refine gx_seq ?_
      refine g_seq ?_
      refine g_seq ?_
      refine g_region ?_
      refine gl_run (v := .pointer (some ⟨b1, 2, none⟩)) rfl rfl rfl (fun w => by kernel_rfl) ?_
      refine gl_ld1 2 hasBK (mem_at 1 rfl) rfl rfl Fo2 rfl rfl rfl ?_
      refine gl_run (v := .pointer (some ⟨b2, 2, none⟩)) rfl rfl rfl (fun w => by kernel_rfl) ?_
      refine gl_ld1 2 hasBK (mem_at 0 rfl) rfl rfl Fo2 rfl rfl rfl ?_
      refine gl_batch 1 [(19, .bool (a_v.Time != b.Time))] rfl ?_
      refine gl_nil ?_
      refine gx_seq ?_
      refine g_cond (b := a_v.Time != b.Time) rfl (fun hc => ?_) (fun hc => ?_)
      · replace h := condTt hc h
        refine g_seq ?_
        refine g_region ?_
        refine gl_batch 1 [(4, .bool false)] rfl ?_
        refine gl_nil ?_
        refine gx_seq ?_
        refine g_ret ?_
        refine gx_seq_ret ?_
        subst h
        exact gx_fin rfl [.bool false] _ _ [] ⟨_, _, rfl, rfl, rfl⟩ rfl ⟨rfl, rfl, rfl⟩ (fun w hS => (hS.take 0).facts [] [] [] noItem noItem noItem) (Or.inl rfl)
      · replace h := condFt hc h
        refine g_skip ?_
        refine gx_seq ?_
        refine g_seq ?_
        refine g_region ?_
        refine gl_batch 1 [(4, .bool true)] rfl ?_
        refine gl_nil ?_
        refine gx_seq ?_
        refine g_ret ?_
        subst h
        exact gx_fin rfl [.bool true] _ _ [] ⟨_, _, rfl, rfl, rfl⟩ rfl ⟨rfl, rfl, rfl⟩ (fun w hS => (hS.take 0).facts [] [] [] noItem noItem noItem) (Or.inl rfl)

theorem c_laws_eqFiringS (a_v : List Firing) (b : List Firing) (a_a_v : Option Addr) (c_a_v : Nat) (a_b : Option Addr) (c_b : Nat) {r : Bool} (h : laws_eqFiringS a_v b = some r) : CallOK Tryd.prog 14 [.slice a_a_v (List.length a_v) c_a_v, .slice a_b (List.length b) c_b] [] [gTab 3 pow10C, gNum 0] [SL false 47 FiringS a_a_v c_a_v a_v, SL false 47 FiringS a_b c_b b] (fun v outs ros => v = .bool r ∧ outs = [] ∧ ros = []) := by
  refine fn_ok Tryd.func14 rfl Tryd.ntmps14 rfl (fun c hF0 => ?_)
  unfold laws_eqFiringS at h
  refine g_seq ?_
  refine g_region ?_
  refine gl_batch 1 [(4, .bool false)] rfl ?_
  refine gl_nil ?_
  refine gx_seq ?_
  refine g_seq ?_
  refine g_seq ?_
  refine g_region ?_
  refine gl_batch 1 [(6, .slice a_a_v (List.length a_v) c_a_v)] rfl ?_
  refine gl_len rfl Fs26 rfl rfl ?_
  refine gl_batch 1 [(8, .slice a_b (List.length b) c_b)] rfl ?_
  refine gl_len rfl Fs26 rfl rfl ?_
  refine gl_batch 1 [(10, .bool ((List.length a_v : Int) != (List.length b : Int)))] rfl ?_
  refine gl_nil ?_
  refine gx_seq ?_
  refine g_cond (b := (List.length a_v : Int) != (List.length b : Int)) rfl (fun hc => ?_) (fun hc => ?_)
  · replace h := condT hc h
    refine g_seq ?_
    refine g_region ?_
    refine gl_batch 1 [(4, .bool false)] rfl ?_
    refine gl_nil ?_
    refine gx_seq ?_
    refine g_ret ?_
    refine gx_seq_ret ?_
    obtain rfl := Option.some.inj h
    exact gx_fin rfl [.bool false] _ _ [] ⟨_, _, rfl, rfl, rfl⟩ rfl ⟨rfl, rfl, rfl⟩ (fun w hS => (hS.take 0).facts [] [] [] noItem noItem noItem) (Or.inl rfl)
  · replace h := condF hc h
    refine g_skip ?_
    refine gx_seq ?_
    refine g_seq ?_
    refine g_seq ?_
    refine g_region ?_
    refine gl_batch 1 [(5, .int .i64 0)] rfl ?_
    refine gl_nil ?_
    refine gx_seq ?_
    refine g_block ?_
    obtain ⟨o1, ho1, h⟩ := bindS h
    refine g_loop (laws_eqFiringS_L1 a_v b) (fun (ss_ : Int) a w => Env a 27 [(0, .slice a_a_v (List.length a_v) c_a_v), (1, .slice a_b (List.length b) c_b), (5, .int .i64 ss_)] ∧ St c w [] [gTab 3 pow10C, gNum 0] [SL false 47 FiringS a_a_v c_a_v a_v, SL false 47 FiringS a_b c_b b] []) (Sum.elim (fun (ss_ : Unit) e a w => e = .ret ∧ Env a 27 [(4, .bool false)] ∧ St c w [] [gTab 3 pow10C, gNum 0] [SL false 47 FiringS a_a_v c_a_v a_v, SL false 47 FiringS a_b c_b b] []) (fun (ss_ : Unit) e a w => e = (.exit 0) ∧ Env a 27 [] ∧ St c w [] [gTab 3 pow10C, gNum 0] [SL false 47 FiringS a_a_v c_a_v a_v, SL false 47 FiringS a_b c_b b] []) : (Sum Unit Unit) → Exit → Act → World → Prop) ho1 ?_ ?_ ?_
    · exact fun a w hE hS => ⟨hE.sub ⟨rfl, rfl, rfl, trivial⟩, (hS.take 0).facts _ _ [] (consItem (mem_at 0 rfl) (consItem (mem_at 1 rfl) noItem)) (consItem (mem_at 0 rfl) (consItem (mem_at 1 rfl) noItem)) noItem⟩
    · intro s2 o3 h a w hA
      obtain ⟨hE, hS⟩ := hA
      unfold laws_eqFiringS_L1 at h
      refine g_enter hE hS ?_
      refine g_seq ?_
      refine g_seq ?_
      refine g_region ?_
      refine gl_batch 2 [(12, .slice a_a_v (List.length a_v) c_a_v), (11, .int .i64 s2)] rfl ?_
      refine gl_len rfl Fs26 rfl rfl ?_
      refine gl_batch 1 [(14, .bool (decide (s2 < (List.length a_v : Int))))] rfl ?_
      refine gl_nil ?_
      refine gx_seq ?_
      refine g_cond (b := decide (s2 < (List.length a_v : Int))) rfl (fun hc => ?_) (fun hc => ?_)
      · replace h := condT hc h
        refine g_skip ?_
        refine gx_seq ?_
        refine g_seq ?_
        refine g_block ?_
        refine g_seq ?_
        refine g_state (E' := [(0, .slice a_a_v (List.length a_v) c_a_v), (1, .slice a_b (List.length b) c_b), (5, .int .i64 s2)]) (Rs' := []) (Xs' := [gTab 3 pow10C, gNum 0]) (Os' := [SL false 47 FiringS a_a_v c_a_v a_v, SL false 47 FiringS a_b c_b b]) (Vs' := []) ⟨rfl, rfl, rfl, trivial⟩ (fun w hS => hS) ?_
        obtain ⟨x4, hx4, h⟩ := bindS h
        refine g_elem (mem_at 0 rfl) hx4 ?_
        intro p5 hp5
        obtain ⟨x6, hx6, h⟩ := bindS h
        refine g_elem (mem_at 1 rfl) hx6 ?_
        intro p7 hp7
        refine draw0 10 [[], [], [0, 1], [2], [], [], [4, 5], [6], [3, 7], [8]] [det 0 (.slice a_a_v (List.length a_v) c_a_v), det 1 (.int .i64 s2), det 2 (.pointer (some p5)), det 3 (.agg #[.int .i64 x4.Event, .int .i64 x4.Number, .int .i64 x4.Time]), det 4 (.slice a_b (List.length b) c_b), det 5 (.int .i64 s2), det 6 (.pointer (some p7)), det 7 (.agg #[.int .i64 x6.Event, .int .i64 x6.Number, .int .i64 x6.Time]), det 8 (.bool (laws_eqFiring x4 x6)), det 9 (.bool (!(laws_eqFiring x4 x6)))] mixed rfl rfl ⟨⟨⟨⟨⟨⟨⟨⟨⟨⟨trivial, ?_⟩, ?_⟩, ?_⟩, ?_⟩, ?_⟩, ?_⟩, ?_⟩, ?_⟩, ?_⟩, ?_⟩ ?_
        · intro vals E' R' O' hD
          refine gl_batch 1 [(17, .slice a_a_v (List.length a_v) c_a_v)] rfl ?_
          refine gl_nil ?_
          exact gx_fp _ rfl rfl rfl rfl st_det0
        · intro vals E' R' O' hD
          refine gl_batch 1 [(18, .int .i64 s2)] rfl ?_
          refine gl_nil ?_
          exact gx_fp _ rfl rfl rfl rfl st_det0
        · intro vals E' R' O' hD
          have h0 : vals 0 = .slice a_a_v (List.length a_v) c_a_v := hD 0 (memN 0 rfl)
          have h1 : vals 1 = .int .i64 s2 := hD 1 (memN 1 rfl)
          refine gl_convV (E2 := (17, .slice a_a_v (List.length a_v) c_a_v) :: (18, .int .i64 s2) :: ([(0, .slice a_a_v (List.length a_v) c_a_v), (1, .slice a_b (List.length b) c_b), (5, .int .i64 s2)] ++ E')) (V2 := [] ++ ([] ++ [])) (by show (17, vals 0) :: (18, vals 1) :: ([(0, .slice a_a_v (List.length a_v) c_a_v), (1, .slice a_b (List.length b) c_b), (5, .int .i64 s2)] ++ E') = _; rw [h0, h1]) rfl ?_
          refine gl_idxV (k := .i64) (memO (mem_at 0 rfl)) rfl rfl Fs26 Fz47 hx4 rfl rfl ?_
          intro p_ hp_
          obtain rfl : p_ = p5 := Option.some.inj (hp_.symm.trans hp5)
          refine gl_nil ?_
          exact gx_fp _ rfl rfl rfl rfl st_det0
        · intro vals E' R' O' hD
          have h2 : vals 2 = .pointer (some p5) := hD 2 (memN 0 rfl)
          refine gl_convV (E2 := (19, .pointer (some p5)) :: ([(0, .slice a_a_v (List.length a_v) c_a_v), (1, .slice a_b (List.length b) c_b), (5, .int .i64 s2)] ++ E')) (V2 := [] ++ ([] ++ [])) (by show (19, vals 2) :: ([(0, .slice a_a_v (List.length a_v) c_a_v), (1, .slice a_b (List.length b) c_b), (5, .int .i64 s2)] ++ E') = _; rw [h2]) rfl ?_
          refine gl_elemV (memO (mem_at 0 rfl)) hx4 hp5 ?_
          refine gl_ldA (vs := [.int .i64 x4.Event, .int .i64 x4.Number, .int .i64 x4.Time]) 0 hasAT (memV (mem_at 0 rfl)) rfl rfl Fm47 Fz47 rfl rfl rfl ?_
          refine gl_nil ?_
          exact gx_fp _ rfl rfl rfl rfl st_det0
        · intro vals E' R' O' hD
          refine gl_batch 1 [(21, .slice a_b (List.length b) c_b)] rfl ?_
          refine gl_nil ?_
          exact gx_fp _ rfl rfl rfl rfl st_det0
        · intro vals E' R' O' hD
          refine gl_batch 1 [(22, .int .i64 s2)] rfl ?_
          refine gl_nil ?_
          exact gx_fp _ rfl rfl rfl rfl st_det0
        · intro vals E' R' O' hD
          have h4 : vals 4 = .slice a_b (List.length b) c_b := hD 4 (memN 0 rfl)
          have h5 : vals 5 = .int .i64 s2 := hD 5 (memN 1 rfl)
          refine gl_convV (E2 := (21, .slice a_b (List.length b) c_b) :: (22, .int .i64 s2) :: ([(0, .slice a_a_v (List.length a_v) c_a_v), (1, .slice a_b (List.length b) c_b), (5, .int .i64 s2)] ++ E')) (V2 := [] ++ ([] ++ [])) (by show (21, vals 4) :: (22, vals 5) :: ([(0, .slice a_a_v (List.length a_v) c_a_v), (1, .slice a_b (List.length b) c_b), (5, .int .i64 s2)] ++ E') = _; rw [h4, h5]) rfl ?_
          refine gl_idxV (k := .i64) (memO (mem_at 1 rfl)) rfl rfl Fs26 Fz47 hx6 rfl rfl ?_
          intro p_ hp_
          obtain rfl : p_ = p7 := Option.some.inj (hp_.symm.trans hp7)
          refine gl_nil ?_
          exact gx_fp _ rfl rfl rfl rfl st_det0
        · intro vals E' R' O' hD
          have h6 : vals 6 = .pointer (some p7) := hD 6 (memN 0 rfl)
          refine gl_convV (E2 := (23, .pointer (some p7)) :: ([(0, .slice a_a_v (List.length a_v) c_a_v), (1, .slice a_b (List.length b) c_b), (5, .int .i64 s2)] ++ E')) (V2 := [] ++ ([] ++ [])) (by show (23, vals 6) :: ([(0, .slice a_a_v (List.length a_v) c_a_v), (1, .slice a_b (List.length b) c_b), (5, .int .i64 s2)] ++ E') = _; rw [h6]) rfl ?_
          refine gl_elemV (memO (mem_at 1 rfl)) hx6 hp7 ?_
          refine gl_ldA (vs := [.int .i64 x6.Event, .int .i64 x6.Number, .int .i64 x6.Time]) 0 hasAT (memV (mem_at 0 rfl)) rfl rfl Fm47 Fz47 rfl rfl rfl ?_
          refine gl_nil ?_
          exact gx_fp _ rfl rfl rfl rfl st_det0
        · intro vals E' R' O' hD
          have h3 : vals 3 = .agg #[.int .i64 x4.Event, .int .i64 x4.Number, .int .i64 x4.Time] := hD 3 (memN 0 rfl)
          have h7 : vals 7 = .agg #[.int .i64 x6.Event, .int .i64 x6.Number, .int .i64 x6.Time] := hD 7 (memN 1 rfl)
          refine gl_convV (E2 := (20, .agg #[.int .i64 x4.Event, .int .i64 x4.Number, .int .i64 x4.Time]) :: (24, .agg #[.int .i64 x6.Event, .int .i64 x6.Number, .int .i64 x6.Time]) :: ([(0, .slice a_a_v (List.length a_v) c_a_v), (1, .slice a_b (List.length b) c_b), (5, .int .i64 s2)] ++ E')) (V2 := [] ++ ([] ++ [])) (by show (20, vals 3) :: (24, vals 7) :: ([(0, .slice a_a_v (List.length a_v) c_a_v), (1, .slice a_b (List.length b) c_b), (5, .int .i64 s2)] ++ E') = _; rw [h3, h7]) rfl ?_
          refine gl_call rfl rfl (fun w => by kernel_rfl) (c_laws_eqFiring x4 x6 rfl) (consItem (mem_at 0 rfl) (consItem (mem_at 1 rfl) noItem)) noItem ?_
          rintro v outs ros ⟨rfl, rfl, rfl⟩
          refine ⟨_, rfl, ?_⟩
          refine gl_nil ?_
          exact gx_fp _ rfl rfl rfl rfl st_det0
        · intro vals E' R' O' hD
          have h8 : vals 8 = .bool (laws_eqFiring x4 x6) := hD 8 (memN 0 rfl)
          refine gl_convV (E2 := (25, .bool (laws_eqFiring x4 x6)) :: ([(0, .slice a_a_v (List.length a_v) c_a_v), (1, .slice a_b (List.length b) c_b), (5, .int .i64 s2)] ++ E')) (V2 := [] ++ ([] ++ [])) (by show (25, vals 8) :: ([(0, .slice a_a_v (List.length a_v) c_a_v), (1, .slice a_b (List.length b) c_b), (5, .int .i64 s2)] ++ E') = _; rw [h8]) rfl ?_
          refine gl_batch 1 [(26, .bool (!(laws_eqFiring x4 x6)))] rfl ?_
          refine gl_nil ?_
          exact gx_fp _ rfl rfl rfl rfl st_det0
        · intro vals hv
          obtain ⟨⟨⟨⟨⟨⟨⟨⟨⟨⟨_, h0⟩, h1⟩, h2⟩, h3⟩, h4⟩, h5⟩, h6⟩, h7⟩, h8⟩, h9⟩ := hv
          have h0 : vals 0 = .slice a_a_v (List.length a_v) c_a_v := h0
          have h1 : vals 1 = .int .i64 s2 := h1
          have h2 : vals 2 = .pointer (some p5) := h2
          have h3 : vals 3 = .agg #[.int .i64 x4.Event, .int .i64 x4.Number, .int .i64 x4.Time] := h3
          have h4 : vals 4 = .slice a_b (List.length b) c_b := h4
          have h5 : vals 5 = .int .i64 s2 := h5
          have h6 : vals 6 = .pointer (some p7) := h6
          have h7 : vals 7 = .agg #[.int .i64 x6.Event, .int .i64 x6.Number, .int .i64 x6.Time] := h7
          have h8 : vals 8 = .bool (laws_eqFiring x4 x6) := h8
          have h9 : vals 9 = .bool (!(laws_eqFiring x4 x6)) := h9
          refine gl_conv (E2 := (17, .slice a_a_v (List.length a_v) c_a_v) :: (18, .int .i64 s2) :: (19, .pointer (some p5)) :: (20, .agg #[.int .i64 x4.Event, .int .i64 x4.Number, .int .i64 x4.Time]) :: (21, .slice a_b (List.length b) c_b) :: (22, .int .i64 s2) :: (23, .pointer (some p7)) :: (24, .agg #[.int .i64 x6.Event, .int .i64 x6.Number, .int .i64 x6.Time]) :: (25, .bool (laws_eqFiring x4 x6)) :: (26, .bool (!(laws_eqFiring x4 x6))) :: [(0, .slice a_a_v (List.length a_v) c_a_v), (1, .slice a_b (List.length b) c_b), (5, .int .i64 s2)]) (R2 := [] ++ []) (O2 := [SL false 47 FiringS a_a_v c_a_v a_v, SL false 47 FiringS a_b c_b b]) (by show (17, vals 0) :: (18, vals 1) :: (19, vals 2) :: (20, vals 3) :: (21, vals 4) :: (22, vals 5) :: (23, vals 6) :: (24, vals 7) :: (25, vals 8) :: (26, vals 9) :: [(0, .slice a_a_v (List.length a_v) c_a_v), (1, .slice a_b (List.length b) c_b), (5, .int .i64 s2)] = _; rw [h0, h1, h2, h3, h4, h5, h6, h7, h8, h9]) rfl rfl ?_
          refine gl_nil ?_
          refine gx_seq ?_
          refine g_cond (b := !(laws_eqFiring x4 x6)) rfl (fun hc => ?_) (fun hc => ?_)
          · replace h := condT hc h
            refine g_seq ?_
            refine g_region ?_
            refine gl_batch 1 [(4, .bool false)] rfl ?_
            refine gl_nil ?_
            refine gx_seq ?_
            refine g_ret ?_
            refine gx_blk_ret ?_
            refine gx_seq_ret ?_
            obtain rfl := Option.some.inj h
            exact gx_of (fun a w hE hS => lp_out nofun (inL ⟨rfl, hE.sub ⟨rfl, trivial⟩, (hS.take 0).facts _ _ [] (consItem (mem_at 0 rfl) (consItem (mem_at 1 rfl) noItem)) (consItem (mem_at 0 rfl) (consItem (mem_at 1 rfl) noItem)) noItem⟩))
          · replace h := condF hc h
            refine g_skip ?_
            refine gx_blk ?_
            refine gx_seq ?_
            refine g_region ?_
            refine gl_batch 3 [(5, .int .i64 (IntKind.i64.wrap (s2 + 1))), (16, .int .i64 (IntKind.i64.wrap (s2 + 1))), (15, .int .i64 s2)] rfl ?_
            refine gl_nil ?_
            obtain rfl := Option.some.inj h
            exact gx_of (fun a w hE hS => lp_in ⟨hE.sub ⟨rfl, rfl, rfl, trivial⟩, (hS.take 0).facts _ _ [] (consItem (mem_at 0 rfl) (consItem (mem_at 1 rfl) noItem)) (consItem (mem_at 0 rfl) (consItem (mem_at 1 rfl) noItem)) noItem⟩)
      · replace h := condF hc h
        refine g_exit ?_
        refine gx_seq_exit ?_
        obtain rfl := Option.some.inj h
        exact gx_of (fun a w hE hS => lp_out nofun (inR ⟨rfl, hE.sub trivial, (hS.take 0).facts _ _ [] (consItem (mem_at 0 rfl) (consItem (mem_at 1 rfl) noItem)) (consItem (mem_at 0 rfl) (consItem (mem_at 1 rfl) noItem)) noItem⟩))
    · intro e a w hm
      rcases o1 with s8 | s9
      · replace h := elimL h
        obtain ⟨rfl, hE, hS⟩ := hm
        refine gx_to hE hS ?_
        refine gx_blk_ret ?_
        refine gx_seq_ret ?_
        obtain rfl := Option.some.inj h
        exact gx_fin rfl [.bool false] _ _ [] ⟨_, _, rfl, rfl, rfl⟩ rfl ⟨rfl, rfl, rfl⟩ (fun w hS => (hS.take 0).facts [] [] [] noItem noItem noItem) (Or.inl rfl)
      · replace h := elimR h
        obtain ⟨rfl, hE, hS⟩ := hm
        refine gx_to hE hS ?_
        refine gx_blk_hit ?_
        refine gx_seq ?_
        refine g_seq ?_
        refine g_region ?_
        refine gl_batch 1 [(4, .bool true)] rfl ?_
        refine gl_nil ?_
        refine gx_seq ?_
        refine g_ret ?_
        obtain rfl := Option.some.inj h
        exact gx_fin rfl [.bool true] _ _ [] ⟨_, _, rfl, rfl, rfl⟩ rfl ⟨rfl, rfl, rfl⟩ (fun w hS => (hS.take 0).facts [] [] [] noItem noItem noItem) (Or.inl rfl)

theorem c_laws_FnExactTraceText (aRun : List Firing) (a_aRun : Option Addr) (c_aRun : Nat) {r : Bool} (h : laws_FnExactTraceText aRun = some r) : CallOK Tryd.prog 3 [.slice a_aRun (List.length aRun) c_aRun] [] [gTab 3 pow10C, gNum 0] [SL false 45 FiringS a_aRun c_aRun aRun] (fun v outs ros => v = .bool r ∧ outs = [] ∧ ros = []) := by
  refine fn_ok Tryd.func3 rfl Tryd.ntmps3 rfl (fun c hF0 => ?_)
  unfold laws_FnExactTraceText at h
  refine g_seq ?_
  refine g_region ?_
  refine gl_batch 1 [(2, .bool false)] rfl ?_
  refine gl_nil ?_
  refine gx_seq ?_
  refine g_seq ?_
  refine g_region ?_
  refine gl_batch 1 [(3, .int .i64 1048576)] rfl ?_
  refine gl_nil ?_
  refine gx_seq ?_
  refine g_seq ?_
  refine g_region ?_
  refine gl_batch 2 [(10, .int .i64 1048576), (9, .slice a_aRun (List.length aRun) c_aRun)] rfl ?_
  refine gl_call rfl rfl (fun w => by kernel_rfl) (c_laws_szFiringS aRun 1048576 a_aRun c_aRun rfl) (consItem (mem_at 0 rfl) (consItem (mem_at 1 rfl) noItem)) (consItem (mem_at 0 rfl) noItem) ?_
  rintro v outs ros ⟨rfl, rfl, rfl⟩
  refine ⟨_, rfl, ?_⟩
  refine gl_batch 1 [(3, .int .i64 (laws_szFiringS aRun 1048576))] rfl ?_
  refine gl_nil ?_
  refine gx_seq ?_
  refine g_seq ?_
  refine g_seq ?_
  refine g_region ?_
  refine gl_batch 2 [(13, .bool (decide ((laws_szFiringS aRun 1048576) < 0))), (12, .int .i64 (laws_szFiringS aRun 1048576))] rfl ?_
  refine gl_nil ?_
  refine gx_seq ?_
  refine g_cond (b := decide ((laws_szFiringS aRun 1048576) < 0)) rfl (fun hc => ?_) (fun hc => ?_)
  · replace h := condT hc h
    refine g_seq ?_
    refine g_region ?_
    refine gl_batch 1 [(2, .bool true)] rfl ?_
    refine gl_nil ?_
    refine gx_seq ?_
    refine g_ret ?_
    refine gx_seq_ret ?_
    obtain rfl := Option.some.inj h
    exact gx_fin rfl [.bool true] _ _ [] ⟨_, _, rfl, rfl, rfl⟩ rfl ⟨rfl, rfl, rfl⟩ (fun w hS => (hS.take 0).facts [] [] [] noItem noItem noItem) (Or.inl rfl)
  · replace h := condF hc h
    refine g_skip ?_
    refine gx_seq ?_
    refine g_seq ?_
    refine g_region ?_
    refine gl_batch 1 [(15, .slice a_aRun (List.length aRun) c_aRun)] rfl ?_
    obtain ⟨o1, ho1, h⟩ := bindS h
    refine gl_call rfl rfl (fun w => by kernel_rfl) (c_laws_toFiringS aRun a_aRun c_aRun ho1) (consItem (mem_at 0 rfl) (consItem (mem_at 1 rfl) noItem)) (consItem (mem_at 0 rfl) noItem) ?_
    rintro v outs ros ⟨a_v2, c_v3, rfl, rfl, rfl⟩
    refine ⟨_, rfl, ?_⟩
    obtain ⟨o4, ho4, h⟩ := bindS h
    refine gl_call rfl rfl (fun w => by kernel_rfl) (c_spec_TraceText o1 a_v2 c_v3 ho4) (consItem (mem_at 0 rfl) (consItem (mem_at 1 rfl) noItem)) (consItem (mem_at 0 rfl) noItem) ?_
    rintro v outs ros ⟨rfl, rfl, rfl⟩
    refine ⟨_, rfl, ?_⟩
    refine gl_batch 5 [(5, .int .i64 o4.2), (4, str o4.1), (19, .int .i64 o4.2), (18, str o4.1), (14, .tuple #[str o4.1, .int .i64 o4.2])] rfl ?_
    refine gl_nil ?_
    refine gx_seq ?_
    refine g_seq ?_
    refine g_region ?_
    refine gl_batch 1 [(20, .slice a_aRun (List.length aRun) c_aRun)] rfl ?_
    obtain ⟨o5, ho5, h⟩ := bindS h
    refine gl_call rfl rfl (fun w => by kernel_rfl) (c_laws_toFiringS aRun a_aRun c_aRun ho5) (consItem (mem_at 0 rfl) (consItem (mem_at 1 rfl) noItem)) (consItem (mem_at 1 rfl) noItem) ?_
    rintro v outs ros ⟨a_v6, c_v7, rfl, rfl, rfl⟩
    refine ⟨_, rfl, ?_⟩
    refine gl_batch 1 [(6, .slice a_v6 (List.length o5) c_v7)] rfl ?_
    refine gl_nil ?_
    refine gx_seq ?_
    refine g_seq ?_
    refine g_region ?_
    refine gl_batch 1 [(23, .slice a_v6 (List.length o5) c_v7)] rfl ?_
    obtain ⟨o8, ho8, h⟩ := bindS h
    refine gl_call rfl rfl (fun w => by kernel_rfl) (c_impl_TraceText o5 a_v6 c_v7 ho8) (consItem (mem_at 0 rfl) (consItem (mem_at 1 rfl) noItem)) (consItem (mem_at 0 rfl) noItem) ?_
    rintro v outs ros ⟨rfl, rfl, rfl⟩
    refine ⟨_, rfl, ?_⟩
    refine gl_batch 5 [(8, .int .i64 o8.2), (7, str o8.1), (26, .int .i64 o8.2), (25, str o8.1), (22, .tuple #[str o8.1, .int .i64 o8.2])] rfl ?_
    refine gl_nil ?_
    refine gx_seq ?_
    refine g_seq ?_
    refine g_seq ?_
    refine g_region ?_
    refine gl_batch 2 [(28, str o4.1), (27, str o8.1)] rfl ?_
    refine gl_sne (s := o8.1) (u := o4.1) rfl rfl rfl rfl ?_
    refine gl_batch 1 [(30, .bool (!(o8.1 == o4.1)))] rfl ?_
    refine gl_join (EE := [(34, .bool ((!(o8.1 == o4.1)) || (o8.2 != o4.2))), (0, .slice a_aRun (List.length aRun) c_aRun), (6, .slice a_v6 (List.length o5) c_v7)]) (RR := [SL false 47 FiringS a_v6 c_v7 o5, SL false 47 FiringS a_v2 c_v3 o1]) (XX := [gTab 3 pow10C, gNum 0]) (OO := [SL false 45 FiringS a_aRun c_aRun aRun]) (VV := []) 4 ?_ ?_
    · skip
      refine gl_case 30 rfl (fun hc => ?_) (fun hc => ?_)
      · skip
        refine gl_batch 4 [(34, .bool true), (33, undef), (32, undef), (31, undef)] rfl ?_
        refine gl_nil ?_
        exact gx_mid ⟨congrArg (fun z => some (Value.bool z)) (or_t hc).symm, rfl, rfl, trivial⟩ (fun w hS => hS)
      · skip
        refine gl_batch 4 [(34, .bool (o8.2 != o4.2)), (33, .bool (o8.2 != o4.2)), (32, .int .i64 o4.2), (31, .int .i64 o8.2)] rfl ?_
        refine gl_nil ?_
        exact gx_mid ⟨congrArg (fun z => some (Value.bool z)) (or_f hc).symm, rfl, rfl, trivial⟩ (fun w hS => hS)
    · skip
      refine gl_nil ?_
      refine gx_seq ?_
      refine g_cond (b := (!(o8.1 == o4.1)) || (o8.2 != o4.2)) rfl (fun hc => ?_) (fun hc => ?_)
      · replace h := condT hc h
        refine g_seq ?_
        refine g_region ?_
        refine gl_batch 1 [(2, .bool false)] rfl ?_
        refine gl_nil ?_
        refine gx_seq ?_
        refine g_ret ?_
        refine gx_seq_ret ?_
        obtain rfl := Option.some.inj h
        exact gx_fin rfl [.bool false] _ _ [] ⟨_, _, rfl, rfl, rfl⟩ rfl ⟨rfl, rfl, rfl⟩ (fun w hS => (hS.take 0).facts [] [] [] noItem noItem noItem) (Or.inl rfl)
      · replace h := condF hc h
        refine g_skip ?_
        refine gx_seq ?_
        refine g_seq ?_
        refine g_seq ?_
        refine g_region ?_
        refine gl_batch 2 [(36, .slice a_aRun (List.length aRun) c_aRun), (35, .slice a_v6 (List.length o5) c_v7)] rfl ?_
        obtain ⟨o9, ho9, h⟩ := bindS h
        refine gl_call rfl rfl (fun w => by kernel_rfl) (c_laws_toFiringS aRun a_aRun c_aRun ho9) (consItem (mem_at 0 rfl) (consItem (mem_at 1 rfl) noItem)) (consItem (mem_at 2 rfl) noItem) ?_
        rintro v outs ros ⟨a_v10, c_v11, rfl, rfl, rfl⟩
        refine ⟨_, rfl, ?_⟩
        obtain ⟨o12, ho12, h⟩ := bindS h
        refine gl_call rfl rfl (fun w => by kernel_rfl) (c_laws_eqFiringS o5 o9 a_v6 c_v7 a_v10 c_v11 ho12) (consItem (mem_at 0 rfl) (consItem (mem_at 1 rfl) noItem)) (consItem (mem_at 1 rfl) (consItem (mem_at 0 rfl) noItem)) ?_
        rintro v outs ros ⟨rfl, rfl, rfl⟩
        refine ⟨_, rfl, ?_⟩
        refine gl_batch 1 [(39, .bool (!o12))] rfl ?_
        refine gl_nil ?_
        refine gx_seq ?_
        refine g_cond (b := !o12) rfl (fun hc => ?_) (fun hc => ?_)
        · replace h := condT hc h
          refine g_seq ?_
          refine g_region ?_
          refine gl_batch 1 [(2, .bool false)] rfl ?_
          refine gl_nil ?_
          refine gx_seq ?_
          refine g_ret ?_
          refine gx_seq_ret ?_
          obtain rfl := Option.some.inj h
          exact gx_fin rfl [.bool false] _ _ [] ⟨_, _, rfl, rfl, rfl⟩ rfl ⟨rfl, rfl, rfl⟩ (fun w hS => (hS.take 0).facts [] [] [] noItem noItem noItem) (Or.inl rfl)
        · replace h := condF hc h
          refine g_skip ?_
          refine gx_seq ?_
          refine g_seq ?_
          refine g_region ?_
          refine gl_batch 1 [(2, .bool true)] rfl ?_
          refine gl_nil ?_
          refine gx_seq ?_
          refine g_ret ?_
          obtain rfl := Option.some.inj h
          exact gx_fin rfl [.bool true] _ _ [] ⟨_, _, rfl, rfl, rfl⟩ rfl ⟨rfl, rfl, rfl⟩ (fun w hS => (hS.take 0).facts [] [] [] noItem noItem noItem) (Or.inl rfl)

end Go.Proofs.YtneifoepoccjaaaDoor
