/-
  The card of FnTraces, closed: the row by the walk's contract and the plain law.
-/
import Derived.Test.YtneifoepoccjaaaGreatDoorCards
import Derived.Test.YtneifoepoccjaaaGreatDoorTie
import Derived.Test.YtneifoepoccjaaaGreatDoorC2e
import Derived.Test.YtneifoepoccjaaaGreatDoorQY
import Derived.Test.YtneifoepoccjaaaGreatDoorR0
import Derived.ProofKit
import Derived.OpenShut
import Derived.LaidMore
namespace Go.Proofs.YtneifoepoccjaaaGreatDoor.fnTraces
open Go.ChangeShapes Go.WideShapes Go.ChangeAt Go.RowKit Go.Proofs.YtneifoepoccjaaaGreatDoor

theorem own : ownKnob Tryz.prog.godebug = none := by kernel_rfl
theorem laidOut : laidOutB Tryz.prog = true := by kernel_rfl
theorem rowed : mapsRowed Tryz.prog = true := by kernel_rfl
theorem full : ((List.range Tryz.prog.types.size).all fun t => match Tryz.prog.underlying t with | some (.slice e) => decide (0 < Tryz.prog.cellsOf e) | _ => true) = true := by kernel_rfl
theorem cells5 : Tryz.prog.cellsOf 5 = 1 := by kernel_rfl
theorem reads5 {H : Type} {enc : TypeId × Value → H} {W : World} : Reads enc Tryz.prog W 5 (intS .u8) (fun n => 0 ≤ n ∧ n ≤ 255) := reads_u8 Tryz.underlying5
theorem listed : Rows.fnTracesRow.laid.filter (fun x => x.1 == "internal/strconv.uint64pow10") = [("internal/strconv.uint64pow10", Lib.tabData .u64 Lib.pow10Tab)] := by kernel_rfl
theorem gTabType : (Tryz.prog.globals[3]?).map (·.type) = some 170 := by kernel_rfl
theorem table {W : World} (h : laidMetH Tryz.prog Rows.fnTracesRow.laid W) : Lib.TabIs Tryz.prog W "internal/strconv.uint64pow10" .u64 Lib.pow10Tab := by
  have h2 := h.filter (fun x => x.1 == "internal/strconv.uint64pow10")
  rw [listed] at h2
  exact Lib.tabIs_of_head (rest := []) gn_pow10 gTabType Tryz.underlying170 Tryz.underlying36 (by kernel_rfl) (by kernel_rfl) h2
theorem listed1 : Rows.fnTracesRow.laid.filter (fun x => x.1 == "strconv.ErrSyntax") = [("strconv.ErrSyntax", Rows.laid_strconv_ErrSyntax)] := by kernel_rfl
theorem err1 {W : World} (h : laidMetH Tryz.prog Rows.fnTracesRow.laid W) : ∃ v, W.cell? ⟨1, 0, none⟩ = some v ∧ (v = .nilIface ∨ ∃ u x, v = .iface u x) := by
  have h2 := h.filter (fun x => x.1 == "strconv.ErrSyntax")
  rw [listed1] at h2
  exact laid_err h2 (by kernel_rfl) (by kernel_rfl) (show (Tryz.prog.globals[1]?).map (·.type) = some 97 by kernel_rfl) Tryz.underlying97
theorem listed2 : Rows.fnTracesRow.laid.filter (fun x => x.1 == "strconv.ErrRange") = [("strconv.ErrRange", Rows.laid_strconv_ErrRange)] := by kernel_rfl
theorem err2 {W : World} (h : laidMetH Tryz.prog Rows.fnTracesRow.laid W) : ∃ v, W.cell? ⟨2, 0, none⟩ = some v ∧ (v = .nilIface ∨ ∃ u x, v = .iface u x) := by
  have h2 := h.filter (fun x => x.1 == "strconv.ErrRange")
  rw [listed2] at h2
  exact laid_err h2 (by kernel_rfl) (by kernel_rfl) (show (Tryz.prog.globals[2]?).map (·.type) = some 97 by kernel_rfl) Tryz.underlying97

set_option maxRecDepth 100000 in
/-- WHAT THE WALK GIVES, FOR EVERY ARGUMENT. -/
theorem contract (H : Type) (enc : TypeId × Value → H) (W : World) (base : Nat) (args : Array Value) (ds gs : List (DataW H)) (before : List MemPlace)
    (hval : ∀ (j : Nat) t v, Tryz.f3.params[j]? = some t → args[j]? = some v → Value.okWide Tryz.prog W .any base t v)
    (hW : DataW.Whole enc Tryz.prog Tryz.f3.params.toList Rows.fnTracesSpec.vars false W args.toList ds gs before) (hL : laidMetH Tryz.prog Rows.fnTracesRow.laid W) (hsh : W.ShapedOpen Tryz.prog) :
    Calls Tryz.prog 3 args W fun e W' => ∃ v, e = .returned v ∧ Rows.fnTracesSpec.post enc Tryz.prog Tryz.f3 false true false false W args v W' := by
  have hW' := hW
  obtain ⟨p, q, hA, hV, rfl, hfz, hnd⟩ := hW
  rw [Tryz.params3] at hA hval
  obtain ⟨v0, vs0, d0, ds0, p0, q0, hargs0, rfl, rfl, h0, r0⟩ := trodAll_cons hA
  obtain ⟨rfl, rfl, rfl⟩ := trodAll_nil r0
  obtain rfl : args = #[v0] := by cases args; simp_all
  obtain ⟨rfl, rfl⟩ := trodVars_none hV
  obtain ⟨a0, c0, x0, rfl, hro0, hlen0, hok0⟩ := arg_slice (s := (intS .u8)) Tryz.underlying22 cells5 (Nat.zero_lt_succ 0) reads5 (hval 0 22 v0 rfl rfl) h0
  have hlaw := law_Traces x0 hlen0 hok0
  have hok := c_laws_FnTraces x0 a0 c0 hlaw
  have hX : ∀ o, o ∈ [gTab 3 pow10C, gNum 0, gErr 1, gErr 2] → o.ro W (fun b => b < W.heap.size) := by
    intro o ho
    rcases List.mem_cons.1 ho with rfl | ho
    · exact gTab_of gn_pow10 (table hL) rfl
    rcases List.mem_cons.1 ho with rfl | ho
    · exact gNum_of (cell_of_shapedOpen_int (P := Tryz.prog) (g := 0) (t := 3) (zero := #[.int .i64 0]) hsh (of_decide_eq_true (by kernel_rfl)) (by kernel_rfl) rfl (by kernel_rfl) (by kernel_rfl) Tryz.underlying3)
    rcases List.mem_cons.1 ho with rfl | ho
    · exact gErr_of (err1 hL)
    obtain rfl : o = gErr 2 := by simpa using ho
    · exact gErr_of (err2 hL)
  have hVv : ∀ o, o ∈ ([SL false 5 (intS .u8) a0 c0 x0] : List Item) → o.ro W (fun b => b < W.heap.size) := by
    intro o ho
    obtain rfl : o = SL false 5 (intS .u8) a0 c0 x0 := by simpa using ho
    exact hro0
  refine (calls_of_ok hok hX hVv).mono fun e W' ⟨he, hk⟩ => ?_
  subst he
  refine ⟨_, rfl, post_law laidOut rowed full (by kernel_rfl) Tryz.underlying4 (fun t ht => ?_) hW' rfl rfl hk⟩
  rw [Tryz.params3] at ht
  have : t = 22 := by simpa using ht
  subst this
  decide +kernel

/-- A WORLD FOR THE WITNESS: the settled one, the listed variables holding what the row says. -/
noncomputable def laidWorld (os : Os) : World :=
  { World.holding Tryz.prog os ⟨#[], #[], []⟩ with heap := ((layAt ((layAt (layAt (layAt (layAt (layAt (layAt (World.holding Tryz.prog os ⟨#[], #[], []⟩).heap 6 (litC Rows.laid_math_bits_deBruijn32tab).toArray) 7 (litC Rows.laid_math_bits_deBruijn64tab).toArray) 3 (litC Rows.laid_internal_strconv_uint64pow10).toArray) 5 (litC Rows.laid_unicode_utf8_acceptRanges).toArray) 4 (litC Rows.laid_unicode_utf8_first).toArray) 2 #[.iface 178 (.pointer (some ⟨(World.holding Tryz.prog os ⟨#[], #[], []⟩).heap.size + 0, 0, none⟩))]).push (.cells #[str [118, 97, 108, 117, 101, 32, 111, 117, 116, 32, 111, 102, 32, 114, 97, 110, 103, 101]] 180 (0, 0))) 1 #[.iface 178 (.pointer (some ⟨(World.holding Tryz.prog os ⟨#[], #[], []⟩).heap.size + 1, 0, none⟩))]).push (.cells #[str [105, 110, 118, 97, 108, 105, 100, 32, 115, 121, 110, 116, 97, 120]] 180 (0, 0))) }
theorem laid_met (os : Os) : laidMet Tryz.prog Rows.fnTracesRow.laid ((laidWorld os).forCall (fun _ _ => 0) ⟨#[], #[.slice none 0 0], []⟩).memory :=
  laidMet_of_run' 8 (by kernel_rfl) (by kernel_rfl)
theorem reads (os : Os) {H : Type} (enc : TypeId × Value → H) : ∃ places, DataW.whole enc Tryz.prog ((laidWorld os).forCall (fun _ _ => 0) ⟨#[], #[.slice none 0 0], []⟩).memory Tryz.f3.params.toList Rows.fnTracesSpec.vars false (#[.slice none 0 0] : Array Value).toList 8 = some ([.nil], [], places) :=
  ⟨[], by kernel_rfl⟩

set_option maxRecDepth 100000 in
theorem lifted (os : Os) (started : os.Started) (H : Type) (enc : TypeId × Value → H) (F : Stop.Interp) :
    ReturnsInHanded {} Tryz.checked os 3 .any ((OpenSpec.ofChange Rows.fnTracesSpec).preRow enc Tryz.prog Tryz.f3 Rows.fnTracesRow.domain false Rows.fnTracesRow.laid) (((OpenSpec.ofChange Rows.fnTracesSpec).at F).post enc Tryz.prog Tryz.f3 false true false false) := by
  obtain ⟨places, hx⟩ := reads os enc
  refine returnsInHanded_of_row (C := Tryz.checked) (s := OpenSpec.ofChange Rows.fnTracesSpec) own started (by kernel_rfl) Tryz.func3
    (witness_row_at (enc := enc) (C := Tryz.checked) false (laidWorld os) #[.slice none 0 0] rfl (by kernel_rfl) (by kernel_rfl) (by kernel_rfl)
      (OpenSpec.preRow_of_cond 8 hx (by kernel_rfl) (fun k hk => by cases hk) (by kernel_rfl) (laid_met os))) ?_
  intro W base args ds gs before hval hW _ _ _ hL hsh _
  exact contract H enc W base args ds gs before hval hW hL hsh

theorem said : Rows.FnTracesSaid :=
  OpenClaim.holds_of_cond 3 Tryz.f3 rfl rfl rfl rfl rfl rfl rfl ⟨rfl, rfl, rfl, rfl, rfl⟩ rfl rfl rfl rfl rfl (by kernel_rfl) Tryz.func3 (by kernel_rfl)
    (of_decide_eq_true (by kernel_rfl)) (by unfold Func.isWrapper; first | (rw [if_pos (by decide +kernel)]; kernel_rfl) | (rw [if_neg (by decide +kernel)]; exact ⟨rfl, rfl⟩))
    (fun os started H enc _ F => by rw [OpenClaim.pre_eq_preRow]; exact lifted os started H enc F)

/-- No parameter wants a stand-in; the program's own looks are off: what the card asks. -/
theorem plain (f : FuncId) (fn : Func) (hf : Tryz.pinned.checked.prog.funcNamed "loop.example/g00941/laws.FnTraces" = some f) (hfn : Tryz.pinned.checked.prog.funcs[f]? = some fn) :
    true = Tryz.pinned.checked.prog.looks [] ∧ ∀ (j : Nat) t, fn.params[j]? = some t → Tryz.pinned.checked.prog.wantsStandIn t = false := by
  obtain rfl : f = 3 := Option.some.inj ((show Tryz.prog.funcNamed "loop.example/g00941/laws.FnTraces" = some 3 by kernel_rfl).symm.trans hf) |>.symm
  obtain rfl : fn = Tryz.f3 := (Option.some.inj (Tryz.func3.symm.trans hfn)).symm
  refine ⟨by kernel_rfl, fun j t ht => ?_⟩
  rw [Tryz.params3] at ht
  have : t = 22 := by simpa using Array.mem_of_getElem? ht
  subst this
  exact (show Tryz.prog.wantsStandIn 22 = false by kernel_rfl)

/-- THE CARD. -/
theorem card : Rows.FnTracesCardSaid :=
  Claim7.holds_tied_plain_at .later [] _ _ _ _ said (fun _ h => by cases h) (by kernel_rfl) (fun _ h => by cases h) fnTraces_row_tie rfl ⟨rfl, rfl⟩ (by kernel_rfl) rfl plain (by kernel_rfl)
end Go.Proofs.YtneifoepoccjaaaGreatDoor.fnTraces
