/-
  The card of FnExactTraceText, closed: the row by the walk's contract and the plain law.
-/
import Derived.Test.YtneifoepoccjaaaDoorCards
import Derived.Test.YtneifoepoccjaaaDoorTie
import Derived.Test.YtneifoepoccjaaaDoorC0
import Derived.Test.YtneifoepoccjaaaDoorQ1
import Derived.Test.YtneifoepoccjaaaDoorR0
import Derived.ProofKit
import Derived.OpenShut
namespace Go.Proofs.YtneifoepoccjaaaDoor.fnExactTraceText
open Go.ChangeShapes Go.WideShapes Go.ChangeAt Go.RowKit Go.Proofs.YtneifoepoccjaaaDoor

theorem own : ownKnob Tryd.prog.godebug = none := by kernel_rfl
theorem laidOut : laidOutB Tryd.prog = true := by kernel_rfl
theorem rowed : mapsRowed Tryd.prog = true := by kernel_rfl
theorem full : ((List.range Tryd.prog.types.size).all fun t => match Tryd.prog.underlying t with | some (.slice e) => decide (0 < Tryd.prog.cellsOf e) | _ => true) = true := by kernel_rfl
theorem structs : i64Struct Tryd.prog 45 3 = true := by kernel_rfl
theorem cells45 : Tryd.prog.cellsOf 45 = 3 := by kernel_rfl
theorem reads45 {H : Type} {enc : TypeId × Value → H} {W : World} : Reads enc Tryd.prog W 45 FiringS (fun _ => True) := by
  intro fuel cs x hx
  obtain ⟨zs, rfl, hl, _⟩ := reads_i64s structs hx
  match zs, hl with
  | [a, b, c], _ => exact ⟨⟨a, b, c⟩, rfl, trivial⟩
theorem listed : Rows.fnExactTraceTextRow.laid.filter (fun x => x.1 == "internal/strconv.uint64pow10") = [("internal/strconv.uint64pow10", Lib.tabData .u64 Lib.pow10Tab)] := by kernel_rfl
theorem gTabType : (Tryd.prog.globals[3]?).map (·.type) = some 174 := by kernel_rfl
theorem table {W : World} (h : laidMetH Tryd.prog Rows.fnExactTraceTextRow.laid W) : Lib.TabIs Tryd.prog W "internal/strconv.uint64pow10" .u64 Lib.pow10Tab := by
  have h2 := h.filter (fun x => x.1 == "internal/strconv.uint64pow10")
  rw [listed] at h2
  exact Lib.tabIs_of_head (rest := []) gn_pow10 gTabType Tryd.underlying174 Tryd.underlying149 (by kernel_rfl) (by kernel_rfl) h2

set_option maxRecDepth 100000 in
/-- WHAT THE WALK GIVES, FOR EVERY ARGUMENT. -/
theorem contract (H : Type) (enc : TypeId × Value → H) (W : World) (base : Nat) (args : Array Value) (ds gs : List (DataW H)) (before : List MemPlace)
    (hval : ∀ (j : Nat) t v, Tryd.f3.params[j]? = some t → args[j]? = some v → Value.okWide Tryd.prog W .any base t v)
    (hW : DataW.Whole enc Tryd.prog Tryd.f3.params.toList Rows.fnExactTraceTextSpec.vars false W args.toList ds gs before) (hL : laidMetH Tryd.prog Rows.fnExactTraceTextRow.laid W) (hsh : W.ShapedOpen Tryd.prog) :
    Calls Tryd.prog 3 args W fun e W' => ∃ v, e = .returned v ∧ Rows.fnExactTraceTextSpec.post enc Tryd.prog Tryd.f3 false true false false W args v W' := by
  have hW' := hW
  obtain ⟨p, q, hA, hV, rfl, hfz, hnd⟩ := hW
  rw [Tryd.params3] at hA hval
  obtain ⟨v0, vs0, d0, ds0, p0, q0, hargs, rfl, rfl, h0, r0⟩ := trodAll_cons hA
  obtain ⟨rfl, rfl, rfl⟩ := trodAll_nil r0
  obtain rfl : args = #[v0] := by cases args; simp_all
  obtain ⟨rfl, rfl⟩ := trodVars_none hV
  obtain ⟨a, c, xs, rfl, hro, hlen, _⟩ := arg_slice (s := FiringS) Tryd.underlying22 cells45 (Nat.zero_lt_succ 2) reads45 (hval 0 22 v0 rfl rfl) h0
  have hlaw := law_TraceText xs (by unfold maxLen at hlen; omega)
  have hok := c_laws_FnExactTraceText xs a c hlaw
  have hX : ∀ o, o ∈ [gTab 3 pow10C, gNum 0] → o.ro W (fun b => b < W.heap.size) := by
    intro o ho
    rcases List.mem_cons.1 ho with rfl | ho
    · exact gTab_of gn_pow10 (table hL) rfl
    · have : o = gNum 0 := by simpa using ho
      subst this
      exact gNum_of (cell_of_shapedOpen_int (P := Tryd.prog) (g := 0) (t := 3) (zero := #[.int .i64 0]) hsh (of_decide_eq_true (by kernel_rfl)) (by kernel_rfl) rfl (by kernel_rfl) (by kernel_rfl) Tryd.underlying3)
  have hVv : ∀ o, o ∈ [SL false 45 FiringS a c xs] → o.ro W (fun b => b < W.heap.size) := by
    intro o ho
    have : o = SL false 45 FiringS a c xs := by simpa using ho
    subst this; exact hro
  refine (calls_of_ok hok hX hVv).mono fun e W' ⟨he, hk⟩ => ?_
  subst he
  refine ⟨_, rfl, post_law laidOut rowed full (by kernel_rfl) Tryd.underlying4 (fun t ht => ?_) hW' rfl rfl hk⟩
  rw [Tryd.params3] at ht
  have : t = 22 := by simpa using ht
  subst this
  decide +kernel

/-- A WORLD FOR THE WITNESS: the settled one, the listed tables holding what the row says. -/
noncomputable def laidWorld (os : Os) : World :=
  { World.holding Tryd.prog os ⟨#[], #[], []⟩ with heap := layAt (layAt (layAt (World.holding Tryd.prog os ⟨#[], #[], []⟩).heap 3 pow10C.toArray) 6 (litCells Rows.fnExactTraceTextRow.laid "math/bits.deBruijn32tab")) 7 (litCells Rows.fnExactTraceTextRow.laid "math/bits.deBruijn64tab") }
theorem laid_met (os : Os) : laidMet Tryd.prog Rows.fnExactTraceTextRow.laid ((laidWorld os).forCall (fun _ _ => 0) ⟨#[], #[.slice none 0 0], []⟩).memory :=
  laidMet_of_run' 8 (by kernel_rfl) (by kernel_rfl)
theorem reads (os : Os) {H : Type} (enc : TypeId × Value → H) : ∃ places, DataW.whole enc Tryd.prog ((laidWorld os).forCall (fun _ _ => 0) ⟨#[], #[.slice none 0 0], []⟩).memory Tryd.f3.params.toList Rows.fnExactTraceTextSpec.vars false #[Value.slice none 0 0].toList 8 = some ([.nil], [], places) :=
  ⟨[], by kernel_rfl⟩

set_option maxRecDepth 100000 in
theorem lifted (os : Os) (started : os.Started) (H : Type) (enc : TypeId × Value → H) (F : Stop.Interp) :
    ReturnsInHanded {} Tryd.checked os 3 .any ((OpenSpec.ofChange Rows.fnExactTraceTextSpec).preRow enc Tryd.prog Tryd.f3 Rows.fnExactTraceTextRow.domain false Rows.fnExactTraceTextRow.laid) (((OpenSpec.ofChange Rows.fnExactTraceTextSpec).at F).post enc Tryd.prog Tryd.f3 false true false false) := by
  obtain ⟨places, hx⟩ := reads os enc
  refine returnsInHanded_of_row (C := Tryd.checked) (s := OpenSpec.ofChange Rows.fnExactTraceTextSpec) own started (by kernel_rfl) Tryd.func3
    (witness_row_at (enc := enc) (C := Tryd.checked) false (laidWorld os) #[.slice none 0 0] rfl (by kernel_rfl) (by kernel_rfl) (by kernel_rfl)
      (OpenSpec.preRow_of_cond 8 hx (by kernel_rfl) (fun k hk => by cases hk) (by kernel_rfl) (laid_met os))) ?_
  intro W base args ds gs before hval hW _ _ _ hL hsh _
  exact contract H enc W base args ds gs before hval hW hL hsh

theorem said : Rows.FnExactTraceTextSaid :=
  OpenClaim.holds_of_cond 3 Tryd.f3 rfl rfl rfl rfl rfl rfl rfl ⟨rfl, rfl, rfl, rfl, rfl⟩ rfl rfl rfl rfl rfl (by kernel_rfl) Tryd.func3 (by kernel_rfl)
    (of_decide_eq_true (by kernel_rfl)) (by unfold Func.isWrapper; first | (rw [if_pos (by decide +kernel)]; kernel_rfl) | (rw [if_neg (by decide +kernel)]; exact ⟨rfl, rfl⟩))
    (fun os started H enc _ F => by rw [OpenClaim.pre_eq_preRow]; exact lifted os started H enc F)

/-- No parameter wants a stand-in; the program's own looks are off: what the card asks. -/
theorem plain (f : FuncId) (fn : Func) (hf : Tryd.pinned.checked.prog.funcNamed "loop.example/g00941/laws.FnExactTraceText" = some f) (hfn : Tryd.pinned.checked.prog.funcs[f]? = some fn) :
    true = Tryd.pinned.checked.prog.looks [] ∧ ∀ (j : Nat) t, fn.params[j]? = some t → Tryd.pinned.checked.prog.wantsStandIn t = false := by
  obtain rfl : f = 3 := Option.some.inj ((show Tryd.prog.funcNamed "loop.example/g00941/laws.FnExactTraceText" = some 3 by kernel_rfl).symm.trans hf) |>.symm
  obtain rfl : fn = Tryd.f3 := (Option.some.inj (Tryd.func3.symm.trans hfn)).symm
  refine ⟨by kernel_rfl, fun j t ht => ?_⟩
  rw [Tryd.params3] at ht
  obtain rfl : t = 22 := by simpa using Array.mem_of_getElem? ht
  exact (show Tryd.prog.wantsStandIn 22 = false by kernel_rfl)

/-- THE CARD. -/
theorem card : Rows.FnExactTraceTextCardSaid :=
  Claim7.holds_tied_plain_at .later [] _ _ _ _ said (fun _ h => by cases h) (by kernel_rfl) (fun _ h => by cases h) fnExactTraceText_row_tie rfl ⟨rfl, rfl⟩ (by kernel_rfl) rfl plain (by kernel_rfl)
end Go.Proofs.YtneifoepoccjaaaDoor.fnExactTraceText
