/-
  How a row is closed, in plain words: what the arguments' reading gives the walk; that the arguments read as before where nothing that was there has changed. No program in sight.
-/
import Derived.Test.YtneifoepoccjaaaGreatDoorS
import Derived.WalkKit
import Derived.ReadAgain
import Derived.Deep.Slices
import Derived.Deep.DeepHandedRow
import Derived.Lib.LaidTab
import Derived.LaidSub
import Derived.LaidLaws
import Derived.MakeChecks
namespace Go.Proofs.YtneifoepoccjaaaGreatDoor
open Go.ChangeShapes Go.WideShapes Go.RowKit

section
variable {H : Type} {enc : TypeId × Value → H} {P : Program} {W W' : World}

theorem keptBut_of_keep {may : MemPlace → Prop} (h : Keep W W' []) : W.keptBut W' may := by
  refine ⟨h.os, h.output, fun i hi => ?_⟩
  rw [h.block i hi (by simp)]
  cases W.heap[i]? with
  | none => rfl
  | some o => cases o <;> simp
theorem sameAt_of_keep (h : Keep W W' []) {p : MemPlace} (hp : p.block < W.heap.size) : W.sameAt W' p := by
  cases p with
  | cell b off => exact World.cell?_of_block (a := ⟨b, off, none⟩) (h.block b hp (by simp))
  | map b => exact h.block b hp (by simp)
theorem TrodAll.carried {base : Nat} {sp : Nat → Bool} {held : Bool} : ∀ {ts : List TypeId} {vs : List Value} {ds : List (DataW H)} {ps : List MemPlace}, DataW.TrodAll enc P W base sp held ts vs ds ps → (∀ p ∈ ps, W.sameAt W' p) → DataW.TrodAll enc P W' base sp held ts vs ds ps
  | [], [], [], _, h, _ => h
  | _ :: _, _ :: _, _ :: _, _, ⟨p, q, ⟨n, h1⟩, h2, e⟩, hs => ⟨p, q, ⟨n, DataW.trod_carry n _ _ _ h1 (fun x hx => hs x (by rw [e]; exact List.mem_append_left _ hx))⟩, TrodAll.carried h2 (fun x hx => hs x (by rw [e]; exact List.mem_append_right _ hx)), e⟩

/-- WHAT A LAW's ROW ASKS behind the call: it returned true, and all that was there is as it was. -/
theorem post_law {f : Func} {s : ChangeSpec} {args : Array Value} {ds gs : List (DataW H)} {before : List MemPlace} {tb : TypeId} (hl : laidOutB P = true) (hm : mapsRowed P = true)
    (hz : ((List.range P.types.size).all fun t => match P.underlying t with | some (.slice e) => decide (0 < P.cellsOf e) | _ => true) = true)
    (hrt : f.resultTypes = #[tb]) (hb : P.underlying tb = some .bool) (hpar : ∀ t ∈ f.params.toList, t < P.types.size)
    (hW : DataW.Whole enc P f.params.toList s.vars false W args.toList ds gs before) (hv : s.vars = []) (hspec : s.fn H (ds ++ gs) = { results := [.lit (.bool true)], args := ds }) (hk : Keep W W' []) :
    s.post enc P f false true false false W args (.bool true) W' := by
  have hlt := hW.lt
  have hW0 := hW
  obtain ⟨p, q, hA, hV, e, _, _⟩ := hW
  have hnv : ∀ {sp : Nat → Bool} {W : World} {ps : List MemPlace} {gs : List (DataW H)}, DataW.TrodVars enc P W sp s.vars gs ps → gs = [] ∧ ps = [] := by
    intro sp W ps gs h
    rw [hv] at h
    cases gs with
    | nil => exact ⟨rfl, h⟩
    | cons g gs => cases h
  obtain ⟨rfl, rfl⟩ := hnv hV
  rw [List.append_nil] at e
  subst e
  have hA2 := DataW.TrodAll.respare (spare' := fun b => decide (b < W.heap.size)) (kids_rows hl hm) (slices_full_of P hz) hpar hA (fun x hx => by simpa using hlt x hx)
  have hA3 := TrodAll.carried (W' := W') hA2 (fun x hx => sameAt_of_keep hk (hlt x hx))
  refine ⟨ds, [], before, [], before, [], hW0, ?_, ?_, ?_, keptBut_of_keep hk, fun h => by cases h⟩
  · rw [hrt]
    rw [hspec]
    exact ⟨[], [], ⟨1, by simp [Value.cells, DataW.trod, hb]⟩, rfl, rfl⟩
  · rw [hspec]; exact hA3
  · rw [hspec, hv]; rfl

/-! ## What the arguments' reading gives -/
/-- A reading of type T gives a datum of the shape, of which 'ok' holds. -/
def Reads {α : Type} (enc : TypeId × Value → H) (P : Program) (W : World) (T : TypeId) (s : Shape α) (ok : α → Prop) : Prop :=
  ∀ (fuel : Nat) (cs : List Value) (x : DataW H × List MemPlace), DataW.trod enc P W 0 (fun _ => true) true fuel T cs = some x → ∃ y, s.rep W (fun b => b < W.heap.size) cs y ∧ ok y
def i64ok (n : Int) : Prop := -9223372036854775808 ≤ n ∧ n ≤ 9223372036854775807
theorem reads_i64 {T : TypeId} (h : P.underlying T = some (.int .i64)) : Reads enc P W T (intS .i64) i64ok := by
  intro fuel cs x hx
  obtain ⟨n, rfl, _, hw⟩ := DataW.trod_int h hx
  refine ⟨n, rfl, ?_⟩
  simp only [Lit.wf, Bool.and_eq_true, decide_eq_true_eq] at hw
  exact hw
theorem reads_u8 {T : TypeId} (h : P.underlying T = some (.int .u8)) : Reads enc P W T (intS .u8) (fun n => 0 ≤ n ∧ n ≤ 255) := by
  intro fuel cs x hx
  obtain ⟨n, rfl, _, hw⟩ := DataW.trod_int h hx
  refine ⟨n, rfl, ?_⟩
  simp only [Lit.wf, Bool.and_eq_true, decide_eq_true_eq] at hw
  exact hw
theorem reads_string {T : TypeId} (h : P.underlying T = some .string) : Reads enc P W T strS (fun s => s.length ≤ maxLen) := by
  intro fuel cs x hx
  obtain ⟨s, rfl, _, hw⟩ := DataW.trod_string h hx
  exact ⟨s.data.toList, rfl, by simpa using hw⟩
/-- The cells of a struct of numbers only. -/
def i64Struct (P : Program) (T : TypeId) (n : Nat) : Bool := match P.underlying T with
  | some (.struct fs) => fs.size == n && P.cellsOf T == n && (List.range n).all fun j => match fs[j]? with
    | some f => f.offset == j && P.cellsOf f.type == 1 && (match P.underlying f.type with | some (.int .i64) => true | _ => false)
    | none => false
  | _ => false
theorem reads_i64s {T : TypeId} {n : Nat} (h : i64Struct P T n = true) {fuel : Nat} {cs : List Value} {x : DataW H × List MemPlace} (hx : DataW.trod enc P W 0 (fun _ => true) true fuel T cs = some x) :
    ∃ zs : List Int, cs = zs.map (Value.int .i64) ∧ zs.length = n ∧ ∀ z ∈ zs, i64ok z := by
  unfold i64Struct at h
  split at h
  case h_2 => cases h
  rename_i fs hu
  simp only [Bool.and_eq_true, beq_iff_eq, List.all_eq_true] at h
  obtain ⟨⟨hsz, hce⟩, hall⟩ := h
  obtain ⟨xs, k, _, _, hlen, hxl, hf⟩ := DataW.trod_struct hu hx
  have each : ∀ j, j < n → ∃ z, cs[j]? = some (.int .i64 z) ∧ i64ok z := by
    intro j hj
    have hj2 := hall j (List.mem_range.2 hj)
    cases hfj : fs[j]? with
    | none => rw [hfj] at hj2; cases hj2
    | some f =>
      rw [hfj] at hj2
      simp only [Bool.and_eq_true, beq_iff_eq] at hj2
      obtain ⟨⟨ho, hc1⟩, hty⟩ := hj2
      have hint : P.underlying f.type = some (.int .i64) := by
        split at hty
        · assumption
        · cases hty
      have hr := hf j f hfj
      have hxj : ∃ y, xs[j]? = some y := ⟨xs[j]'(by omega), List.getElem?_eq_getElem _⟩
      obtain ⟨y, hy⟩ := hxj
      rw [hy, ho, hc1] at hr
      obtain ⟨z, hz, _, hw⟩ := DataW.trod_int hint hr
      refine ⟨z, ?_, ?_⟩
      · have : ((cs.drop j).take 1)[0]? = some (.int .i64 z) := by rw [hz]; rfl
        rw [List.getElem?_take, if_pos (by omega), List.getElem?_drop] at this
        simpa using this
      · simp only [Lit.wf, Bool.and_eq_true, decide_eq_true_eq] at hw
        exact hw
  have hex : ∀ m, m ≤ n → ∃ zs : List Int, cs.take m = zs.map (Value.int .i64) ∧ zs.length = m ∧ ∀ z ∈ zs, i64ok z := by
    intro m
    induction m with
    | zero => intro _; exact ⟨[], by simp, rfl, by simp⟩
    | succ m ih =>
      intro hm
      obtain ⟨zs, h1, h2, h3⟩ := ih (by omega)
      obtain ⟨z, hz1, hz2⟩ := each m (by omega)
      refine ⟨zs ++ [z], ?_, by simp [h2], ?_⟩
      · rw [List.take_add_one, h1, hz1]; simp
      · intro y hy
        rcases List.mem_append.1 hy with hy | hy
        · exact h3 y hy
        · have : y = z := by simpa using hy
          subst this; exact hz2
  obtain ⟨zs, h1, h2, h3⟩ := hex n (Nat.le_refl _)
  rw [List.take_of_length_le (by omega)] at h1
  exact ⟨zs, h1, h2, h3⟩
/-- A slice. -/
theorem reads_slice {α : Type} {t T : TypeId} {s : Shape α} {ok : α → Prop} (ht : P.underlying t = some (.slice T)) (hs : P.cellsOf T = s.size) (hpos : 0 < s.size) (h : Reads enc P W T s ok) :
    Reads enc P W t (sliceS false T s) (fun xs => xs.length ≤ maxLen ∧ ∀ x ∈ xs, ok x) := by
  intro fuel cs x hx
  rcases Go.Deep.open_slice ht hx with ⟨rfl, _⟩ | ⟨a, len, cap, m, n, D, Pl, rfl, _, hl, hm, hmm, _, hel⟩
  · exact ⟨[], ⟨none, 0, rfl, Nat.le_refl _, (fun h => by cases h), fun h => absurd rfl h⟩, by simp, by simp⟩
  · have hlm : len ≤ m := by rw [hmm]; split <;> omega
    have each : ∀ i, i < len → ∃ y, (∃ ds, s.rep W (fun b => b < W.heap.size) ds y ∧ ds.length = s.size ∧ ∀ j, j < s.size → W.cell? ((a.add (i * s.size)).add j) = ds[j]?) ∧ ok y := by
      intro i hi
      obtain ⟨cs', h1, h2⟩ := hel i (by omega)
      rw [hs] at h1
      obtain ⟨_, hlen, hcell⟩ := World.cells?_some h1
      obtain ⟨y, hy, hok⟩ := h _ _ _ h2
      exact ⟨y, ⟨cs', hy, hlen, hcell⟩, hok⟩
    have hex : ∀ k, k ≤ len → ∃ ys : List α, ys.length = k ∧ ∀ i y, ys[i]? = some y → (∃ ds, s.rep W (fun b => b < W.heap.size) ds y ∧ ds.length = s.size ∧ ∀ j, j < s.size → W.cell? ((a.add (i * s.size)).add j) = ds[j]?) ∧ ok y := by
      intro k
      induction k with
      | zero => intro _; exact ⟨[], rfl, by simp⟩
      | succ k ih =>
        intro hk
        obtain ⟨ys, h1, h2⟩ := ih (by omega)
        obtain ⟨y, hy⟩ := each k (by omega)
        refine ⟨ys ++ [y], by simp [h1], fun i z hz => ?_⟩
        rw [List.getElem?_append] at hz
        split at hz
        · exact h2 i z hz
        · rename_i hi
          have hi2 : i = k := by
            have := (List.getElem?_eq_some_iff.1 hz).1
            simp at this; omega
          subst hi2
          rw [h1, Nat.sub_self] at hz
          have : y = z := by simpa using hz
          subst this; exact hy
    obtain ⟨ys, h1, h2⟩ := hex len (Nat.le_refl _)
    refine ⟨ys, ⟨some a, cap, by rw [h1], by omega, (fun h => by cases h), fun hne => ⟨a, rfl, ?_⟩⟩, by unfold maxLen at *; omega, fun y hy => ?_⟩
    · have h0 : ∃ y, ys[0]? = some y := by
        cases ys with
        | nil => exact absurd rfl hne
        | cons y r => exact ⟨y, rfl⟩
      obtain ⟨y0, hy0⟩ := h0
      obtain ⟨⟨ds, hr, hdl, hc⟩, _⟩ := h2 0 y0 hy0
      have hc0 := hc 0 hpos
      have hd0 : ∃ u, ds[0]? = some u := ⟨ds[0]'(by omega), List.getElem?_eq_getElem _⟩
      obtain ⟨u, hu⟩ := hd0
      rw [hu, Nat.zero_mul] at hc0
      have e0 : (a.add 0).add 0 = a := rfl
      rw [e0] at hc0
      have hsp : a.spot = none ∧ a.block < W.heap.size := by
        unfold World.cell? at hc0
        split at hc0
        · rename_i hb
          split at hc0
          · cases hc0
          · rename_i hsp
            exact ⟨by simpa using hsp, (Array.getElem?_eq_some_iff.1 hb).1⟩
        · cases hc0
      refine ⟨hsp.1, hsp.2, fun i x hx => ?_⟩
      obtain ⟨⟨es, er, edl, ec⟩, _⟩ := h2 i x hx
      refine ⟨es, er, fun j v hv => ?_⟩
      have hj : j < s.size := by have := (List.getElem?_eq_some_iff.1 hv).1; omega
      have := ec j hj
      rw [hv] at this
      have eA : (a.add (i * s.size)).add j = ⟨a.block, a.off + (i * s.size + j), none⟩ := by
        obtain ⟨b, off, sp⟩ := a
        have hsp' : sp = none := hsp.1
        subst hsp'
        unfold Addr.add
        split <;> split <;> simp_all [Nat.add_assoc]
      rwa [eA] at this
    · obtain ⟨i, hi⟩ := List.getElem?_of_mem hy
      exact (h2 i y hi).2
/-- An argument that is a slice. -/
theorem arg_slice {α : Type} {t T : TypeId} {s : Shape α} {ok : α → Prop} {r : Reach} {b0 : Nat} {v : Value} {d : DataW H} {ps : List MemPlace} (ht : P.underlying t = some (.slice T)) (hs : P.cellsOf T = s.size) (hpos : 0 < s.size) (h : Reads enc P W T s ok)
    (hval : Value.okWide P W r b0 t v) (hd : DataW.Trod enc P W 0 (fun _ => true) true t v d ps) :
    ∃ a c xs, v = .slice a (List.length xs) c ∧ (SL false T s a c xs).ro W (fun b => b < W.heap.size) ∧ xs.length ≤ maxLen ∧ ∀ x ∈ xs, ok x := by
  obtain ⟨a, len, cap, rfl⟩ := okWide_slice ht hval
  obtain ⟨fuel, hf⟩ := hd
  obtain ⟨xs, hrep, hok⟩ := reads_slice ht hs hpos h fuel _ _ hf
  have hrep0 := hrep
  obtain ⟨a', c', e, _, _⟩ := hrep
  have e' : a = a' ∧ len = xs.length ∧ cap = c' := by simpa [Value.cells] using e
  obtain ⟨rfl, rfl, rfl⟩ := e'
  have h3 : (Value.slice a xs.length cap).cells.toList = [Value.slice a xs.length cap] := rfl
  rw [h3] at hrep0
  exact ⟨a, cap, xs, rfl, hrep0, hok.1, hok.2⟩
/-- An argument that is a string. -/
theorem arg_string {t : TypeId} {r : Reach} {b0 : Nat} {v : Value} {d : DataW H} {ps : List MemPlace} (ht : P.underlying t = some .string)
    (hval : Value.okWide P W r b0 t v) (hd : DataW.Trod enc P W 0 (fun _ => true) true t v d ps) : ∃ s : List UInt8, v = str s ∧ s.length ≤ maxLen := by
  obtain ⟨b, rfl⟩ := okWide_string ht hval
  obtain ⟨fuel, hf⟩ := hd
  obtain ⟨s, e, _, hw⟩ := DataW.trod_string ht hf
  have e2 : b = s := by simpa [Value.cells] using e
  subst e2
  exact ⟨b.data.toList, rfl, by simpa using hw⟩
theorem arg_i64 {t : TypeId} {r : Reach} {b0 : Nat} {v : Value} {d : DataW H} {ps : List MemPlace} (ht : P.underlying t = some (.int .i64))
    (hval : Value.okWide P W r b0 t v) (hd : DataW.Trod enc P W 0 (fun _ => true) true t v d ps) : ∃ n : Int, v = .int .i64 n ∧ i64ok n := by
  obtain ⟨b, rfl⟩ := okWide_int ht hval
  obtain ⟨fuel, hf⟩ := hd
  obtain ⟨n, e, hok⟩ := reads_i64 (enc := enc) (W := W) ht fuel _ _ hf
  have e1 : [Value.int .i64 b] = [Value.int .i64 n] := e
  have e2 : b = n := by simpa using e1
  subst e2
  exact ⟨b, rfl, hok⟩
/-- An argument that is a struct of numbers. -/
theorem arg_i64s {t : TypeId} {n : Nat} {fs : Array Field} {r : Reach} {b0 : Nat} {v : Value} {d : DataW H} {ps : List MemPlace} (ht : P.underlying t = some (.struct fs)) (h : i64Struct P t n = true)
    (hval : Value.okWide P W r b0 t v) (hd : DataW.Trod enc P W 0 (fun _ => true) true t v d ps) : ∃ zs : List Int, v = .agg (zs.map (Value.int .i64)).toArray ∧ zs.length = n ∧ ∀ z ∈ zs, i64ok z := by
  obtain ⟨cs, rfl, _⟩ := okWide_struct ht hval
  obtain ⟨fuel, hf⟩ := hd
  obtain ⟨zs, e, hl, hok⟩ := reads_i64s h hf
  have e2 : cs.toList = zs.map (Value.int .i64) := by simpa [Value.cells] using e
  exact ⟨zs, by rw [← e2], hl, hok⟩
end
theorem cell_of_shapedOpen_iface {P : Program} {w : World} {g : Nat} {t : TypeId} {zero : Array Value} {ms : Array (String × TypeId)}
    (h : w.ShapedOpen P) (hg : g < P.globals.size)
    (h0 : ((begin P (fun _ _ => 0) default).world.heap[g]?).bind Obj.row? = some (zero, t)) (hz : zero.size = 1)
    (hb : P.buildable t = true) (hc : P.cellTypes P.depth t = some [t]) (hu : P.underlying t = some (.interface ms)) :
    ∃ v, w.cell? ⟨g, 0, none⟩ = some v ∧ (v = .nilIface ∨ ∃ u x, v = .iface u x) := by
  obtain ⟨cs, hh, hs, hr⟩ := h.1 g zero t hg h0
  obtain ⟨ts, hts, _, hall⟩ := hr hb
  rw [hc] at hts
  cases hts
  have h1 : 0 < cs.size := by omega
  obtain ⟨u, hu', hok⟩ := hall 0 cs[0] (by simp [h1])
  have : u = t := by simpa using hu'.symm
  subst this
  have hcell : w.cell? ⟨g, 0, none⟩ = some cs[0] := by simp [World.cell?, hh, h1]
  rw [hcell]
  unfold Cell.ok at hok
  rw [hu] at hok
  refine ⟨_, rfl, ?_⟩
  cases hv : cs[0] <;> rw [hv] at hok <;> simp at hok ⊢
theorem laid_err {P : Program} {W : World} {n nm : String} {d : DataW Unit} {g : Nat} {ti : TypeId} {ms : Array (String × TypeId)} (h : laidMetH P [(n, .iface nm d)] W) (hh : ([(n, DataW.iface nm d)].all fun x => x.2.handleName?.isNone) = true)
    (hg : P.globalNamed n = some g) (ht : (P.globals[g]?).map (·.type) = some ti) (hi : P.underlying ti = some (.interface ms)) : ∃ v, W.cell? ⟨g, 0, none⟩ = some v ∧ (v = .nilIface ∨ ∃ u x, v = .iface u x) := by
  rw [MakeChecks.laidMetH_plain _ _ _ hh] at h
  obtain ⟨ps, ⟨g0, t0, cs0, f0, p0, q0, hg0, ht0, hv0, hd0, _, e0⟩, _, _⟩ := h
  obtain rfl := Option.some.inj (hg.symm.trans hg0)
  obtain rfl := Option.some.inj (ht.symm.trans ht0)
  obtain ⟨f1, u, v, hcs, _⟩ := iface_of_trod hi hd0
  have h1 := World.var?_cell hg0 hv0 0
  have h2 : cs0[0]? = some (.iface u v) := by rw [← Array.getElem?_toList, hcs]; rfl
  exact ⟨.iface u v, by rw [← h2]; simpa using h1, Or.inr ⟨u, v, rfl⟩⟩
def litC (d : DataW Unit) : List Value := match d with
  | .agg xs => xs.flatMap fun x => match x with
    | .lit (.int k n) => [Value.int k n]
    | .agg ys => ys.flatMap fun y => match y with
      | .lit (.int k n) => [Value.int k n]
      | _ => []
    | _ => []
  | _ => []
theorem gErr_of {W : World} {g : Nat} (h : ∃ v, W.cell? ⟨g, 0, none⟩ = some v ∧ (v = .nilIface ∨ ∃ u x, v = .iface u x)) : (gErr g).ro W (fun b => b < W.heap.size) := by
  obtain ⟨v, hm, hv⟩ := h
  unfold World.cell? at hm
  split at hm
  · rename_i c T f hh
    simp only [Option.isSome_none, Bool.false_eq_true, if_false] at hm
    exact ⟨g, rfl, (Array.getElem?_eq_some_iff.1 hh).1, c, v, T, f, hh, hm, hv⟩
  · cases hm

/-- From a contract to a call: nothing is handed over to be written. -/
theorem calls_of_ok {P : Program} {f : FuncId} {args : List Value} {RosI RosV : List Item} {v : Value} (h : CallOK P f args [] RosI RosV (fun v' outs ros => v' = v ∧ outs = [] ∧ ros = [])) {W : World}
    (hI : ∀ o, o ∈ RosI → o.ro W (fun b => b < W.heap.size)) (hV : ∀ o, o ∈ RosV → o.ro W (fun b => b < W.heap.size)) : Calls P f args.toArray W fun e W' => e = .returned v ∧ Keep W W' [] :=
  (h W (fun b => b < W.heap.size) [] (fun b hb => ⟨hb, by simp⟩) rfl List.nodup_nil hI (fun o ho => o.sh.rep_mono (fun b hb => ⟨hb, by simp⟩) (hV o ho))).mono
    (fun e W' ⟨v', outs, ros, he, ⟨hv, _, _⟩, _, _, _, _, _, hk⟩ => ⟨by rw [he, hv], hk⟩)
/-- A table that the row lists, as an item. -/
theorem gTab_of {P : Program} {W : World} {name : String} {g : Nat} {k : IntKind} {zs : List Int} (hg : P.globalNamed name = some g) (h : Lib.TabIs P W name k zs) {cells : List Value} (hc : cells = zs.map fun z => Value.int k z) : (gTab g cells).ro W (fun b => b < W.heap.size) := by
  subst hc
  unfold Lib.TabIs World.var? at h
  rw [hg] at h
  simp only [Option.bind_some] at h
  split at h
  · rename_i cs T f hh
    refine ⟨g, rfl, (Array.getElem?_eq_some_iff.1 hh).1, T, f, ?_⟩
    rw [hh]
    have := Option.some.inj h
    rw [this]
  · cases h
theorem gNum_of {W : World} {g : Nat} (h : ∃ m, W.cell? ⟨g, 0, none⟩ = some (.int .i64 m)) : (gNum g).ro W (fun b => b < W.heap.size) := by
  obtain ⟨m, hm⟩ := h
  unfold World.cell? at hm
  split at hm
  · rename_i c T f hh
    simp only [Option.isSome_none, Bool.false_eq_true, if_false] at hm
    exact ⟨g, rfl, (Array.getElem?_eq_some_iff.1 hh).1, c, m, T, f, hh, hm⟩
  · cases hm
/-- Cells laid into a variable's block. -/
def layAt (h : Array Obj) (g : Nat) (cs : Array Value) : Array Obj := h.modify g fun
  | .cells _ t frozen => .cells cs t frozen
  | o => o
/-- The cells of a table of numbers. -/
def litCells (l : List (String × DataW Unit)) (name : String) : Array Value := match l.lookup name with
  | some (.agg xs) => (xs.map fun x => match x with | .lit (.int k n) => Value.int k n | _ => .bool true).toArray
  | _ => #[]
end Go.Proofs.YtneifoepoccjaaaGreatDoor
