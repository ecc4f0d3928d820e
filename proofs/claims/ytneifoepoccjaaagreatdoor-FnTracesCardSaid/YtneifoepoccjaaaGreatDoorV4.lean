/-
  The rules of a walk for operations on memory, in plain words: addresses of elements, loads, stores, new blocks, slices made and grown. No program in sight.
-/
import Derived.Test.YtneifoepoccjaaaGreatDoorV3
namespace Go.Proofs.YtneifoepoccjaaaGreatDoor

/-- Cells at an address stand for a datum: 'cs' is the pointer. -/
def atS {α : Type} (s : Shape α) : Shape α where
  size := 1
  rep := fun w S cs x => ∃ p, cs = [.pointer (some p)] ∧ p.spot = none ∧ S p.block ∧ ∃ ds, s.rep w S ds x ∧ ∀ (j : Nat) (v : Value), ds[j]? = some v → w.cell? ⟨p.block, p.off + j, none⟩ = some v
  own := fun w S F cs x => F = [] ∧ ∃ p, cs = [.pointer (some p)] ∧ p.spot = none ∧ S p.block ∧ ∃ ds, s.rep w S ds x ∧ ∀ (j : Nat) (v : Value), ds[j]? = some v → w.cell? ⟨p.block, p.off + j, none⟩ = some v
  len := fun ⟨_, e, _⟩ => by rw [e]; rfl
  rep_frame := fun h ⟨p, e, h0, hS, ds, hr, hc⟩ => ⟨p, e, h0, hS, ds, s.rep_frame h hr, fun j v hv => (World.cell?_of_block (a := ⟨p.block, p.off + j, none⟩) (h p.block hS)).trans (hc j v hv)⟩
  rep_mono := fun h ⟨p, e, h0, hS, ds, hr, hc⟩ => ⟨p, e, h0, h _ hS, ds, s.rep_mono h hr, hc⟩
  own_frame := fun h _ ⟨eF, p, e, h0, hS, ds, hr, hc⟩ => ⟨eF, p, e, h0, hS, ds, s.rep_frame h hr, fun j v hv => (World.cell?_of_block (a := ⟨p.block, p.off + j, none⟩) (h p.block hS)).trans (hc j v hv)⟩
  own_mono := fun h ⟨eF, p, e, h0, hS, ds, hr, hc⟩ => ⟨eF, p, e, h0, h _ hS, ds, s.rep_mono h hr, hc⟩
  own_rep := fun ⟨_, p, e, h0, hS, ds, hr, hc⟩ => ⟨p, e, h0, Or.inl hS, ds, s.rep_mono (fun _ hb => Or.inl hb) hr, hc⟩
  own_lt := fun ⟨e, _⟩ b hb => by rw [e] at hb; cases hb

abbrev SL {α : Type} (nt : Bool) (T : TypeId) (s : Shape α) (a : Option Addr) (c : Nat) (xs : List α) : Item := ⟨List α, sliceS nt T s, [.slice a xs.length c], xs⟩
abbrev BK (T : TypeId) (b : Nat) (cells : List Value) : Item := ⟨List Value, blkS T, [.pointer (some ⟨b, 0, none⟩)], cells⟩
abbrev AT {α : Type} (s : Shape α) (p : Addr) (x : α) : Item := ⟨α, atS s, [.pointer (some p)], x⟩

def isOne (P : Program) (t : TypeId) : Bool := match P.underlying t with | some (.struct _) => false | some (.array _ _) => false | some _ => true | none => false
def isMany (P : Program) (t : TypeId) : Bool := match P.underlying t with | some (.struct _) => true | some (.array _ _) => true | _ => false
/-- An element by a Go index. -/
def idxO {α : Type} (xs : List α) (i : Int) : Option α := if 0 ≤ i then xs[i.toNat]? else none
theorem idxO_some {α : Type} {xs : List α} {i : Int} {x : α} (h : idxO xs i = some x) : 0 ≤ i ∧ i.toNat < xs.length ∧ xs[i.toNat]? = some x := by
  unfold idxO at h
  split at h
  · exact ⟨by assumption, (List.getElem?_eq_some_iff.1 h).1, h⟩
  · cases h

theorem mem_at {α : Type 1} {l : List α} (i : Nat) {x : α} (h : l[i]? = some x) : x ∈ l := List.mem_of_getElem? h

/-- Cells that a fact gives. -/
def HasCells (o : Item) (p : Addr) (cs : List Value) : Prop := ∀ w S, o.ro w S → p.spot = none ∧ ∀ (j : Nat) (v : Value), cs[j]? = some v → w.cell? ⟨p.block, p.off + j, none⟩ = some v
theorem hasBK {T : TypeId} {b : Nat} {cells : List Value} : HasCells (BK T b cells) ⟨b, 0, none⟩ cells := by
  rintro w S ⟨b', e, _, hc⟩
  have e' : b = b' := by simpa using e
  subst e'
  exact ⟨rfl, fun j v hv => by simpa using hc j v hv⟩
theorem hasAT {α : Type} {m : Nat} {enc : α → List Value} {hn : ∀ x, (enc x).length = m} {p : Addr} {x : α} : HasCells (AT (flatS m enc hn) p x) p (enc x) := by
  rintro w S ⟨p', e, h0, _, ds, hr, hc⟩
  have e' : p = p' := by simpa using e
  subst e'
  have hr' : ds = enc x := hr
  subst hr'
  exact ⟨h0, hc⟩

section
variable {P : Program} {c : Ctx} {n : Nat} {Q : Exit → Act → World → Prop} {E E' : Slots} {Rs Xs Os Vs : List Item} {ops : Array Oper} {l : List Oper} {o : Oper}
variable {d : Nat} {ty : TypeId} {pos : String} {aft : Array Edge} {gd : Option (Nat × Bool)}

theorem cells_add {w : World} {p : Addr} {cs : List Value} (h0 : p.spot = none) (h : ∀ (j : Nat) (v : Value), cs[j]? = some v → w.cell? ⟨p.block, p.off + j, none⟩ = some v) (k : Nat) :
    ∀ (j : Nat) (v : Value), (cs.drop k)[j]? = some v → w.cell? ((p.add k).add j) = some v := by
  intro j v hv
  have e : (p.add k).add j = ⟨p.block, p.off + (k + j), none⟩ := by
    obtain ⟨b, off, sp⟩ := p
    simp only at h0
    subst h0
    unfold Addr.add
    split <;> split <;> simp_all [Nat.add_assoc]
  rw [e]
  exact h (k + j) v (by rw [List.getElem?_drop] at hv; exact hv)

theorem run_loadOne {w : World} {t : TypeId} {q : Addr} {v : Value} (ht : isOne P t = true) (h : w.cell? q = some v) : (Instr.loadAt t (.pointer (some q))).run P w = .ok v w := by
  cases hu : P.underlying t with
  | none => first | (unfold isOne at ht; rw [hu] at ht; cases ht) | (unfold isMany at ht; rw [hu] at ht; cases ht)
  | some dsc =>
    have ha : (isAgg t).run P w = .ok false w := by
      unfold isOne at ht
      rw [hu] at ht
      simp only [isAgg, Sem.run_bind, run_underlying hu, Result.andThen_ok]
      cases dsc <;> first | rfl | cases ht
    simp [Instr.loadAt, Instr.sureAddr, loadVar, ha, h]
theorem run_loadAgg {w : World} {t : TypeId} {q : Addr} {vs : List Value} (ht : isMany P t = true) (hs : (P.info? t).map (·.size) = some vs.length)
    (h : ∀ (j : Nat) (v : Value), vs[j]? = some v → w.cell? (q.add j) = some v) : (Instr.loadAt t (.pointer (some q))).run P w = .ok (.agg vs.toArray) w := by
  obtain ⟨i, hi, hz⟩ := Option.map_eq_some_iff.1 hs
  cases hu : P.underlying t with
  | none => first | (unfold isOne at ht; rw [hu] at ht; cases ht) | (unfold isMany at ht; rw [hu] at ht; cases ht)
  | some dsc =>
    have ha : (isAgg t).run P w = .ok true w := by
      unfold isMany at ht
      rw [hu] at ht
      simp only [isAgg, Sem.run_bind, run_underlying hu, Result.andThen_ok]
      cases dsc <;> first | rfl | cases ht
    have hl := run_loadCells_list (P := P) w q vs h
    simp [Instr.loadAt, Instr.sureAddr, loadVar, ha, sizeOf, typeInfo, hi, hz, hl]

/-- LOAD of one cell. -/
theorem gl_ld1 {t : TypeId} {X : Operand} {p q : Addr} {cs : List Value} {it : Item} {v : Value} (off : Nat) (hc : HasCells it p cs) (hm : it ∈ Rs ++ (Vs ++ (Os ++ Xs))) (hX : ev E X = some (.pointer (some q))) (hq : q = p.add off)
    (ht : isOne P t = true) (hv : cs[off]? = some v) (hw : wantE ops E ⟨some d, .load t X, ty, pos, aft, gd⟩ = some true) (hd : Nat.blt d n = true)
    (h : GL P c n ops Q l ((d, v) :: E) Rs Xs Os Vs) : GL P c n ops Q (⟨some d, .load t X, ty, pos, aft, gd⟩ :: l) E Rs Xs Os Vs := by
  refine gl_op (v := v) hw (by simp [known, notSelect, Op.operands, hX]) (by simp [stepE, hd]) (fun w hS => ⟨w, ?_, hS⟩) h
  obtain ⟨h0, hcell⟩ := hc w _ (hS.all hm)
  have h1 := cells_add h0 hcell off 0 v (by simpa using hv)
  have e0 : (p.add off).add 0 = p.add off := rfl
  rw [e0, ← hq] at h1
  simp [execOp, rho, hX, run_loadOne ht h1]
/-- LOAD of a struct or an array. -/
theorem gl_ldA {t : TypeId} {X : Operand} {p q : Addr} {cs vs : List Value} {it : Item} (off : Nat) (hc : HasCells it p cs) (hm : it ∈ Rs ++ (Vs ++ (Os ++ Xs))) (hX : ev E X = some (.pointer (some q))) (hq : q = p.add off)
    (ht : isMany P t = true) (hs : (P.info? t).map (·.size) = some vs.length) (hv : (cs.drop off).take vs.length = vs) (hw : wantE ops E ⟨some d, .load t X, ty, pos, aft, gd⟩ = some true) (hd : Nat.blt d n = true)
    (h : GL P c n ops Q l ((d, .agg vs.toArray) :: E) Rs Xs Os Vs) : GL P c n ops Q (⟨some d, .load t X, ty, pos, aft, gd⟩ :: l) E Rs Xs Os Vs := by
  refine gl_op (v := .agg vs.toArray) hw (by simp [known, notSelect, Op.operands, hX]) (by simp [stepE, hd]) (fun w hS => ⟨w, ?_, hS⟩) h
  obtain ⟨h0, hcell⟩ := hc w _ (hS.all hm)
  have h1 : ∀ (j : Nat) (v : Value), vs[j]? = some v → w.cell? (q.add j) = some v := fun j v hj => by
    rw [hq]
    refine cells_add h0 hcell off j v ?_
    rw [← hv, List.getElem?_take] at hj
    split at hj
    · exact hj
    · cases hj
  simp [execOp, rho, hX, run_loadAgg ht hs h1]

/-- An element's address: what is known of it. -/
theorem idx_run {α : Type} {s : Shape α} {nt : Bool} {T t : TypeId} {a : Option Addr} {cp : Nat} {xs : List α} {k : IntKind} {i : Int} {y : α} (ht : P.underlying t = some (.slice T)) (hsz : (P.info? T).map (·.size) = some s.size) (hy : idxO xs i = some y)
    {w : World} {S : Nat → Prop} (hr : (SL nt T s a cp xs).ro w S) : ∃ p, a.map (fun A => A.add (i.toNat * s.size)) = some p ∧ (Instr.indexAt t (.slice a xs.length cp) (.int k i)).run P w = .ok (.pointer (some p)) w ∧ (AT s p y).ro w S := by
  obtain ⟨h0, hlt, hx⟩ := idxO_some hy
  obtain ⟨a', c', e, _, _, hA⟩ := hr
  have e' : a = a' ∧ cp = c' := by simpa using e
  obtain ⟨rfl, rfl⟩ := e'
  obtain ⟨A, rfl, hsp, hSA, hrep⟩ := hA (by intro h; have h' : xs = [] := h; rw [h'] at hlt; simp at hlt)
  obtain ⟨ds, hds, hcell⟩ := hrep _ y hx
  obtain ⟨inf, hi, hz⟩ := Option.map_eq_some_iff.1 hsz
  have ep : A.add (i.toNat * s.size) = ⟨A.block, A.off + i.toNat * s.size, none⟩ := by
    obtain ⟨b, off, sp⟩ := A
    simp only at hsp
    subst hsp
    unfold Addr.add
    split <;> simp_all
  refine ⟨A.add (i.toNat * s.size), rfl, ?_, ⟨_, rfl, by rw [ep], by rw [ep]; exact hSA, ds, hds, fun j v hj => ?_⟩⟩
  · have hlt' : i < (xs.length : Int) := by omega
    simp [Instr.indexAt, asIntOf, run_underlying ht, h0, hlt', sizeOf, typeInfo, hi, hz]
  · rw [ep]
    have := hcell j v hj
    simpa [Nat.add_assoc] using this
/-- INDEX of a slice that is a fact that stands fast. -/
theorem gl_idxO {α : Type} {s : Shape α} {nt : Bool} {T t : TypeId} {a : Option Addr} {cp : Nat} {xs : List α} {x ix : Operand} {k : IntKind} {i : Int} {y : α} (hm : SL nt T s a cp xs ∈ Os ++ Xs) (hx : ev E x = some (.slice a xs.length cp)) (hi : ev E ix = some (.int k i))
    (ht : P.underlying t = some (.slice T)) (hsz : (P.info? T).map (·.size) = some s.size) (hy : idxO xs i = some y) (hw : wantE ops E ⟨some d, .indexAddr t x ix, ty, pos, aft, gd⟩ = some true) (hd : Nat.blt d n = true)
    (h : ∀ p, GL P c n ops Q l ((d, .pointer (some p)) :: E) Rs Xs (AT s p y :: Os) Vs) : GL P c n ops Q (⟨some d, .indexAddr t x ix, ty, pos, aft, gd⟩ :: l) E Rs Xs Os Vs := by
  refine gl_opx (ι := Addr) (V := fun p => .pointer (some p)) (EE := fun p => (d, .pointer (some p)) :: E) (RR := fun _ => Rs) (OO := fun p => AT s p y :: Os) (VV := fun _ => Vs) (XX := fun _ => Xs) hw (by simp [known, notSelect, Op.operands, hx, hi]) (fun p => by simp [stepE, hd]) (fun w hS => ?_) h
  obtain ⟨p, _, h2, _⟩ := idx_run (k := k) ht hsz hy (hS.all (List.mem_append.2 (Or.inr (List.mem_append.2 (Or.inr hm)))))
  refine ⟨p, w, by simp [execOp, rho, hx, hi, h2], hS.addO hm (fun S hr => ?_)⟩
  obtain ⟨p', h1', h2', h3'⟩ := idx_run (k := k) ht hsz hy hr
  have e : p' = p := by rw [h2] at h2'; simpa using h2'.symm
  subst e
  exact h3'
/-- INDEX of whatever slice can be read. -/
theorem gl_idxV {α : Type} {s : Shape α} {nt : Bool} {T t : TypeId} {a : Option Addr} {cp : Nat} {xs : List α} {x ix : Operand} {k : IntKind} {i : Int} {y : α} (hm : SL nt T s a cp xs ∈ Rs ++ (Vs ++ (Os ++ Xs))) (hx : ev E x = some (.slice a xs.length cp)) (hi : ev E ix = some (.int k i))
    (ht : P.underlying t = some (.slice T)) (hsz : (P.info? T).map (·.size) = some s.size) (hy : idxO xs i = some y) (hw : wantE ops E ⟨some d, .indexAddr t x ix, ty, pos, aft, gd⟩ = some true) (hd : Nat.blt d n = true)
    (h : ∀ p, a.map (fun A => A.add (i.toNat * s.size)) = some p → GL P c n ops Q l ((d, .pointer (some p)) :: E) Rs Xs Os (AT s p y :: Vs)) : GL P c n ops Q (⟨some d, .indexAddr t x ix, ty, pos, aft, gd⟩ :: l) E Rs Xs Os Vs := by
  refine gl_opx (ι := { p : Addr // a.map (fun A => A.add (i.toNat * s.size)) = some p }) (V := fun p => .pointer (some p.1)) (EE := fun p => (d, .pointer (some p.1)) :: E) (RR := fun _ => Rs) (OO := fun _ => Os) (VV := fun p => AT s p.1 y :: Vs) (XX := fun _ => Xs) hw (by simp [known, notSelect, Op.operands, hx, hi]) (fun p => by simp [stepE, hd]) (fun w hS => ?_) (fun p => h p.1 p.2)
  obtain ⟨p, h1, h2, _⟩ := idx_run (k := k) ht hsz hy (hS.all hm)
  refine ⟨⟨p, h1⟩, w, by simp [execOp, rho, hx, hi, h2], hS.addV hm (fun S hr => ?_)⟩
  obtain ⟨p', h1', h2', h3'⟩ := idx_run (k := k) ht hsz hy hr
  have e : p' = p := by rw [h2] at h2'; simpa using h2'.symm
  subst e
  exact h3'

/-- What an address that holds a slice's header gives. -/
theorem ldS_parts {α : Type} {s : Shape α} {nt : Bool} {T : TypeId} {p : Addr} {ys : List α} {w : World} {S : Nat → Prop} (h : (AT (sliceS nt T s) p ys).ro w S) :
    ∃ a cp, w.cell? p = some (.slice a ys.length cp) ∧ (SL nt T s a cp ys).ro w S ∧ (AT valS p (.slice a ys.length cp)).ro w S := by
  obtain ⟨p', e, h0, hS, ds, ⟨a, cp, eds, hl, hn, hr⟩, hc⟩ := h
  have e' : p = p' := by simpa using e
  subst e'
  subst eds
  have hcell := hc 0 _ rfl
  have ep : (⟨p.block, p.off + 0, none⟩ : Addr) = p := by
    obtain ⟨b, off, sp⟩ := p
    simp only at h0
    subst h0
    rfl
  rw [ep] at hcell
  exact ⟨a, cp, hcell, ⟨a, cp, rfl, hl, hn, hr⟩, ⟨p, rfl, h0, hS, [.slice a ys.length cp], rfl, hc⟩⟩
/-- LOAD of a slice's header out of a row of slices (a fact that stands fast). -/
theorem gl_ldSO {α : Type} {s : Shape α} {nt : Bool} {T t : TypeId} {p : Addr} {ys : List α} {X : Operand} (hm : AT (sliceS nt T s) p ys ∈ Os ++ Xs) (hX : ev E X = some (.pointer (some p))) (ht : isOne P t = true)
    (hw : wantE ops E ⟨some d, .load t X, ty, pos, aft, gd⟩ = some true) (hd : Nat.blt d n = true)
    (h : ∀ a cp, GL P c n ops Q l ((d, .slice a ys.length cp) :: E) Rs Xs (SL nt T s a cp ys :: Os) Vs) : GL P c n ops Q (⟨some d, .load t X, ty, pos, aft, gd⟩ :: l) E Rs Xs Os Vs := by
  refine gl_opx (ι := Option Addr × Nat) (V := fun q => .slice q.1 ys.length q.2) (EE := fun q => (d, .slice q.1 ys.length q.2) :: E) (RR := fun _ => Rs) (OO := fun q => SL nt T s q.1 q.2 ys :: Os) (VV := fun _ => Vs) (XX := fun _ => Xs) hw (by simp [known, notSelect, Op.operands, hX]) (fun p => by simp [stepE, hd]) (fun w hS => ?_) (fun q => h q.1 q.2)
  obtain ⟨a, cp, h1, _, _⟩ := ldS_parts (hS.all (List.mem_append.2 (Or.inr (List.mem_append.2 (Or.inr hm)))))
  refine ⟨(a, cp), w, by simp [execOp, rho, hX, run_loadOne ht h1], hS.addO hm (fun S hr => ?_)⟩
  obtain ⟨a', cp', h1', h2', _⟩ := ldS_parts hr
  have e : a = a' ∧ cp = cp' := by rw [h1] at h1'; simpa using h1'
  obtain ⟨rfl, rfl⟩ := e
  exact h2'
/-- The same out of whatever can be read: two views, the row and the cell that holds its header. -/
theorem gl_ldSV {α : Type} {s : Shape α} {nt : Bool} {T t : TypeId} {p : Addr} {ys : List α} {X : Operand} (hm : AT (sliceS nt T s) p ys ∈ Rs ++ (Vs ++ (Os ++ Xs))) (hX : ev E X = some (.pointer (some p))) (ht : isOne P t = true)
    (hw : wantE ops E ⟨some d, .load t X, ty, pos, aft, gd⟩ = some true) (hd : Nat.blt d n = true)
    (h : ∀ a cp, GL P c n ops Q l ((d, .slice a ys.length cp) :: E) Rs Xs Os (SL nt T s a cp ys :: AT valS p (.slice a ys.length cp) :: Vs)) : GL P c n ops Q (⟨some d, .load t X, ty, pos, aft, gd⟩ :: l) E Rs Xs Os Vs := by
  refine gl_opx (ι := Option Addr × Nat) (V := fun q => .slice q.1 ys.length q.2) (EE := fun q => (d, .slice q.1 ys.length q.2) :: E) (RR := fun _ => Rs) (OO := fun _ => Os) (VV := fun q => SL nt T s q.1 q.2 ys :: AT valS p (.slice q.1 ys.length q.2) :: Vs) (XX := fun _ => Xs) hw (by simp [known, notSelect, Op.operands, hX]) (fun p => by simp [stepE, hd]) (fun w hS => ?_) (fun q => h q.1 q.2)
  obtain ⟨a, cp, h1, _, _⟩ := ldS_parts (hS.all hm)
  have same : ∀ S, (AT (sliceS nt T s) p ys).ro w S → (SL nt T s a cp ys).ro w S ∧ (AT valS p (.slice a ys.length cp)).ro w S := fun S hr => by
    obtain ⟨a', cp', h1', h2', h3'⟩ := ldS_parts hr
    have e : a = a' ∧ cp = cp' := by rw [h1] at h1'; simpa using h1'
    obtain ⟨rfl, rfl⟩ := e
    exact ⟨h2', h3'⟩
  have hS1 := hS.addV hm (o' := AT valS p (.slice a ys.length cp)) (fun S hr => (same S hr).2)
  refine ⟨(a, cp), w, by simp [execOp, rho, hX, run_loadOne ht h1], hS1.addV (o := AT (sliceS nt T s) p ys) ?_ (fun S hr => (same S hr).1)⟩
  rcases List.mem_append.1 hm with h1 | h1
  · exact List.mem_append.2 (Or.inl h1)
  · exact List.mem_append.2 (Or.inr (List.mem_cons_of_mem _ h1))

/-- A NEW BLOCK: 'alloc', 'box'. -/
theorem gl_new {T : TypeId} (cells : List Value) (hw : wantE ops E o = some true) (hk : (notSelect o.op && known E o) = true) (hs : ∀ v, stepE n E o v = some ((d, v) :: E))
    (hr : ∀ w, (execOp (rho E) o).run P w = .ok (.value (.pointer (some ⟨w.heap.size, 0, none⟩))) (w.alloc (.cells cells.toArray T)))
    (h : ∀ b, GL P c n ops Q l ((d, .pointer (some ⟨b, 0, none⟩)) :: E) (BK T b cells :: Rs) Xs Os Vs) : GL P c n ops Q (o :: l) E Rs Xs Os Vs := by
  refine gl_opx (ι := Nat) (V := fun b => .pointer (some ⟨b, 0, none⟩)) (EE := fun b => (d, .pointer (some ⟨b, 0, none⟩)) :: E) (RR := fun b => BK T b cells :: Rs) (OO := fun _ => Os) (VV := fun _ => Vs) (XX := fun _ => Xs) hw hk (fun b => hs _) (fun w hS => ⟨w.heap.size, _, hr w, ?_⟩) h
  refine hS.fresh (Rout := [BK T w.heap.size cells]) (Fout := [w.heap.size]) (Keep.alloc w _ []) (fun S _ => ⟨[w.heap.size], [], rfl, ⟨_, rfl, rfl, heap_alloc_new w _⟩, rfl⟩) (by simp) (fun b hb => ?_)
  have e : b = w.heap.size := by simpa using hb
  subst e
  simp

/-- A NEW ROW of elements without pointers: a slice's literal. -/
theorem own_made {α : Type} {m : Nat} {enc : α → List Value} {hn : ∀ x, (enc x).length = m} (nt : Bool) (T : TypeId) (xs : List α) (w : World) (S : Nat → Prop) (hnt : nt = true → xs ≠ []) (hlen : xs.length ≤ maxLen) :
    (SL nt T (flatS m enc hn) (some ⟨w.heap.size, 0, none⟩) xs.length xs).owned (w.alloc (.cells (xs.flatMap enc).toArray T)) S [w.heap.size] := by
  have hl : (xs.flatMap enc).length = xs.length * m := by
    have := OwnL.length (s := flatS m enc hn) (w := w) (S := S) (OwnL.flat (xs := xs))
    exact this
  refine ⟨.slice (some ⟨w.heap.size, 0, none⟩) xs.length xs.length, xs.flatMap enc, [], rfl, ⟨_, _, rfl, fun h => ⟨fun e => (by cases e), fun e => absurd e (hnt h)⟩⟩, ⟨hl, Or.inr ⟨w.heap.size, xs.length, (xs.flatMap enc).toArray, rfl, Nat.zero_le _, heap_alloc_new w _, Nat.le_refl _, hlen, by rw [List.size_toArray]; exact hl, ?_⟩⟩, OwnL.flat, by simp [Value.ownBlock]⟩
  show (xs.flatMap enc).take (xs.length * m) = _
  rw [← hl, List.take_length]
theorem gl_lit {α : Type} {m : Nat} {enc : α → List Value} {hn : ∀ x, (enc x).length = m} (nt : Bool) {T : TypeId} (xs : List α) (hw : wantE ops E o = some true) (hk : (notSelect o.op && known E o) = true) (hs : ∀ v, stepE n E o v = some ((d, v) :: E))
    (hnt : nt = true → xs ≠ []) (hlen : xs.length ≤ maxLen)
    (hr : ∀ w, (execOp (rho E) o).run P w = .ok (.value (.slice (some ⟨w.heap.size, 0, none⟩) xs.length xs.length)) (w.alloc (.cells (xs.flatMap enc).toArray T)))
    (h : ∀ a cp, GL P c n ops Q l ((d, .slice a xs.length cp) :: E) (SL nt T (flatS m enc hn) a cp xs :: Rs) Xs Os Vs) : GL P c n ops Q (o :: l) E Rs Xs Os Vs := by
  refine gl_opx (ι := Option Addr × Nat) (V := fun q => .slice q.1 xs.length q.2) (EE := fun q => (d, .slice q.1 xs.length q.2) :: E) (RR := fun q => SL nt T (flatS m enc hn) q.1 q.2 xs :: Rs) (OO := fun _ => Os) (VV := fun _ => Vs) (XX := fun _ => Xs) hw hk (fun b => hs _) (fun w hS => ⟨(some ⟨w.heap.size, 0, none⟩, xs.length), _, hr w, ?_⟩) (fun q => h q.1 q.2)
  refine hS.fresh (Rout := [SL nt T (flatS m enc hn) (some ⟨w.heap.size, 0, none⟩) xs.length xs]) (Fout := [w.heap.size]) (Keep.alloc w _ []) (fun S _ => ⟨[w.heap.size], [], rfl, own_made nt T xs w S hnt hlen, rfl⟩) (by simp) (fun b hb => ?_)
  have e : b = w.heap.size := by simpa using hb
  subst e
  simp
end
end Go.Proofs.YtneifoepoccjaaaGreatDoor
