/-
  More rules of a walk, in plain words: stores, slices that are made and grown, parts of slices; strings. No program in sight.
-/
import Derived.Test.YtneifoepoccjaaaGreatDoorV6
import Derived.Laws.AppendOwnNone
namespace Go.Proofs.YtneifoepoccjaaaGreatDoor

section
variable {P : Program} {c : Ctx} {n : Nat} {Q : Exit → Act → World → Prop} {E E' : Slots} {Rs Xs Os Vs : List Item} {ops : Array Oper} {l : List Oper} {o : Oper}
variable {d : Nat} {ty : TypeId} {pos : String} {aft : Array Edge} {gd : Option (Nat × Bool)}

/-- One region in front is changed, in its own blocks and new ones. -/
theorem St.write {w w' : World} {r r' : Item} (h : St c w (r :: Rs) Xs Os Vs)
    (hF : ∀ (S : Nat → Prop) F1, r.owned w S F1 → F1.Nodup → (∀ b, S b → b < w.heap.size ∧ b ∉ F1) → ∃ F2, (∀ S' : Nat → Prop, (∀ b, S b → S' b) → r'.owned w' S' F2) ∧ F2.Nodup ∧ (∀ b, b ∈ F2 → b < w'.heap.size ∧ (b ∈ F1 ∨ w.heap.size ≤ b)) ∧ Keep w w' F1) : St c w' (r' :: Rs) Xs Os [] := by
  obtain ⟨F, h⟩ := h
  obtain ⟨F1, Fr, e, h1, h2⟩ := h.owns
  subst e
  obtain ⟨F2, g1, g2, g3, g4⟩ := hF _ F1 h1 (List.nodup_append.1 h.nodup).1 (fun b hb => ⟨hb.2.1, fun h3 => hb.2.2 (List.mem_append.2 (Or.inl h3))⟩)
  have := StF.step (c := c) (Rout := [r']) (Fout := F2) h2 h.nodup h.lt h.xs h.os h.keep g4 (fun S hS1 _ => ⟨F2, [], by simp, g1 S hS1, rfl⟩) g2 g3
  exact ⟨F2 ++ Fr, this⟩

theorem Keep.setRow (w : World) (g : Nat) (cs : Array Value) : Keep w (w.setRow g cs) [g] :=
  ⟨rfl, rfl, rfl, by simp, fun b _ hn => setRow_other w g b cs (by simpa using hn)⟩

def splice (cs : List Value) (off : Nat) (vs : List Value) : List Value := cs.take off ++ vs ++ cs.drop (off + vs.length)
theorem splice_length {cs : List Value} {off : Nat} {vs : List Value} (h : off + vs.length ≤ cs.length) : (splice cs off vs).length = cs.length := by
  simp only [splice, List.length_append, List.length_take, List.length_drop]; omega

theorem splice_get {cs : List Value} {off : Nat} {vs : List Value} (h : off + vs.length ≤ cs.length) (j : Nat) : (splice cs off vs)[j]? = if j < off then cs[j]? else if j < off + vs.length then vs[j - off]? else cs[j]? := by
  unfold splice
  have h1 : (cs.take off).length = off := by rw [List.length_take]; omega
  by_cases hj : j < off
  · rw [if_pos hj, List.append_assoc, List.getElem?_append_left (by omega), List.getElem?_take, if_pos hj]
  · rw [if_neg hj]
    by_cases hj2 : j < off + vs.length
    · rw [if_pos hj2, List.getElem?_append_left (by rw [List.length_append]; omega), List.getElem?_append_right (by omega), h1]
    · rw [if_neg hj2, List.getElem?_append_right (by rw [List.length_append]; omega), List.length_append, h1, List.getElem?_drop]
      congr 1
      omega
theorem splice_take {cs : List Value} {off k : Nat} {vs : List Value} (h : off + vs.length ≤ k) (hk : k ≤ cs.length) : (splice cs off vs).take k = splice (cs.take k) off vs := by
  apply List.ext_getElem?
  intro j
  rw [List.getElem?_take, splice_get (by omega), splice_get (by rw [List.length_take]; omega)]
  by_cases hj : j < k
  · rw [if_pos hj]
    simp only [List.getElem?_take, hj, if_true]
  · rw [if_neg hj, if_neg (by omega), if_neg (by omega), List.getElem?_take, if_neg hj]
theorem run_store {w : World} {t : TypeId} {g off : Nat} {v : Value} {vs : List Value} {cur : Array Value} {T : TypeId} (hg : w.heap[g]? = some (.cells cur T (0, 0))) (hv : v.cells.toList = vs) (hs : (P.info? t).map (·.size) = some vs.length)
    (hone : vs.all Value.oneCell' = true) (hfit : off + vs.length ≤ cur.size) : (Instr.storeAt t (.pointer (some ⟨g, off, none⟩)) v).run P w = .ok () (w.setRow g (splice cur.toList off vs).toArray) := by
  obtain ⟨i, hi, hz⟩ := Option.map_eq_some_iff.1 hs
  have hst := run_storeCells_at P g off T vs 0 cur w hg (by simpa using hfit) (fun u hu => (List.all_eq_true.1 hone) u hu)
  have hsz : v.cells.size = vs.length := by rw [← hv]; simp
  simp [Instr.storeAt, Instr.sureAddr, storeVar, sizeOf, typeInfo, hi, hz, hsz, hv, hst, splice]

/-- STORE into a block of the call's own (the region in front). -/
theorem gl_stB {T t : TypeId} {b : Nat} {cells cells' : List Value} {X V : Operand} {v : Value} (off : Nat) (vs : List Value) (hX : ev E X = some (.pointer (some ⟨b, off, none⟩))) (hV : ev E V = some v) (hv : v.cells.toList = vs) (hs : (P.info? t).map (·.size) = some vs.length)
    (hone : vs.all Value.oneCell' = true) (hfit : Nat.ble (off + vs.length) cells.length = true) (hc : splice cells off vs = cells') (hw : wantE ops E ⟨none, .store t X V, ty, pos, aft, gd⟩ = some true)
    (h : GL P c n ops Q l E (BK T b cells' :: Rs) Xs Os []) : GL P c n ops Q (⟨none, .store t X V, ty, pos, aft, gd⟩ :: l) E (BK T b cells :: Rs) Xs Os Vs := by
  refine gl_skip (Rs' := BK T b cells' :: Rs) (Xs' := Xs) (Os' := Os) (Vs' := []) hw (by simp [known, notSelect, Op.operands, hX, hV]) rfl (fun w hS => ?_) h
  have hfit' := Nat.le_of_ble_eq_true hfit
  obtain ⟨F, hF⟩ := hS
  obtain ⟨F1, F2, e, ⟨b', eb, eF, hg⟩, h2⟩ := hF.owns
  have eb' : b = b' := by simpa using eb
  subst eb'
  refine ⟨w.setRow b (splice cells off vs).toArray, ?_, St.write (r := BK T b cells) ⟨F, hF⟩ (fun S G hr hn hS => ?_)⟩
  · have := run_store (P := P) (t := t) (off := off) hg hv hs hone (by simpa using hfit')
    simp only [execOp, rho, hX, hV, Option.getD_some]
    simp only [Sem.run_bind, this, Result.andThen_ok, Sem.run_pure]
  · obtain ⟨b2, eb2, eG, hg2⟩ := hr
    have eb' : b = b2 := by simpa using eb2
    subst eb'
    subst eG
    refine ⟨[b], fun S' _ => ⟨b, rfl, rfl, ?_⟩, by simp, fun x hx => ?_, Keep.setRow w b _⟩
    · have := setRow_heap w b _ (splice cells off vs).toArray _ _ hg2
      rw [this, hc]
    · have e : x = b := by simpa using hx
      subst e
      exact ⟨by simpa using (Array.getElem?_eq_some_iff.1 hg2).1, Or.inl (by simp)⟩

/-- What an owned row's block holds. -/
theorem own_block {α : Type} {s : Shape α} {nt : Bool} {T : TypeId} {A : Addr} {cp : Nat} {xs : List α} {w : World} {S : Nat → Prop} {F : List Nat} (h : (SL nt T s (some A) cp xs).owned w S F) :
    ∃ g cur F', A = ⟨g, 0, none⟩ ∧ w.heap[g]? = some (.cells cur T (0, 0)) ∧ xs.length ≤ cp ∧ cp ≤ maxLen ∧ cur.size = cp * s.size ∧ OwnL s w S F' (cur.toList.take (xs.length * s.size)) xs ∧ F = g :: F' := by
  obtain ⟨v, cells, F', e, ⟨a', c', ev, hnt⟩, ho, hl, eF⟩ := h
  have e' : Value.slice (some A) xs.length cp = v := by simpa using e
  subst e'
  rcases ho.2 with ⟨h0, _⟩ | ⟨g, cap, cur, hv, _, hg, h1, h2, h3, h4⟩
  · simp at h0
  · have hv' : A = ⟨g, 0, none⟩ ∧ cp = cap := by simpa using hv
    obtain ⟨rfl, rfl⟩ := hv'
    exact ⟨g, cur, F', rfl, hg, h1, h2, h3, by rw [h4]; exact hl, by simpa [Value.ownBlock] using eF⟩
theorem own_mk {α : Type} {s : Shape α} {nt : Bool} {T : TypeId} {g cp : Nat} {xs : List α} {w : World} {S : Nat → Prop} {F' : List Nat} {cur : Array Value} (hnt : nt = true → xs ≠ []) (hg : w.heap[g]? = some (.cells cur T (0, 0))) (h1 : xs.length ≤ cp) (h2 : cp ≤ maxLen) (h3 : cur.size = cp * s.size)
    (hl : OwnL s w S F' (cur.toList.take (xs.length * s.size)) xs) : (SL nt T s (some ⟨g, 0, none⟩) cp xs).owned w S (g :: F') :=
  ⟨_, _, F', rfl, ⟨_, _, rfl, fun h => ⟨fun e => (by cases e), fun e => absurd e (hnt h)⟩⟩, ⟨OwnL.length hl, Or.inr ⟨g, cp, cur, rfl, Nat.zero_le _, hg, h1, h2, h3, rfl⟩⟩, hl, by simp [Value.ownBlock]⟩
theorem own_nt {α : Type} {s : Shape α} {nt : Bool} {T : TypeId} {A : Addr} {cp : Nat} {xs : List α} {w : World} {S : Nat → Prop} {F : List Nat} (h : (SL nt T s (some A) cp xs).owned w S F) : nt = true → xs ≠ [] := by
  obtain ⟨v, cells, F', e, ⟨a', c', ev, hnt⟩, _⟩ := h
  have e' : Value.slice (some A) xs.length cp = v := by simpa using e
  subst e'
  have e2 : some A = a' := by simpa using (by simpa using ev : some A = a' ∧ cp = c').1
  subst e2
  intro hn h0
  have := (hnt hn).2 h0
  cases this

theorem flat_split {α : Type} {enc : α → List Value} {m : Nat} (hn : ∀ x, (enc x).length = m) : ∀ {xs : List α} {i : Nat} {x : α}, xs[i]? = some x → xs.flatMap enc = (xs.take i).flatMap enc ++ enc x ++ (xs.drop (i + 1)).flatMap enc ∧ ((xs.take i).flatMap enc).length = i * m
  | [], i, x, h => by simp at h
  | y :: xs, 0, x, h => by
    have e : y = x := by simpa using h
    subst e; simp
  | y :: xs, i + 1, x, h => by
    obtain ⟨h1, h2⟩ := flat_split hn (xs := xs) (i := i) (x := x) (by simpa using h)
    refine ⟨?_, ?_⟩
    · simp only [List.flatMap_cons, List.take_succ_cons, List.drop_succ_cons, h1, List.append_assoc]
    · simp only [List.take_succ_cons, List.flatMap_cons, List.length_append, hn, h2, Nat.add_mul]; omega
theorem ownL_flat_cells {α : Type} {enc : α → List Value} {m : Nat} {hn : ∀ x, (enc x).length = m} {w : World} {S : Nat → Prop} : ∀ {F : List Nat} {cs : List Value} {xs : List α}, OwnL (flatS m enc hn) w S F cs xs → cs = xs.flatMap enc ∧ F = []
  | _, _, [], h => ⟨h.2, h.1⟩
  | _, _, x :: xs, ⟨F1, F2, c1, c2, e1, e2, h1, h2⟩ => by
    obtain ⟨i1, i2⟩ := ownL_flat_cells h2
    rw [e2, h1.2, i1, e1, h1.1, i2]
    exact ⟨rfl, rfl⟩

/-- STORE into an element (or a field of it) of an owned row without pointers (the region in front). -/
theorem gl_stE {α : Type} {m : Nat} {enc : α → List Value} {hn : ∀ x, (enc x).length = m} {nt : Bool} {T t : TypeId} {a : Option Addr} {cp : Nat} {xs : List α} {X V : Operand} {v : Value} {i : Int} {x : α} {p q : Addr} (off : Nat) (vs : List Value) (y : α)
    (hp : a.map (fun A => A.add (i.toNat * (flatS m enc hn).size)) = some p) (hx : idxO xs i = some x) (hq : q = p.add off) (hX : ev E X = some (.pointer (some q))) (hV : ev E V = some v) (hv : v.cells.toList = vs) (hs : (P.info? t).map (·.size) = some vs.length)
    (hone : vs.all Value.oneCell' = true) (hfit : Nat.ble (off + vs.length) m = true) (hc : splice (enc x) off vs = enc y) (hw : wantE ops E ⟨none, .store t X V, ty, pos, aft, gd⟩ = some true)
    (h : GL P c n ops Q l E (SL nt T (flatS m enc hn) a cp (xs.set i.toNat y) :: Rs) Xs Os []) : GL P c n ops Q (⟨none, .store t X V, ty, pos, aft, gd⟩ :: l) E (SL nt T (flatS m enc hn) a cp xs :: Rs) Xs Os Vs := by
  refine gl_skip (Rs' := SL nt T (flatS m enc hn) a cp (xs.set i.toNat y) :: Rs) (Xs' := Xs) (Os' := Os) (Vs' := []) hw (by simp [known, notSelect, Op.operands, hX, hV]) rfl (fun w hS => ?_) h
  have hfit' := Nat.le_of_ble_eq_true hfit
  obtain ⟨h0, hlt, hget⟩ := idxO_some hx
  cases a with
  | none => cases hp
  | some A =>
    have hp' : A.add (i.toNat * m) = p := by simpa [flatS] using hp
    obtain ⟨F, hF⟩ := hS
    obtain ⟨F1, F2, e, hown, h2⟩ := hF.owns
    obtain ⟨g, cur, F', eA, hg, l1, l2, l3, hl, eF⟩ := own_block hown
    subst eA
    have hcells := (ownL_flat_cells hl).1
    have hsz : (flatS m enc hn).size = m := rfl
    rw [hsz] at l3 hcells
    obtain ⟨hsp, hsl⟩ := flat_split hn hget
    have hpq : q = ⟨g, i.toNat * m + off, none⟩ := by
      rw [hq, ← hp']
      unfold Addr.add
      split <;> split <;> simp_all
    have hbig : i.toNat * m + m ≤ xs.length * m := by
      have := Nat.mul_le_mul_right m hlt
      rw [Nat.succ_mul] at this
      exact this
    have hcap : xs.length * m ≤ cp * m := Nat.mul_le_mul_right m l1
    have hfitc : (i.toNat * m + off) + vs.length ≤ cur.size := by rw [l3]; omega
    refine ⟨w.setRow g (splice cur.toList (i.toNat * m + off) vs).toArray, ?_, St.write (r := SL nt T (flatS m enc hn) (some ⟨g, 0, none⟩) cp xs) ⟨F, hF⟩ (fun S G hr hn' hS => ?_)⟩
    · have := run_store (P := P) (t := t) (off := i.toNat * m + off) hg hv hs hone hfitc
      simp only [execOp, rho, hX, hV, Option.getD_some, hpq]
      simp only [Sem.run_bind, this, Result.andThen_ok, Sem.run_pure]
    · obtain ⟨g', cur', F'', eA', hg', _, _, _, hl', eG⟩ := own_block hr
      have eg : g = g' := by simpa using eA'
      subst eg
      have ecur : cur = cur' := by rw [hg] at hg'; simpa using hg'
      subst ecur
      have hF0 : F'' = [] := (ownL_flat_cells hl').2
      subst hF0
      subst eG
      have hnew := setRow_heap w g _ (splice cur.toList (i.toNat * m + off) vs).toArray _ _ hg
      refine ⟨[g], fun S' _ => own_mk (F' := []) (cur := (splice cur.toList (i.toNat * m + off) vs).toArray) (fun hnt h0 => ?_) hnew (by simpa using l1) l2 (by rw [List.size_toArray, splice_length (by simpa using hfitc), Array.length_toList]; exact l3) ?_, by simp, fun b hb => ?_, Keep.setRow w g _⟩
      · have : xs ≠ [] := own_nt hown hnt
        exact this (by simpa using h0)
      · have key : (splice cur.toList (i.toNat * m + off) vs).take ((xs.set i.toNat y).length * m) = (xs.set i.toNat y).flatMap enc := by
          have hcl : cur.toList.length = cp * m := by simpa using l3
          have e1 := splice_take (cs := cur.toList) (off := i.toNat * m + off) (k := xs.length * m) (vs := vs) (by omega) (by omega)
          rw [List.length_set, e1, hcells, hsp]
          have hset : xs.set i.toNat y = xs.take i.toNat ++ [y] ++ xs.drop (i.toNat + 1) := by
            rw [List.set_eq_take_append_cons_drop, if_pos hlt]; simp
          rw [hset, List.flatMap_append, List.flatMap_append]
          simp only [List.flatMap_cons, List.flatMap_nil, List.append_nil]
          rw [← hc]
          unfold splice
          have hel : (enc x).length = m := hn x
          rw [List.append_assoc ((xs.take i.toNat).flatMap enc), List.take_append, hsl, List.take_of_length_le (l := (xs.take i.toNat).flatMap enc) (by rw [hsl]; omega), List.drop_append, hsl,
            List.drop_of_length_le (l := (xs.take i.toNat).flatMap enc) (by rw [hsl]; omega)]
          rw [show i.toNat * m + off - i.toNat * m = off by omega, show i.toNat * m + off + vs.length - i.toNat * m = off + vs.length by omega]
          rw [List.take_append_of_le_length (by rw [hel]; omega), List.drop_append_of_le_length (by rw [hel]; omega)]
          simp [List.append_assoc]
        have e2 : (flatS m enc hn).size = m := rfl
        rw [e2]
        show OwnL _ _ _ _ ((splice cur.toList (i.toNat * m + off) vs).take _) _
        rw [key]
        exact OwnL.flat
      · have e : b = g := by simpa using hb
        subst e
        exact ⟨by simpa using (Array.getElem?_eq_some_iff.1 hg).1, Or.inl (by simp)⟩
end
end Go.Proofs.YtneifoepoccjaaaGreatDoor
