/-
  A library of memory shapes, in plain words: what it means that cells of the machine's memory stand for a plain datum, read-only ('rep') or wholly owned ('own'), and that such facts outlive changes of other blocks. No program in sight.
-/
import Derived.WalkKit
namespace Go.Proofs.YtneifoepoccjaaaGreatDoor

/-- A shape: how a plain datum lies in cells. 'S': the blocks that may be looked at; 'F': the blocks that are owned. -/
structure Shape (α : Type) where
  size : Nat
  rep : World → (Nat → Prop) → List Value → α → Prop
  own : World → (Nat → Prop) → List Nat → List Value → α → Prop
  len : ∀ {w S cs x}, rep w S cs x → cs.length = size
  rep_frame : ∀ {w w' S cs x}, (∀ b, S b → w'.heap[b]? = w.heap[b]?) → rep w S cs x → rep w' S cs x
  rep_mono : ∀ {w S S' cs x}, (∀ b, S b → S' b) → rep w S cs x → rep w S' cs x
  own_frame : ∀ {w w' S F cs x}, (∀ b, S b → w'.heap[b]? = w.heap[b]?) → (∀ b, b ∈ F → w'.heap[b]? = w.heap[b]?) → own w S F cs x → own w' S F cs x
  own_mono : ∀ {w S S' F cs x}, (∀ b, S b → S' b) → own w S F cs x → own w S' F cs x
  own_rep : ∀ {w S F cs x}, own w S F cs x → rep w (fun b => S b ∨ b ∈ F) cs x
  own_lt : ∀ {w S F cs x}, own w S F cs x → ∀ b, b ∈ F → b < w.heap.size

/-- Data without pointers: the cells are a function of the datum. -/
def flatS {α : Type} (n : Nat) (enc : α → List Value) (h : ∀ x, (enc x).length = n) : Shape α where
  size := n
  rep := fun _ _ cs x => cs = enc x
  own := fun _ _ F cs x => F = [] ∧ cs = enc x
  len := fun e => by rw [e]; exact h _
  rep_frame := fun _ e => e
  rep_mono := fun _ e => e
  own_frame := fun _ _ e => e
  own_mono := fun _ e => e
  own_rep := fun e => e.2
  own_lt := fun e b hb => by rw [e.1] at hb; cases hb

abbrev str (l : List UInt8) : Value := .string ⟨l.toArray⟩
abbrev intS (k : IntKind) : Shape Int := flatS 1 (fun x => [.int k x]) (fun _ => rfl)
abbrev boolS : Shape Bool := flatS 1 (fun x => [.bool x]) (fun _ => rfl)
abbrev strS : Shape (List UInt8) := flatS 1 (fun x => [str x]) (fun _ => rfl)
/-- Any one value, whatever it is (a header, a function). -/
abbrev valS : Shape Value := flatS 1 (fun v => [v]) (fun _ => rfl)

/-- The same shape, never owned. -/
def roS {α : Type} (s : Shape α) : Shape α where
  size := s.size
  rep := s.rep
  own := fun w S F cs x => F = [] ∧ s.rep w S cs x
  len := s.len
  rep_frame := s.rep_frame
  rep_mono := s.rep_mono
  own_frame := fun h _ e => ⟨e.1, s.rep_frame h e.2⟩
  own_mono := fun h e => ⟨e.1, s.rep_mono h e.2⟩
  own_rep := fun e => s.rep_mono (fun _ hb => Or.inl hb) e.2
  own_lt := fun e b hb => by rw [e.1] at hb; cases hb

/-- The elements of a row, one behind the other, from an address on. -/
def RepArr {α : Type} (s : Shape α) (w : World) (S : Nat → Prop) (A : Addr) (xs : List α) : Prop :=
  A.spot = none ∧ S A.block ∧ ∀ (i : Nat) (x : α), xs[i]? = some x → ∃ cs, s.rep w S cs x ∧
    ∀ (j : Nat) (v : Value), cs[j]? = some v → w.cell? ⟨A.block, A.off + (i * s.size + j), none⟩ = some v

theorem RepArr.frame {α : Type} {s : Shape α} {w w' : World} {S : Nat → Prop} {A : Addr} {xs : List α} (h : ∀ b, S b → w'.heap[b]? = w.heap[b]?) (r : RepArr s w S A xs) : RepArr s w' S A xs := by
  obtain ⟨h1, h2, h3⟩ := r
  refine ⟨h1, h2, fun i x hx => ?_⟩
  obtain ⟨cs, hr, hc⟩ := h3 i x hx
  exact ⟨cs, s.rep_frame h hr, fun j v hv => (World.cell?_of_block (w := w) (a := ⟨A.block, A.off + (i * s.size + j), none⟩) (h _ h2)).trans (hc j v hv)⟩

theorem RepArr.mono {α : Type} {s : Shape α} {w : World} {S S' : Nat → Prop} {A : Addr} {xs : List α} (h : ∀ b, S b → S' b) (r : RepArr s w S A xs) : RepArr s w S' A xs := by
  obtain ⟨h1, h2, h3⟩ := r
  refine ⟨h1, h _ h2, fun i x hx => ?_⟩
  obtain ⟨cs, hr, hc⟩ := h3 i x hx
  exact ⟨cs, s.rep_mono h hr, hc⟩

/-- A list of owned parts, one behind the other. -/
def OwnL {α : Type} (s : Shape α) (w : World) (S : Nat → Prop) : List Nat → List Value → List α → Prop
  | F, cs, [] => F = [] ∧ cs = []
  | F, cs, x :: xs => ∃ F1 F2 c1 c2, F = F1 ++ F2 ∧ cs = c1 ++ c2 ∧ s.own w S F1 c1 x ∧ OwnL s w S F2 c2 xs

section
variable {α : Type} {s : Shape α} {w w' : World} {S S' : Nat → Prop}

theorem OwnL.frame (h : ∀ b, S b → w'.heap[b]? = w.heap[b]?) : ∀ {F : List Nat} {cs : List Value} {xs : List α}, (∀ b, b ∈ F → w'.heap[b]? = w.heap[b]?) → OwnL s w S F cs xs → OwnL s w' S F cs xs
  | _, _, [], _, e => e
  | _, _, x :: xs, hF, ⟨F1, F2, c1, c2, e1, e2, h1, h2⟩ =>
    ⟨F1, F2, c1, c2, e1, e2, s.own_frame h (fun b hb => hF b (by rw [e1]; exact List.mem_append.2 (Or.inl hb))) h1,
      OwnL.frame h (fun b hb => hF b (by rw [e1]; exact List.mem_append.2 (Or.inr hb))) h2⟩

theorem OwnL.mono (h : ∀ b, S b → S' b) : ∀ {F : List Nat} {cs : List Value} {xs : List α}, OwnL s w S F cs xs → OwnL s w S' F cs xs
  | _, _, [], e => e
  | _, _, _ :: _, ⟨F1, F2, c1, c2, e1, e2, h1, h2⟩ => ⟨F1, F2, c1, c2, e1, e2, s.own_mono h h1, OwnL.mono h h2⟩

theorem OwnL.lt : ∀ {F : List Nat} {cs : List Value} {xs : List α}, OwnL s w S F cs xs → ∀ b, b ∈ F → b < w.heap.size
  | _, _, [], e, b, hb => by rw [e.1] at hb; cases hb
  | _, _, _ :: _, ⟨F1, F2, c1, c2, e1, e2, h1, h2⟩, b, hb => by
    rw [e1] at hb
    rcases List.mem_append.1 hb with h | h
    · exact s.own_lt h1 b h
    · exact OwnL.lt h2 b h

theorem OwnL.length : ∀ {F : List Nat} {cs : List Value} {xs : List α}, OwnL s w S F cs xs → cs.length = xs.length * s.size
  | _, _, [], e => by rw [e.2]; simp
  | _, _, x :: xs, ⟨F1, F2, c1, c2, e1, e2, h1, h2⟩ => by
    rw [e2, List.length_append, s.len (s.own_rep h1), OwnL.length h2, List.length_cons, Nat.add_mul]; omega

/-- Element number i of an owned list: its cells, and what is left. -/
theorem OwnL.get : ∀ {F : List Nat} {cs : List Value} {xs : List α} {i : Nat} {x : α}, OwnL s w S F cs xs → xs[i]? = some x →
    ∃ F1 F2 F3 c1 c2 c3, F = F1 ++ F2 ++ F3 ∧ cs = c1 ++ c2 ++ c3 ∧ c1.length = i * s.size ∧ s.own w S F2 c2 x ∧ OwnL s w S F1 c1 (xs.take i) ∧ OwnL s w S F3 c3 (xs.drop (i + 1))
  | _, _, [], i, x, _, hx => by simp at hx
  | _, _, y :: xs, 0, x, ⟨F1, F2, c1, c2, e1, e2, h1, h2⟩, hx => by
    have : y = x := by simpa using hx
    subst this
    exact ⟨[], F1, F2, [], c1, c2, by simpa using e1, by simpa using e2, by simp, h1, ⟨rfl, rfl⟩, by simpa using h2⟩
  | _, _, y :: xs, i + 1, x, ⟨F1, F2, c1, c2, e1, e2, h1, h2⟩, hx => by
    obtain ⟨G1, G2, G3, d1, d2, d3, g1, g2, g3, g4, g5, g6⟩ := OwnL.get h2 (i := i) (x := x) (by simpa using hx)
    refine ⟨F1 ++ G1, G2, G3, c1 ++ d1, d2, d3, by rw [e1, g1]; simp, by rw [e2, g2]; simp, ?_, g4, ⟨F1, G1, c1, d1, rfl, rfl, h1, g5⟩, by simpa using g6⟩
    rw [List.length_append, s.len (s.own_rep h1), g3, Nat.add_mul]; omega

theorem OwnL.append : ∀ {F G : List Nat} {cs ds : List Value} {xs ys : List α}, OwnL s w S F cs xs → OwnL s w S G ds ys → OwnL s w S (F ++ G) (cs ++ ds) (xs ++ ys)
  | _, _, _, _, [], ys, e, h => by rw [e.1, e.2]; simpa using h
  | _, _, _, _, x :: xs, ys, ⟨F1, F2, c1, c2, e1, e2, h1, h2⟩, h =>
    ⟨F1, F2 ++ _, c1, c2 ++ _, by rw [e1, List.append_assoc], by rw [e2, List.append_assoc], h1, OwnL.append h2 h⟩

theorem OwnL.single {F : List Nat} {cs : List Value} {x : α} (h : s.own w S F cs x) : OwnL s w S F cs [x] :=
  ⟨F, [], cs, [], by simp, by simp, h, rfl, rfl⟩

/-- A change of element number i. -/
theorem OwnL.set {F : List Nat} {cs : List Value} {xs : List α} {F1 F2 F3 : List Nat} {c1 c2 c3 : List Value} {i : Nat} {y : α} (hi : i < xs.length)
    (h1 : OwnL s w S F1 c1 (xs.take i)) (h2 : s.own w S F2 c2 y) (h3 : OwnL s w S F3 c3 (xs.drop (i + 1))) (eF : F = F1 ++ F2 ++ F3) (ec : cs = c1 ++ c2 ++ c3) :
    OwnL s w S F cs (xs.set i y) := by
  have h := OwnL.append (OwnL.append h1 (OwnL.single h2)) h3
  have e : xs.set i y = xs.take i ++ [y] ++ xs.drop (i + 1) := by
    rw [List.set_eq_take_append_cons_drop, if_pos hi]; simp
  rw [e, eF, ec]; exact h

theorem OwnL.flat {n : Nat} {enc : α → List Value} {hn : ∀ x, (enc x).length = n} : ∀ {xs : List α}, OwnL (flatS n enc hn) w S [] (xs.flatMap enc) xs
  | [] => ⟨rfl, rfl⟩
  | x :: xs => ⟨[], [], enc x, xs.flatMap enc, rfl, rfl, ⟨rfl, rfl⟩, OwnL.flat⟩

theorem OwnL.take : ∀ {F : List Nat} {cs : List Value} {xs : List α} (k : Nat), k ≤ xs.length → OwnL s w S F cs xs →
    ∃ F1 F2 c1 c2, F = F1 ++ F2 ∧ cs = c1 ++ c2 ∧ c1.length = k * s.size ∧ OwnL s w S F1 c1 (xs.take k)
  | F, cs, xs, 0, _, h => ⟨[], F, [], cs, rfl, rfl, by simp, by simp [OwnL]⟩
  | _, _, [], k + 1, hk, _ => by simp at hk
  | _, _, x :: xs, k + 1, hk, ⟨F1, F2, c1, c2, e1, e2, h1, h2⟩ => by
    obtain ⟨G1, G2, d1, d2, g1, g2, g3, g4⟩ := OwnL.take k (by simpa using hk) h2
    refine ⟨F1 ++ G1, G2, c1 ++ d1, d2, by rw [e1, g1]; simp, by rw [e2, g2]; simp, ?_, ⟨F1, G1, c1, d1, rfl, rfl, h1, g4⟩⟩
    rw [List.length_append, s.len (s.own_rep h1), g3, Nat.add_mul]; omega
end

/-- A slice of elements of type T. 'nt': it is nil exactly if it is empty. -/
def sliceS {α : Type} (nt : Bool) (T : TypeId) (s : Shape α) : Shape (List α) where
  size := 1
  rep := fun w S cs xs => ∃ a c, cs = [.slice a xs.length c] ∧ xs.length ≤ c ∧ (nt = true → (a = none ↔ xs = [])) ∧ (xs ≠ [] → ∃ A, a = some A ∧ RepArr s w S A xs)
  own := fun w S F cs xs => ∃ v cells F', cs = [v] ∧ (∃ a c, v = .slice a xs.length c ∧ (nt = true → (a = none ↔ xs = []))) ∧ w.ownsRow 0 T s.size v xs.length cells ∧
    OwnL s w S F' cells xs ∧ F = v.ownBlock.toList ++ F'
  len := fun ⟨_, _, e, _⟩ => by rw [e]; rfl
  rep_frame := fun h ⟨a, c, e, hl, hn, hr⟩ => ⟨a, c, e, hl, hn, fun hx => let ⟨A, hA, r⟩ := hr hx; ⟨A, hA, r.frame h⟩⟩
  rep_mono := fun h ⟨a, c, e, hl, hn, hr⟩ => ⟨a, c, e, hl, hn, fun hx => let ⟨A, hA, r⟩ := hr hx; ⟨A, hA, r.mono h⟩⟩
  own_frame := by
    intro w w' S F cs xs h hF ⟨v, cells, F', e, hv, ho, hl, eF⟩
    refine ⟨v, cells, F', e, hv, ?_, OwnL.frame h (fun b hb => hF b (by rw [eF]; exact List.mem_append.2 (Or.inr hb))) hl, eF⟩
    refine ⟨ho.1, ?_⟩
    rcases ho.2 with hn | ⟨g, cap, cur, hv', hb, hg, r⟩
    · exact Or.inl hn
    · exact Or.inr ⟨g, cap, cur, hv', hb, by rw [hF g (by rw [eF, hv']; simp [Value.ownBlock])]; exact hg, r⟩
  own_mono := fun h ⟨v, cells, F', e, hv, ho, hl, eF⟩ => ⟨v, cells, F', e, hv, ho, OwnL.mono h hl, eF⟩
  own_rep := by
    intro w S F cs xs ⟨v, cells, F', e, ⟨a, c, hv, hn⟩, ho, hl, eF⟩
    have hle : xs.length ≤ c := by
      rcases ho.2 with ⟨hn, h0⟩ | ⟨g, cap, cur, hv', _, _, hle, _⟩
      · omega
      · rw [hv] at hv'
        have e2 : a = some ⟨g, 0, none⟩ ∧ c = cap := by simpa using hv'
        rw [e2.2]; exact hle
    refine ⟨a, c, by rw [e, hv], hle, hn, fun hx => ?_⟩
    rcases ho.2 with ⟨_, h0⟩ | ⟨g, cap, cur, hv', hb, hg, hle, hm, hcs, ht⟩
    · exact absurd (List.eq_nil_of_length_eq_zero h0) hx
    · have ea : a = some ⟨g, 0, none⟩ := by rw [hv] at hv'; simpa using (Value.slice.injEq .. ▸ hv').1
      refine ⟨⟨g, 0, none⟩, ea, rfl, Or.inr (by rw [eF, hv']; simp [Value.ownBlock]), fun i x hi => ?_⟩
      obtain ⟨F1, F2, F3, c1, c2, c3, e1, e2, e3, h4, _, _⟩ := OwnL.get hl hi
      refine ⟨c2, s.rep_mono (fun b hb => ?_) (s.own_rep h4), fun j u hj => ?_⟩
      · rcases hb with hb | hb
        · exact Or.inl hb
        · exact Or.inr (by rw [eF, e1]; simp [hb])
      · have hadd : (⟨g, 0, none⟩ : Addr).add (i * s.size + j) = ⟨g, 0 + (i * s.size + j), none⟩ := by unfold Addr.add; split <;> simp_all
        have := ho.cells (g := g) (by rw [hv']; rfl) (i * s.size + j) u (by
          rw [e2, List.append_assoc, List.getElem?_append_right (by omega), e3, Nat.add_sub_cancel_left]
          rw [List.getElem?_append_left (by exact (List.getElem?_eq_some_iff.1 hj).1)]; exact hj)
        rw [hadd] at this
        exact this
  own_lt := by
    intro w S F cs xs ⟨v, cells, F', e, hv, ho, hl, eF⟩ b hb
    rw [eF] at hb
    rcases List.mem_append.1 hb with h | h
    · exact (ho.lt b (by simpa using h)).2
    · exact OwnL.lt hl b h

/-- A block of the call's own, its cells written out: 'cs' is the pointer to it. -/
def blkS (T : TypeId) : Shape (List Value) where
  size := 1
  rep := fun w S cs x => ∃ b, cs = [.pointer (some ⟨b, 0, none⟩)] ∧ S b ∧ ∀ (j : Nat) (v : Value), x[j]? = some v → w.cell? ⟨b, j, none⟩ = some v
  own := fun w _ F cs x => ∃ b, cs = [.pointer (some ⟨b, 0, none⟩)] ∧ F = [b] ∧ w.heap[b]? = some (.cells x.toArray T (0, 0))
  len := fun ⟨_, e, _⟩ => by rw [e]; rfl
  rep_frame := fun h ⟨b, e, hS, hc⟩ => ⟨b, e, hS, fun j v hv => (World.cell?_of_block (a := ⟨b, j, none⟩) (h b hS)).trans (hc j v hv)⟩
  rep_mono := fun h ⟨b, e, hS, hc⟩ => ⟨b, e, h b hS, hc⟩
  own_frame := fun _ hF ⟨b, e, eF, hb⟩ => ⟨b, e, eF, (hF b (by rw [eF]; simp)).trans hb⟩
  own_mono := fun _ h => h
  own_rep := fun ⟨b, e, eF, hb⟩ => ⟨b, e, Or.inr (by rw [eF]; simp), fun j v hv => by simp [World.cell?, hb]; simpa using hv⟩
  own_lt := fun ⟨b, e, eF, hb⟩ b' hb' => by
    rw [eF] at hb'
    have : b' = b := by simpa using hb'
    subst this
    exact (Array.getElem?_eq_some_iff.1 hb).1

end Go.Proofs.YtneifoepoccjaaaGreatDoor
