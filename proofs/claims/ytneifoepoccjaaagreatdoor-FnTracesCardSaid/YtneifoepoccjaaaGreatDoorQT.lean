/-
  Plain lemmas: what is there ('Tot': an outcome is there and something stands of it), step by step. No program in sight.
-/
import Derived.Test.YtneifoepoccjaaaGreatDoorQ0
namespace Go.Proofs.YtneifoepoccjaaaGreatDoor

def Tot {α : Type} (o : Option α) (p : α → Prop) : Prop := ∃ r, o = some r ∧ p r
theorem tbind {α β : Type} {o : Option α} {f : α → Option β} {p : α → Prop} {q : β → Prop} (h : Tot o p) (k : ∀ r, p r → Tot (f r) q) : Tot (o.bind f) q := by
  obtain ⟨r, h1, h2⟩ := h
  rw [h1]
  exact k r h2
theorem tlet {α β : Type} {x : α} {f : α → Option β} {q : β → Prop} (k : ∀ y, y = x → Tot (f y) q) : Tot (letT x f) q := k x rfl
theorem tsome {α : Type} {r : α} {p : α → Prop} (h : p r) : Tot (some r) p := ⟨r, rfl, h⟩
theorem tcond {α : Type} {b : Bool} {x y : Option α} {p : α → Prop} (h1 : b = true → Tot x p) (h2 : b = false → Tot y p) : Tot (cond b x y) p := by
  cases b with
  | true => exact h1 rfl
  | false => exact h2 rfl
theorem tmono {α : Type} {o : Option α} {p q : α → Prop} (h : Tot o p) (k : ∀ r, p r → q r) : Tot o q := by
  obtain ⟨r, h1, h2⟩ := h
  exact ⟨r, h1, k r h2⟩
theorem tsum {α β γ : Type} {f : α → Option γ} {g : β → Option γ} {o : Sum α β} {p : α → Prop} {p2 : β → Prop} {q : γ → Prop} (h : Sum.elim p p2 o) (h1 : ∀ x, p x → Tot (f x) q) (h2 : ∀ x, p2 x → Tot (g x) q) : Tot (Sum.elim f g o) q := by
  cases o with
  | inl x => exact h1 x h
  | inr x => exact h2 x h
/-- A loop in which a measure sinks. -/
theorem tloop {σ ρ : Type} {step : σ → Option (Sum σ ρ)} (I : σ → Prop) (m : σ → Nat) (post : ρ → Prop) {s0 : σ}
    (hs : ∀ s, I s → Tot (step s) (Sum.elim (fun s' => I s' ∧ m s' < m s) post)) (h0 : I s0) : Tot (loopM step s0) post := by
  have key : ∀ k s, m s ≤ k → I s → Tot (loopM step s) post := by
    intro k
    induction k with
    | zero =>
      intro s hm hI
      obtain ⟨r, h1, h2⟩ := hs s hI
      cases r with
      | inl s' => exact absurd h2.2 (by omega)
      | inr r => exact ⟨r, loopM_done h1, h2⟩
    | succ k ih =>
      intro s hm hI
      obtain ⟨r, h1, h2⟩ := hs s hI
      cases r with
      | inl s' => rw [loopM_next h1]; exact ih s' (by have := h2.2; omega) h2.1
      | inr r => exact ⟨r, loopM_done h1, h2⟩
  exact key (m s0) s0 (Nat.le_refl _) h0
theorem tidx {α : Type} {xs : List α} {i : Int} (h0 : 0 ≤ i) (h1 : i < (xs.length : Int)) : Tot (idxO xs i) (fun x => xs[i.toNat]? = some x) := by
  have h2 : i.toNat < xs.length := by omega
  refine ⟨xs[i.toNat], ?_, List.getElem?_eq_getElem h2⟩
  unfold idxO
  rw [if_pos h0]
  exact List.getElem?_eq_getElem h2
theorem tapp {α : Type} {b : Nat} {xs ys : List α} (h : (xs.length + ys.length) * b ≤ 140737488355328) : Tot (appO b xs ys) (fun r => r = xs ++ ys) := ⟨_, appO_eq h, rfl⟩
theorem tcat {s t : List UInt8} (h : s.length + t.length ≤ 9223372036854775807) : Tot (catO s t) (fun r => r = s ++ t) := ⟨_, catO_eq h, rfl⟩
theorem tsub {α : Type} {xs : List α} {i j : Int} (h0 : 0 ≤ i) (h1 : i ≤ j) (h2 : j ≤ (xs.length : Int)) : Tot (subO xs i j) (fun r => r = (xs.drop i.toNat).take (j.toNat - i.toNat)) := by
  refine ⟨_, ?_, rfl⟩
  unfold subO
  rw [if_pos ⟨h0, h1, h2⟩]
theorem tmk {α : Type} {b : Nat} {z : α} {n : Int} (h0 : 0 ≤ n) (h1 : (b : Int) * n ≤ 140737488355328) : Tot (mkO b z n) (fun r => r = List.replicate n.toNat z) := by
  refine ⟨_, ?_, rfl⟩
  unfold mkO
  rw [if_pos ⟨h0, h1⟩]
theorem trem {k : IntKind} {a n : Int} (h : n ≠ 0) : Tot (remO k a n) (fun r => r = a.tmod n) := by
  refine ⟨_, ?_, rfl⟩
  unfold remO
  rw [if_neg h]
theorem tmod_in {a n : Int} (h0 : 0 ≤ a) (h1 : 1 ≤ n) : 0 ≤ a.tmod n ∧ a.tmod n < n := ⟨Int.tmod_nonneg n h0, Int.tmod_lt_of_pos a (by omega)⟩
theorem tdiv_in {a n : Int} (h0 : 0 ≤ a) : 0 ≤ a.tdiv n ∨ n < 0 := by
  by_cases h : n < 0
  · exact Or.inr h
  · exact Or.inl (Int.tdiv_nonneg h0 (by omega))
end Go.Proofs.YtneifoepoccjaaaGreatDoor
