/-
  Edits and their texts: both readers find the edit whose text the string is, or none, in plain Lean. No program in sight.
-/
import Derived.Test.YtneifoepoccjaaaDoorP3
import Derived.Test.YtneifoepoccjaaaDoorQN
import Derived.Test.YtneifoepoccjaaaDoorQS
import Derived.Test.YtneifoepoccjaaaDoorQT
namespace Go.Proofs.YtneifoepoccjaaaDoor

theorem dec_no {b : UInt8} (hb : b.toNat < 48 ∨ 57 < b.toNat) (u : Nat) : b ∉ Lib.decDigits u := fun h => by
  have := dec_digits u b h
  omega
theorem itoa_no {b : UInt8} (hb : b.toNat < 48 ∨ 57 < b.toNat) (hm : b ≠ 45) (z : Int) : b ∉ Lib.itoa z := by
  by_cases h : 0 ≤ z
  · have e : z = ((z.toNat : Nat) : Int) := by omega
    rw [e, Lib.itoa_nonneg]
    exact dec_no hb _
  · have e : z = -(((-z).toNat : Nat) : Int) := by omega
    rw [e, Lib.itoa_neg _ (by omega)]
    intro hc
    rcases List.mem_cons.1 hc with hc | hc
    · exact hm hc
    · exact dec_no hb _ hc
theorem itoa_ne (z : Int) : Lib.itoa z ≠ [] := by
  by_cases h : 0 ≤ z
  · have e : z = ((z.toNat : Nat) : Int) := by omega
    rw [e, Lib.itoa_nonneg]
    exact dec_ne _
  · have e : z = -(((-z).toNat : Nat) : Int) := by omega
    rw [e, Lib.itoa_neg _ (by omega)]
    exact List.cons_ne_nil _ _
theorem cutS_ne (b : UInt8) (s : List UInt8) : cutS b s ≠ [] := fun h => by
  have := cutS_length b s
  rw [h] at this
  simp at this
theorem cut_two {b : UInt8} {l w0 w1 : List UInt8} (h : cutS b l = [w0, w1]) : l = w0 ++ b :: w1 := by
  rcases cut_or (b := b) l with h1 | ⟨u, v, rfl, h1⟩
  · rw [cutS_none h1] at h
    simp at h
  · rw [cutS_app h1] at h
    obtain ⟨rfl, h3⟩ := List.cons.inj h
    rcases cut_or (b := b) v with h4 | ⟨u2, v2, rfl, h4⟩
    · rw [cutS_none h4] at h3
      have : v = w1 := by simpa using h3
      rw [this]
    · rw [cutS_app h4] at h3
      exact absurd (List.cons.inj h3).2 (cutS_ne _ _)
theorem len_two {α : Type} {l : List α} (h : l.length = 2) : ∃ x y, l = [x, y] := by
  match l, h with
  | [x, y], _ => exact ⟨x, y, rfl⟩

/-! ## Edits and their texts -/
def e0 : Edit := ⟨0, 0, ⟨0, 0, 0, 0⟩⟩
def okP (p : Place) : Prop := (0 ≤ p.From ∧ p.From ≤ 9) ∧ (0 ≤ p.To ∧ p.To ≤ 9) ∧ (0 ≤ p.Delay ∧ p.Delay ≤ 1000) ∧ 0 ≤ p.Tokens ∧ p.Tokens ≤ 5
def okE (e : Edit) : Prop := (1 ≤ e.Kind ∧ e.Kind ≤ 3) ∧ (0 ≤ e.Index ∧ e.Index ≤ 30) ∧ okP e.Place ∧ (e.Kind = 2 → e.Place = ⟨0, 0, 0, 0⟩)
def sign (k : Int) : UInt8 := if k = 1 then 43 else if k = 2 then 45 else 61
def placeT (p : Place) : List UInt8 := Lib.itoa p.From ++ 62 :: (Lib.itoa p.To ++ 58 :: (Lib.itoa p.Delay ++ 42 :: Lib.itoa p.Tokens))
def tailT (e : Edit) : List UInt8 := if e.Kind = 2 then Lib.itoa e.Index else Lib.itoa e.Index ++ 32 :: placeT e.Place
def textE (e : Edit) : List UInt8 := sign e.Kind :: tailT e
theorem place_zero (p : Place) : ((p.From == 0) && ((p.To == 0) && ((p.Delay == 0) && ((p.Tokens == 0) && true)))) = true ↔ p = ⟨0, 0, 0, 0⟩ := by
  obtain ⟨a, b, c, d⟩ := p
  simp only [Bool.and_eq_true, beq_iff_eq, Bool.and_true, Place.mk.injEq]
theorem l11Place_ok (p : Place) : spec_l11Place p 10 = true ↔ okP p := by
  have e : IntKind.i64.wrap (10 - 1) = 9 := wrap64 (by decide) (by decide)
  unfold spec_l11Place spec_l01In okP
  rw [e]
  simp only [Bool.and_eq_true, decide_eq_true_eq, ge_iff_le]
  constructor
  · rintro ⟨⟨⟨h1, h2⟩, h3⟩, h4⟩; exact ⟨h1, h2, h3, h4⟩
  · rintro ⟨h1, h2, h3, h4⟩; exact ⟨⟨⟨h1, h2⟩, h3⟩, h4⟩
theorem isPlace_ok (p : Place) : impl_isPlace ⟨10, []⟩ p = true ↔ okP p := by
  have e : IntKind.i64.wrap (10 - 1) = 9 := wrap64 (by decide) (by decide)
  unfold impl_isPlace impl_isEvent impl_within okP
  simp only
  rw [e]
  simp only [Bool.and_eq_true, decide_eq_true_eq, ge_iff_le]
  constructor
  · rintro ⟨⟨⟨h1, h2⟩, h3⟩, h4⟩; exact ⟨h1, h2, h3, h4⟩
  · rintro ⟨h1, h2, h3, h4⟩; exact ⟨⟨⟨h1, h2⟩, h3⟩, h4⟩
theorem okP0 : okP ⟨0, 0, 0, 0⟩ := by unfold okP; simp
theorem isEdit_ok (e : Edit) : impl_isEdit e = true ↔ okE e := by
  unfold impl_isEdit okE
  cases hc : ((!(impl_within e.Kind 1 3)) || (!(impl_within e.Index 0 30))) with
  | true =>
    simp only [cond_true]
    unfold impl_within at hc
    simp only [Bool.or_eq_true, Bool.not_eq_true', Bool.and_eq_false_iff, decide_eq_false_iff_not, ge_iff_le] at hc
    constructor
    · intro h; cases h
    · rintro ⟨h1, h2, _⟩; exfalso; omega
  | false =>
    simp only [cond_false]
    unfold impl_within at hc
    simp only [Bool.or_eq_false_iff, Bool.not_eq_false', Bool.and_eq_true, decide_eq_true_eq, ge_iff_le] at hc
    by_cases hk : e.Kind = 2
    · have hb : (e.Kind == 2) = true := by simp [hk]
      rw [hb, cond_true, place_zero]
      constructor
      · intro h; exact ⟨hc.1, hc.2, h ▸ okP0, fun _ => h⟩
      · rintro ⟨_, _, _, h⟩; exact h hk
    · have hb : (e.Kind == 2) = false := by simp [hk]
      rw [hb, cond_false, letT_eq, isPlace_ok]
      constructor
      · intro h; exact ⟨hc.1, hc.2, h, fun h2 => absurd h2 hk⟩
      · rintro ⟨_, _, h, _⟩; exact h
theorem decN {z : Int} (h0 : 0 ≤ z) (h1 : z ≤ 1000000) : spec_l01Dec z = some (Lib.itoa z) ∧ (Lib.itoa z).length ≤ 21 := by
  have e : z = ((z.toNat : Nat) : Int) := by omega
  rw [e, Lib.itoa_nonneg]
  exact ⟨l01Dec_eq _ (by omega), dec_len _ (by omega)⟩
theorem sign_eq {k : Int} (h0 : 1 ≤ k) (h1 : k ≤ 3) : spec_l29Sign k = some [sign k] := by
  have : k = 1 ∨ k = 2 ∨ k = 3 := by omega
  rcases this with rfl | rfl | rfl <;> rfl
theorem EditText_ok {e : Edit} (h : okE e) : spec_EditText e = some (textE e) := by
  obtain ⟨hk, hi, hp, hz⟩ := h
  have h1 := (l11Place_ok e.Place).2 hp
  have hc : (((!(spec_l01In e.Kind 1 3)) || (!(spec_l01In e.Index 0 30))) || (!(spec_l11Place e.Place 10))) = false := by
    rw [h1]
    simp only [spec_l01In, Bool.not_true, Bool.or_false, Bool.or_eq_false_iff, Bool.not_eq_false', Bool.and_eq_true, decide_eq_true_eq, ge_iff_le]
    exact ⟨hk, hi⟩
  unfold spec_EditText textE tailT
  rw [hc, cond_false]
  by_cases h2 : e.Kind = 2
  · have hb : (e.Kind == 2) = true := by simp [h2]
    have hp0 := (place_zero e.Place).2 (hz h2)
    rw [hb, cond_true, hp0]
    simp only [Bool.not_true, cond_false]
    have d := decN hi.1 (by omega)
    rw [d.1]
    simp only [Option.bind_some]
    rw [catO_eq (by simp; omega), if_pos h2, h2]
    rfl
  · have hb : (e.Kind == 2) = false := by simp [h2]
    rw [hb, cond_false, sign_eq hk.1 hk.2, if_neg h2]
    obtain ⟨⟨a0, a1⟩, ⟨b0, b1⟩, ⟨c0, c1⟩, d0, d1⟩ := hp
    have di := decN hi.1 (by omega)
    have da := decN a0 (by omega)
    have db := decN b0 (by omega)
    have dc := decN c0 (by omega)
    have dd := decN d0 (by omega)
    rw [di.1, da.1, db.1, dc.1, dd.1]
    simp only [Option.bind_some]
    iterate 9 (rw [catO_eq (by simp; omega)]; simp only [Option.bind_some])
    simp [placeT]
theorem EditText_no {e : Edit} (h : ¬ okE e) : spec_EditText e = some [] := by
  unfold spec_EditText
  cases hc : (((!(spec_l01In e.Kind 1 3)) || (!(spec_l01In e.Index 0 30))) || (!(spec_l11Place e.Place 10))) with
  | true => rfl
  | false =>
    rw [cond_false]
    simp only [Bool.or_eq_false_iff, Bool.not_eq_false', l11Place_ok] at hc
    obtain ⟨⟨h1, h2⟩, h3⟩ := hc
    simp only [spec_l01In, Bool.and_eq_true, decide_eq_true_eq, ge_iff_le] at h1 h2
    by_cases hk : e.Kind = 2
    · have hb : (e.Kind == 2) = true := by simp [hk]
      rw [hb, cond_true]
      cases hz : ((e.Place.From == 0) && ((e.Place.To == 0) && ((e.Place.Delay == 0) && ((e.Place.Tokens == 0) && true)))) with
      | true => exact absurd ⟨h1, h2, h3, fun _ => (place_zero _).1 hz⟩ h
      | false => rfl
    · exact absurd ⟨h1, h2, h3, fun h2 => absurd h2 hk⟩ h
end Go.Proofs.YtneifoepoccjaaaDoor
