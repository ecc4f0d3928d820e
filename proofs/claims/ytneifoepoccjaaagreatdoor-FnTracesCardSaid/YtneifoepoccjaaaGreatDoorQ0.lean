/-
  Plain lemmas: whole numbers of the machine, loops, rows, strings, numerals. No program in sight.
-/
import Derived.Test.YtneifoepoccjaaaGreatDoorS
import Derived.Lib.ItoaNum
import Derived.Lib.ItoaMem
import Derived.Lib.ItoaLen
namespace Go.Proofs.YtneifoepoccjaaaGreatDoor

theorem wrap64 {x : Int} (h0 : -9223372036854775808 ≤ x) (h1 : x ≤ 9223372036854775807) : IntKind.i64.wrap x = x := by
  have hb : (2 : Int) ^ IntKind.i64.bits = 18446744073709551616 := by decide
  have hb1 : (2 : Int) ^ (IntKind.i64.bits - 1) = 9223372036854775808 := by decide
  have hs : IntKind.i64.signed = true := rfl
  unfold IntKind.wrap
  simp only [hb, hb1, hs, Bool.true_and]
  split
  · rename_i h; simp only [decide_eq_true_eq] at h; omega
  · rename_i h; simp only [decide_eq_true_eq] at h; omega
theorem wrap8 {x : Int} (h0 : 0 ≤ x) (h1 : x ≤ 255) : IntKind.u8.wrap x = x := by
  have hb : (2 : Int) ^ IntKind.u8.bits = 256 := by decide
  have hs : IntKind.u8.signed = false := rfl
  unfold IntKind.wrap
  simp only [hb, hs, Bool.false_and]
  simp
  omega

theorem wrap_succ {i : Nat} (h : i ≤ 4611686018427387904) : IntKind.i64.wrap ((i : Int) + 1) = ((i + 1 : Nat) : Int) := by rw [wrap64 (by omega) (by omega)]; rfl
theorem letT_eq {α β : Type} (x : α) (f : α → β) : letT x f = f x := rfl
theorem idxO_nat {α : Type} {xs : List α} {i : Nat} {x : α} (h : xs[i]? = some x) : idxO xs (i : Int) = some x := by
  unfold idxO; rw [if_pos (by omega)]; simpa using h

/-- A loop that counts up: n rounds, then out. -/
theorem loopM_count {σ ρ : Type} {step : σ → Option (Sum σ ρ)} (st : Nat → σ) (n : Nat) {r : ρ} (hs : ∀ i, i < n → step (st i) = some (.inl (st (i + 1)))) (he : step (st n) = some (.inr r)) : loopM step (st 0) = some r := by
  have key : ∀ k i, i + k = n → loopM step (st i) = some r := by
    intro k
    induction k with
    | zero => intro i h; have : i = n := by omega
              subst this; exact loopM_done he
    | succ k ih => intro i h; rw [loopM_next (hs i (by omega))]; exact ih (i + 1) (by omega)
  exact key n 0 (by omega)

theorem catO_eq {s t : List UInt8} (h : s.length + t.length ≤ 9223372036854775807) : catO s t = some (s ++ t) := by unfold catO; rw [if_pos h]
theorem appsO_eq {s : List Int} {t : List UInt8} (h : s.length + t.length ≤ 140737488355328) : appsO s t = some (s ++ toBytes t) := by unfold appsO; rw [if_pos h]
theorem appO_eq {α : Type} {b : Nat} {xs ys : List α} (h : (xs.length + ys.length) * b ≤ 140737488355328) : appO b xs ys = some (xs ++ ys) := by unfold appO; rw [if_pos h]
theorem mkO_eq {α : Type} {b : Nat} {z : α} {n : Nat} (h : b * n ≤ 140737488355328) : mkO b z (n : Int) = some (List.replicate n z) := by
  unfold mkO
  have h2 : (b : Int) * (n : Int) ≤ 140737488355328 := by
    have : ((b * n : Nat) : Int) ≤ 140737488355328 := by omega
    simpa using this
  rw [if_pos ⟨by omega, h2⟩]; simp
theorem toStr_toBytes (s : List UInt8) : toStr (toBytes s) = s := by
  unfold toStr toBytes
  rw [List.map_map]
  conv => rhs; rw [← List.map_id s]
  apply List.map_congr_left
  intro b _
  simp
theorem toStr_append (a b : List Int) : toStr (a ++ b) = toStr a ++ toStr b := by simp [toStr]

/-- A loop that fills a new row element by element. -/
theorem fill_take {α : Type} {xs : List α} {z : α} {i : Nat} {x : α} (h : xs[i]? = some x) : List.set (xs.take i ++ List.replicate (xs.length - i) z) i x = xs.take (i + 1) ++ List.replicate (xs.length - (i + 1)) z := by
  have hi := (List.getElem?_eq_some_iff.1 h).1
  have e : xs.length - i = (xs.length - (i + 1)) + 1 := by omega
  rw [e, List.replicate_succ, List.set_append_right _ _ (by simp; omega)]
  simp only [List.length_take]
  rw [Nat.min_eq_left (by omega), Nat.sub_self, List.set_cons_zero, List.take_add_one, h]
  simp

end Go.Proofs.YtneifoepoccjaaaGreatDoor
