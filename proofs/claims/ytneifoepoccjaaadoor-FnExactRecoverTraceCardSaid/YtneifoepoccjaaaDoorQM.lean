/-
  Rows of firings copied, compared, marked and looked through, in plain Lean; the law of RecoverTrace. No program in sight.
-/
import Derived.Test.YtneifoepoccjaaaDoorP1
import Derived.Test.YtneifoepoccjaaaDoorQR
namespace Go.Proofs.YtneifoepoccjaaaDoor

theorem eqFiring_self (f : Firing) : laws_eqFiring f f = true := by simp [laws_eqFiring]
theorem eqFiringS_self (a : List Firing) (h : a.length ≤ 1048576) : laws_eqFiringS a a = some true := by
  unfold laws_eqFiringS
  simp only [bne_self_eq_false, cond_false]
  have : loopM (laws_eqFiringS_L1 a a) 0 = some (.inr ()) := by
    have := loopM_count (step := laws_eqFiringS_L1 a a) (fun i => (i : Int)) a.length (r := .inr ()) (fun i hi => ?_) ?_
    · simpa using this
    · have hx : a[i]? = some a[i] := List.getElem?_eq_getElem hi
      unfold laws_eqFiringS_L1
      rw [decide_eq_true (by omega : (i : Int) < (a.length : Int)), cond_true, idxO_nat hx]
      simp only [Option.bind_some, eqFiring_self, Bool.not_true, cond_false]
      rw [wrap_succ (by omega)]
    · unfold laws_eqFiringS_L1
      rw [decide_eq_false (by omega : ¬ ((a.length : Int) < (a.length : Int))), cond_false]
  rw [this]
  rfl
def mkF (k i : Nat) : Firing := ⟨((k + 3 * i : Nat) : Int), ((k + 3 * i + 1 : Nat) : Int), ((k + 3 * i + 2 : Nat) : Int)⟩
theorem set_at {α : Type} {u : List α} {x y : α} {r : List α} : List.set (u ++ x :: r) u.length y = u ++ y :: r := by
  rw [List.set_append_right _ _ (Nat.le_refl _), Nat.sub_self, List.set_cons_zero]
theorem get_at {α : Type} {u : List α} {x : α} {r : List α} : (u ++ x :: r)[u.length]? = some x := by
  rw [List.getElem?_append_right (Nat.le_refl _), Nat.sub_self]; rfl
theorem mark_eq (a : List Firing) (k : Nat) (hl : a.length ≤ 1048576) (hk : k ≤ 1048576) : laws_markFiringS a (k : Int) = some (((k + 3 * a.length : Nat) : Int), (List.range a.length).map (mkF k)) := by
  unfold laws_markFiringS
  have := loopM_count (step := laws_markFiringS_L1 a) (fun i => ((List.range i).map (mkF k) ++ a.drop i, ((k + 3 * i : Nat) : Int), (i : Int))) a.length (r := (((k + 3 * a.length : Nat) : Int), (List.range a.length).map (mkF k))) (fun i hi => ?_) ?_
  · have e0 : ((List.range 0).map (mkF k) ++ a.drop 0, ((k + 3 * 0 : Nat) : Int), ((0 : Nat) : Int)) = (a, (k : Int), (0 : Int)) := rfl
    rw [e0] at this
    rw [this]; rfl
  · have hx : a[i]? = some a[i] := List.getElem?_eq_getElem hi
    have hd : a.drop i = a[i] :: a.drop (i + 1) := List.drop_eq_getElem_cons hi
    have hu : ((List.range i).map (mkF k)).length = i := by simp
    have g : ∀ z : Firing, ((List.range i).map (mkF k) ++ z :: a.drop (i + 1))[i]? = some z := fun z => by
      have := get_at (u := (List.range i).map (mkF k)) (x := z) (r := a.drop (i + 1))
      rwa [hu] at this
    have st : ∀ z y : Firing, List.set ((List.range i).map (mkF k) ++ z :: a.drop (i + 1)) i y = (List.range i).map (mkF k) ++ y :: a.drop (i + 1) := fun z y => by
      have := set_at (u := (List.range i).map (mkF k)) (x := z) (y := y) (r := a.drop (i + 1))
      rwa [hu] at this
    unfold laws_markFiringS_L1
    simp only
    rw [decide_eq_true (by omega : (i : Int) < (a.length : Int)), cond_true, hd, idxO_nat (g _)]
    simp only [Option.bind_some, letT_eq, Int.toNat_natCast, st]
    rw [idxO_nat (g _)]
    simp only [Option.bind_some, st]
    rw [idxO_nat (g _)]
    simp only [Option.bind_some, st]
    rw [wrap_succ (i := i) (by omega), wrap_succ (i := k + 3 * i) (by omega), wrap_succ (i := k + 3 * i + 1) (by omega), wrap_succ (i := k + 3 * i + 1 + 1) (by omega)]
    have e2 : (List.range (i + 1)).map (mkF k) = (List.range i).map (mkF k) ++ [mkF k i] := by rw [List.range_succ, List.map_append]; rfl
    rw [e2, List.append_assoc]
    rfl
  · unfold laws_markFiringS_L1
    simp only
    rw [decide_eq_false (by omega : ¬ ((a.length : Int) < (a.length : Int))), cond_false, List.drop_length, List.append_nil]
theorem held_eq (n k : Nat) (hl : n ≤ 1048576) (hk : k ≤ 1048576) : laws_heldFiringS ((List.range n).map (mkF k)) (k : Int) = some ((k + 3 * n : Nat) : Int) := by
  unfold laws_heldFiringS
  have := loopM_count (step := laws_heldFiringS_L1 ((List.range n).map (mkF k))) (fun i => (((k + 3 * i : Nat) : Int), (i : Int))) n (r := .inr ((k + 3 * n : Nat) : Int)) (fun i hi => ?_) ?_
  · have e0 : (((k + 3 * 0 : Nat) : Int), ((0 : Nat) : Int)) = ((k : Int), (0 : Int)) := rfl
    rw [e0] at this
    rw [this]; rfl
  · have hx : ((List.range n).map (mkF k))[i]? = some (mkF k i) := by
      rw [List.getElem?_map, List.getElem?_range hi]; rfl
    unfold laws_heldFiringS_L1
    simp only
    rw [decide_eq_true (by simp; omega : (i : Int) < (((List.range n).map (mkF k)).length : Int)), cond_true, idxO_nat hx]
    simp only [Option.bind_some, letT_eq]
    rw [wrap_succ (i := k + 3 * i) (by omega), wrap_succ (i := k + 3 * i + 1) (by omega), wrap_succ (i := k + 3 * i + 1 + 1) (by omega), wrap_succ (i := i) (by omega)]
    have e1 : (mkF k i).Event = ((k + 3 * i : Nat) : Int) := rfl
    have e2 : (mkF k i).Number = ((k + 3 * i + 1 : Nat) : Int) := rfl
    have e3 : (mkF k i).Time = ((k + 3 * i + 1 + 1 : Nat) : Int) := rfl
    rw [e1, e2, e3]
    simp only [bne_self_eq_false, cond_false]
    rfl
  · unfold laws_heldFiringS_L1
    simp only
    rw [decide_eq_false (by simp : ¬ ((n : Int) < (((List.range n).map (mkF k)).length : Int))), cond_false]

/-- THE LAW. -/
theorem law_RecoverTrace (s : List UInt8) (_ : s.length ≤ maxLen) : laws_FnExactRecoverTrace s = some true := by
  unfold laws_FnExactRecoverTrace
  by_cases hbig : (s.length : Int) > 1048576
  · rw [decide_eq_true hbig]; rfl
  · rw [decide_eq_false hbig, cond_false]
    have both : ∃ l code, spec_RecoverTrace s = some (l, code) ∧ impl_RecoverTrace s = some (l, code) ∧ l.length ≤ 500 := by
      unfold spec_RecoverTrace impl_RecoverTrace
      by_cases h2 : (s.length : Int) > 20000
      · rw [decide_eq_true h2]
        exact ⟨[], 3, rfl, rfl, by simp⟩
      · rw [decide_eq_false h2, spec_found (by omega), impl_found (by omega)]
        exact ⟨_, _, rfl, rfl, (found_text s).1⟩
    obtain ⟨l, code, h1, h2, h3⟩ := both
    have hm := mark_eq l 1 (by omega) (by omega)
    have hh := held_eq l.length 1 (by omega) (by omega)
    have hm' : laws_markFiringS l 1 = some (((1 + 3 * l.length : Nat) : Int), (List.range l.length).map (mkF 1)) := hm
    have hh' : laws_heldFiringS ((List.range l.length).map (mkF 1)) 1 = some ((1 + 3 * l.length : Nat) : Int) := hh
    rw [h1, h2]
    simp only [Option.bind_some, eqFiringS_self l (by omega), bne_self_eq_false, Bool.not_true, Bool.or_self, cond_false, hm', hh']
    rw [decide_eq_false (by omega : ¬ (((1 + 3 * l.length : Nat) : Int) < 0))]
    rfl
end Go.Proofs.YtneifoepoccjaaaDoor
