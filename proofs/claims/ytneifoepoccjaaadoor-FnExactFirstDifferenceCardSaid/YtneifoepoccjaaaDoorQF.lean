/-
  The law of FirstDifference in plain Lean: the program and the reference find the same first difference. No program in sight.
-/
import Derived.Test.YtneifoepoccjaaaDoorP1
import Derived.Test.YtneifoepoccjaaaDoorQR
namespace Go.Proofs.YtneifoepoccjaaaDoor

theorem diff_same (a b : List Firing × Int) : impl_FirstDifference_L1 a b = spec_FirstDifference_L1 a b := by
  funext i
  unfold impl_FirstDifference_L1 spec_FirstDifference_L1
  have : (decide (i < (if (List.length b.1 : Int) > (List.length a.1 : Int) then (List.length b.1 : Int) else (List.length a.1 : Int)))) = ((decide (i < (List.length a.1 : Int))) || (decide (i < (List.length b.1 : Int)))) := by
    rw [Bool.eq_iff_iff, Bool.or_eq_true, decide_eq_true_eq, decide_eq_true_eq, decide_eq_true_eq]
    split <;> omega
  rw [this]
theorem diff_some (a b : List Firing × Int) (ha : a.1.length ≤ 500) (hb : b.1.length ≤ 500) : ∃ r, loopM (spec_FirstDifference_L1 a b) 0 = some r := by
  obtain ⟨r, hr, _⟩ := loopM_inv (step := spec_FirstDifference_L1 a b) (fun i st => st = (i : Int)) (max a.1.length b.1.length) (fun _ => True)
    (fun i st hi hst => by
      subst hst
      unfold spec_FirstDifference_L1
      have hc : ((decide ((i : Int) < (List.length a.1 : Int))) || (decide ((i : Int) < (List.length b.1 : Int)))) = true := by
        rw [Bool.or_eq_true, decide_eq_true_eq, decide_eq_true_eq]; omega
      rw [hc, cond_true]
      have hin : ∃ q, (bif (decide ((i : Int) ≥ (List.length a.1 : Int))) then
          some true
        else
          bif (decide ((i : Int) ≥ (List.length b.1 : Int))) then
            some true
          else
            (idxO a.1 (i : Int)).bind fun x13 =>
            (idxO b.1 (i : Int)).bind fun x15 =>
            bif (x13.Event != x15.Event) then
              some true
            else
              (idxO a.1 (i : Int)).bind fun x18 =>
              (idxO b.1 (i : Int)).bind fun x20 =>
              some (x18.Time != x20.Time)) = some q := by
        by_cases h1 : (i : Int) ≥ (List.length a.1 : Int)
        · rw [decide_eq_true h1]; exact ⟨_, rfl⟩
        · rw [decide_eq_false h1, cond_false]
          by_cases h2 : (i : Int) ≥ (List.length b.1 : Int)
          · rw [decide_eq_true h2]; exact ⟨_, rfl⟩
          · rw [decide_eq_false h2, cond_false]
            have hx : a.1[i]? = some a.1[i] := List.getElem?_eq_getElem (by omega)
            have hy : b.1[i]? = some b.1[i] := List.getElem?_eq_getElem (by omega)
            rw [idxO_nat hx, idxO_nat hy]
            simp only [Option.bind_some]
            cases (a.1[i].Event != b.1[i].Event) <;> exact ⟨_, rfl⟩
      obtain ⟨q, hq⟩ := hin
      rw [hq]
      simp only [Option.bind_some]
      cases q with
      | true => exact Or.inr ⟨_, rfl, trivial⟩
      | false => exact Or.inl ⟨_, rfl, wrap_succ (by omega)⟩)
    (fun st hst => by
      subst hst
      unfold spec_FirstDifference_L1
      have hc : ((decide (((max a.1.length b.1.length : Nat) : Int) < (List.length a.1 : Int))) || (decide (((max a.1.length b.1.length : Nat) : Int) < (List.length b.1 : Int)))) = false := by
        rw [Bool.or_eq_false_iff, decide_eq_false_iff_not, decide_eq_false_iff_not]; omega
      rw [hc]
      exact ⟨_, rfl, trivial⟩) (s0 := 0) rfl
  exact ⟨r, hr⟩
theorem diff_both (s t : List UInt8) (hs : s.length ≤ 1073741824) (ht : t.length ≤ 1073741824) : ∃ r, spec_FirstDifference s t = some r ∧ impl_FirstDifference s t = some r := by
  unfold spec_FirstDifference impl_FirstDifference impl_RecoverTrace
  by_cases h1 : (s.length : Int) > 20000
  · rw [decide_eq_true h1]
    exact ⟨_, rfl, rfl⟩
  · rw [decide_eq_false h1]
    by_cases h2 : (t.length : Int) > 20000
    · rw [decide_eq_true h2, impl_found hs]
      exact ⟨_, rfl, rfl⟩
    · rw [decide_eq_false h2]
      obtain ⟨r, hr⟩ := diff_some ((found s).1, ((found s).2 : Int)) ((found t).1, ((found t).2 : Int)) (found_text s).1 (found_text t).1
      obtain ⟨r2, hr2⟩ := diff_some ((found s).1, 0) ((found t).1, 0) (found_text s).1 (found_text t).1
      have hsame : spec_FirstDifference_L1 ((found s).1, ((found s).2 : Int)) ((found t).1, ((found t).2 : Int)) = spec_FirstDifference_L1 ((found s).1, 0) ((found t).1, 0) := rfl
      have e : r = r2 := by rw [hsame, hr2] at hr; exact (Option.some.inj hr).symm
      subst e
      simp only [Bool.or_self, cond_false, spec_found hs, spec_found ht, impl_found hs, impl_found ht, Option.bind_some, diff_same, hr, hr2, bne_self_eq_false]
      cases r with
      | inl v => exact ⟨_, rfl, rfl⟩
      | inr v => exact ⟨_, rfl, rfl⟩
/-- THE LAW. -/
theorem law_FirstDifference (s t : List UInt8) (_ : s.length ≤ maxLen) (_ : t.length ≤ maxLen) : laws_FnExactFirstDifference s t = some true := by
  unfold laws_FnExactFirstDifference
  by_cases hbig : (s.length : Int) > 1048576
  · rw [decide_eq_true hbig]; rfl
  · rw [decide_eq_false hbig, cond_false]
    by_cases hbig2 : (t.length : Int) > 1048576
    · rw [decide_eq_true hbig2]; rfl
    · rw [decide_eq_false hbig2, cond_false]
      obtain ⟨r, h1, h2⟩ := diff_both s t (by omega) (by omega)
      rw [h1, h2]
      simp
end Go.Proofs.YtneifoepoccjaaaDoor
