/-
  Texts cut at a byte, as the program and the reference cut them, in plain Lean. No program in sight.
-/
import Derived.Test.YtneifoepoccjaaaGreatDoorP2
import Derived.Test.YtneifoepoccjaaaGreatDoorQ2
namespace Go.Proofs.YtneifoepoccjaaaGreatDoor

theorem u8_beq (x b : UInt8) : ((x.toNat : Int) == (b.toNat : Int)) = (x == b) := by
  rw [Bool.eq_iff_iff, beq_iff_eq, beq_iff_eq, ← UInt8.toNat_inj]; omega
theorem subO_eq {α : Type} {xs : List α} {i j : Nat} (h : i ≤ j) (hj : j ≤ xs.length) : subO xs (i : Int) (j : Int) = some ((xs.drop i).take (j - i)) := by
  unfold subO
  rw [if_pos ⟨by omega, by omega, by omega⟩]
  simp
theorem l01Split_eq (s : List UInt8) (b : UInt8) (hs : s.length ≤ 1099511627776) : spec_l01Split s (b.toNat : Int) = some (cutS b s) := by
  unfold spec_l01Split
  obtain ⟨r, hr, hpost⟩ := loopM_inv (step := spec_l01Split_L1 s (b.toNat : Int)) (fun i st => st.2.2 = (i : Int) ∧ st.1.length ≤ i ∧ (i ≤ s.length → ∃ f : Nat, st.2.1 = (f : Int) ∧ f ≤ i ∧ st.1 ++ cutS b (s.drop f) = cutS b s ∧ b ∉ (s.drop f).take (i - f)) ∧ (i = s.length + 1 → st.1 = cutS b s))
    (s.length + 1) (fun r => r = cutS b s)
    (fun i st hi ⟨h1, h2, h3, _⟩ => by
      obtain ⟨out, f', i'⟩ := st
      simp only at h1 h2 h3
      subst h1
      obtain ⟨f, rfl, hf, hc, hn⟩ := h3 (by omega)
      unfold spec_l01Split_L1
      simp only
      rw [decide_eq_true (by omega : (i : Int) ≤ (s.length : Int)), cond_true]
      have close : (subO s (f : Int) (i : Int)).bind (fun z9 => (appO 16 out [z9]).bind fun z12 => some (z12, IntKind.i64.wrap ((i : Int) + 1))) = some (out ++ [(s.drop f).take (i - f)], ((i + 1 : Nat) : Int)) := by
        rw [subO_eq hf (by omega)]
        simp only [Option.bind_some]
        rw [appO_eq (by simp only [List.length_singleton]; omega), wrap64 (by omega) (by omega)]
        rfl
      by_cases he : i = s.length
      · have e1 : (((i : Nat) : Int) == (s.length : Int)) = true := by rw [beq_iff_eq]; omega
        rw [e1]
        simp only [cond_true, Option.bind_some, close]
        have hrest : (s.drop f).take (i - f) = s.drop f := List.take_of_length_le (by rw [List.length_drop]; omega)
        rw [hrest] at hn
        rw [cutS_none hn] at hc
        refine Or.inl ⟨_, rfl, wrap_succ (by omega), by simp; omega, fun h => by omega, fun _ => ?_⟩
        rw [hrest]; exact hc
      · have e1 : (((i : Nat) : Int) == (s.length : Int)) = false := by
          cases hb : (((i : Nat) : Int) == (s.length : Int)) with
          | false => rfl
          | true => rw [beq_iff_eq] at hb; omega
        have hlt : i < s.length := by omega
        have hx : s[i]? = some s[i] := List.getElem?_eq_getElem hlt
        have hx2 : (s.drop f)[i - f]? = some s[i] := by rw [List.getElem?_drop, show f + (i - f) = i by omega]; exact hx
        rw [e1, cond_false, idxO_nat hx]
        simp only [Option.bind_some, u8_beq]
        cases hb : (s[i] == b) with
        | true =>
          have hb' : s[i] = b := by simpa using hb
          simp only [cond_true, close, Option.bind_some]
          refine Or.inl ⟨_, rfl, wrap_succ (by omega), by simp; omega, fun h => ⟨i + 1, rfl, Nat.le_refl _, ?_, by simp⟩, fun h => by omega⟩
          have hd : s.drop f = (s.drop f).take (i - f) ++ b :: s.drop (i + 1) := by
            conv => lhs; rw [← List.take_append_drop (i - f) (s.drop f)]
            congr 1
            rw [List.drop_drop, show f + (i - f) = i by omega, List.drop_eq_getElem_cons hlt, hb']
          have h5 : cutS b (s.drop f) = (s.drop f).take (i - f) :: cutS b (s.drop (i + 1)) := (congrArg (cutS b) hd).trans (cutS_app hn)
          rw [← hc, h5]
          simp [List.append_assoc]
        | false =>
          have hb' : s[i] ≠ b := by simpa using hb
          simp only [cond_false, Option.bind_some]
          refine Or.inl ⟨_, rfl, wrap_succ (by omega), Nat.le_succ_of_le h2, fun h => ⟨f, rfl, by omega, hc, ?_⟩, fun h => by omega⟩
          rw [show i + 1 - f = (i - f) + 1 by omega, List.take_add_one, hx2]
          intro hm
          rcases List.mem_append.1 hm with hm | hm
          · exact hn hm
          · have : b = s[i] := by simpa using hm
            exact hb' this.symm)
    (fun st ⟨h1, _, _, h4⟩ => by
      obtain ⟨out, f', i'⟩ := st
      simp only at h1 h4
      subst h1
      unfold spec_l01Split_L1
      simp only
      rw [decide_eq_false (by omega : ¬ (((s.length + 1 : Nat) : Int) ≤ (s.length : Int))), cond_false]
      exact ⟨_, rfl, h4 trivial⟩) (s0 := ([], 0, 0)) ⟨rfl, Nat.le_refl _, fun _ => ⟨0, rfl, Nat.le_refl _, by simp, by simp⟩, fun h => by omega⟩
  rw [hr, hpost]
  rfl
end Go.Proofs.YtneifoepoccjaaaGreatDoor
