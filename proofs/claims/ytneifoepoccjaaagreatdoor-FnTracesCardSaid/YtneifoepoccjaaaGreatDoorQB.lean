/-
  Traces: which may be written, what they chain to, in plain Lean. No program in sight.
-/
import Derived.Test.YtneifoepoccjaaaGreatDoorP2
import Derived.Test.YtneifoepoccjaaaGreatDoorQW
namespace Go.Proofs.YtneifoepoccjaaaGreatDoor

theorem l28All_eq (run : List Firing) (h : run.length ≤ 1048576) : spec_l28All run = some (run.all writable && decide (run.length ≤ 500)) := by
  unfold spec_l28All
  obtain ⟨r, hr, hcase⟩ := loopM_find (xs := run) (p := fun f => !writable f) (step := spec_l28All_L1 run) (hit := fun _ => .inl ()) (miss := .inr ()) (fun i x hx => by
    have hi := (List.getElem?_eq_some_iff.1 hx).1
    unfold spec_l28All_L1
    rw [decide_eq_true (by omega : (i : Int) < (run.length : Int)), cond_true, idxO_nat hx]
    simp only [Option.bind_some, l28Writable_eq]
    rw [wrap64 (by omega) (by omega)]
    cases writable x <;> rfl) (by
    unfold spec_l28All_L1
    rw [decide_eq_false (by omega : ¬ ((run.length : Int) < (run.length : Int))), cond_false])
  rw [hr]
  have hall : run.all writable = !(run.any fun f => !writable f) := by
    rw [List.not_any_eq_all_not]; simp
  simp only [Option.bind_some]
  rcases hcase with ⟨h1, i, rfl⟩ | ⟨h1, rfl⟩
  · rw [hall, h1]; rfl
  · rw [hall, h1]
    simp only [Sum.elim_inr, Bool.not_false, Bool.true_and]
    congr 1
    simp only [decide_eq_decide]; omega
theorem l28Line_eq {f : Firing} {chain : Nat} (hf : writable f = true) (hc : chain < 9973) : (spec_l28Line f (chain : Int)).bind (fun o => catO o [10]) = some (line f chain) := by
  have hf' := hf
  simp only [writable, decide_eq_true_eq] at hf
  have e1 : f.Event = ((f.Event.toNat : Nat) : Int) := by omega
  have e2 : f.Time = ((f.Time.toNat : Nat) : Int) := by omega
  have h1 := dec_len f.Event.toNat (by omega)
  have h2 := dec_len f.Time.toNat (by omega)
  have h3 := dec_len chain (by omega)
  have d1 : spec_l01Dec f.Event = some (Lib.decDigits f.Event.toNat) := by rw [e1, Int.toNat_natCast]; exact l01Dec_eq _ (by omega)
  have d2 : spec_l01Dec f.Time = some (Lib.decDigits f.Time.toNat) := by rw [e2, Int.toNat_natCast]; exact l01Dec_eq _ (by omega)
  unfold spec_l28Line
  rw [d1, d2, l01Dec_eq chain (by omega)]
  simp only [Option.bind_some]
  rw [catO_eq (by simp; omega)]
  simp only [Option.bind_some]
  rw [catO_eq (by simp; omega)]
  simp only [Option.bind_some]
  rw [catO_eq (by simp; omega)]
  simp only [Option.bind_some]
  rw [catO_eq (by simp; omega)]
  simp only [Option.bind_some]
  rw [catO_eq (by simp; omega)]
  rfl
theorem impl_trace {run : List Firing} (hw : run.all writable = true) (hl : run.length ≤ 500) : impl_traceText run = some (textAt 1 run, (chainAt run run.length : Int)) := by
  unfold impl_traceText
  have : loopM (impl_traceText_L1 run) ([], 1, 0) = some (textAt 1 run, (chainAt run run.length : Int)) := by
    have := loopM_count (step := impl_traceText_L1 run) (fun i => (textAt 1 (run.take i), (chainAt run i : Int), (i : Int))) run.length (r := (textAt 1 run, (chainAt run run.length : Int))) (fun i hi => ?_) ?_
    · simpa [chainAt, textAt] using this
    · have hx : run[i]? = some run[i] := List.getElem?_eq_getElem hi
      have hf : writable run[i] = true := List.all_eq_true.1 hw _ (List.mem_of_getElem? hx)
      have hc := chainAt_lt run i
      unfold impl_traceText_L1
      simp only
      rw [decide_eq_true (by omega : (i : Int) < (run.length : Int)), cond_true, idxO_nat hx]
      simp only [Option.bind_some]
      rw [traceLine_eq hf hc]
      have hlen := textAt_len run hw i
      have hlen2 := line_len hf (next_lt (chainAt run i) run[i])
      simp only [Option.bind_some, strings_Builder_WriteString]
      rw [if_pos (by simp only [toBytes, List.length_map]; omega)]
      simp only [Option.bind_some]
      rw [wrap64 (by omega) (by omega), chainAt_succ hx, textAt_succ hx]
      simp
    · unfold impl_traceText_L1
      simp only
      rw [decide_eq_false (by omega : ¬ ((run.length : Int) < (run.length : Int))), cond_false]
      simp
  rw [this]
  rfl


theorem chainAfter_eq {run : List Firing} (hw : run.all writable = true) (hl : run.length ≤ 500) : spec_ChainAfter run = some ((chainAt run run.length : Int), 0) := by
  unfold spec_ChainAfter
  rw [l28All_eq run (by omega), hw, decide_eq_true hl]
  simp only [Bool.and_self, Option.bind_some, Bool.not_true, cond_false]
  have : loopM (spec_ChainAfter_L1 run) (1, 0) = some (chainAt run run.length : Int) := by
    have := loopM_count (step := spec_ChainAfter_L1 run) (fun i => ((chainAt run i : Int), (i : Int))) run.length (r := (chainAt run run.length : Int)) (fun i hi => ?_) ?_
    · simpa [chainAt] using this
    · have hx : run[i]? = some run[i] := List.getElem?_eq_getElem hi
      have hf : writable run[i] = true := List.all_eq_true.1 hw _ (List.mem_of_getElem? hx)
      have hc := chainAt_lt run i
      unfold spec_ChainAfter_L1
      simp only
      rw [decide_eq_true (by omega : (i : Int) < (run.length : Int)), cond_true, idxO_nat hx]
      simp only [Option.bind_some]
      rw [l28Next_eq hf hc, wrap_succ (by omega), chainAt_succ hx]
    · unfold spec_ChainAfter_L1
      simp only
      rw [decide_eq_false (by omega : ¬ ((run.length : Int) < (run.length : Int))), cond_false]
  rw [this]
  rfl

end Go.Proofs.YtneifoepoccjaaaGreatDoor
