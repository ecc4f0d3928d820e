/-
  The law of AppendFiring in plain Lean: the program's longer trace is the reference's. No program in sight.
-/
import Derived.Test.YtneifoepoccjaaaDoorP1
import Derived.Test.YtneifoepoccjaaaDoorQR
namespace Go.Proofs.YtneifoepoccjaaaDoor

theorem l28All_eq (run : List Firing) (h : run.length ≤ 1048576) : spec_l28All run = some (run.all writable && decide (run.length ≤ 500)) := by
  unfold spec_l28All
  obtain ⟨r, hr, hcase⟩ := loopM_find (xs := run) (p := fun f => !writable f) (step := spec_l28All_L1 run) (hit := fun _ => .inl ()) (miss := .inr ()) (fun i x hx => by
    have hi := (List.getElem?_eq_some_iff.1 hx).1
    unfold spec_l28All_L1
    rw [decide_eq_true (by omega : (i : Int) < (run.length : Int)), cond_true, idxO_nat hx]
    simp only [Option.bind_some, l28Writable_eq]
    rw [wrap64 (by omega) (by omega)]
    cases writable x <;> rfl) (by
    unfold spec_l28All_L1
    rw [decide_eq_false (by omega : ¬ ((run.length : Int) < (run.length : Int))), cond_false])
  rw [hr]
  have hall : run.all writable = !(run.any fun f => !writable f) := by
    rw [List.not_any_eq_all_not]; simp
  simp only [Option.bind_some]
  rcases hcase with ⟨h1, i, rfl⟩ | ⟨h1, rfl⟩
  · rw [hall, h1]; rfl
  · rw [hall, h1]
    simp only [Sum.elim_inr, Bool.not_false, Bool.true_and]
    congr 1
    simp only [decide_eq_decide]; omega
theorem l28Line_eq {f : Firing} {chain : Nat} (hf : writable f = true) (hc : chain < 9973) : (spec_l28Line f (chain : Int)).bind (fun o => catO o [10]) = some (line f chain) := by
  have hf' := hf
  simp only [writable, decide_eq_true_eq] at hf
  have e1 : f.Event = ((f.Event.toNat : Nat) : Int) := by omega
  have e2 : f.Time = ((f.Time.toNat : Nat) : Int) := by omega
  have h1 := dec_len f.Event.toNat (by omega)
  have h2 := dec_len f.Time.toNat (by omega)
  have h3 := dec_len chain (by omega)
  have d1 : spec_l01Dec f.Event = some (Lib.decDigits f.Event.toNat) := by rw [e1, Int.toNat_natCast]; exact l01Dec_eq _ (by omega)
  have d2 : spec_l01Dec f.Time = some (Lib.decDigits f.Time.toNat) := by rw [e2, Int.toNat_natCast]; exact l01Dec_eq _ (by omega)
  unfold spec_l28Line
  rw [d1, d2, l01Dec_eq chain (by omega)]
  simp only [Option.bind_some]
  rw [catO_eq (by simp; omega)]
  simp only [Option.bind_some]
  rw [catO_eq (by simp; omega)]
  simp only [Option.bind_some]
  rw [catO_eq (by simp; omega)]
  simp only [Option.bind_some]
  rw [catO_eq (by simp; omega)]
  simp only [Option.bind_some]
  rw [catO_eq (by simp; omega)]
  rfl
theorem impl_trace {run : List Firing} (hw : run.all writable = true) (hl : run.length ≤ 500) : impl_traceText run = some (textAt 1 run, (chainAt run run.length : Int)) := by
  unfold impl_traceText
  have : loopM (impl_traceText_L1 run) ([], 1, 0) = some (textAt 1 run, (chainAt run run.length : Int)) := by
    have := loopM_count (step := impl_traceText_L1 run) (fun i => (textAt 1 (run.take i), (chainAt run i : Int), (i : Int))) run.length (r := (textAt 1 run, (chainAt run run.length : Int))) (fun i hi => ?_) ?_
    · simpa [chainAt, textAt] using this
    · have hx : run[i]? = some run[i] := List.getElem?_eq_getElem hi
      have hf : writable run[i] = true := List.all_eq_true.1 hw _ (List.mem_of_getElem? hx)
      have hc := chainAt_lt run i
      unfold impl_traceText_L1
      simp only
      rw [decide_eq_true (by omega : (i : Int) < (run.length : Int)), cond_true, idxO_nat hx]
      simp only [Option.bind_some]
      rw [traceLine_eq hf hc]
      have hlen := textAt_len run hw i
      have hlen2 := line_len hf (next_lt (chainAt run i) run[i])
      simp only [Option.bind_some, strings_Builder_WriteString]
      rw [if_pos (by simp only [toBytes, List.length_map]; omega)]
      simp only [Option.bind_some]
      rw [wrap64 (by omega) (by omega), chainAt_succ hx, textAt_succ hx]
      simp
    · unfold impl_traceText_L1
      simp only
      rw [decide_eq_false (by omega : ¬ ((run.length : Int) < (run.length : Int))), cond_false]
      simp
  rw [this]
  rfl


theorem chainAfter_eq {run : List Firing} (hw : run.all writable = true) (hl : run.length ≤ 500) : spec_ChainAfter run = some ((chainAt run run.length : Int), 0) := by
  unfold spec_ChainAfter
  rw [l28All_eq run (by omega), hw, decide_eq_true hl]
  simp only [Bool.and_self, Option.bind_some, Bool.not_true, cond_false]
  have : loopM (spec_ChainAfter_L1 run) (1, 0) = some (chainAt run run.length : Int) := by
    have := loopM_count (step := spec_ChainAfter_L1 run) (fun i => ((chainAt run i : Int), (i : Int))) run.length (r := (chainAt run run.length : Int)) (fun i hi => ?_) ?_
    · simpa [chainAt] using this
    · have hx : run[i]? = some run[i] := List.getElem?_eq_getElem hi
      have hf : writable run[i] = true := List.all_eq_true.1 hw _ (List.mem_of_getElem? hx)
      have hc := chainAt_lt run i
      unfold spec_ChainAfter_L1
      simp only
      rw [decide_eq_true (by omega : (i : Int) < (run.length : Int)), cond_true, idxO_nat hx]
      simp only [Option.bind_some]
      rw [l28Next_eq hf hc, wrap_succ (by omega), chainAt_succ hx]
    · unfold spec_ChainAfter_L1
      simp only
      rw [decide_eq_false (by omega : ¬ ((run.length : Int) < (run.length : Int))), cond_false]
  rw [this]
  rfl

/-- What both give. -/
noncomputable def appended (s : List UInt8) (f : Firing) : List UInt8 × Int :=
  if (found s).2 ≠ s.length then ([], 6) else if writable f = false then ([], 2) else if (found s).1.length = 500 then ([], 3) else (textAt 1 ((found s).1 ++ [f]), 0)
theorem spec_append {s : List UInt8} (hs : s.length ≤ 1073741824) (f : Firing) : spec_AppendFiring s f = some (appended s f) := by
  unfold spec_AppendFiring appended
  obtain ⟨h1, h2, h3, h4⟩ := found_text s
  rw [spec_found hs]
  simp only [Option.bind_some]
  by_cases hz : (found s).2 = s.length
  · have e1 : (((found s).2 : Int) != (s.length : Int)) = false := by rw [hz]; simp
    rw [e1, cond_false, if_neg (by simp [hz]), l28Writable_eq]
    cases hw : writable f with
    | false => rfl
    | true =>
      simp only [Bool.not_true, cond_false]
      rw [if_neg (by simp)]
      by_cases hl : (found s).1.length = 500
      · have e2 : (((found s).1.length : Int) == 500) = true := by rw [hl]; rfl
        rw [e2, if_pos hl]; rfl
      · have e2 : (((found s).1.length : Int) == 500) = false := by rw [beq_eq_false_iff_ne]; omega
        rw [e2, if_neg hl, cond_false, chainAfter_eq h2 h1]
        simp only [Option.bind_some]
        have hc := chainAt_lt (found s).1 (found s).1.length
        rw [l28Next_eq hw hc]
        have hl2 := l28Line_eq (chain := next (chainAt (found s).1 (found s).1.length) f) hw (next_lt _ _)
        have hlen := line_len hw (next_lt (chainAt (found s).1 (found s).1.length) f)
        cases hq : spec_l28Line f (next (chainAt (found s).1 (found s).1.length) f : Int) with
        | none => rw [hq] at hl2; cases hl2
        | some q =>
          rw [hq] at hl2
          simp only [Option.bind_some] at hl2 ⊢
          obtain ⟨hle, e4⟩ := catO_some hl2
          rw [e4] at hlen
          simp only [List.length_append, List.length_singleton] at hlen
          rw [catO_eq (by omega)]
          simp only [Option.bind_some]
          rw [catO_eq (by simp only [List.length_append, List.length_singleton]; omega)]
          simp only [Option.bind_some]
          have hst : s = textAt 1 (found s).1 := by rw [← h4, hz, List.take_length]
          have hchain : (found s).1.foldl next 1 = chainAt (found s).1 (found s).1.length := by unfold chainAt; rw [List.take_length]
          rw [textAt_append, hchain, e4, ← hst, List.append_assoc]
  · have e1 : (((found s).2 : Int) != (s.length : Int)) = true := by rw [bne_iff_ne]; omega
    rw [e1, if_pos hz]; rfl
theorem impl_append {s : List UInt8} (hs : s.length ≤ 1073741824) (f : Firing) : impl_AppendFiring s f = some (appended s f) := by
  unfold impl_AppendFiring appended
  obtain ⟨h1, h2, h3, h4⟩ := found_text s
  rw [impl_found hs]
  simp only [Option.bind_some]
  by_cases hz : (found s).2 = s.length
  · have e1 : (((found s).2 : Int) != (s.length : Int)) = false := by rw [hz]; simp
    rw [e1, cond_false, if_neg (by simp [hz]), isWritable_one]
    simp only [Option.bind_some]
    cases hw : writable f with
    | false => rfl
    | true =>
      simp only [Bool.not_true, cond_false]
      rw [if_neg (by simp)]
      by_cases hl : (found s).1.length = 500
      · have e2 : (((found s).1.length : Int) == 500) = true := by rw [hl]; rfl
        rw [e2, if_pos hl]; rfl
      · have e2 : (((found s).1.length : Int) == 500) = false := by rw [beq_eq_false_iff_ne]; omega
        rw [e2, if_neg hl, cond_false, appO_eq (by simp; omega)]
        simp only [Option.bind_some]
        rw [impl_trace (by rw [List.all_append, h2]; simp [hw]) (by simp; omega)]
        rfl
  · have e1 : (((found s).2 : Int) != (s.length : Int)) = true := by rw [bne_iff_ne]; omega
    rw [e1, if_pos hz]; rfl
/-- THE LAW. -/
theorem law_AppendFiring (s : List UInt8) (f : Firing) (_ : s.length ≤ maxLen) (_ : ∀ z ∈ [f.Event, f.Number, f.Time], -9223372036854775808 ≤ z ∧ z ≤ 9223372036854775807) : laws_FnExactAppendFiring s f = some true := by
  unfold laws_FnExactAppendFiring
  by_cases hbig : (s.length : Int) > 1048576
  · rw [decide_eq_true hbig]; rfl
  · rw [decide_eq_false hbig, cond_false]
    simp only [letT_eq, laws_toFiring]
    rw [spec_append (by omega), impl_append (by omega)]
    simp
end Go.Proofs.YtneifoepoccjaaaDoor
