/-
  The reference's text of a trace, in plain Lean. No program in sight.
-/
import Derived.Test.YtneifoepoccjaaaGreatDoorQB
namespace Go.Proofs.YtneifoepoccjaaaGreatDoor

theorem spec_trace {run : List Firing} (hw : run.all writable = true) (hl : run.length ≤ 500) : spec_TraceText run = some (textAt 1 run, 0) := by
  unfold spec_TraceText
  rw [l28All_eq run (by omega), hw, decide_eq_true hl]
  simp only [Bool.and_self, Option.bind_some, Bool.not_true, cond_false]
  have : loopM (spec_TraceText_L1 run) (1, [], 0) = some (toBytes (textAt 1 run)) := by
    have := loopM_count (step := spec_TraceText_L1 run) (fun i => ((chainAt run i : Int), toBytes (textAt 1 (run.take i)), (i : Int))) run.length (r := toBytes (textAt 1 run)) (fun i hi => ?_) ?_
    · simpa [chainAt, textAt, toBytes] using this
    · have hx : run[i]? = some run[i] := List.getElem?_eq_getElem hi
      have hf : writable run[i] = true := List.all_eq_true.1 hw _ (List.mem_of_getElem? hx)
      have hc := chainAt_lt run i
      unfold spec_TraceText_L1
      simp only
      rw [decide_eq_true (by omega : (i : Int) < (run.length : Int)), cond_true, idxO_nat hx]
      simp only [Option.bind_some]
      rw [l28Next_eq hf hc]
      have hl2 := l28Line_eq (chain := next (chainAt run i) run[i]) hf (next_lt _ _)
      cases hq : spec_l28Line run[i] (next (chainAt run i) run[i] : Int) with
      | none => rw [hq] at hl2; cases hl2
      | some q =>
        rw [hq] at hl2
        simp only [Option.bind_some] at hl2 ⊢
        rw [hl2]
        simp only [Option.bind_some]
        have hlen := textAt_len run hw i
        have hlen2 := line_len hf (next_lt (chainAt run i) run[i])
        rw [appsO_eq (by simp only [toBytes, List.length_map]; omega)]
        simp only [Option.bind_some]
        rw [wrap64 (by omega) (by omega), chainAt_succ hx, textAt_succ hx]
        simp [toBytes]
    · unfold spec_TraceText_L1
      simp only
      rw [decide_eq_false (by omega : ¬ ((run.length : Int) < (run.length : Int))), cond_false]
      simp
  rw [this]
  simp only [Option.bind_some, toStr_toBytes]
end Go.Proofs.YtneifoepoccjaaaGreatDoor
