/-
  The lines of a trace, as the program and the reference write them, in plain Lean. No program in sight.
-/
import Derived.Test.YtneifoepoccjaaaGreatDoorP2
import Derived.Test.YtneifoepoccjaaaGreatDoorQN
namespace Go.Proofs.YtneifoepoccjaaaGreatDoor

/-! ## What may be written -/
def writable (f : Firing) : Bool := decide (0 ≤ f.Event ∧ f.Event ≤ 9 ∧ 0 ≤ f.Time ∧ f.Time ≤ 1000000)
theorem l28Writable_eq (f : Firing) : spec_l28Writable f = writable f := by
  simp only [spec_l28Writable, spec_l01In, writable, ge_iff_le, Bool.decide_and, Bool.and_assoc]
theorem isWritable_c1_eq (f : Firing) : impl_isWritable_c1 f = !writable f := by
  simp only [impl_isWritable_c1, impl_within, writable, ge_iff_le, Bool.decide_and]
  cases decide (0 ≤ f.Event) <;> cases decide (f.Event ≤ 9) <;> cases decide (0 ≤ f.Time) <;> cases decide (f.Time ≤ 1000000) <;> rfl

/-- A loop that looks for the first element of a kind. -/
theorem loopM_find {α ρ : Type} {p : α → Bool} {step : Int → Option (Sum Int ρ)} {xs : List α} {hit : Nat → ρ} {miss : ρ}
    (hs : ∀ (i : Nat) (x : α), xs[i]? = some x → step (i : Int) = if p x then some (.inr (hit i)) else some (.inl ((i : Int) + 1))) (he : step (xs.length : Int) = some (.inr miss)) :
    ∃ r, loopM step 0 = some r ∧ ((xs.any p = true ∧ ∃ i, r = hit i) ∨ (xs.any p = false ∧ r = miss)) := by
  have key : ∀ k i, i + k = xs.length → (xs.drop i).any p = xs.any p → ∃ r, loopM step (i : Int) = some r ∧ ((xs.any p = true ∧ ∃ i, r = hit i) ∨ (xs.any p = false ∧ r = miss)) := by
    intro k
    induction k with
    | zero =>
      intro i h hany
      have : i = xs.length := by omega
      subst this
      refine ⟨miss, loopM_done he, Or.inr ⟨?_, rfl⟩⟩
      rw [← hany]; simp
    | succ k ih =>
      intro i h hany
      have hi : i < xs.length := by omega
      have hx : xs[i]? = some xs[i] := List.getElem?_eq_getElem hi
      have hstep := hs i _ hx
      have hd : xs.drop i = xs[i] :: xs.drop (i + 1) := List.drop_eq_getElem_cons hi
      cases hp : p xs[i] with
      | true =>
        rw [hp, if_pos rfl] at hstep
        refine ⟨hit i, loopM_done hstep, Or.inl ⟨?_, i, rfl⟩⟩
        rw [← hany, hd, List.any_cons, hp]; rfl
      | false =>
        rw [hp] at hstep
        simp only [Bool.false_eq_true, if_false] at hstep
        rw [loopM_next hstep]
        have := ih (i + 1) (by omega) (by rw [← hany, hd, List.any_cons, hp]; rfl)
        simpa using this
  have := key xs.length 0 (by omega) (by simp)
  simpa using this

theorem isWritable_eq (run : List Firing) (h : run.length ≤ 1048576) : impl_isWritable run = some (run.all writable && decide (run.length ≤ 500)) := by
  unfold impl_isWritable slices_ContainsFunc_Firing_isWritable_c1 slices_IndexFunc_Firing_isWritable_c1
  obtain ⟨r, hr, hcase⟩ := loopM_find (xs := run) (p := fun f => !writable f) (step := slices_IndexFunc_Firing_isWritable_c1_L1 run) (hit := fun i => .inl (i : Int)) (miss := .inr ()) (fun i x hx => by
    have hi := (List.getElem?_eq_some_iff.1 hx).1
    unfold slices_IndexFunc_Firing_isWritable_c1_L1
    rw [decide_eq_true (by omega : (i : Int) < (run.length : Int)), cond_true, idxO_nat hx]
    simp only [Option.bind_some, isWritable_c1_eq]
    rw [wrap64 (by omega) (by omega)]
    cases writable x <;> rfl) (by
    unfold slices_IndexFunc_Firing_isWritable_c1_L1
    rw [decide_eq_false (by omega : ¬ ((run.length : Int) < (run.length : Int))), cond_false])
  rw [hr]
  have hall : run.all writable = !(run.any fun f => !writable f) := by
    rw [List.not_any_eq_all_not]; simp
  have hle : decide ((run.length : Int) ≤ 500) = decide (run.length ≤ 500) := by simp only [decide_eq_decide]; omega
  rw [hle]
  cases hd : decide (run.length ≤ 500) with
  | false => simp
  | true =>
    simp only [cond_true, Option.bind_some]
    rcases hcase with ⟨h1, i, rfl⟩ | ⟨h1, rfl⟩
    · rw [hall, h1]
      simp
    · rw [hall, h1]
      simp

/-! ## The lines -/
def line (f : Firing) (chain : Nat) : List UInt8 := Lib.decDigits f.Event.toNat ++ [32] ++ Lib.decDigits f.Time.toNat ++ [32] ++ Lib.decDigits chain ++ [10]
def next (chain : Nat) (f : Firing) : Nat := (31 * chain + 7 * f.Event.toNat + f.Time.toNat) % 9973
theorem line_len {f : Firing} {chain : Nat} (hf : writable f = true) (hc : chain < 9973) : (line f chain).length ≤ 100 := by
  simp only [writable, decide_eq_true_eq] at hf
  have h1 := dec_len f.Event.toNat (by omega)
  have h2 := dec_len f.Time.toNat (by omega)
  have h3 := dec_len chain (by omega)
  simp only [line, List.length_append, List.length_cons, List.length_nil]
  omega
theorem next_lt (c : Nat) (f : Firing) : next c f < 9973 := Nat.mod_lt _ (by decide)
theorem next_eq {f : Firing} {chain : Nat} (hf : writable f = true) (hc : chain < 9973) :
    Int.tmod (IntKind.i64.wrap ((IntKind.i64.wrap ((IntKind.i64.wrap (31 * (chain : Int))) + (IntKind.i64.wrap (7 * f.Event)))) + f.Time)) 9973 = (next chain f : Int) := by
  simp only [writable, decide_eq_true_eq] at hf
  rw [wrap64 (x := 31 * (chain : Int)) (by omega) (by omega), wrap64 (x := 7 * f.Event) (by omega) (by omega), wrap64 (x := 31 * (chain : Int) + 7 * f.Event) (by omega) (by omega), wrap64 (by omega) (by omega)]
  have e : 31 * (chain : Int) + 7 * f.Event + f.Time = ((31 * chain + 7 * f.Event.toNat + f.Time.toNat : Nat) : Int) := by omega
  rw [e, show (9973 : Int) = ((9973 : Nat) : Int) from rfl, ← Int.ofNat_tmod]
  rfl
theorem l28Next_eq {f : Firing} {chain : Nat} (hf : writable f = true) (hc : chain < 9973) : spec_l28Next (chain : Int) f = (next chain f : Int) := next_eq hf hc
theorem traceLine_eq {f : Firing} {chain : Nat} (hf : writable f = true) (hc : chain < 9973) : impl_traceLine f (chain : Int) = some (line f (next chain f), (next chain f : Int)) := by
  have hn := next_lt chain f
  unfold impl_traceLine
  rw [next_eq hf hc]
  simp only [letT_eq]
  simp only [writable, decide_eq_true_eq] at hf
  have e1 : f.Event = ((f.Event.toNat : Nat) : Int) := by omega
  have e2 : f.Time = ((f.Time.toNat : Nat) : Int) := by omega
  have h1 := dec_len f.Event.toNat (by omega)
  have h2 := dec_len f.Time.toNat (by omega)
  have h3 := dec_len (next chain f) (by omega)
  have d1 : impl_decimal f.Event = some (Lib.decDigits f.Event.toNat) := by rw [e1, Int.toNat_natCast]; exact decimal_eq _ (by omega)
  have d2 : impl_decimal f.Time = some (Lib.decDigits f.Time.toNat) := by rw [e2, Int.toNat_natCast]; exact decimal_eq _ (by omega)
  rw [d1, d2, decimal_eq (next chain f) (by omega)]
  simp only [Option.bind_some]
  rw [catO_eq (by simp; omega)]
  simp only [Option.bind_some]
  rw [catO_eq (by simp; omega)]
  simp only [Option.bind_some]
  rw [catO_eq (by simp; omega)]
  simp only [Option.bind_some]
  rw [catO_eq (by simp; omega)]
  simp only [Option.bind_some]
  rw [catO_eq (by simp; omega)]
  rfl

/-! ## The trace -/
def chainAt (run : List Firing) (i : Nat) : Nat := (run.take i).foldl next 1
def textAt : Nat → List Firing → List UInt8
  | _, [] => []
  | c, f :: r => line f (next c f) ++ textAt (next c f) r
theorem chainAt_lt (run : List Firing) (i : Nat) : chainAt run i < 9973 := by
  unfold chainAt
  have : ∀ (l : List Firing) (c : Nat), c < 9973 → l.foldl next c < 9973 := by
    intro l
    induction l with
    | nil => intro c h; exact h
    | cons f r ih => intro c _; exact ih _ (next_lt c f)
  exact this _ _ (by decide)
theorem chainAt_succ {run : List Firing} {i : Nat} {f : Firing} (h : run[i]? = some f) : chainAt run (i + 1) = next (chainAt run i) f := by
  unfold chainAt
  rw [List.take_add_one, h]; simp
theorem textAt_append (c : Nat) (r : List Firing) (f : Firing) : textAt c (r ++ [f]) = textAt c r ++ line f (next (r.foldl next c) f) := by
  induction r generalizing c with
  | nil => simp [textAt]
  | cons g r ih => simp [textAt, ih]
theorem textAt_succ {run : List Firing} {i : Nat} {f : Firing} (h : run[i]? = some f) : textAt 1 (run.take (i + 1)) = textAt 1 (run.take i) ++ line f (next (chainAt run i) f) := by
  rw [List.take_add_one, h]
  simp only [Option.toList_some]
  rw [textAt_append]; rfl
theorem textAt_len (run : List Firing) (hw : run.all writable = true) (i : Nat) : (textAt 1 (run.take i)).length ≤ 100 * i := by
  induction i with
  | zero => simp [textAt]
  | succ i ih =>
    cases hx : run[i]? with
    | none =>
      rw [List.take_add_one, hx]; simp; omega
    | some f =>
      rw [textAt_succ hx, List.length_append]
      have hf : writable f = true := List.all_eq_true.1 hw f (List.mem_of_getElem? hx)
      have := line_len hf (next_lt (chainAt run i) f)
      omega


end Go.Proofs.YtneifoepoccjaaaGreatDoor
