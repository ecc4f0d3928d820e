/-
  The law of TraceText in plain Lean: the program's trace is the reference's. No program in sight.
-/
import Derived.Test.YtneifoepoccjaaaDoorP0
import Derived.Test.YtneifoepoccjaaaDoorQ0
namespace Go.Proofs.YtneifoepoccjaaaDoor

/-! ## A row of firings is copied as it is -/
theorem toFiringS_eq (a : List Firing) (h : a.length ≤ 1048576) : laws_toFiringS a = some a := by
  unfold laws_toFiringS
  rw [mkO_eq (by omega)]
  simp only [Option.bind_some]
  have : loopM (laws_toFiringS_L1 a) (List.replicate a.length ⟨0, 0, 0⟩, 0) = some a := by
    have := loopM_count (step := laws_toFiringS_L1 a) (fun i => (a.take i ++ List.replicate (a.length - i) ⟨0, 0, 0⟩, (i : Int))) a.length (r := a) (fun i hi => ?_) ?_
    · simpa using this
    · have hx : a[i]? = some a[i] := List.getElem?_eq_getElem hi
      unfold laws_toFiringS_L1
      simp only [letT_eq, laws_toFiring]
      rw [decide_eq_true (by omega : (i : Int) < (a.length : Int)), cond_true, idxO_nat hx]
      simp only [Option.bind_some]
      have hex : ∃ y, idxO (a.take i ++ List.replicate (a.length - i) (⟨0, 0, 0⟩ : Firing)) (i : Int) = some y := by
        refine ⟨_, idxO_nat (x := ⟨0, 0, 0⟩) ?_⟩
        rw [List.getElem?_append_right (by simp; omega)]
        simp [List.getElem?_replicate]; omega
      obtain ⟨y, hy⟩ := hex
      rw [hy]
      simp only [Option.bind_some, Int.toNat_natCast]
      rw [fill_take hx, wrap64 (by omega) (by omega)]
      simp
    · unfold laws_toFiringS_L1
      rw [decide_eq_false (by omega : ¬ ((a.length : Int) < (a.length : Int))), cond_false]
      simp
  rw [this]
  rfl

/-! ## What may be written -/
def writable (f : Firing) : Bool := decide (0 ≤ f.Event ∧ f.Event ≤ 9 ∧ 0 ≤ f.Time ∧ f.Time ≤ 1000000)
theorem l28Writable_eq (f : Firing) : spec_l28Writable f = writable f := by
  simp only [spec_l28Writable, spec_l01In, writable, ge_iff_le, Bool.decide_and, Bool.and_assoc]
theorem isWritable_c1_eq (f : Firing) : impl_isWritable_c1 f = !writable f := by
  simp only [impl_isWritable_c1, impl_within, writable, ge_iff_le, Bool.decide_and]
  cases decide (0 ≤ f.Event) <;> cases decide (f.Event ≤ 9) <;> cases decide (0 ≤ f.Time) <;> cases decide (f.Time ≤ 1000000) <;> rfl

/-- A loop that looks for the first element of a kind. -/
theorem loopM_find {α ρ : Type} {p : α → Bool} {step : Int → Option (Sum Int ρ)} {xs : List α} {hit : Nat → ρ} {miss : ρ}
    (hs : ∀ (i : Nat) (x : α), xs[i]? = some x → step (i : Int) = if p x then some (.inr (hit i)) else some (.inl ((i : Int) + 1))) (he : step (xs.length : Int) = some (.inr miss)) :
    ∃ r, loopM step 0 = some r ∧ ((xs.any p = true ∧ ∃ i, r = hit i) ∨ (xs.any p = false ∧ r = miss)) := by
  have key : ∀ k i, i + k = xs.length → (xs.drop i).any p = xs.any p → ∃ r, loopM step (i : Int) = some r ∧ ((xs.any p = true ∧ ∃ i, r = hit i) ∨ (xs.any p = false ∧ r = miss)) := by
    intro k
    induction k with
    | zero =>
      intro i h hany
      have : i = xs.length := by omega
      subst this
      refine ⟨miss, loopM_done he, Or.inr ⟨?_, rfl⟩⟩
      rw [← hany]; simp
    | succ k ih =>
      intro i h hany
      have hi : i < xs.length := by omega
      have hx : xs[i]? = some xs[i] := List.getElem?_eq_getElem hi
      have hstep := hs i _ hx
      have hd : xs.drop i = xs[i] :: xs.drop (i + 1) := List.drop_eq_getElem_cons hi
      cases hp : p xs[i] with
      | true =>
        rw [hp, if_pos rfl] at hstep
        refine ⟨hit i, loopM_done hstep, Or.inl ⟨?_, i, rfl⟩⟩
        rw [← hany, hd, List.any_cons, hp]; rfl
      | false =>
        rw [hp] at hstep
        simp only [Bool.false_eq_true, if_false] at hstep
        rw [loopM_next hstep]
        have := ih (i + 1) (by omega) (by rw [← hany, hd, List.any_cons, hp]; rfl)
        simpa using this
  have := key xs.length 0 (by omega) (by simp)
  simpa using this

theorem l28All_eq (run : List Firing) (h : run.length ≤ 1048576) : spec_l28All run = some (run.all writable && decide (run.length ≤ 500)) := by
  unfold spec_l28All
  obtain ⟨r, hr, hcase⟩ := loopM_find (xs := run) (p := fun f => !writable f) (step := spec_l28All_L1 run) (hit := fun _ => .inl ()) (miss := .inr ()) (fun i x hx => by
    have hi := (List.getElem?_eq_some_iff.1 hx).1
    unfold spec_l28All_L1
    rw [decide_eq_true (by omega : (i : Int) < (run.length : Int)), cond_true, idxO_nat hx]
    simp only [Option.bind_some, l28Writable_eq]
    rw [wrap64 (by omega) (by omega)]
    cases writable x <;> rfl) (by
    unfold spec_l28All_L1
    rw [decide_eq_false (by omega : ¬ ((run.length : Int) < (run.length : Int))), cond_false])
  rw [hr]
  have hall : run.all writable = !(run.any fun f => !writable f) := by
    rw [List.not_any_eq_all_not]; simp
  simp only [Option.bind_some]
  rcases hcase with ⟨h1, i, rfl⟩ | ⟨h1, rfl⟩
  · rw [hall, h1]; rfl
  · rw [hall, h1]
    simp only [Sum.elim_inr, Bool.not_false, Bool.true_and]
    congr 1
    simp only [decide_eq_decide]; omega
theorem isWritable_eq (run : List Firing) (h : run.length ≤ 1048576) : impl_isWritable run = some (run.all writable && decide (run.length ≤ 500)) := by
  unfold impl_isWritable slices_ContainsFunc_Firing_isWritable_c1 slices_IndexFunc_Firing_isWritable_c1
  obtain ⟨r, hr, hcase⟩ := loopM_find (xs := run) (p := fun f => !writable f) (step := slices_IndexFunc_Firing_isWritable_c1_L1 run) (hit := fun i => .inl (i : Int)) (miss := .inr ()) (fun i x hx => by
    have hi := (List.getElem?_eq_some_iff.1 hx).1
    unfold slices_IndexFunc_Firing_isWritable_c1_L1
    rw [decide_eq_true (by omega : (i : Int) < (run.length : Int)), cond_true, idxO_nat hx]
    simp only [Option.bind_some, isWritable_c1_eq]
    rw [wrap64 (by omega) (by omega)]
    cases writable x <;> rfl) (by
    unfold slices_IndexFunc_Firing_isWritable_c1_L1
    rw [decide_eq_false (by omega : ¬ ((run.length : Int) < (run.length : Int))), cond_false])
  rw [hr]
  have hall : run.all writable = !(run.any fun f => !writable f) := by
    rw [List.not_any_eq_all_not]; simp
  have hle : decide ((run.length : Int) ≤ 500) = decide (run.length ≤ 500) := by simp only [decide_eq_decide]; omega
  rw [hle]
  cases hd : decide (run.length ≤ 500) with
  | false => simp
  | true =>
    simp only [cond_true, Option.bind_some]
    rcases hcase with ⟨h1, i, rfl⟩ | ⟨h1, rfl⟩
    · rw [hall, h1]
      simp
    · rw [hall, h1]
      simp

/-! ## Numerals -/
theorem u8_digit (d : Nat) (h : d < 10) : toStr [IntKind.u8.wrap (IntKind.i64.wrap (48 + (d : Int)))] = [UInt8.ofNat (48 + d)] := by
  rw [wrap64 (by omega) (by omega), wrap8 (by omega) (by omega)]
  simp only [toStr, List.map_cons, List.map_nil]
  have : (48 + (d : Int)).toNat = 48 + d := by omega
  rw [this]
theorem l01Dec_F_eq : ∀ (k u : Nat), u < 10 ^ k → u < 2 ^ 62 → spec_l01Dec_F (k + 1) (u : Int) = some (Lib.decDigits u) := by
  intro k
  induction k with
  | zero =>
    intro u hu _
    have : u = 0 := by simpa using hu
    subst this
    rw [spec_l01Dec_F, decide_eq_true (by omega), cond_true, u8_digit 0 (by omega), Lib.decDigits_one (by omega)]
  | succ k ih =>
    intro u hu h62
    rw [spec_l01Dec_F]
    by_cases h : u < 10
    · rw [decide_eq_true (by omega : (u : Int) < 10), cond_true, u8_digit u h, Lib.decDigits_one h]
    · rw [decide_eq_false (by omega : ¬ (u : Int) < 10), cond_false]
      have e1 : Int.tdiv (u : Int) 10 = ((u / 10 : Nat) : Int) := by
        rw [show (10 : Int) = ((10 : Nat) : Int) from rfl, ← Int.ofNat_tdiv]
      have e2 : Int.tmod (u : Int) 10 = ((u % 10 : Nat) : Int) := by
        rw [show (10 : Int) = ((10 : Nat) : Int) from rfl, ← Int.ofNat_tmod]
      rw [e1, e2, wrap64 (by omega) (by omega), ih (u / 10) (by rw [Nat.pow_succ] at hu; omega) (by omega)]
      simp only [Option.bind_some]
      rw [u8_digit _ (by omega), catO_eq (by
        rw [Lib.decDigits_length]
        have := Lib.itoa_length_le ((u / 10 : Nat) : Int) (by omega) (by omega)
        rw [Lib.itoa_nonneg, Lib.decDigits_length] at this
        simp; omega)]
      simp only [Option.bind_some]
      conv => rhs; rw [Lib.decDigits, dif_neg h]
theorem l01Dec_eq (u : Nat) (h : u < 10 ^ 18) : spec_l01Dec (u : Int) = some (Lib.decDigits u) := by
  unfold spec_l01Dec
  refine lim_eq (fun j k a b h1 h2 => ?_) (l01Dec_F_eq 18 u h (by omega))
  have mono : ∀ (j : Nat) (n : Int) (a : List UInt8), spec_l01Dec_F j n = some a → spec_l01Dec_F (j + 1) n = some a := by
    intro j
    induction j with
    | zero => intro n a h; cases h
    | succ j ih =>
      intro n a h
      rw [spec_l01Dec_F] at h ⊢
      cases hd : decide (n < 10) with
      | true => rw [hd] at h; exact h
      | false =>
        rw [hd] at h
        simp only [cond_false] at h ⊢
        cases hq : spec_l01Dec_F j (IntKind.i64.wrap (Int.tdiv n 10)) with
        | none => rw [hq] at h; cases h
        | some q => rw [hq] at h; rw [ih _ _ hq]; exact h
  have mono2 : ∀ (d j : Nat) (n : Int) (a : List UInt8), spec_l01Dec_F j n = some a → spec_l01Dec_F (j + d) n = some a := by
    intro d
    induction d with
    | zero => intro j n a h; exact h
    | succ d ih => intro j n a h; exact mono _ _ _ (ih j n a h)
  have h3 := mono2 k j _ _ h1
  have h4 := mono2 j k _ _ h2
  rw [Nat.add_comm] at h4
  rw [h3] at h4
  exact Option.some.inj h4
theorem decimal_eq (u : Nat) (h : u < 10 ^ 18) : impl_decimal (u : Int) = some (Lib.decDigits u) := by
  unfold impl_decimal strconv_FormatInt
  rw [if_pos ⟨rfl, by omega, by omega⟩, Lib.itoa_nonneg]
  rfl
theorem dec_len (u : Nat) (h : u < 10 ^ 18) : (Lib.decDigits u).length ≤ 21 := by
  have := Lib.itoa_length_le (u : Int) (by omega) (by omega)
  rwa [Lib.itoa_nonneg] at this

/-! ## The lines -/
def line (f : Firing) (chain : Nat) : List UInt8 := Lib.decDigits f.Event.toNat ++ [32] ++ Lib.decDigits f.Time.toNat ++ [32] ++ Lib.decDigits chain ++ [10]
def next (chain : Nat) (f : Firing) : Nat := (31 * chain + 7 * f.Event.toNat + f.Time.toNat) % 9973
theorem line_len {f : Firing} {chain : Nat} (hf : writable f = true) (hc : chain < 9973) : (line f chain).length ≤ 100 := by
  simp only [writable, decide_eq_true_eq] at hf
  have h1 := dec_len f.Event.toNat (by omega)
  have h2 := dec_len f.Time.toNat (by omega)
  have h3 := dec_len chain (by omega)
  simp only [line, List.length_append, List.length_cons, List.length_nil]
  omega
theorem next_lt (c : Nat) (f : Firing) : next c f < 9973 := Nat.mod_lt _ (by decide)
theorem next_eq {f : Firing} {chain : Nat} (hf : writable f = true) (hc : chain < 9973) :
    Int.tmod (IntKind.i64.wrap ((IntKind.i64.wrap ((IntKind.i64.wrap (31 * (chain : Int))) + (IntKind.i64.wrap (7 * f.Event)))) + f.Time)) 9973 = (next chain f : Int) := by
  simp only [writable, decide_eq_true_eq] at hf
  rw [wrap64 (x := 31 * (chain : Int)) (by omega) (by omega), wrap64 (x := 7 * f.Event) (by omega) (by omega), wrap64 (x := 31 * (chain : Int) + 7 * f.Event) (by omega) (by omega), wrap64 (by omega) (by omega)]
  have e : 31 * (chain : Int) + 7 * f.Event + f.Time = ((31 * chain + 7 * f.Event.toNat + f.Time.toNat : Nat) : Int) := by omega
  rw [e, show (9973 : Int) = ((9973 : Nat) : Int) from rfl, ← Int.ofNat_tmod]
  rfl
theorem l28Next_eq {f : Firing} {chain : Nat} (hf : writable f = true) (hc : chain < 9973) : spec_l28Next (chain : Int) f = (next chain f : Int) := next_eq hf hc
theorem l28Line_eq {f : Firing} {chain : Nat} (hf : writable f = true) (hc : chain < 9973) : (spec_l28Line f (chain : Int)).bind (fun o => catO o [10]) = some (line f chain) := by
  have hf' := hf
  simp only [writable, decide_eq_true_eq] at hf
  have e1 : f.Event = ((f.Event.toNat : Nat) : Int) := by omega
  have e2 : f.Time = ((f.Time.toNat : Nat) : Int) := by omega
  have h1 := dec_len f.Event.toNat (by omega)
  have h2 := dec_len f.Time.toNat (by omega)
  have h3 := dec_len chain (by omega)
  have d1 : spec_l01Dec f.Event = some (Lib.decDigits f.Event.toNat) := by rw [e1, Int.toNat_natCast]; exact l01Dec_eq _ (by omega)
  have d2 : spec_l01Dec f.Time = some (Lib.decDigits f.Time.toNat) := by rw [e2, Int.toNat_natCast]; exact l01Dec_eq _ (by omega)
  unfold spec_l28Line
  rw [d1, d2, l01Dec_eq chain (by omega)]
  simp only [Option.bind_some]
  rw [catO_eq (by simp; omega)]
  simp only [Option.bind_some]
  rw [catO_eq (by simp; omega)]
  simp only [Option.bind_some]
  rw [catO_eq (by simp; omega)]
  simp only [Option.bind_some]
  rw [catO_eq (by simp; omega)]
  simp only [Option.bind_some]
  rw [catO_eq (by simp; omega)]
  rfl
theorem traceLine_eq {f : Firing} {chain : Nat} (hf : writable f = true) (hc : chain < 9973) : impl_traceLine f (chain : Int) = some (line f (next chain f), (next chain f : Int)) := by
  have hn := next_lt chain f
  unfold impl_traceLine
  rw [next_eq hf hc]
  simp only [letT_eq]
  simp only [writable, decide_eq_true_eq] at hf
  have e1 : f.Event = ((f.Event.toNat : Nat) : Int) := by omega
  have e2 : f.Time = ((f.Time.toNat : Nat) : Int) := by omega
  have h1 := dec_len f.Event.toNat (by omega)
  have h2 := dec_len f.Time.toNat (by omega)
  have h3 := dec_len (next chain f) (by omega)
  have d1 : impl_decimal f.Event = some (Lib.decDigits f.Event.toNat) := by rw [e1, Int.toNat_natCast]; exact decimal_eq _ (by omega)
  have d2 : impl_decimal f.Time = some (Lib.decDigits f.Time.toNat) := by rw [e2, Int.toNat_natCast]; exact decimal_eq _ (by omega)
  rw [d1, d2, decimal_eq (next chain f) (by omega)]
  simp only [Option.bind_some]
  rw [catO_eq (by simp; omega)]
  simp only [Option.bind_some]
  rw [catO_eq (by simp; omega)]
  simp only [Option.bind_some]
  rw [catO_eq (by simp; omega)]
  simp only [Option.bind_some]
  rw [catO_eq (by simp; omega)]
  simp only [Option.bind_some]
  rw [catO_eq (by simp; omega)]
  rfl

/-! ## The trace -/
def chainAt (run : List Firing) (i : Nat) : Nat := (run.take i).foldl next 1
def textAt : Nat → List Firing → List UInt8
  | _, [] => []
  | c, f :: r => line f (next c f) ++ textAt (next c f) r
theorem chainAt_lt (run : List Firing) (i : Nat) : chainAt run i < 9973 := by
  unfold chainAt
  have : ∀ (l : List Firing) (c : Nat), c < 9973 → l.foldl next c < 9973 := by
    intro l
    induction l with
    | nil => intro c h; exact h
    | cons f r ih => intro c _; exact ih _ (next_lt c f)
  exact this _ _ (by decide)
theorem chainAt_succ {run : List Firing} {i : Nat} {f : Firing} (h : run[i]? = some f) : chainAt run (i + 1) = next (chainAt run i) f := by
  unfold chainAt
  rw [List.take_add_one, h]; simp
theorem textAt_append (c : Nat) (r : List Firing) (f : Firing) : textAt c (r ++ [f]) = textAt c r ++ line f (next (r.foldl next c) f) := by
  induction r generalizing c with
  | nil => simp [textAt]
  | cons g r ih => simp [textAt, ih]
theorem textAt_succ {run : List Firing} {i : Nat} {f : Firing} (h : run[i]? = some f) : textAt 1 (run.take (i + 1)) = textAt 1 (run.take i) ++ line f (next (chainAt run i) f) := by
  rw [List.take_add_one, h]
  simp only [Option.toList_some]
  rw [textAt_append]; rfl
theorem textAt_len (run : List Firing) (hw : run.all writable = true) (i : Nat) : (textAt 1 (run.take i)).length ≤ 100 * i := by
  induction i with
  | zero => simp [textAt]
  | succ i ih =>
    cases hx : run[i]? with
    | none =>
      rw [List.take_add_one, hx]; simp; omega
    | some f =>
      rw [textAt_succ hx, List.length_append]
      have hf : writable f = true := List.all_eq_true.1 hw f (List.mem_of_getElem? hx)
      have := line_len hf (next_lt (chainAt run i) f)
      omega

theorem spec_trace {run : List Firing} (hw : run.all writable = true) (hl : run.length ≤ 500) : spec_TraceText run = some (textAt 1 run, 0) := by
  unfold spec_TraceText
  rw [l28All_eq run (by omega), hw, decide_eq_true hl]
  simp only [Bool.and_self, Option.bind_some, Bool.not_true, cond_false]
  have : loopM (spec_TraceText_L1 run) (1, [], 0) = some (toBytes (textAt 1 run)) := by
    have := loopM_count (step := spec_TraceText_L1 run) (fun i => ((chainAt run i : Int), toBytes (textAt 1 (run.take i)), (i : Int))) run.length (r := toBytes (textAt 1 run)) (fun i hi => ?_) ?_
    · simpa [chainAt, textAt, toBytes] using this
    · have hx : run[i]? = some run[i] := List.getElem?_eq_getElem hi
      have hf : writable run[i] = true := List.all_eq_true.1 hw _ (List.mem_of_getElem? hx)
      have hc := chainAt_lt run i
      unfold spec_TraceText_L1
      simp only
      rw [decide_eq_true (by omega : (i : Int) < (run.length : Int)), cond_true, idxO_nat hx]
      simp only [Option.bind_some]
      rw [l28Next_eq hf hc]
      have hl2 := l28Line_eq (chain := next (chainAt run i) run[i]) hf (next_lt _ _)
      cases hq : spec_l28Line run[i] (next (chainAt run i) run[i] : Int) with
      | none => rw [hq] at hl2; cases hl2
      | some q =>
        rw [hq] at hl2
        simp only [Option.bind_some] at hl2 ⊢
        rw [hl2]
        simp only [Option.bind_some]
        have hlen := textAt_len run hw i
        have hlen2 := line_len hf (next_lt (chainAt run i) run[i])
        rw [appsO_eq (by simp only [toBytes, List.length_map]; omega)]
        simp only [Option.bind_some]
        rw [wrap64 (by omega) (by omega), chainAt_succ hx, textAt_succ hx]
        simp [toBytes]
    · unfold spec_TraceText_L1
      simp only
      rw [decide_eq_false (by omega : ¬ ((run.length : Int) < (run.length : Int))), cond_false]
      simp
  rw [this]
  simp only [Option.bind_some, toStr_toBytes]
theorem impl_trace {run : List Firing} (hw : run.all writable = true) (hl : run.length ≤ 500) : impl_traceText run = some (textAt 1 run, (chainAt run run.length : Int)) := by
  unfold impl_traceText
  have : loopM (impl_traceText_L1 run) ([], 1, 0) = some (textAt 1 run, (chainAt run run.length : Int)) := by
    have := loopM_count (step := impl_traceText_L1 run) (fun i => (textAt 1 (run.take i), (chainAt run i : Int), (i : Int))) run.length (r := (textAt 1 run, (chainAt run run.length : Int))) (fun i hi => ?_) ?_
    · simpa [chainAt, textAt] using this
    · have hx : run[i]? = some run[i] := List.getElem?_eq_getElem hi
      have hf : writable run[i] = true := List.all_eq_true.1 hw _ (List.mem_of_getElem? hx)
      have hc := chainAt_lt run i
      unfold impl_traceText_L1
      simp only
      rw [decide_eq_true (by omega : (i : Int) < (run.length : Int)), cond_true, idxO_nat hx]
      simp only [Option.bind_some]
      rw [traceLine_eq hf hc]
      have hlen := textAt_len run hw i
      have hlen2 := line_len hf (next_lt (chainAt run i) run[i])
      simp only [Option.bind_some, strings_Builder_WriteString]
      rw [if_pos (by simp only [toBytes, List.length_map]; omega)]
      simp only [Option.bind_some]
      rw [wrap64 (by omega) (by omega), chainAt_succ hx, textAt_succ hx]
      simp
    · unfold impl_traceText_L1
      simp only
      rw [decide_eq_false (by omega : ¬ ((run.length : Int) < (run.length : Int))), cond_false]
      simp
  rw [this]
  rfl

theorem eqFiring_self (f : Firing) : laws_eqFiring f f = true := by simp [laws_eqFiring]
theorem eqFiringS_self (a : List Firing) (h : a.length ≤ 1048576) : laws_eqFiringS a a = some true := by
  unfold laws_eqFiringS
  simp only [bne_self_eq_false, cond_false]
  have : loopM (laws_eqFiringS_L1 a a) 0 = some (.inr ()) := by
    have := loopM_count (step := laws_eqFiringS_L1 a a) (fun i => (i : Int)) a.length (r := .inr ()) (fun i hi => ?_) ?_
    · simpa using this
    · have hx : a[i]? = some a[i] := List.getElem?_eq_getElem hi
      unfold laws_eqFiringS_L1
      rw [decide_eq_true (by omega : (i : Int) < (a.length : Int)), cond_true, idxO_nat hx]
      simp only [Option.bind_some, eqFiring_self, Bool.not_true, cond_false]
      rw [wrap64 (by omega) (by omega)]
      simp
    · unfold laws_eqFiringS_L1
      rw [decide_eq_false (by omega : ¬ ((a.length : Int) < (a.length : Int))), cond_false]
  rw [this]
  rfl

/-- THE LAW. -/
theorem law_TraceText (a : List Firing) (hlen : a.length ≤ 9223372036854775807) : laws_FnExactTraceText a = some true := by
  unfold laws_FnExactTraceText
  by_cases hbig : a.length ≤ 1048576
  · have hsz : laws_szFiringS a 1048576 = 1048576 - (a.length : Int) := by
      unfold laws_szFiringS
      simp only [letT_eq]
      rw [wrap64 (by omega) (by omega), decide_eq_false (by omega), cond_false]
    rw [hsz, decide_eq_false (by omega), cond_false, toFiringS_eq a hbig]
    simp only [Option.bind_some]
    cases hw : (a.all writable && decide (a.length ≤ 500)) with
    | true =>
      simp only [Bool.and_eq_true, decide_eq_true_eq] at hw
      rw [spec_trace hw.1 hw.2]
      unfold impl_TraceText
      rw [isWritable_eq a hbig, hw.1, decide_eq_true hw.2, impl_trace hw.1 hw.2]
      simp [eqFiringS_self a hbig]
    | false =>
      unfold spec_TraceText impl_TraceText
      rw [l28All_eq a hbig, isWritable_eq a hbig, hw]
      simp [eqFiringS_self a hbig]
  · have hsz : laws_szFiringS a 1048576 = -1 := by
      unfold laws_szFiringS
      simp only [letT_eq]
      rw [wrap64 (by omega) (by omega), decide_eq_true (by omega), cond_true]
    rw [hsz]
    rfl
end Go.Proofs.YtneifoepoccjaaaDoor
