/-
  The law of IsDeskCommand in plain Lean: the program and the reference take the same lines for commands. No program in sight.
-/
import Derived.Test.YtneifoepoccjaaaDoorP1
import Derived.Test.YtneifoepoccjaaaDoorQN
import Derived.Test.YtneifoepoccjaaaDoorQS
namespace Go.Proofs.YtneifoepoccjaaaDoor

/-! ## Numbers of at most ten digits -/
theorem dval_le_len (u : Nat) : u < 10 ^ (Lib.decDigits u).length := by
  have h := dval_lt (Lib.decDigits u).length (Lib.decDigits u) (fun c hc => dec_digits u c (List.mem_of_mem_take hc)) (Nat.le_refl _)
  rwa [List.take_length, dval_dec] at h
theorem dec_small {u : Nat} (h : (Lib.decDigits u).length ≤ 10) : u < 10000000000 := by
  have h1 := dval_le_len u
  have h2 : 10 ^ (Lib.decDigits u).length ≤ 10 ^ 10 := Nat.pow_le_pow_right (by omega) h
  rw [pow10_10] at h2
  omega
theorem trim_neg (r : List UInt8) (h : r.length ≤ 1099511627776) : strings_TrimPrefix (45 :: r) [45] = some r := by
  unfold strings_TrimPrefix internal_stringslite_TrimPrefix internal_stringslite_HasPrefix
  rw [decide_eq_true (by simp only [List.length_cons, List.length_nil]; omega), cond_true]
  have h1 : subO ((45 : UInt8) :: r) 0 (([45] : List UInt8).length : Int) = some [45] := by
    have := subO_eq (xs := (45 : UInt8) :: r) (i := 0) (j := 1) (by omega) (by simp)
    simpa using this
  have h2 : subO ((45 : UInt8) :: r) (([45] : List UInt8).length : Int) (((45 : UInt8) :: r).length : Int) = some r := by
    have := subO_eq (xs := (45 : UInt8) :: r) (i := 1) (j := r.length + 1) (by omega) (by simp)
    simpa using this
  rw [h1]
  simp only [Option.bind_some, beq_self_eq_true, cond_true, h2]
theorem trim_none (w : List UInt8) (hw : ∀ r, w ≠ 45 :: r) (h : w.length ≤ 1099511627776) : strings_TrimPrefix w [45] = some w := by
  unfold strings_TrimPrefix internal_stringslite_TrimPrefix internal_stringslite_HasPrefix
  cases w with
  | nil =>
    rw [decide_eq_false (by simp), cond_false]
    simp
  | cons c r =>
    rw [decide_eq_true (by simp only [List.length_cons, List.length_nil]; omega), cond_true]
    have h1 : subO (c :: r) 0 (([45] : List UInt8).length : Int) = some [c] := by
      have := subO_eq (xs := c :: r) (i := 0) (j := 1) (by omega) (by simp)
      simpa using this
    have hc : ([c] == ([45] : List UInt8)) = false := by
      rw [beq_eq_false_iff_ne]
      intro e
      have : c = 45 := by simpa using e
      exact hw r (by rw [this])
    rw [h1]
    simp only [Option.bind_some, hc, cond_false]
theorem itoa_trim (z : Int) (h : (Lib.itoa z).length ≤ 1099511627776) : ∃ w, strings_TrimPrefix (Lib.itoa z) [45] = some w ∧ (small z ↔ w.length ≤ 10) := by
  by_cases hz : z < 0
  · have e : Lib.itoa z = 45 :: Lib.decDigits z.natAbs := by unfold Lib.itoa; rw [if_pos hz]
    rw [e] at h ⊢
    simp only [List.length_cons] at h
    refine ⟨_, trim_neg _ (by omega), fun hs => ?_, fun hl => ?_⟩
    · exact dec_len_lt _ 10 (by rw [pow10_10]; have := hs.1; omega) (by omega)
    · have := dec_small hl
      exact ⟨by omega, by omega⟩
  · have e : Lib.itoa z = Lib.decDigits z.toNat := by unfold Lib.itoa; rw [if_neg hz]
    rw [e] at h ⊢
    refine ⟨_, trim_none _ (fun r hr => ?_) h, fun hs => ?_, fun hl => ?_⟩
    · have := dec_digits z.toNat 45 (by rw [hr]; simp)
      have e : (45 : UInt8).toNat = 45 := rfl
      omega
    · exact dec_len_lt _ 10 (by rw [pow10_10]; have := hs.2; omega) (by omega)
    · have := dec_small hl
      exact ⟨by omega, by omega⟩

theorem readNumbers (words : List (List UInt8)) (hl : words.length ≤ 1099511627776) (hw : ∀ w, w ∈ words → w.length ≤ 1099511627776) :
    ∃ r, loopM (impl_readCommand_L1 words) ([], 0) = some r ∧ ((r = .inl () ∧ ∃ w, w ∈ words ∧ ∀ z, small z → w ≠ Lib.itoa z) ∨ (∃ ns, r = .inr ns ∧ ∀ w, w ∈ words → ∃ z, small z ∧ w = Lib.itoa z)) := by
  refine loopM_inv (step := impl_readCommand_L1 words) (fun i st => st.2 = (i : Int) ∧ st.1.length = i ∧ ∀ w, w ∈ words.take i → ∃ z, small z ∧ w = Lib.itoa z) words.length _
    (fun i st hi ⟨h1, h2, h3⟩ => ?_) (fun st ⟨h1, h2, h3⟩ => ?_) ⟨rfl, rfl, by simp⟩
  · obtain ⟨ns, j⟩ := st
    simp only at h1 h2 h3
    subst h1
    have hx : words[i]? = some words[i] := List.getElem?_eq_getElem hi
    have hwl := hw _ (List.getElem_mem hi)
    obtain ⟨n, ok, g1, g2, g3⟩ := readNumber_spec words[i] hwl
    unfold impl_readCommand_L1
    simp only
    rw [decide_eq_true (by omega : (i : Int) < (words.length : Int)), cond_true, idxO_nat hx]
    simp only [Option.bind_some, g1]
    cases ok with
    | false =>
      refine Or.inr ⟨_, rfl, Or.inl ⟨rfl, words[i], List.getElem_mem hi, fun z hz he => ?_⟩⟩
      have := (g3 z ⟨by have := hz.1; omega, by have := hz.2; omega⟩ he).1
      cases this
    | true =>
      obtain ⟨k1, k2⟩ := g2 rfl
      obtain ⟨w, q1, q2⟩ := itoa_trim n (by rw [← k2]; exact hwl)
      rw [← k2] at q1
      simp only [Bool.not_true, cond_false, q1, Option.bind_some]
      by_cases hbig : (w.length : Int) > 10
      · rw [decide_eq_true hbig]
        refine Or.inr ⟨_, rfl, Or.inl ⟨rfl, words[i], List.getElem_mem hi, fun z hz he => ?_⟩⟩
        have hzn : z = n := by
          have hz' : isI64 z := ⟨by have := hz.1; omega, by have := hz.2; omega⟩
          exact ((g3 z hz' he).2).symm
        subst hzn
        have := q2.1 hz
        omega
      · rw [decide_eq_false hbig, cond_false, appO_eq (by simp; omega)]
        simp only [Option.bind_some]
        refine Or.inl ⟨_, rfl, wrap_succ (by omega), by simp [h2], fun v hv => ?_⟩
        rw [List.take_add_one, hx] at hv
        rcases List.mem_append.1 hv with hv | hv
        · exact h3 v hv
        · have : v = words[i] := by simpa using hv
          rw [this]
          exact ⟨n, q2.2 (by omega), k2⟩
  · obtain ⟨ns, j⟩ := st
    simp only at h1 h2 h3
    subst h1
    unfold impl_readCommand_L1
    simp only
    rw [decide_eq_false (by omega : ¬ ((words.length : Int) < (words.length : Int))), cond_false]
    rw [List.take_length] at h3
    exact ⟨_, rfl, Or.inr ⟨ns, rfl, h3⟩⟩

/-! ## The first word -/
theorem parse_loop (s : List UInt8) (hs : s.length ≤ 1099511627776) : loopM (spec_l30Parse_L1 s) 0 = some (Lib.cut s [32]) := by
  rcases cut_or (b := 32) s with hn | ⟨u, v, rfl, hn⟩
  · rw [cut_miss hn]
    refine loopM_count (step := spec_l30Parse_L1 s) (fun i => (i : Int)) s.length (fun i hi => ?_) ?_
    · have hx : s[i]? = some s[i] := List.getElem?_eq_getElem hi
      unfold spec_l30Parse_L1
      rw [decide_eq_true (by omega : (i : Int) < (s.length : Int)), cond_true, idxO_nat hx]
      simp only [Option.bind_some]
      have hb : ((s[i].toNat : Int) == 32) = false := by
        have := u8_beq s[i] 32
        have e : ((32 : UInt8).toNat : Int) = 32 := rfl
        rw [e] at this
        rw [this, beq_eq_false_iff_ne]
        intro h
        exact hn (h ▸ List.getElem_mem hi)
      rw [hb, cond_false, wrap_succ (by omega)]
    · unfold spec_l30Parse_L1
      rw [decide_eq_false (by omega : ¬ ((s.length : Int) < (s.length : Int))), cond_false]
  · rw [cut_hit hn]
    simp only [List.length_append, List.length_cons] at hs
    refine loopM_count (step := spec_l30Parse_L1 (u ++ 32 :: v)) (fun i => (i : Int)) u.length (fun i hi => ?_) ?_
    · have hx : (u ++ 32 :: v)[i]? = some u[i] := by rw [List.getElem?_append_left hi]; exact List.getElem?_eq_getElem hi
      unfold spec_l30Parse_L1
      rw [decide_eq_true (by simp only [List.length_append, List.length_cons]; omega : (i : Int) < ((u ++ 32 :: v).length : Int)), cond_true, idxO_nat hx]
      simp only [Option.bind_some]
      have hb : ((u[i].toNat : Int) == 32) = false := by
        have := u8_beq u[i] 32
        have e : ((32 : UInt8).toNat : Int) = 32 := rfl
        rw [e] at this
        rw [this, beq_eq_false_iff_ne]
        intro h
        exact hn (h ▸ List.getElem_mem hi)
      rw [hb, cond_false, wrap_succ (by omega)]
    · have hx : (u ++ 32 :: v)[u.length]? = some 32 := by rw [List.getElem?_append_right (Nat.le_refl _), Nat.sub_self]; rfl
      unfold spec_l30Parse_L1
      rw [decide_eq_true (by simp only [List.length_append, List.length_cons]; omega : (u.length : Int) < ((u ++ 32 :: v).length : Int)), cond_true, idxO_nat hx]
      simp only [Option.bind_some]
      have hb : (((32 : UInt8).toNat : Int) == 32) = true := rfl
      have h1 : subO (u ++ 32 :: v) 0 (u.length : Int) = some u := by
        have := subO_eq (xs := u ++ 32 :: v) (i := 0) (j := u.length) (by omega) (by simp)
        simpa using this
      have h2 : subO (u ++ 32 :: v) ((u.length + 1 : Nat) : Int) ((u ++ 32 :: v).length : Int) = some v := by
        rw [subO_eq (by simp) (Nat.le_refl _)]
        have : (u ++ 32 :: v).drop (u.length + 1) = v := by rw [← List.drop_drop, List.drop_left' rfl]; rfl
        rw [this, List.take_of_length_le (by simp only [List.length_append, List.length_cons]; omega)]
      rw [hb, cond_true, h1, wrap_succ (by omega), h2]
      rfl

theorem orO2 (a b : Bool) : (bif a then some a else some b) = some (a || b) := by cases a <;> rfl
theorem or2 (a b : Bool) : (bif a then a else b) = (a || b) := by cases a <;> rfl
def isText (n : List UInt8) : Bool := n == [103, 114, 97, 112, 104] || (n == [108, 105, 110, 101, 115] || (n == [101, 100, 105, 116] || n == [109, 101, 97, 110]))
def isBare (n : List UInt8) : Bool := n == [117, 110, 100, 111] || (n == [116, 101, 120, 116] || (n == [108, 105, 118, 101] || (n == [116, 105, 109, 101] || (n == [99, 105, 114, 99, 117, 105, 116] || (n == [112, 101, 114, 105, 111, 100] || n == [109, 97, 114, 103, 105, 110, 115])))))
def isOneN (n : List UInt8) : Bool := n == [114, 117, 110] || n == [115, 116, 97, 114, 116]
theorem form_eq (n : List UInt8) : impl_commandForm n = bif isText n then -1 else bif isBare n then 0 else bif isOneN n then 1 else bif (n == [102, 105, 114, 101]) then 2 else bif (n == [114, 111, 111, 109]) then 3 else -2 := by
  unfold impl_commandForm
  simp only [letT_eq, or2]
  rfl
theorem parse_eq (s : List UInt8) (hs : s.length ≤ 1099511627776) : spec_l30Parse s = (bif isText (Lib.cut s [32]).1 then some ((Lib.cut s [32]).1, (Lib.cut s [32]).2.1, ([] : List Int), (Lib.cut s [32]).2.2)
    else bif isBare (Lib.cut s [32]).1 then some ((Lib.cut s [32]).1, ([] : List UInt8), ([] : List Int), !(Lib.cut s [32]).2.2)
    else (spec_l01Split (Lib.cut s [32]).2.1 32).bind fun o9 => (spec_l01Numbers o9).bind fun o12 =>
      bif isOneN (Lib.cut s [32]).1 then some ((Lib.cut s [32]).1, ([] : List UInt8), o12.1, o12.2 && ((List.length o12.1 : Int) == 1))
      else bif ((Lib.cut s [32]).1 == [102, 105, 114, 101]) then some ((Lib.cut s [32]).1, ([] : List UInt8), o12.1, o12.2 && ((List.length o12.1 : Int) == 2))
      else bif ((Lib.cut s [32]).1 == [114, 111, 111, 109]) then some ((Lib.cut s [32]).1, ([] : List UInt8), o12.1, o12.2 && ((List.length o12.1 : Int) == 3))
      else some (([] : List UInt8), ([] : List UInt8), ([] : List Int), false)) := by
  unfold spec_l30Parse
  rw [parse_loop s hs]
  simp only [Option.bind_some, orO2]
  rfl
/-- What both say. -/
theorem command_both (s : List UInt8) (hs : s.length ≤ 1073741824) : ∃ r, spec_IsDeskCommand s = some r ∧ impl_IsDeskCommand s = some r := by
  unfold spec_IsDeskCommand impl_IsDeskCommand impl_readCommand
  have hcut : strings_Cut s [32] = some (Lib.cut s [32]) := by unfold strings_Cut; rw [if_pos (by omega)]
  have hlen : (Lib.cut s [32]).2.1.length ≤ s.length ∧ ((Lib.cut s [32]).2.2 = false → (Lib.cut s [32]).2.1 = []) := by
    rcases cut_or (b := 32) s with hn | ⟨u, v, rfl, hn⟩
    · rw [cut_miss hn]; simp
    · rw [cut_hit hn]; simp; omega
  rw [parse_eq s (by omega), hcut]
  generalize Lib.cut s [32] = p at hlen
  obtain ⟨n, args, sp⟩ := p
  simp only [Option.bind_some, form_eq] at hlen ⊢
  cases h1 : isText n with
  | true =>
    have e1 : ((-1 : Int) == -2) = false := rfl
    have e2 : ((-1 : Int) == -1) = true := rfl
    simp only [cond_true, e1, e2, cond_false, Option.bind_some]
    exact ⟨_, rfl, rfl⟩
  | false =>
    cases h2 : isBare n with
    | true =>
      have e1 : ((0 : Int) == -2) = false := rfl
      have e2 : ((0 : Int) == -1) = false := rfl
      have e3 : ((0 : Int) == 0) = true := rfl
      simp only [cond_false, cond_true, e1, e2, e3, Bool.true_or, Bool.true_and, Option.bind_some]
      exact ⟨_, rfl, rfl⟩
    | false =>
      simp only [cond_false]
      have hsp : spec_l01Split args 32 = some (cutS 32 args) := l01Split_eq args 32 (by omega)
      have hsi : strings_Split args [32] = some (cutS 32 args) := strings_Split_eq args 32 (by omega)
      have hwl : ∀ w, w ∈ cutS 32 args → w.length ≤ 1099511627776 := fun w hw => by
        have := (cutS_pieces args.length args (Nat.le_refl _) w hw).2
        omega
      have hcl := cutS_length 32 args
      have hcc : args.count 32 ≤ args.length := List.count_le_length
      obtain ⟨ns, ok, g1, g2, g3⟩ := l01Numbers_spec (cutS 32 args) (by omega) hwl
      obtain ⟨r, q1, q2⟩ := readNumbers (cutS 32 args) (by omega) hwl
      have hempty : sp = false → ok = false := fun h => by
        have ha := hlen.2 h
        subst ha
        cases ok with
        | false => rfl
        | true =>
          obtain ⟨k1, k2⟩ := g2 rfl
          have e : cutS 32 ([] : List UInt8) = [[]] := rfl
          rw [e] at k1 k2
          obtain ⟨a, rfl⟩ : ∃ a, ns = [a] := by
            match ns, k1 with
            | [a], _ => exact ⟨a, rfl⟩
          have := (k2 0 [] a rfl rfl).2
          exfalso
          unfold Lib.itoa at this
          split at this
          · cases this
          · exact dec_ne _ this.symm
      -- what the numbers come to, on both sides
      have both : ∀ k : Nat, ∀ q : Int, q = (k : Int) → (ok && ((ns.length : Int) == (k : Int))) = (sp && (match r with | .inl _ => false | .inr _ => (((cutS 32 args).length : Int) == q))) := by
        intro k q hq
        subst hq
        cases hs2 : sp with
        | false => rw [hempty hs2]; rfl
        | true =>
          rw [Bool.true_and]
          rcases q2 with ⟨rfl, w, hw1, hw2⟩ | ⟨ms, rfl, hall⟩
          · cases ok with
            | false => rfl
            | true =>
              exfalso
              obtain ⟨k1, k2⟩ := g2 rfl
              obtain ⟨i, hi⟩ := List.getElem?_of_mem hw1
              have hil := (List.getElem?_eq_some_iff.1 hi).1
              have hx : ns[i]? = some (ns[i]'(by omega)) := List.getElem?_eq_getElem _
              have := k2 i w _ hi hx
              exact hw2 _ this.1 this.2
          · cases ok with
            | false =>
              exfalso
              obtain ⟨w, hw1, hw2⟩ := g3 rfl
              obtain ⟨z, hz1, hz2⟩ := hall w hw1
              exact hw2 z hz1 hz2
            | true =>
              rw [Bool.true_and, (g2 rfl).1]
      have fin : ∀ (k : Nat) (q : Int), q = (k : Int) → (q == -2) = false → (q == -1) = false → (q == 0) = false →
          ∃ b, (some (n, ([] : List UInt8), ns, ok && ((ns.length : Int) == (k : Int)))).bind (fun o1 : List UInt8 × List UInt8 × List Int × Bool => some o1.2.2.2) = some b ∧
            (bif (q == -2) then some (([] : List UInt8), ([] : List Int), false) else bif (q == -1) then some (args, ([] : List Int), sp) else bif ((q == 0) || (!sp)) then some (([] : List UInt8), ([] : List Int), (q == 0) && (!sp)) else
              (strings_Split args [32]).bind fun o2 => (loopM (impl_readCommand_L1 o2) ([], 0)).bind fun o5 => Sum.elim (fun _ => some (([] : List UInt8), ([] : List Int), false)) (fun s19 => some (([] : List UInt8), s19, (List.length o2 : Int) == q)) o5).bind (fun o1 => some o1.2.2) = some b := by
        intro k q hq e1 e2 e3
        refine ⟨_, rfl, ?_⟩
        rw [both k q hq, e1, e2, e3, hsi]
        cases sp with
        | false => rfl
        | true =>
          simp only [Bool.not_true, Bool.or_self, cond_false, Option.bind_some, q1, Bool.true_and]
          cases r <;> rfl
      rw [hsp]
      simp only [Option.bind_some, g1]
      cases h3 : isOneN n with
      | true => exact fin 1 1 rfl rfl rfl rfl
      | false =>
        cases h4 : (n == ([102, 105, 114, 101] : List UInt8)) with
        | true => exact fin 2 2 rfl rfl rfl rfl
        | false =>
          cases h5 : (n == ([114, 111, 111, 109] : List UInt8)) with
          | true => exact fin 3 3 rfl rfl rfl rfl
          | false => exact ⟨_, rfl, rfl⟩
/-- THE LAW. -/
theorem law_IsDeskCommand (s : List UInt8) (_ : s.length ≤ maxLen) : laws_FnExactIsDeskCommand s = some true := by
  unfold laws_FnExactIsDeskCommand
  by_cases hbig : (s.length : Int) > 1048576
  · rw [decide_eq_true hbig]; rfl
  · rw [decide_eq_false hbig, cond_false]
    obtain ⟨r, h1, h2⟩ := command_both s (by omega)
    rw [h1, h2]
    simp
end Go.Proofs.YtneifoepoccjaaaDoor
