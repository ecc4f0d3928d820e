/-
  Numerals as the program reads and writes them, in plain Lean. No program in sight.
-/
import Derived.Test.YtneifoepoccjaaaGreatDoorP2
import Derived.Test.YtneifoepoccjaaaGreatDoorQ2
namespace Go.Proofs.YtneifoepoccjaaaGreatDoor

/-! ## Numerals -/
theorem u8_digit (d : Nat) (h : d < 10) : toStr [IntKind.u8.wrap (IntKind.i64.wrap (48 + (d : Int)))] = [UInt8.ofNat (48 + d)] := by
  rw [wrap64 (by omega) (by omega), wrap8 (by omega) (by omega)]
  simp only [toStr, List.map_cons, List.map_nil]
  have : (48 + (d : Int)).toNat = 48 + d := by omega
  rw [this]
theorem l01Dec_F_eq : ∀ (k u : Nat), u < 10 ^ k → u < 2 ^ 62 → spec_l01Dec_F (k + 1) (u : Int) = some (Lib.decDigits u) := by
  intro k
  induction k with
  | zero =>
    intro u hu _
    have : u = 0 := by simpa using hu
    subst this
    rw [spec_l01Dec_F, decide_eq_true (by omega), cond_true, u8_digit 0 (by omega), Lib.decDigits_one (by omega)]
  | succ k ih =>
    intro u hu h62
    rw [spec_l01Dec_F]
    by_cases h : u < 10
    · rw [decide_eq_true (by omega : (u : Int) < 10), cond_true, u8_digit u h, Lib.decDigits_one h]
    · rw [decide_eq_false (by omega : ¬ (u : Int) < 10), cond_false]
      have e1 : Int.tdiv (u : Int) 10 = ((u / 10 : Nat) : Int) := by
        rw [show (10 : Int) = ((10 : Nat) : Int) from rfl, ← Int.ofNat_tdiv]
      have e2 : Int.tmod (u : Int) 10 = ((u % 10 : Nat) : Int) := by
        rw [show (10 : Int) = ((10 : Nat) : Int) from rfl, ← Int.ofNat_tmod]
      rw [e1, e2, wrap64 (by omega) (by omega), ih (u / 10) (by rw [Nat.pow_succ] at hu; omega) (by omega)]
      simp only [Option.bind_some]
      rw [u8_digit _ (by omega), catO_eq (by
        rw [Lib.decDigits_length]
        have := Lib.itoa_length_le ((u / 10 : Nat) : Int) (by omega) (by omega)
        rw [Lib.itoa_nonneg, Lib.decDigits_length] at this
        simp; omega)]
      simp only [Option.bind_some]
      conv => rhs; rw [Lib.decDigits, dif_neg h]
theorem l01Dec_eq (u : Nat) (h : u < 10 ^ 18) : spec_l01Dec (u : Int) = some (Lib.decDigits u) := by
  unfold spec_l01Dec
  refine lim_eq (fun j k a b h1 h2 => ?_) (l01Dec_F_eq 18 u h (by omega))
  have mono : ∀ (j : Nat) (n : Int) (a : List UInt8), spec_l01Dec_F j n = some a → spec_l01Dec_F (j + 1) n = some a := by
    intro j
    induction j with
    | zero => intro n a h; cases h
    | succ j ih =>
      intro n a h
      rw [spec_l01Dec_F] at h ⊢
      cases hd : decide (n < 10) with
      | true => rw [hd] at h; exact h
      | false =>
        rw [hd] at h
        simp only [cond_false] at h ⊢
        cases hq : spec_l01Dec_F j (IntKind.i64.wrap (Int.tdiv n 10)) with
        | none => rw [hq] at h; cases h
        | some q => rw [hq] at h; rw [ih _ _ hq]; exact h
  have mono2 : ∀ (d j : Nat) (n : Int) (a : List UInt8), spec_l01Dec_F j n = some a → spec_l01Dec_F (j + d) n = some a := by
    intro d
    induction d with
    | zero => intro j n a h; exact h
    | succ d ih => intro j n a h; exact mono _ _ _ (ih j n a h)
  have h3 := mono2 k j _ _ h1
  have h4 := mono2 j k _ _ h2
  rw [Nat.add_comm] at h4
  rw [h3] at h4
  exact Option.some.inj h4
theorem decimal_eq (u : Nat) (h : u < 10 ^ 18) : impl_decimal (u : Int) = some (Lib.decDigits u) := by
  unfold impl_decimal strconv_FormatInt
  rw [if_pos ⟨rfl, by omega, by omega⟩, Lib.itoa_nonneg]
  rfl
theorem dec_len (u : Nat) (h : u < 10 ^ 18) : (Lib.decDigits u).length ≤ 21 := by
  have := Lib.itoa_length_le (u : Int) (by omega) (by omega)
  rwa [Lib.itoa_nonneg] at this


theorem pow10_10 : (10 : Nat) ^ 10 = 10000000000 := by decide
theorem l01Digits_spec (s : List UInt8) : ∃ n ok, spec_l01Digits s = some (n, ok) ∧ (ok = true → ∃ k : Nat, n = (k : Int) ∧ k < 10000000000 ∧ s = Lib.decDigits k) ∧ (∀ k : Nat, k < 10000000000 → s = Lib.decDigits k → ok = true ∧ n = (k : Int)) := by
  unfold spec_l01Digits
  by_cases hl : s.length < 1 ∨ s.length > 10
  · have hc : ((decide ((List.length s : Int) < 1)) || (decide ((List.length s : Int) > 10))) = true := by
      rw [Bool.or_eq_true, decide_eq_true_eq, decide_eq_true_eq]; omega
    rw [hc]
    refine ⟨0, false, rfl, fun h => (by cases h), fun k hk he => ?_⟩
    exfalso
    have h1 := dec_len_lt k 10 (by rw [pow10_10]; exact hk) (by omega)
    have h2 := List.length_pos_iff.2 (dec_ne k)
    rw [← he] at h1 h2
    omega
  · have hc : ((decide ((List.length s : Int) < 1)) || (decide ((List.length s : Int) > 10))) = false := by
      rw [Bool.or_eq_false_iff, decide_eq_false_iff_not, decide_eq_false_iff_not]; omega
    rw [hc, cond_false]
    obtain ⟨r, hr, hpost⟩ := loopM_inv (step := spec_l01Digits_L1 s) (fun i st => st = ((dval (s.take i) : Int), (i : Int)) ∧ ∀ c, c ∈ s.take i → 48 ≤ c.toNat ∧ c.toNat ≤ 57) s.length
      (fun r => (r = .inl () ∧ ∃ c, c ∈ s ∧ ¬ (48 ≤ c.toNat ∧ c.toNat ≤ 57)) ∨ (r = .inr (dval s : Int) ∧ ∀ c, c ∈ s → 48 ≤ c.toNat ∧ c.toNat ≤ 57))
      (fun i st hi ⟨hst, hd⟩ => by
        subst hst
        have hx : s[i]? = some s[i] := List.getElem?_eq_getElem hi
        have hlt := dval_lt i s hd (by omega)
        have hpw : 10 ^ i ≤ 10 ^ 10 := Nat.pow_le_pow_right (by omega) (by omega)
        rw [pow10_10] at hpw
        have hu := UInt8.toNat_lt s[i]
        unfold spec_l01Digits_L1
        simp only
        rw [decide_eq_true (by omega : (i : Int) < (s.length : Int)), cond_true, idxO_nat hx]
        simp only [Option.bind_some]
        by_cases h1 : s[i].toNat < 48
        · rw [decide_eq_true (by omega : (s[i].toNat : Int) < 48)]
          exact Or.inr ⟨_, rfl, Or.inl ⟨rfl, s[i], List.getElem_mem hi, by omega⟩⟩
        · rw [decide_eq_false (by omega : ¬ (s[i].toNat : Int) < 48)]
          by_cases h2 : s[i].toNat > 57
          · rw [decide_eq_true (by omega : (s[i].toNat : Int) > 57)]
            exact Or.inr ⟨_, rfl, Or.inl ⟨rfl, s[i], List.getElem_mem hi, by omega⟩⟩
          · rw [decide_eq_false (by omega : ¬ (s[i].toNat : Int) > 57)]
            refine Or.inl ⟨_, rfl, ?_, fun c hc => ?_⟩
            · have e : s.take (i + 1) = s.take i ++ [s[i]] := by rw [List.take_add_one, hx]; rfl
              rw [e, dval_snoc, wrap8 (by omega) (by omega), wrap64 (x := (s[i].toNat : Int) - 48) (by omega) (by omega), wrap64 (x := 10 * (dval (s.take i) : Int)) (by omega) (by omega), wrap64 (by omega) (by omega), wrap64 (by omega) (by omega)]
              congr 1; omega
            · have e : s.take (i + 1) = s.take i ++ [s[i]] := by rw [List.take_add_one, hx]; rfl
              rw [e] at hc
              rcases List.mem_append.1 hc with hc | hc
              · exact hd c hc
              · have : c = s[i] := by simpa using hc
                subst this; omega)
      (fun st ⟨hst, hd⟩ => by
        subst hst
        rw [List.take_length] at hd
        unfold spec_l01Digits_L1
        simp only
        rw [decide_eq_false (by omega : ¬ ((s.length : Int) < (s.length : Int))), cond_false, List.take_length]
        exact ⟨_, rfl, Or.inr ⟨rfl, hd⟩⟩) (s0 := (0, 0)) ⟨by simp [dval], by simp⟩
    rw [hr]
    simp only [Option.bind_some]
    rcases hpost with ⟨rfl, c, hc, hnd⟩ | ⟨rfl, hd⟩
    · refine ⟨0, false, rfl, fun h => (by cases h), fun k hk he => ?_⟩
      exact absurd (dec_digits k c (he ▸ hc)) hnd
    · have hlt := dval_lt s.length s (by rw [List.take_length]; exact hd) (Nat.le_refl _)
      rw [List.take_length] at hlt
      have hpw : 10 ^ s.length ≤ 10 ^ 10 := Nat.pow_le_pow_right (by omega) (by omega)
      rw [pow10_10] at hpw
      simp only [Sum.elim_inr]
      rw [l01Dec_eq (dval s) (by omega)]
      refine ⟨(dval s : Int), Lib.decDigits (dval s) == s, rfl, fun h => ⟨dval s, rfl, by omega, ?_⟩, fun k hk he => ?_⟩
      · exact (by simpa using h : Lib.decDigits (dval s) = s).symm
      · have e : dval s = k := by rw [he, dval_dec]
        rw [e]
        exact ⟨by rw [he]; simp, rfl⟩
def small (z : Int) : Prop := -10000000000 < z ∧ z < 10000000000
theorem l01Signed_spec (s : List UInt8) (hs : s.length ≤ 1099511627776) : ∃ n ok, spec_l01Signed s = some (n, ok) ∧ (ok = true → small n ∧ s = Lib.itoa n) ∧ (∀ z, small z → s = Lib.itoa z → ok = true ∧ n = z) := by
  unfold spec_l01Signed
  cases s with
  | nil =>
    obtain ⟨n, ok, h1, h2, h3⟩ := l01Digits_spec []
    refine ⟨n, ok, ?_, fun h => ?_, fun z hz he => ?_⟩
    · simp [h1]
    · obtain ⟨k, _, _, h⟩ := h2 h
      exact absurd h.symm (dec_ne k)
    · exfalso
      unfold Lib.itoa at he
      split at he
      · cases he
      · exact dec_ne _ he.symm
  | cons c r =>
    rw [decide_eq_true (by simp only [List.length_cons]; omega : (((c :: r).length : Int)) > 0), cond_true]
    have h0 : idxO (c :: r) 0 = some c := idxO_nat (i := 0) rfl
    rw [h0]
    simp only [Option.bind_some]
    by_cases hc : c = 45
    · subst hc
      have e1 : (((45 : UInt8).toNat : Int) == 45) = true := rfl
      rw [e1, cond_true]
      have hsub : subO ((45 : UInt8) :: r) 1 (((45 : UInt8) :: r).length : Int) = some r := by
        unfold subO
        rw [if_pos ⟨by omega, by simp only [List.length_cons]; omega, by omega⟩]
        simp
      rw [hsub]
      obtain ⟨n, ok, h1, h2, h3⟩ := l01Digits_spec r
      simp only [Option.bind_some, h1]
      refine ⟨_, _, rfl, fun h => ?_, fun z hz he => ?_⟩
      · simp only [Bool.and_eq_true, decide_eq_true_eq] at h
        obtain ⟨k, rfl, hk, he⟩ := h2 h.1
        have hk0 : 0 < k := by omega
        rw [wrap64 (by omega) (by omega)]
        refine ⟨⟨by omega, by omega⟩, ?_⟩
        unfold Lib.itoa
        rw [if_pos (by omega), he]
        congr 2; omega
      · have hneg : z < 0 := by
          rcases Int.lt_or_le z 0 with h | h
          · exact h
          · exfalso
            unfold Lib.itoa at he
            rw [if_neg (by omega)] at he
            have := dec_digits z.toNat 45 (by rw [← he]; simp)
            have e : (45 : UInt8).toNat = 45 := rfl
            omega
        unfold Lib.itoa at he
        rw [if_pos hneg] at he
        have he2 : r = Lib.decDigits z.natAbs := by simpa using he
        obtain ⟨g1, g2⟩ := h3 z.natAbs (by have := hz.1; omega) he2
        subst g2
        rw [g1, wrap64 (by have := hz.1; omega) (by omega)]
        exact ⟨by rw [Bool.true_and, decide_eq_true_eq]; omega, by omega⟩
    · have e1 : ((c.toNat : Int) == 45) = false := by
        cases hb : ((c.toNat : Int) == 45) with
        | false => rfl
        | true =>
          exfalso
          apply hc
          have : (c.toNat : Int) = 45 := by simpa using hb
          have e2 : c.toNat = (45 : UInt8).toNat := by
            have : (45 : UInt8).toNat = 45 := rfl
            omega
          exact UInt8.toNat_inj.1 e2
      rw [e1, cond_false]
      obtain ⟨n, ok, h1, h2, h3⟩ := l01Digits_spec (c :: r)
      rw [h1]
      simp only [Option.bind_some]
      refine ⟨_, _, rfl, fun h => ?_, fun z hz he => ?_⟩
      · obtain ⟨k, rfl, hk, he⟩ := h2 h
        refine ⟨⟨by omega, by omega⟩, ?_⟩
        rw [Lib.itoa_nonneg]; exact he
      · have hpos : 0 ≤ z := by
          rcases Int.lt_or_le z 0 with h | h
          · exfalso
            unfold Lib.itoa at he
            rw [if_pos h] at he
            have : c = 45 := by
              have := List.cons.inj he
              exact this.1
            exact hc this
          · exact h
        have he2 : c :: r = Lib.decDigits z.toNat := by
          unfold Lib.itoa at he
          rwa [if_neg (by omega)] at he
        obtain ⟨g1, g2⟩ := h3 z.toNat (by have := hz.2; omega) he2
        exact ⟨g1, by omega⟩

theorem l01Numbers_spec (words : List (List UInt8)) (hl : words.length ≤ 1099511627776) (hw : ∀ w, w ∈ words → w.length ≤ 1099511627776) :
    ∃ ns ok, spec_l01Numbers words = some (ns, ok) ∧ (ok = true → ns.length = words.length ∧ ∀ (i : Nat) w z, words[i]? = some w → ns[i]? = some z → small z ∧ w = Lib.itoa z) ∧ (ok = false → ∃ w, w ∈ words ∧ ∀ z, small z → w ≠ Lib.itoa z) := by
  unfold spec_l01Numbers
  obtain ⟨r, hr, hpost⟩ := loopM_inv (step := spec_l01Numbers_L1 words) (fun i st => st.2 = (i : Int) ∧ st.1.length = i ∧ ∀ (j : Nat) w z, words[j]? = some w → st.1[j]? = some z → small z ∧ w = Lib.itoa z) words.length
    (fun r => (r = .inl () ∧ ∃ w, w ∈ words ∧ ∀ z, small z → w ≠ Lib.itoa z) ∨ (∃ ns, r = .inr ns ∧ ns.length = words.length ∧ ∀ (i : Nat) w z, words[i]? = some w → ns[i]? = some z → small z ∧ w = Lib.itoa z))
    (fun i st hi ⟨h1, h2, h3⟩ => by
      obtain ⟨ns, j⟩ := st
      simp only at h1 h2 h3
      subst h1
      have hx : words[i]? = some words[i] := List.getElem?_eq_getElem hi
      obtain ⟨n, ok, g1, g2, g3⟩ := l01Signed_spec words[i] (hw _ (List.getElem_mem hi))
      unfold spec_l01Numbers_L1
      simp only
      rw [decide_eq_true (by omega : (i : Int) < (words.length : Int)), cond_true, idxO_nat hx]
      simp only [Option.bind_some, g1]
      cases ok with
      | false =>
        refine Or.inr ⟨_, rfl, Or.inl ⟨rfl, words[i], List.getElem_mem hi, fun z hz he => ?_⟩⟩
        have := (g3 z hz he).1
        cases this
      | true =>
        obtain ⟨k1, k2⟩ := g2 rfl
        simp only [Bool.not_true, cond_false]
        rw [appO_eq (by simp; omega)]
        simp only [Option.bind_some]
        refine Or.inl ⟨_, rfl, by rw [wrap64 (by omega) (by omega)]; omega, by simp [h2], fun q w z hq hz => ?_⟩
        rw [List.getElem?_append] at hz
        split at hz
        · exact h3 q w z hq hz
        · have hq2 : q = i := by
            have := (List.getElem?_eq_some_iff.1 hz).1
            simp at this; omega
          subst hq2
          rw [h2, Nat.sub_self] at hz
          have e : n = z := by simpa using hz
          rw [hx] at hq
          have e2 : words[q] = w := by simpa using hq
          rw [← e, ← e2]
          exact ⟨k1, k2⟩)
    (fun st ⟨h1, h2, h3⟩ => by
      obtain ⟨ns, j⟩ := st
      simp only at h1 h2 h3
      subst h1
      unfold spec_l01Numbers_L1
      simp only
      rw [decide_eq_false (by omega : ¬ ((words.length : Int) < (words.length : Int))), cond_false]
      exact ⟨_, rfl, Or.inr ⟨ns, rfl, h2, h3⟩⟩) (s0 := ([], 0)) ⟨rfl, rfl, fun j w z _ hz => by simp at hz⟩
  rw [hr]
  simp only [Option.bind_some]
  rcases hpost with ⟨rfl, h⟩ | ⟨ns, rfl, h⟩
  · exact ⟨_, _, rfl, fun h => (by cases h), fun _ => h⟩
  · exact ⟨_, _, rfl, fun _ => h, fun h => (by cases h)⟩

def isI64 (z : Int) : Prop := -9223372036854775808 ≤ z ∧ z ≤ 9223372036854775807
theorem decimalZ (z : Int) (h : isI64 z) : impl_decimal z = some (Lib.itoa z) := by
  unfold impl_decimal strconv_FormatInt
  rw [if_pos ⟨rfl, h.1, h.2⟩]
  rfl
theorem readNumber_spec (s : List UInt8) (hs : s.length ≤ 1099511627776) : ∃ n ok, impl_readNumber s = some (n, ok) ∧ (ok = true → isI64 n ∧ s = Lib.itoa n) ∧ (∀ z, isI64 z → s = Lib.itoa z → ok = true ∧ n = z) := by
  unfold impl_readNumber strconv_ParseInt
  rw [if_pos ⟨rfl, rfl, by omega⟩]
  simp only [Option.bind_some]
  cases hp : Lib.parseIntB 64 s with
  | ok v =>
    have hb := Lib.parseIntB_bounds hp
    have hv : isI64 v := by
      have e : (2 ^ (64 - 1) : Nat) = 9223372036854775808 := by decide
      rw [e] at hb
      exact ⟨by omega, by omega⟩
    simp only [cond_false, decimalZ v hv, Option.bind_some]
    cases he : (Lib.itoa v == s) with
    | true =>
      have he' : Lib.itoa v = s := by simpa using he
      refine ⟨v, true, by simp, fun _ => ⟨hv, he'.symm⟩, fun z hz h => ⟨rfl, ?_⟩⟩
      rw [h, parse_itoa z hz.1 hz.2] at hp
      have : z = v := by simpa using hp
      exact this.symm
    | false =>
      refine ⟨0, false, by simp, fun h => (by cases h), fun z hz h => ?_⟩
      exfalso
      rw [h, parse_itoa z hz.1 hz.2] at hp
      have : z = v := by simpa using hp
      rw [this] at h
      rw [h] at he
      simp at he
  | range =>
    refine ⟨0, false, by simp, fun h => (by cases h), fun z hz h => ?_⟩
    rw [h, parse_itoa z hz.1 hz.2] at hp
    cases hp
  | _ =>
    refine ⟨0, false, by simp, fun h => (by cases h), fun z hz h => ?_⟩
    rw [h, parse_itoa z hz.1 hz.2] at hp
    cases hp
end Go.Proofs.YtneifoepoccjaaaGreatDoor
