/-
  What is recovered of a trace: the program and the reference find the same firings, in plain Lean. No program in sight.
-/
import Derived.Test.YtneifoepoccjaaaGreatDoorP2
import Derived.Test.YtneifoepoccjaaaGreatDoorQW
import Derived.Test.YtneifoepoccjaaaGreatDoorQU
import Derived.Test.YtneifoepoccjaaaGreatDoorQS
namespace Go.Proofs.YtneifoepoccjaaaGreatDoor

def countE (out : List Firing) (e : Int) : Nat := (out.filter (fun f => f.Event == e)).length
theorem countE_le (out : List Firing) (e : Int) : countE out e ≤ out.length := List.length_filter_le _ _
theorem countE_snoc (out : List Firing) (f : Firing) (e : Int) : countE (out ++ [f]) e = countE out e + (if f.Event == e then 1 else 0) := by
  unfold countE
  rw [List.filter_append, List.length_append]
  cases h : (f.Event == e) <;> simp [h]
theorem l14Count_eq (run : List Firing) (e : Int) (h : run.length ≤ 1099511627776) : spec_l14Count run e = some (countE run e : Int) := by
  unfold spec_l14Count
  have := loopM_count (step := spec_l14Count_L1 run e) (fun i => ((countE (run.take i) e : Int), (i : Int))) run.length (r := (countE run e : Int)) (fun i hi => ?_) ?_
  · simp only [List.take_zero] at this
    have e0 : countE [] e = 0 := rfl
    rw [e0] at this
    have e1 : (((0 : Nat) : Int), ((0 : Nat) : Int)) = ((0 : Int), (0 : Int)) := rfl
    rw [e1] at this
    rw [this]; rfl
  · have hx : run[i]? = some run[i] := List.getElem?_eq_getElem hi
    have hle := countE_le (run.take i) e
    rw [List.length_take] at hle
    unfold spec_l14Count_L1
    simp only
    rw [decide_eq_true (by omega : (i : Int) < (run.length : Int)), cond_true, idxO_nat hx]
    have hs : run.take (i + 1) = run.take i ++ [run[i]] := by rw [List.take_add_one, hx]; rfl
    simp only [Option.bind_some]
    rw [hs, countE_snoc, wrap_succ (i := i) (by omega)]
    cases hb : (run[i].Event == e) with
    | true => rw [wrap_succ (by omega)]; simp
    | false => simp
  · unfold spec_l14Count_L1
    simp only
    rw [decide_eq_false (by omega : ¬ ((run.length : Int) < (run.length : Int))), cond_false, List.take_length]

/-! ## A line and its words -/
def nx (c e t : Nat) : Nat := (31 * c + 7 * e + t) % 9973
def lineW (e t c : Nat) : List UInt8 := Lib.decDigits e ++ 32 :: (Lib.decDigits t ++ 32 :: Lib.decDigits c)
theorem line_W (e t c : Nat) (k : Int) : line ⟨(e : Int), k, (t : Int)⟩ c = lineW e t c ++ [10] := by
  simp [line, lineW]
theorem next_nx (c e t : Nat) (k : Int) : next c ⟨(e : Int), k, (t : Int)⟩ = nx c e t := by
  simp [next, nx]
theorem nx_lt (c e t : Nat) : nx c e t < 9973 := Nat.mod_lt _ (by decide)
theorem dec_no {b : UInt8} (hb : b.toNat < 48) (u : Nat) : b ∉ Lib.decDigits u := fun h => by
  have := dec_digits u b h
  omega
theorem words_W (e t c : Nat) : cutS 32 (lineW e t c) = [Lib.decDigits e, Lib.decDigits t, Lib.decDigits c] := by
  unfold lineW
  rw [cutS_app (dec_no (by decide) e), cutS_app (dec_no (by decide) t), cutS_none (dec_no (by decide) c)]
theorem lineW_no10 (e t c : Nat) : (10 : UInt8) ∉ lineW e t c := by
  unfold lineW
  have h1 := dec_no (b := 10) (by decide) e
  have h2 := dec_no (b := 10) (by decide) t
  have h3 := dec_no (b := 10) (by decide) c
  simp [h1, h2, h3]
theorem cutS_inv {b : UInt8} {l w : List UInt8} {ws : List (List UInt8)} (h : cutS b l = w :: ws) : (ws = [] ∧ l = w ∧ b ∉ l) ∨ ∃ v, l = w ++ b :: v ∧ b ∉ w ∧ cutS b v = ws := by
  rcases cut_or (b := b) l with h1 | ⟨u, v, rfl, h1⟩
  · rw [cutS_none h1] at h
    have := List.cons.inj h
    exact Or.inl ⟨this.2.symm, this.1, h1⟩
  · rw [cutS_app h1] at h
    have := List.cons.inj h
    right
    exact ⟨v, by rw [this.1], this.1 ▸ h1, this.2⟩
theorem words3 {l w0 w1 w2 : List UInt8} (h : cutS 32 l = [w0, w1, w2]) : l = w0 ++ 32 :: (w1 ++ 32 :: w2) := by
  rcases cutS_inv h with ⟨h1, _⟩ | ⟨v, rfl, _, h2⟩
  · cases h1
  · rcases cutS_inv h2 with ⟨h1, _⟩ | ⟨v2, rfl, _, h3⟩
    · cases h1
    · rcases cutS_inv h3 with ⟨_, rfl, _⟩ | ⟨v3, _, _, h4⟩
      · rfl
      · exfalso
        have := cutS_length 32 v3
        rw [h4] at this
        simp at this
theorem itoaN (u : Nat) : Lib.itoa (u : Int) = Lib.decDigits u := Lib.itoa_nonneg u
theorem dec_inj {u v : Nat} (h : Lib.decDigits u = Lib.decDigits v) : u = v := by
  have := congrArg dval h
  rwa [dval_dec, dval_dec] at this
theorem lineW_inj {e t c e' t' c' : Nat} (h : lineW e t c = lineW e' t' c') : e = e' ∧ t = t' ∧ c = c' := by
  have := congrArg (cutS 32) h
  rw [words_W, words_W] at this
  simp only [List.cons.injEq, and_true] at this
  exact ⟨dec_inj this.1, dec_inj this.2.1, dec_inj this.2.2⟩

/-- The event and the time of a line that may follow behind the chain c. -/
noncomputable def pick (l : List UInt8) (c : Nat) : Option (Nat × Nat) :=
  open Classical in if h : ∃ p : Nat × Nat, p.1 ≤ 9 ∧ p.2 ≤ 1000000 ∧ l = lineW p.1 p.2 (nx c p.1 p.2) then some h.choose else none
theorem pick_some {l : List UInt8} {c e t : Nat} (h : pick l c = some (e, t)) : e ≤ 9 ∧ t ≤ 1000000 ∧ l = lineW e t (nx c e t) := by
  unfold pick at h
  split at h
  · rename_i hx
    have := hx.choose_spec
    rw [Option.some.inj h] at this
    exact this
  · cases h
theorem pick_of {l : List UInt8} {c e t : Nat} (he : e ≤ 9) (ht : t ≤ 1000000) (h : l = lineW e t (nx c e t)) : pick l c = some (e, t) := by
  unfold pick
  have hx : ∃ p : Nat × Nat, p.1 ≤ 9 ∧ p.2 ≤ 1000000 ∧ l = lineW p.1 p.2 (nx c p.1 p.2) := ⟨(e, t), he, ht, h⟩
  rw [dif_pos hx]
  have := hx.choose_spec
  have h2 := lineW_inj (this.2.2.symm.trans h)
  exact congrArg some (Prod.ext h2.1 h2.2.1)
theorem pick_none {l : List UInt8} {c e t : Nat} (h : pick l c = none) (he : e ≤ 9) (ht : t ≤ 1000000) : l ≠ lineW e t (nx c e t) := fun hl => by
  rw [pick_of he ht hl] at h; cases h

theorem small_nat {e : Nat} (h : e ≤ 1000000000) : small (e : Int) := ⟨by omega, by omega⟩
theorem small_inj {y z : Int} (hy : small y) (hz : small z) (h : Lib.itoa y = Lib.itoa z) : y = z :=
  itoa_inj (by have := hy.1; omega) (by have := hy.2; omega) (by have := hz.1; omega) (by have := hz.2; omega) h
theorem writable_nat {e t : Nat} {k : Int} (he : e ≤ 9) (ht : t ≤ 1000000) : writable ⟨(e : Int), k, (t : Int)⟩ = true := by
  simp only [writable, decide_eq_true_eq]; omega

/-! ## One round -/
theorem spec_step {lines : List (List UInt8)} {i : Nat} {l l2 : List UInt8} {rest : List (List UInt8)} (hd : lines.drop i = l :: l2 :: rest) (hlen : lines.length ≤ 2147483648) (hll : l.length ≤ 1073741824) {c size : Nat} (hc : c < 9973) (hsz : size ≤ 1073741824) {out : List Firing} (ho : out.length < 500) :
    spec_l28Recover_L1 lines ((c : Int), (size : Int), out, (i : Int)) = match pick l c with
      | some (e, t) => some (.inl ((nx c e t : Int), ((size + l.length + 1 : Nat) : Int), out ++ [⟨(e : Int), (countE out (e : Int) : Int) + 1, (t : Int)⟩], ((i + 1 : Nat) : Int)))
      | none => some (.inr ((size : Int), out)) := by
  have hil : i + 2 ≤ lines.length := by
    have := congrArg List.length hd
    simp only [List.length_drop, List.length_cons] at this
    omega
  have hx : lines[i]? = some l := by
    have : (lines.drop i)[0]? = some l := by rw [hd]; rfl
    rw [List.getElem?_drop] at this
    simpa using this
  unfold spec_l28Recover_L1
  simp only
  rw [wrap_succ (by omega), decide_eq_true (by omega : (((i + 1 : Nat)) : Int) < (lines.length : Int)), decide_eq_true (by omega : (out.length : Int) < 500), Bool.and_self, cond_true, idxO_nat hx]
  simp only [Option.bind_some]
  have hsp : spec_l01Split l 32 = some (cutS 32 l) := l01Split_eq l 32 (by omega)
  rw [hsp]
  simp only [Option.bind_some]
  have hwl : ∀ w, w ∈ cutS 32 l → w.length ≤ 1099511627776 := fun w hw => by
    have := (cutS_pieces l.length l (Nat.le_refl _) w hw).2
    omega
  have hcl := cutS_length 32 l
  have hcc : l.count 32 ≤ l.length := List.count_le_length
  obtain ⟨ns, ok, g1, g2, g3⟩ := l01Numbers_spec (cutS 32 l) (by omega) hwl
  rw [g1]
  simp only [Option.bind_some]
  cases hp : pick l c with
  | some p =>
    obtain ⟨e, t⟩ := p
    obtain ⟨he, ht, hl⟩ := pick_some hp
    have hn := nx_lt c e t
    have hw : cutS 32 l = [Lib.decDigits e, Lib.decDigits t, Lib.decDigits (nx c e t)] := by rw [hl, words_W]
    have hok : ok = true := by
      cases ok with
      | true => rfl
      | false =>
        obtain ⟨w, hw1, hw2⟩ := g3 rfl
        rw [hw] at hw1
        simp only [List.mem_cons, List.not_mem_nil, or_false] at hw1
        rcases hw1 with rfl | rfl | rfl
        · exact absurd (itoaN e).symm (hw2 _ (small_nat (by omega)))
        · exact absurd (itoaN t).symm (hw2 _ (small_nat (by omega)))
        · exact absurd (itoaN _).symm (hw2 _ (small_nat (by omega)))
    subst hok
    obtain ⟨k1, k2⟩ := g2 rfl
    rw [hw] at k1 k2
    obtain ⟨a, b, d, rfl⟩ : ∃ a b d, ns = [a, b, d] := by
      match ns, k1 with
      | [a, b, d], _ => exact ⟨a, b, d, rfl⟩
    have ha := k2 0 _ a rfl rfl
    have hb := k2 1 _ b rfl rfl
    have hdd := k2 2 _ d rfl rfl
    have ea : a = (e : Int) := (small_inj (small_nat (by omega)) ha.1 ((itoaN e).trans ha.2)).symm
    have eb : b = (t : Int) := (small_inj (small_nat (by omega)) hb.1 ((itoaN t).trans hb.2)).symm
    have ed : d = (nx c e t : Int) := (small_inj (small_nat (by omega)) hdd.1 ((itoaN _).trans hdd.2)).symm
    subst ea; subst eb; subst ed
    have i0 : idxO [(e : Int), (t : Int), (nx c e t : Int)] 0 = some (e : Int) := idxO_nat (i := 0) rfl
    have i1 : idxO [(e : Int), (t : Int), (nx c e t : Int)] 1 = some (t : Int) := idxO_nat (i := 1) rfl
    have i2 : idxO [(e : Int), (t : Int), (nx c e t : Int)] 2 = some (nx c e t : Int) := idxO_nat (i := 2) rfl
    have hcnt := countE_le out (e : Int)
    have hlen3 : ((([(e : Int), (t : Int), (nx c e t : Int)].length : Nat) : Int) != 3) = false := rfl
    rw [hlen3]
    simp only [Bool.not_true, Bool.or_self, cond_false, i0, i1, i2, Option.bind_some, letT_eq]
    rw [l14Count_eq out _ (by omega)]
    simp only [Option.bind_some]
    rw [wrap_succ (by omega), l28Writable_eq, writable_nat he ht]
    have hnext : spec_l28Next (c : Int) ⟨(e : Int), ((countE out (e : Int) + 1 : Nat) : Int), (t : Int)⟩ = (nx c e t : Int) := by
      rw [l28Next_eq (writable_nat he ht) hc, next_nx]
    rw [hnext]
    simp only [Bool.not_true, cond_false, bne_self_eq_false, Option.bind_some]
    rw [appO_eq (by simp; omega)]
    simp only [Option.bind_some]
    have e3 : IntKind.i64.wrap (IntKind.i64.wrap ((size : Int) + (l.length : Int)) + 1) = ((size + l.length + 1 : Nat) : Int) := by
      rw [wrap64 (x := (size : Int) + (l.length : Int)) (by omega) (by omega), wrap64 (by omega) (by omega)]; omega
    rw [e3]
    rfl
  | none =>
    cases ok with
    | false => simp
    | true =>
      obtain ⟨k1, k2⟩ := g2 rfl
      simp only [Bool.not_true, Bool.false_or]
      by_cases h3 : ns.length = 3
      · have hlen3 : ((ns.length : Int) != 3) = false := by rw [h3]; rfl
        rw [hlen3, cond_false]
        obtain ⟨a, b, d, rfl⟩ : ∃ a b d, ns = [a, b, d] := by
          match ns, h3 with
          | [a, b, d], _ => exact ⟨a, b, d, rfl⟩
        obtain ⟨w0, w1, w2, hw⟩ : ∃ w0 w1 w2, cutS 32 l = [w0, w1, w2] := by
          generalize cutS 32 l = ws at k1
          match ws, k1 with
          | [w0, w1, w2], _ => exact ⟨w0, w1, w2, rfl⟩
        rw [hw] at k2
        have ha := k2 0 _ a rfl rfl
        have hb := k2 1 _ b rfl rfl
        have hdd := k2 2 _ d rfl rfl
        have i0 : idxO [a, b, d] 0 = some a := idxO_nat (i := 0) rfl
        have i1 : idxO [a, b, d] 1 = some b := idxO_nat (i := 1) rfl
        have i2 : idxO [a, b, d] 2 = some d := idxO_nat (i := 2) rfl
        have hcnt := countE_le out a
        simp only [i0, i1, i2, Option.bind_some, letT_eq]
        rw [l14Count_eq out _ (by omega)]
        simp only [Option.bind_some, l28Writable_eq]
        rw [wrap_succ (by omega)]
        cases hwr : writable ⟨a, ((countE out a + 1 : Nat) : Int), b⟩ with
        | false => simp
        | true =>
          rw [l28Next_eq hwr hc]
          have hwr' := hwr
          simp only [writable, decide_eq_true_eq] at hwr'
          obtain ⟨e, rfl⟩ : ∃ e : Nat, a = (e : Int) := ⟨a.toNat, by omega⟩
          obtain ⟨t, rfl⟩ : ∃ t : Nat, b = (t : Int) := ⟨b.toNat, by omega⟩
          rw [next_nx]
          have hne : (d != (nx c e t : Int)) = true := by
            rw [bne_iff_ne]
            intro hde
            subst hde
            refine pick_none hp (e := e) (t := t) (by omega) (by omega) ?_
            rw [words3 hw, ha.2, hb.2, hdd.2, itoaN, itoaN, itoaN]; rfl
          rw [hne]
          simp
      · have hlen3 : ((ns.length : Int) != 3) = true := by
          rw [bne_iff_ne]; intro h; exact h3 (by omega)
        rw [hlen3]
        simp
theorem isWritable_one (f : Firing) : impl_isWritable [f] = some (writable f) := by
  rw [isWritable_eq [f] (by simp)]
  simp
theorem impl_step {s : List UInt8} {size : Nat} {l v : List UInt8} (hd : s.drop size = l ++ 10 :: v) (h10 : (10 : UInt8) ∉ l) (hs : s.length ≤ 1073741824) (hsz : size ≤ s.length) {c : Nat} (hc : c < 9973) {out : List Firing} (ho : out.length < 500) {counts : List Int} (hcl : counts.length = 10) (hcn : ∀ e : Nat, e ≤ 9 → counts[e]? = some (countE out (e : Int) : Int)) :
    impl_recoverTrace_L1 s (out, counts, (c : Int), (size : Int)) = match pick l c with
      | some (e, t) => some (.inl (out ++ [⟨(e : Int), (countE out (e : Int) : Int) + 1, (t : Int)⟩], counts.set e ((countE out (e : Int) : Int) + 1), (nx c e t : Int), ((size + l.length + 1 : Nat) : Int)))
      | none => some (.inr (out, (size : Int))) := by
  have hll : l.length + 1 + size ≤ s.length := by
    have := congrArg List.length hd
    simp only [List.length_drop, List.length_append, List.length_cons] at this
    omega
  unfold impl_recoverTrace_L1
  simp only
  rw [decide_eq_true (by omega : (out.length : Int) < 500), cond_true]
  have hsub : subO s (size : Int) (s.length : Int) = some (s.drop size) := by
    rw [subO_eq hsz (Nat.le_refl _), List.take_of_length_le (by rw [List.length_drop]; omega)]
  rw [hsub]
  simp only [Option.bind_some]
  have hcut : strings_Cut (s.drop size) [10] = some (l, v, true) := by
    unfold strings_Cut
    rw [if_pos (by rw [List.length_drop]; omega), hd, cut_hit h10]
  rw [hcut]
  simp only [Option.bind_some]
  rw [strings_Split_eq l 32 (by omega)]
  simp only [Option.bind_some, Bool.not_true, Bool.false_or]
  have hwl : ∀ w, w ∈ cutS 32 l → w.length ≤ 1099511627776 := fun w hw => by
    have := (cutS_pieces l.length l (Nat.le_refl _) w hw).2
    omega
  by_cases h3 : (cutS 32 l).length = 3
  · have hlen3 : (((cutS 32 l).length : Int) != 3) = false := by rw [h3]; rfl
    rw [hlen3, cond_false]
    obtain ⟨w0, w1, w2, hw⟩ : ∃ w0 w1 w2, cutS 32 l = [w0, w1, w2] := by
      generalize cutS 32 l = ws at h3
      match ws, h3 with
      | [w0, w1, w2], _ => exact ⟨w0, w1, w2, rfl⟩
    rw [hw] at hwl ⊢
    have i0 : idxO [w0, w1, w2] 0 = some w0 := idxO_nat (i := 0) rfl
    have i1 : idxO [w0, w1, w2] 1 = some w1 := idxO_nat (i := 1) rfl
    obtain ⟨n0, ok0, g0, g0a, g0b⟩ := readNumber_spec w0 (hwl w0 (by simp))
    obtain ⟨n1, ok1, g1, g1a, g1b⟩ := readNumber_spec w1 (hwl w1 (by simp))
    simp only [i0, i1, Option.bind_some, g0, g1]
    cases hp : pick l c with
    | some p =>
      obtain ⟨e, t⟩ := p
      obtain ⟨he, ht, hl⟩ := pick_some hp
      have hn := nx_lt c e t
      have hw2 : [w0, w1, w2] = [Lib.decDigits e, Lib.decDigits t, Lib.decDigits (nx c e t)] := by rw [← hw, hl, words_W]
      simp only [List.cons.injEq, and_true] at hw2
      obtain ⟨q0, q1⟩ := g0b (e : Int) ⟨by omega, by omega⟩ (by rw [hw2.1, itoaN])
      obtain ⟨q2, q3⟩ := g1b (t : Int) ⟨by omega, by omega⟩ (by rw [hw2.2.1, itoaN])
      subst q0; subst q1; subst q2; subst q3
      rw [isWritable_one, writable_nat he ht]
      simp only [Bool.not_true, Bool.or_self, cond_false, Option.bind_some]
      rw [traceLine_eq (writable_nat he ht) hc, next_nx, line_W]
      simp only [Option.bind_some]
      rw [catO_eq (by simp; omega)]
      simp only [Option.bind_some]
      rw [← hl]
      have hx := hcn e he
      have hcnt := countE_le out (e : Int)
      rw [beq_self_eq_true, Bool.not_true, cond_false, idxO_nat hx]
      simp only [Option.bind_some, letT_eq, Int.toNat_natCast]
      rw [wrap64 (x := (countE out (e : Int) : Int) + 1) (by omega) (by omega)]
      have hx2 : (counts.set e ((countE out (e : Int) : Int) + 1))[e]? = some ((countE out (e : Int) : Int) + 1) := by
        rw [List.getElem?_set_self (by omega)]
      rw [idxO_nat hx2]
      simp only [Option.bind_some]
      rw [appO_eq (by simp; omega)]
      simp only [Option.bind_some]
      have e3 : IntKind.i64.wrap ((size : Int) + (((l ++ [10]).length : Nat) : Int)) = ((size + l.length + 1 : Nat) : Int) := by
        rw [List.length_append, List.length_singleton, wrap64 (by omega) (by omega)]; omega
      rw [e3]
    | none =>
      cases ok0 with
      | false => simp
      | true =>
        cases ok1 with
        | false => simp
        | true =>
          rw [isWritable_one]
          simp only [Bool.not_true, Bool.or_self, cond_false, Option.bind_some]
          cases hwr : writable ⟨n0, 0, n1⟩ with
          | false => simp
          | true =>
            have hwr' := hwr
            simp only [writable, decide_eq_true_eq] at hwr'
            obtain ⟨e, rfl⟩ : ∃ e : Nat, n0 = (e : Int) := ⟨n0.toNat, by omega⟩
            obtain ⟨t, rfl⟩ : ∃ t : Nat, n1 = (t : Int) := ⟨n1.toNat, by omega⟩
            simp only [Bool.not_true, cond_false]
            rw [traceLine_eq hwr hc, next_nx, line_W]
            simp only [Option.bind_some]
            rw [catO_eq (by simp; omega)]
            simp only [Option.bind_some]
            have hne : (lineW e t (nx c e t) ++ [10] == l ++ [10]) = false := by
              rw [beq_eq_false_iff_ne]
              intro h
              exact pick_none hp (by omega) (by omega) (List.append_cancel_right h).symm
            rw [hne]
            rfl
  · have hlen3 : (((cutS 32 l).length : Int) != 3) = true := by
      rw [bne_iff_ne]; intro h; exact h3 (by omega)
    rw [hlen3]
    cases hp : pick l c with
    | some p =>
      obtain ⟨e, t⟩ := p
      obtain ⟨_, _, hl⟩ := pick_some hp
      rw [hl, words_W] at h3
      exact absurd rfl h3
    | none => rfl

/-! ## All rounds -/
/-- What is found in the lines ls behind a chain, with the size of its text. -/
noncomputable def recL : List (List UInt8) → Nat → List Firing → Nat → List Firing × Nat
  | l :: l2 :: rest, c, out, size => if out.length < 500 then match pick l c with
      | some (e, t) => recL (l2 :: rest) (nx c e t) (out ++ [⟨(e : Int), (countE out (e : Int) : Int) + 1, (t : Int)⟩]) (size + l.length + 1)
      | none => (out, size)
    else (out, size)
  | [_], _, out, size => (out, size)
  | [], _, out, size => (out, size)
theorem countE_set {counts : List Int} {out : List Firing} {e : Nat} {k : Int} {t : Int} (he : e ≤ 9) (hcl : counts.length = 10) (hcn : ∀ e : Nat, e ≤ 9 → counts[e]? = some (countE out (e : Int) : Int)) :
    ∀ q : Nat, q ≤ 9 → (counts.set e ((countE out (e : Int) : Int) + 1))[q]? = some (countE (out ++ [⟨(e : Int), k, t⟩]) (q : Int) : Int) := by
  intro q hq
  rw [countE_snoc]
  by_cases h : e = q
  · subst h
    rw [List.getElem?_set_self (by omega)]
    simp
  · rw [List.getElem?_set_ne h, hcn q hq]
    have hb : ((e : Int) == (q : Int)) = false := by rw [beq_eq_false_iff_ne]; omega
    simp [hb]
theorem recover_both {s : List UInt8} (hs : s.length ≤ 1073741824) : ∀ (ls : List (List UInt8)) (c : Nat) (out : List Firing) (size i : Nat) (counts : List Int), (cutS 10 s).drop i = ls → cutS 10 (s.drop size) = ls → size ≤ s.length → c < 9973 → out.length ≤ 500 → counts.length = 10 → (∀ e : Nat, e ≤ 9 → counts[e]? = some (countE out (e : Int) : Int)) →
    loopM (spec_l28Recover_L1 (cutS 10 s)) ((c : Int), (size : Int), out, (i : Int)) = some (((recL ls c out size).2 : Int), (recL ls c out size).1) ∧ loopM (impl_recoverTrace_L1 s) (out, counts, (c : Int), (size : Int)) = some ((recL ls c out size).1, ((recL ls c out size).2 : Int)) := by
  have hcl := cutS_length 10 s
  have hcc : s.count 10 ≤ s.length := List.count_le_length
  intro ls
  induction ls with
  | nil =>
    intro c out size i counts _ h2
    have := cutS_length 10 (s.drop size)
    rw [h2] at this
    simp at this
  | cons l ls ih =>
    intro c out size i counts h1 h2 hsz hc ho hcl10 hcn
    have hi : i < (cutS 10 s).length := by
      have := congrArg List.length h1
      simp only [List.length_drop, List.length_cons] at this
      omega
    by_cases ho2 : out.length < 500
    · cases ls with
      | nil =>
        have hi1 : i + 1 = (cutS 10 s).length := by
          have := congrArg List.length h1
          simp only [List.length_drop, List.length_cons, List.length_nil] at this
          omega
        constructor
        · refine loopM_done ?_
          unfold spec_l28Recover_L1
          simp only
          rw [wrap_succ (by omega), decide_eq_false (by omega : ¬ (((i + 1 : Nat) : Int) < ((cutS 10 s).length : Int)))]
          rfl
        · refine loopM_done ?_
          rcases cutS_inv h2 with ⟨_, hl, hn⟩ | ⟨v, _, _, hv⟩
          · unfold impl_recoverTrace_L1
            simp only
            rw [decide_eq_true (by omega : (out.length : Int) < 500), cond_true]
            have hsub : subO s (size : Int) (s.length : Int) = some (s.drop size) := by
              rw [subO_eq hsz (Nat.le_refl _), List.take_of_length_le (by rw [List.length_drop]; omega)]
            have hll := (cutS_pieces _ _ (Nat.le_refl _) l (by rw [h2]; simp)).2
            rw [List.length_drop] at hll
            rw [hl] at hn
            rw [hsub, hl]
            simp only [Option.bind_some]
            have hcut : strings_Cut l [10] = some (l, [], false) := by
              unfold strings_Cut
              rw [if_pos (by omega), cut_miss hn]
            rw [hcut]
            simp only [Option.bind_some]
            rw [strings_Split_eq l 32 (by omega)]
            simp only [Option.bind_some, Bool.not_false, Bool.true_or, cond_true]
            rfl
          · exfalso
            have := cutS_length 10 v
            rw [hv] at this
            simp at this
      | cons l2 rest =>
        rcases cutS_inv h2 with ⟨h, _⟩ | ⟨v, hd, hn, hv⟩
        · cases h
        · have hll : l.length + 1 + size ≤ s.length := by
            have := congrArg List.length hd
            simp only [List.length_drop, List.length_append, List.length_cons] at this
            omega
          have e1 := spec_step h1 (by omega) (by omega) hc (size := size) (by omega) ho2
          have e2 := impl_step hd hn hs hsz hc ho2 hcl10 hcn
          have hrec : recL (l :: l2 :: rest) c out size = match pick l c with
              | some (e, t) => recL (l2 :: rest) (nx c e t) (out ++ [⟨(e : Int), (countE out (e : Int) : Int) + 1, (t : Int)⟩]) (size + l.length + 1)
              | none => (out, size) := by
            rw [recL, if_pos ho2]
          rw [hrec]
          cases hp : pick l c with
          | none =>
            rw [hp] at e1 e2
            exact ⟨loopM_done e1, loopM_done e2⟩
          | some p =>
            obtain ⟨e, t⟩ := p
            obtain ⟨he, ht, _⟩ := pick_some hp
            rw [hp] at e1 e2
            simp only at e1 e2 ⊢
            rw [loopM_next e1, loopM_next e2]
            refine ih (nx c e t) _ (size + l.length + 1) (i + 1) _ ?_ ?_ (by omega) (nx_lt c e t) (by simp; omega) (by simpa using hcl10) (countE_set he hcl10 hcn)
            · rw [← List.drop_drop, h1]; rfl
            · have hdd : s.drop (size + l.length + 1) = v := by
                rw [show size + l.length + 1 = size + (l.length + 1) by omega, ← List.drop_drop, hd, ← List.drop_drop, List.drop_left' rfl]
                rfl
              rw [hdd]; exact hv
    · have hrec : recL (l :: ls) c out size = (out, size) := by
        cases ls with
        | nil => rfl
        | cons l2 rest => rw [recL, if_neg ho2]
      rw [hrec]
      constructor
      · refine loopM_done ?_
        unfold spec_l28Recover_L1
        simp only
        rw [decide_eq_false (by omega : ¬ (out.length : Int) < 500), Bool.and_false]
        rfl
      · refine loopM_done ?_
        unfold impl_recoverTrace_L1
        simp only
        rw [decide_eq_false (by omega : ¬ (out.length : Int) < 500)]
        rfl
/-- What is found in a text. -/
noncomputable def found (s : List UInt8) : List Firing × Nat := recL (cutS 10 s) 1 [] 0
theorem spec_found {s : List UInt8} (hs : s.length ≤ 1073741824) : spec_l28Recover s = some ((found s).1, ((found s).2 : Int)) := by
  unfold spec_l28Recover
  have hsp : spec_l01Split s 10 = some (cutS 10 s) := l01Split_eq s 10 (by omega)
  have hcn : ∀ e : Nat, e ≤ 9 → (List.replicate 10 (0 : Int))[e]? = some (countE [] (e : Int) : Int) := fun e he => by
    rw [List.getElem?_replicate, if_pos (by omega)]; rfl
  have := (recover_both hs (cutS 10 s) 1 [] 0 0 (List.replicate 10 0) rfl rfl (by omega) (by omega) (by simp) (by simp) hcn).1
  rw [hsp]
  simp only [Option.bind_some]
  have e0 : loopM (spec_l28Recover_L1 (cutS 10 s)) (1, 0, [], 0) = some (((found s).2 : Int), (found s).1) := this
  rw [e0]
  rfl
theorem impl_found {s : List UInt8} (hs : s.length ≤ 1073741824) : impl_recoverTrace s = some ((found s).1, ((found s).2 : Int)) := by
  unfold impl_recoverTrace
  have hcn : ∀ e : Nat, e ≤ 9 → (List.replicate 10 (0 : Int))[e]? = some (countE [] (e : Int) : Int) := fun e he => by
    rw [List.getElem?_replicate, if_pos (by omega)]; rfl
  have := (recover_both hs (cutS 10 s) 1 [] 0 0 (List.replicate 10 0) rfl rfl (by omega) (by omega) (by simp) (by simp) hcn).2
  have hmk : mkO 8 (0 : Int) 10 = some (List.replicate 10 0) := mkO_eq (n := 10) (by omega)
  rw [hmk]
  simp only [Option.bind_some]
  have e0 : loopM (impl_recoverTrace_L1 s) ([], List.replicate 10 0, 1, 0) = some ((found s).1, ((found s).2 : Int)) := this
  rw [e0]
  rfl
/-- What is found is what the beginning of the text says. -/
theorem recL_text {s : List UInt8} : ∀ (ls : List (List UInt8)) (out : List Firing) (size : Nat), cutS 10 (s.drop size) = ls → size ≤ s.length → out.length ≤ 500 → out.all writable = true → s.take size = textAt 1 out →
    (recL ls (out.foldl next 1) out size).1.length ≤ 500 ∧ (recL ls (out.foldl next 1) out size).1.all writable = true ∧ (recL ls (out.foldl next 1) out size).2 ≤ s.length ∧ s.take (recL ls (out.foldl next 1) out size).2 = textAt 1 (recL ls (out.foldl next 1) out size).1 := by
  intro ls
  induction ls with
  | nil => intro out size _ h2 h3 h4 h5; exact ⟨h3, h4, h2, h5⟩
  | cons l ls ih =>
    intro out size h1 h2 h3 h4 h5
    cases ls with
    | nil => exact ⟨h3, h4, h2, h5⟩
    | cons l2 rest =>
      rw [recL]
      by_cases ho : out.length < 500
      · rw [if_pos ho]
        cases hp : pick l (out.foldl next 1) with
        | none => exact ⟨h3, h4, h2, h5⟩
        | some p =>
          obtain ⟨e, t⟩ := p
          obtain ⟨he, ht, hl⟩ := pick_some hp
          rcases cutS_inv h1 with ⟨h, _⟩ | ⟨v, hd, hn, hv⟩
          · cases h
          · have hll : l.length + 1 + size ≤ s.length := by
              have := congrArg List.length hd
              simp only [List.length_drop, List.length_append, List.length_cons] at this
              omega
            have hdd : s.drop (size + l.length + 1) = v := by
              rw [show size + l.length + 1 = size + (l.length + 1) by omega, ← List.drop_drop, hd, ← List.drop_drop, List.drop_left' rfl]
              rfl
            have := ih (out ++ [⟨(e : Int), (countE out (e : Int) : Int) + 1, (t : Int)⟩]) (size + l.length + 1) (by rw [hdd]; exact hv) (by omega) (by simp; omega) (by rw [List.all_append, h4]; simp [writable_nat he ht]) ?_
            · rw [List.foldl_append, List.foldl_cons, List.foldl_nil, next_nx] at this
              exact this
            · rw [textAt_append, next_nx, line_W, ← h5, ← hl]
              rw [show size + l.length + 1 = size + (l.length + 1) by omega, List.take_add, hd]
              congr 1
              rw [show l.length + 1 = (l ++ [10]).length by simp, show l ++ 10 :: v = (l ++ [10]) ++ v by simp, List.take_left' rfl]
      · rw [if_neg ho]
        exact ⟨h3, h4, h2, h5⟩
theorem found_text (s : List UInt8) : (found s).1.length ≤ 500 ∧ (found s).1.all writable = true ∧ (found s).2 ≤ s.length ∧ s.take (found s).2 = textAt 1 (found s).1 :=
  recL_text (s := s) (cutS 10 s) [] 0 rfl (by omega) (by simp) rfl (by simp [textAt])
end Go.Proofs.YtneifoepoccjaaaGreatDoor
