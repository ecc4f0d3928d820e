/-
  Plain lemmas: texts cut at a byte, numerals that are read. No program in sight.
-/
import Derived.Test.YtneifoepoccjaaaGreatDoorQ0
import Derived.Lib.SplitLaws
import Derived.Lib.ParseIntB
import Derived.Lib.ParseIntBTie
namespace Go.Proofs.YtneifoepoccjaaaGreatDoor

/-- A loop with a state of which something stands. -/
theorem loopM_inv {σ ρ : Type} {step : σ → Option (Sum σ ρ)} (I : Nat → σ → Prop) (n : Nat) (post : ρ → Prop)
    (hs : ∀ i s, i < n → I i s → (∃ s', step s = some (.inl s') ∧ I (i + 1) s') ∨ (∃ r, step s = some (.inr r) ∧ post r)) (he : ∀ s, I n s → ∃ r, step s = some (.inr r) ∧ post r) {s0 : σ} (h0 : I 0 s0) : ∃ r, loopM step s0 = some r ∧ post r := by
  have key : ∀ k i s, i + k = n → I i s → ∃ r, loopM step s = some r ∧ post r := by
    intro k
    induction k with
    | zero =>
      intro i s h hI
      have : i = n := by omega
      subst this
      obtain ⟨r, h1, h2⟩ := he s hI
      exact ⟨r, loopM_done h1, h2⟩
    | succ k ih =>
      intro i s h hI
      rcases hs i s (by omega) hI with ⟨s', h1, h2⟩ | ⟨r, h1, h2⟩
      · rw [loopM_next h1]; exact ih (i + 1) s' (by omega) h2
      · exact ⟨r, loopM_done h1, h2⟩
  exact key n 0 s0 (by omega) h0

/-! ## Cut at a byte -/
def cutS (b : UInt8) : List UInt8 → List (List UInt8)
  | [] => [[]]
  | x :: xs => if x = b then [] :: cutS b xs else match cutS b xs with
    | [] => [[x]]
    | w :: ws => (x :: w) :: ws
theorem cutS_none {b : UInt8} : ∀ {u : List UInt8}, b ∉ u → cutS b u = [u]
  | [], _ => rfl
  | x :: xs, h => by
    have h1 : x ≠ b := fun e => h (by simp [e])
    have h2 := cutS_none (u := xs) (fun hm => h (List.mem_cons_of_mem _ hm))
    rw [cutS, if_neg h1, h2]
theorem cutS_app {b : UInt8} {v : List UInt8} : ∀ {u : List UInt8}, b ∉ u → cutS b (u ++ b :: v) = u :: cutS b v
  | [], _ => by rw [List.nil_append, cutS, if_pos rfl]
  | x :: xs, h => by
    have h1 : x ≠ b := fun e => h (by simp [e])
    have h2 := cutS_app (v := v) (u := xs) (fun hm => h (List.mem_cons_of_mem _ hm))
    rw [List.cons_append, cutS, if_neg h1, h2]
theorem cut_or {b : UInt8} (s : List UInt8) : b ∉ s ∨ ∃ u v, s = u ++ b :: v ∧ b ∉ u := by
  by_cases h : b ∈ s
  · right
    obtain ⟨u, v, h1, h2⟩ := List.eq_append_cons_of_mem h
    exact ⟨u, v, h1, h2⟩
  · exact Or.inl h
theorem index_hit {b : UInt8} {v : List UInt8} : ∀ {u : List UInt8}, b ∉ u → Lib.index (u ++ b :: v) [b] = (u.length : Int)
  | [], _ => by rw [List.nil_append, Lib.index]; simp [List.isPrefixOf]
  | x :: xs, h => by
    have h1 : b ≠ x := fun e => h (by simp [e])
    have h2 := index_hit (v := v) (u := xs) (fun hm => h (List.mem_cons_of_mem _ hm))
    have h3 : ([b] : List UInt8).isPrefixOf (x :: (xs ++ b :: v)) = false := by simp [List.isPrefixOf, h1]
    rw [List.cons_append, Lib.index, h3, h2]
    simp
theorem index_miss {b : UInt8} : ∀ {u : List UInt8}, b ∉ u → Lib.index u [b] = -1
  | [], _ => by rw [Lib.index]; rfl
  | x :: xs, h => by
    have h1 : b ≠ x := fun e => h (by simp [e])
    have h2 := index_miss (u := xs) (fun hm => h (List.mem_cons_of_mem _ hm))
    have h3 : ([b] : List UInt8).isPrefixOf (x :: xs) = false := by simp [List.isPrefixOf, h1]
    rw [Lib.index, h3, h2]
    simp
theorem splitK_cut {b : UInt8} : ∀ (k : Nat) (s : List UInt8), s.count b = k → Lib.splitK [b] 0 k s = cutS b s
  | 0, s, h => by
    have : b ∉ s := List.count_eq_zero.1 h
    rw [cutS_none this]; rfl
  | k + 1, s, h => by
    rcases cut_or (b := b) s with h1 | ⟨u, v, rfl, h1⟩
    · rw [List.count_eq_zero.2 h1] at h; omega
    · have hc : v.count b = k := by
        rw [List.count_append, List.count_cons_self, List.count_eq_zero.2 h1] at h
        omega
      have hi := index_hit (v := v) h1
      rw [Lib.splitK, hi, cutS_app h1, if_neg (by simp)]
      have e1 : ((u.length : Int)).toNat = u.length := by omega
      have e2 : (u ++ b :: v).drop (u.length + ([b] : List UInt8).length) = v := by rw [← List.drop_drop, List.drop_left' rfl]; rfl
      rw [e1, e2, Nat.add_zero, List.take_left' rfl, splitK_cut k v hc]
theorem cut_hit {b : UInt8} {u v : List UInt8} (h : b ∉ u) : Lib.cut (u ++ b :: v) [b] = (u, v, true) := by
  have hi := index_hit (v := v) h
  unfold Lib.cut
  rw [hi, if_pos (by omega)]
  have e1 : ((u.length : Int)).toNat = u.length := by omega
  rw [e1, List.take_left' rfl, ← List.drop_drop, List.drop_left' rfl, List.length_singleton, List.drop_one, List.tail_cons]
theorem cut_miss {b : UInt8} {u : List UInt8} (h : b ∉ u) : Lib.cut u [b] = (u, [], false) := by
  unfold Lib.cut
  rw [index_miss h, if_neg (by omega)]
theorem cutS_length (b : UInt8) (s : List UInt8) : (cutS b s).length = s.count b + 1 := by
  have key : ∀ k (s : List UInt8), s.count b = k → (cutS b s).length = k + 1 := by
    intro k
    induction k with
    | zero => intro s h; rw [cutS_none (List.count_eq_zero.1 h)]; rfl
    | succ k ih =>
      intro s h
      rcases cut_or (b := b) s with h1 | ⟨u, v, rfl, h1⟩
      · rw [List.count_eq_zero.2 h1] at h; omega
      · rw [cutS_app h1, List.length_cons, ih v (by rw [List.count_append, List.count_cons_self, List.count_eq_zero.2 h1] at h; omega)]
  exact key _ s rfl
/-- The pieces hold no such byte. -/
theorem cutS_pieces {b : UInt8} : ∀ (n : Nat) (s : List UInt8), s.length ≤ n → ∀ w, w ∈ cutS b s → b ∉ w ∧ w.length ≤ s.length
  | n, s, hn, w, hw => by
    rcases cut_or (b := b) s with h1 | ⟨u, v, rfl, h1⟩
    · rw [cutS_none h1] at hw
      have : w = s := by simpa using hw
      subst this
      exact ⟨h1, Nat.le_refl _⟩
    · rw [cutS_app h1] at hw
      simp only [List.length_append, List.length_cons] at hn ⊢
      rcases List.mem_cons.1 hw with rfl | hw
      · exact ⟨h1, by omega⟩
      · cases n with
        | zero => omega
        | succ n =>
          have := cutS_pieces n v (by omega) w hw
          exact ⟨this.1, by omega⟩

/-! ## Numerals -/
open Lib in
theorem parseM_append (M : Nat) : ∀ (l r : List UInt8) (acc a : Nat), parseUintM M acc l = .ok a → parseUintM M acc (l ++ r) = parseUintM M a r
  | [], r, acc, a, h => by
    have : acc = a := by simpa [parseUintM] using h
    subst this; rfl
  | c :: l, r, acc, a, h => by
    rw [List.cons_append]
    rw [parseUintM] at h ⊢
    split at h
    · rename_i h1
      rw [if_pos h1]
      split at h
      · cases h
      · rename_i h2
        rw [if_neg h2]
        split at h
        · cases h
        · rename_i h3
          rw [if_neg h3]
          exact parseM_append M l r _ a h
    · cases h
theorem digit_nat {d : Nat} (h : d < 10) : (UInt8.ofNat (48 + d)).toNat = 48 + d := by
  rw [UInt8.toNat_ofNat']; omega
theorem dec_ind {motive : Nat → Prop} (one : ∀ u, u < 10 → motive u) (more : ∀ u, ¬ u < 10 → motive (u / 10) → motive u) : ∀ u, motive u := by
  intro u
  induction u using Nat.strongRecOn with
  | ind u ih =>
    by_cases h : u < 10
    · exact one u h
    · exact more u h (ih (u / 10) (by omega))
theorem dec_step {u : Nat} (h : ¬ u < 10) : Lib.decDigits u = Lib.decDigits (u / 10) ++ [UInt8.ofNat (48 + u % 10)] := by
  rw [Lib.decDigits, dif_neg h]
theorem dec_digits (u : Nat) : ∀ c, c ∈ Lib.decDigits u → 48 ≤ c.toNat ∧ c.toNat ≤ 57 := by
  induction u using dec_ind with
  | one u h =>
    intro c hc
    rw [Lib.decDigits_one h] at hc
    have e : c = UInt8.ofNat (48 + u) := by simpa using hc
    rw [e, digit_nat h]; omega
  | more u h ih =>
    intro c hc
    rw [dec_step h] at hc
    rcases List.mem_append.1 hc with hc | hc
    · exact ih c hc
    · have e : c = UInt8.ofNat (48 + u % 10) := by simpa using hc
      rw [e, digit_nat (by omega)]; omega
theorem dec_ne (u : Nat) : Lib.decDigits u ≠ [] := by
  by_cases h : u < 10
  · rw [Lib.decDigits_one h]; simp
  · rw [dec_step h]; simp
open Lib in
theorem parseM_dec (M : Nat) (hM : M = 18446744073709551615) (u : Nat) : u ≤ M → parseUintM M 0 (decDigits u) = .ok u := by
  induction u using dec_ind with
  | one u h =>
    intro hu
    rw [decDigits_one h]
    rw [parseUintM, digit_nat h, if_pos (by omega), if_neg (by omega), if_neg (by omega)]
    simp [parseUintM]
  | more u h ih =>
    intro hu
    rw [dec_step h, parseM_append M _ _ _ _ (ih (by omega))]
    rw [parseUintM, digit_nat (by omega), if_pos (by omega), if_neg (by omega), if_neg (by omega)]
    rw [parseUintM]
    congr 1
    omega
open Lib in
theorem parse_itoa (z : Int) (h0 : -9223372036854775808 ≤ z) (h1 : z ≤ 9223372036854775807) : parseIntB 64 (itoa z) = .ok z := by
  have hp : ∀ u, u ≤ 18446744073709551615 → parseUintB 64 (decDigits u) = .ok u := fun u hu => by
    unfold parseUintB
    rw [if_neg (dec_ne u)]
    exact parseM_dec _ (by decide) u (by have : (2 ^ 64 - 1 : Nat) = 18446744073709551615 := by decide
                                         omega)
  unfold itoa
  split
  · rename_i hz
    have e := hp z.natAbs (by omega)
    have h45 : (45 : UInt8).toNat = 45 := rfl
    simp only [parseIntB, h45, or_true, if_true, e]
    have hb : (2 ^ (64 - 1) : Nat) = 9223372036854775808 := by decide
    simp only [true_and, not_true_eq_false, false_and, if_false]
    rw [hb, if_neg (by omega)]
    have e2 : -(z.natAbs : Int) = z := by omega
    simp [e2]
  · rename_i hz
    have e := hp z.toNat (by omega)
    obtain ⟨c, r, hcr⟩ := List.exists_cons_of_ne_nil (dec_ne z.toNat)
    have hd := dec_digits z.toNat c (by rw [hcr]; simp)
    rw [hcr] at e ⊢
    have hn : ¬ (c.toNat = 43 ∨ c.toNat = 45) := by omega
    have hn2 : ¬ c.toNat = 45 := by omega
    simp only [parseIntB, if_neg hn, e]
    have hb : (2 ^ (64 - 1) : Nat) = 9223372036854775808 := by decide
    rw [hb, if_neg (by omega), if_neg (by omega), if_neg hn2]
    congr 1; omega
def dval (s : List UInt8) : Nat := s.foldl (fun a c => 10 * a + (c.toNat - 48)) 0
theorem dval_snoc (s : List UInt8) (c : UInt8) : dval (s ++ [c]) = 10 * dval s + (c.toNat - 48) := by simp [dval]
theorem dval_dec (u : Nat) : dval (Lib.decDigits u) = u := by
  induction u using dec_ind with
  | one u h => rw [Lib.decDigits_one h]; simp only [dval, List.foldl_cons, List.foldl_nil]; rw [digit_nat h]; omega
  | more u h ih => rw [dec_step h, dval_snoc, ih, digit_nat (by omega)]; omega
theorem dval_lt : ∀ (k : Nat) (s : List UInt8), (∀ c, c ∈ s.take k → 48 ≤ c.toNat ∧ c.toNat ≤ 57) → k ≤ s.length → dval (s.take k) < 10 ^ k
  | 0, s, _, _ => by simp [dval]
  | k + 1, s, h, hk => by
    have hx : s[k]? = some s[k] := List.getElem?_eq_getElem (by omega)
    have e : s.take (k + 1) = s.take k ++ [s[k]] := by rw [List.take_add_one, hx]; rfl
    rw [e, dval_snoc]
    have ih := dval_lt k s (fun c hc => h c (by rw [e]; exact List.mem_append.2 (Or.inl hc))) (by omega)
    have hd := h s[k] (by rw [e]; exact List.mem_append.2 (Or.inr (List.mem_singleton.2 rfl)))
    rw [Nat.pow_succ]; omega
theorem dec_len_lt (u k : Nat) (h : u < 10 ^ k) (hk : 0 < k) : (Lib.decDigits u).length ≤ k := by
  induction u using dec_ind generalizing k with
  | one u h1 => rw [Lib.decDigits_one h1]; simp; omega
  | more u h1 ih =>
    rw [dec_step h1, List.length_append]
    cases k with
    | zero => omega
    | succ k =>
      have hk2 : 0 < k := by
        rcases Nat.eq_zero_or_pos k with e | e
        · subst e; simp at h; omega
        · exact e
      have := ih k (by rw [Nat.pow_succ] at h; omega) hk2
      simp; omega
theorem itoa_inj {y z : Int} (hy0 : -9223372036854775808 ≤ y) (hy1 : y ≤ 9223372036854775807) (hz0 : -9223372036854775808 ≤ z) (hz1 : z ≤ 9223372036854775807) (h : Lib.itoa y = Lib.itoa z) : y = z := by
  have h1 := parse_itoa y hy0 hy1
  rw [h, parse_itoa z hz0 hz1] at h1
  simpa using h1.symm
end Go.Proofs.YtneifoepoccjaaaGreatDoor
