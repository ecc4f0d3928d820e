/-
  The draws of runs, traces and texts are there, and the die is in its bounds. No program in sight.
-/
import Derived.Test.YtneifoepoccjaaaGreatDoorQV
namespace Go.Proofs.YtneifoepoccjaaaGreatDoor

theorem draw14_tot {c : List Int} (hc : Code c) {s : Src} (hs : Good c s) : Tot (spec_l14Draw s) (fun r => r.2.1.length ≤ 1000 ∧ Good c r.2.2) := by
  have hs0 := hs.1
  unfold spec_l14Draw
  refine tbind (draw11_tot hc hs) (fun o2 h2 => ?_)
  refine tbind (isGraph_tot o2.1 (by omega)) (fun o8 h8 => ?_)
  have g2 : Good c ⟨s.code, o2.2.at_v, o2.2.seed⟩ := ⟨hs0, h2.2.2⟩
  refine tcond (fun _ => tsome ⟨by simp, g2⟩) (fun hb => ?_)
  have hg := h8 (by simpa using hb)
  refine tbind (next_tot hc g2 (by omega)) (fun o9 h9 => ?_)
  refine tbind (tloop (fun q : Int × Int × (List Firing) × Int × Int => Good c ⟨s.code, q.1, q.2.1⟩ ∧ q.2.2.2.2 ≤ 16 ∧ q.2.2.1.length + q.2.2.2.2.toNat ≤ 16) (fun q => q.2.2.2.2.toNat) (fun r => Good c ⟨s.code, r.1, r.2.1⟩ ∧ r.2.2.length ≤ 16) ?_ ⟨⟨hs0, h9.2.2⟩, by have := h9.1; show o9.1 ≤ 16; omega, by have := h9.1; show 0 + o9.1.toNat ≤ 16; omega⟩) (fun o10 h10 => ?_)
  · intro q ⟨hgd, hn, hl⟩
    unfold spec_l14Draw_L1
    refine tcond (fun hb => ?_) (fun _ => tsome ⟨hgd, by show q.2.2.1.length ≤ 16; omega⟩)
    simp only [decide_eq_true_eq] at hb
    refine tbind (p := fun z : Int × Int × (List Firing) × Int => Good c ⟨s.code, z.1, z.2.1⟩ ∧ z.2.2.1.length ≤ q.2.2.1.length + 1) ?_ (fun o13 h13 => ?_)
    · refine tbind (next_tot hc hgd (by have := hg.1; omega)) (fun o14 h14 => ?_)
      refine tbind (ready14_tot o2.1 q.2.2.1 o14.1 (by omega) (by have := hg.2.1; omega)) (fun o15 _ => ?_)
      refine tcond (fun _ => tsome ⟨⟨hs0, h14.2.2⟩, by show q.2.2.1.length ≤ _; omega⟩) (fun _ => ?_)
      refine tbind (next_tot hc (s := ⟨s.code, o14.2.at_v, o14.2.seed⟩) ⟨hs0, h14.2.2⟩ (by omega)) (fun o16 h16 => ?_)
      refine tlet (fun y _ => ?_)
      refine tbind (count14_tot _ _ (by omega)) (fun o18 _ => ?_)
      refine tbind (app1 (by omega)) (fun z hz => tsome ⟨⟨hs0, h16.2.2⟩, ?_⟩)
      subst hz
      show (q.2.2.1 ++ [_]).length ≤ _
      simp
    · refine tlet (fun y hy => tsome ?_)
      rw [wrap64 (by omega) (by omega)] at hy
      subst hy
      exact ⟨⟨h13.1, by show q.2.2.2.2 - 1 ≤ 16; omega, by have := h13.2; show o13.2.2.1.length + (q.2.2.2.2 - 1).toNat ≤ 16; omega⟩, by show (q.2.2.2.2 - 1).toNat < q.2.2.2.2.toNat; omega⟩
  · have h10l := h10.2
    refine tbind (p := fun z : Int × Int × (List Firing) => Good c ⟨s.code, z.1, z.2.1⟩ ∧ z.2.2.length ≤ 16) ?_ (fun o25 h25 => ?_)
    · refine tcond (fun hb => ?_) (fun _ => tsome h10)
      simp only [decide_eq_true_eq] at hb
      refine tbind (next_tot hc h10.1 (by omega)) (fun o26 h26 => ?_)
      have hlt : o26.1 < (o10.2.2.length : Int) := by have := h26.1; omega
      refine tbind (next_tot hc (s := ⟨s.code, o26.2.at_v, o26.2.seed⟩) ⟨hs0, h26.2.2⟩ (by omega)) (fun o27 h27 => ?_)
      have g27 : Good c ⟨s.code, o27.2.at_v, o27.2.seed⟩ := ⟨hs0, h27.2.2⟩
      have hset (i : Nat) (f : Firing) : (List.set o10.2.2 i f).length ≤ 16 := by rw [List.length_set]; exact h10l
      refine tcond (fun _ => ?_) (fun _ => ?_)
      · refine tbind (tidx h26.1.1 hlt) (fun _ _ => ?_)
        refine tbind (tidx h26.1.1 hlt) (fun _ _ => ?_)
        exact tlet (fun y hy => tsome ⟨g27, by subst hy; exact hset _ _⟩)
      · refine tcond (fun _ => ?_) (fun _ => ?_)
        · refine tbind (tidx h26.1.1 hlt) (fun _ _ => ?_)
          refine tbind (pick_tot hc g27 (by simp) (by simp)) (fun o37 h37 => ?_)
          refine tbind (tidx h26.1.1 hlt) (fun _ _ => ?_)
          exact tlet (fun y hy => tsome ⟨⟨hs0, h37.2.2⟩, by subst hy; exact hset _ _⟩)
        · refine tcond (fun _ => ?_) (fun _ => ?_)
          · refine tbind (pick_tot hc g27 (by simp) (by simp)) (fun o37 h37 => ?_)
            refine tbind (tidx h26.1.1 hlt) (fun _ _ => ?_)
            exact tlet (fun y hy => tsome ⟨⟨hs0, h37.2.2⟩, by subst hy; exact hset _ _⟩)
          · refine tcond (fun _ => ?_) (fun _ => tsome ⟨g27, h10l⟩)
            refine tbind (pick_tot hc g27 (by simp) (by simp)) (fun o37 h37 => ?_)
            rw [wrap64 (by omega) (by omega)]
            refine tbind (tidx (by omega) (by omega)) (fun _ _ => ?_)
            exact tlet (fun y hy => tsome ⟨⟨hs0, h37.2.2⟩, by subst hy; exact hset _ _⟩)
    · refine tbind (next_tot hc h25.1 (by omega)) (fun o53 h53 => ?_)
      refine tcond (fun _ => ?_) (fun _ => tsome ⟨by have := h25.2; show o25.2.2.length ≤ 1000; omega, hs0, h53.2.2⟩)
      refine tbind (pick_tot hc (s := ⟨s.code, o53.2.at_v, o53.2.seed⟩) ⟨hs0, h53.2.2⟩ (by simp) (by simp)) (fun o58 h58 => ?_)
      refine tbind (long14_tot o58.1 (by
        have := h58.1
        simp only [List.mem_cons, List.not_mem_nil, or_false] at this
        omega)) (fun o59 h59 => tsome ⟨h59, hs0, h58.2.2⟩)
theorem draw28_tot {c : List Int} (hc : Code c) {s : Src} (hs : Good c s) : Tot (spec_l28Draw s) (fun r => r.1.length ≤ 1001 ∧ Good c r.2) := by
  have hs0 := hs.1
  unfold spec_l28Draw
  refine tbind (draw14_tot hc hs) (fun o1 h1 => ?_)
  refine tbind (p := fun z : (List Firing) × Int × Int => z.1.length ≤ 1001 ∧ Good c ⟨s.code, z.2.1, z.2.2⟩) ?_ (fun o7 h7 => tsome h7)
  refine tbind (next_tot hc (s := ⟨s.code, o1.2.2.at_v, o1.2.2.seed⟩) ⟨hs0, h1.2.2⟩ (by omega)) (fun o8 h8 => ?_)
  have h1l := h1.1
  refine tcond (fun _ => ?_) (fun _ => tsome ⟨by show o1.2.1.length ≤ 1001; omega, hs0, h8.2.2⟩)
  refine tbind (tapp (by simp only [List.length_nil]; omega)) (fun z hz => ?_)
  refine tbind (pick_tot hc (s := ⟨s.code, o8.2.at_v, o8.2.seed⟩) ⟨hs0, h8.2.2⟩ (by simp) (by simp)) (fun o16 h16 => ?_)
  refine tbind (pick_tot hc (s := ⟨s.code, o16.2.at_v, o16.2.seed⟩) ⟨hs0, h16.2.2⟩ (by simp) (by simp)) (fun o19 h19 => ?_)
  subst hz
  refine tbind (app1 (by simp only [List.nil_append]; omega)) (fun z2 hz2 => tsome ⟨?_, hs0, h19.2.2⟩)
  subst hz2
  show ((([] : List Firing) ++ o1.2.1) ++ [_]).length ≤ 1001
  simp only [List.nil_append, List.length_append, List.length_cons, List.length_nil]
  omega
theorem drawTrace_tot {c : List Int} (hc : Code c) : Tot (spec_DrawTraceText c) (fun r => r.length ≤ 1001) := by
  unfold spec_DrawTraceText
  refine tbind (from_tot hc) (fun o1 h1 => ?_)
  refine tbind (draw28_tot hc (s := ⟨c, o1.at_v, o1.seed⟩) ⟨rfl, h1.2⟩) (fun o3 h3 => tsome h3.1)

/-! ## The die -/
theorem wrapU {x : Int} (h0 : 0 ≤ x) (h1 : x ≤ 18446744073709551615) : IntKind.u64.wrap x = x := by
  have hb : (2 : Int) ^ IntKind.u64.bits = 18446744073709551616 := by decide
  have hs : IntKind.u64.signed = false := rfl
  unfold IntKind.wrap
  simp only [hb, hs, Bool.false_and]
  simp
  omega
theorem roll_tot {c : List Int} (hl : c.length ≤ 140737488355328) (seed : Int) : Tot (laws_roll c seed) (fun d => d.b = c ∧ d.i = 0) := by
  unfold laws_roll
  refine tbind (tloop (fun q : Int × Int => 0 ≤ q.2 ∧ q.2 ≤ (c.length : Int)) (fun q => c.length - q.2.toNat) (fun _ => True) ?_ ⟨Int.le_refl 0, Int.natCast_nonneg _⟩) (fun o _ => tsome ⟨rfl, rfl⟩)
  intro q ⟨h0, h1⟩
  unfold laws_roll_L1
  refine tcond (fun hb => ?_) (fun _ => tsome trivial)
  simp only [decide_eq_true_eq] at hb
  refine tbind (tidx h0 hb) (fun x hx => tsome ?_)
  rw [wrap64 (x := q.2 + 1) (by omega) (by omega)]
  exact ⟨by show 0 ≤ q.2 + 1 ∧ q.2 + 1 ≤ _; omega, by show c.length - (q.2 + 1).toNat < c.length - q.2.toNat; omega⟩
theorem below_tot {c : List Int} (hc : Code c) {d : Dice} (hb : d.b = c) (hi : 0 ≤ d.i ∧ d.i ≤ (c.length : Int)) {n : Int} (hn : 1 ≤ n) : Tot (laws_dice_below d n) (fun r => (0 ≤ r.1 ∧ r.1 < n) ∧ r.2.b = c ∧ 0 ≤ r.2.i ∧ r.2.i ≤ (c.length : Int)) := by
  have hl := hc.2
  unfold laws_dice_below
  generalize BitVec.ofInt 64 (Int.fdiv (IntKind.u64.wrap ((IntKind.u64.wrap (d.h_v * 6364136223846793005)) + 1442695040888963407)) (2 ^ 33)) = X
  have hX : (X &&& BitVec.ofInt 64 16777215).toNat ≤ 16777215 := by
    rw [BitVec.toNat_and]
    exact Nat.and_le_right
  generalize (X &&& BitVec.ofInt 64 16777215).toNat = Y at hX
  refine tlet (fun y hy => ?_)
  rw [wrapU (by omega) (by omega), wrap64 (by omega) (by omega)] at hy
  subst hb
  refine tbind (p := fun q : Int × Int => 0 ≤ q.1 ∧ 0 ≤ q.2 ∧ q.2 ≤ (d.b.length : Int)) ?_ (fun q hq => ?_)
  · refine tcond (fun hb2 => ?_) (fun _ => tsome ⟨by show 0 ≤ y; omega, hi⟩)
    simp only [decide_eq_true_eq] at hb2
    refine tbind (tidx hi.1 hb2) (fun x hx => tsome ?_)
    have hx := hc.at hx
    rw [wrap64 (x := x) (by omega) (by omega), wrap64 (x := y + x) (by omega) (by omega), wrap64 (by omega) (by omega)]
    exact ⟨by show 0 ≤ y + x; omega, by show 0 ≤ d.i + 1; omega, by show d.i + 1 ≤ _; omega⟩
  · refine tbind (trem (by omega)) (fun r hr => tsome ?_)
    have := tmod_in (a := q.1) (n := n) hq.1 hn
    subst hr
    exact ⟨this, rfl, hq.2⟩
end Go.Proofs.YtneifoepoccjaaaGreatDoor
