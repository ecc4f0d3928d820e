/-
  The draws are there: what is drawn from a code is in its bounds. No program in sight.
-/
import Derived.Test.YtneifoepoccjaaaGreatDoorP2
import Derived.Test.YtneifoepoccjaaaGreatDoorQT
namespace Go.Proofs.YtneifoepoccjaaaGreatDoor

/-- A row of bytes. -/
def Code (c : List Int) : Prop := (∀ x, x ∈ c → 0 ≤ x ∧ x ≤ 255) ∧ c.length ≤ 140737488355328
theorem Code.at {c : List Int} (h : Code c) {i : Nat} {x : Int} (hx : c[i]? = some x) : 0 ≤ x ∧ x ≤ 255 := h.1 x (List.mem_of_getElem? hx)
/-- A source in its bounds. -/
def Good (c : List Int) (s : Src) : Prop := s.code = c ∧ 0 ≤ s.at_v ∧ s.at_v ≤ (c.length : Int) ∧ 0 ≤ s.seed ∧ s.seed ≤ 2147483646

theorem from_tot {c : List Int} (hc : Code c) : Tot (spec_l01From c) (Good c) := by
  have hl := hc.2
  unfold spec_l01From
  refine tbind (tloop (fun s : Int × Int => 0 ≤ s.1 ∧ s.1 ≤ 2147483646 ∧ 0 ≤ s.2 ∧ s.2 ≤ (c.length : Int)) (fun s => (c.length - s.2.toNat)) (fun r => 0 ≤ r ∧ r ≤ 2147483646) ?_ ⟨by decide, by decide, by decide, by simp⟩) (fun r hr => tsome ⟨rfl, Int.le_refl 0, Int.natCast_nonneg _, hr.1, hr.2⟩)
  intro s ⟨h0, h1, h2, h3⟩
  unfold spec_l01From_L1
  refine tcond (fun hb => ?_) (fun _ => tsome ⟨h0, h1⟩)
  simp only [Bool.and_eq_true, decide_eq_true_eq] at hb
  refine tbind (tidx h2 hb.1) (fun x hx => tsome ?_)
  have hx := hc.at hx
  rw [wrap64 (x := s.1 * 67) (by omega) (by omega), wrap64 (x := x) (by omega) (by omega), wrap64 (by omega) (by omega), wrap64 (by omega) (by omega)]
  have := tmod_in (a := s.1 * 67 + x) (n := 2147483647) (by omega) (by omega)
  exact ⟨⟨this.1, by show Int.tmod _ _ ≤ _; omega, by show 0 ≤ s.2 + 1; omega, by show s.2 + 1 ≤ _; omega⟩, by show c.length - (s.2 + 1).toNat < c.length - s.2.toNat; omega⟩

theorem next_tot {c : List Int} (hc : Code c) {s : Src} (hs : Good c s) {n : Int} (hn : n ≤ 140737488355328) : Tot (spec_l01Next s n) (fun r => (0 ≤ r.1 ∧ (r.1 < n ∨ r.1 = 0)) ∧ Good c r.2) := by
  obtain ⟨rfl, h1, h2, h3, h4⟩ := hs
  have hl := hc.2
  unfold spec_l01Next
  refine tcond (fun _ => tsome ⟨⟨by simp, Or.inr rfl⟩, rfl, h1, h2, h3, h4⟩) (fun hb => ?_)
  simp only [decide_eq_false_iff_not] at hb
  have e1 : IntKind.i64.wrap (s.seed * 48271) = s.seed * 48271 := wrap64 (by omega) (by omega)
  have e2 : IntKind.i64.wrap (s.seed * 48271 + 59) = s.seed * 48271 + 59 := wrap64 (by omega) (by omega)
  rw [e1, e2]
  have hm := tmod_in (a := s.seed * 48271 + 59) (n := 2147483647) (by omega) (by omega)
  generalize Int.tmod (s.seed * 48271 + 59) 2147483647 = m at hm
  have hd : 0 ≤ Int.tdiv m 31 ∧ Int.tdiv m 31 ≤ m := ⟨Int.tdiv_nonneg hm.1 (by omega), by
    rw [Int.tdiv_eq_ediv_of_nonneg hm.1]; exact Int.ediv_le_self _ hm.1⟩
  refine tlet (fun y hy => ?_)
  rw [wrap64 (by omega) (by omega)] at hy
  refine tbind (p := fun q : Int × Int => 0 ≤ q.1 ∧ 0 ≤ q.2 ∧ q.2 ≤ (s.code.length : Int)) ?_ (fun q hq => ?_)
  · refine tcond (fun hb2 => ?_) (fun _ => tsome ⟨by subst hy; exact hd.1, h1, h2⟩)
    simp only [decide_eq_true_eq] at hb2
    refine tbind (tidx h1 hb2) (fun x hx => ?_)
    have hx := hc.at hx
    have e3 : IntKind.i64.wrap (s.at_v + 1) = s.at_v + 1 := wrap64 (by omega) (by omega)
    rw [e3]
    refine tcond (fun _ => ?_) (fun _ => tsome ?_)
    · have e4 : IntKind.i64.wrap (s.at_v + 1 - 1) = s.at_v := by rw [wrap64 (by omega) (by omega)]; omega
      rw [e4]
      refine tbind (tidx h1 hb2) (fun z hz => tsome ?_)
      have hz := hc.at hz
      rw [wrap64 (by omega) (by omega)]
      exact ⟨hz.1, by show 0 ≤ s.at_v + 1; omega, by show s.at_v + 1 ≤ _; omega⟩
    · rw [wrap64 (x := x) (by omega) (by omega), wrap64 (by omega) (by omega)]
      exact ⟨by show 0 ≤ y + x; omega, by show 0 ≤ s.at_v + 1; omega, by show s.at_v + 1 ≤ _; omega⟩
  · refine tbind (trem (by omega)) (fun r hr => tsome ?_)
    have := tmod_in (a := q.1) (n := n) hq.1 (by omega)
    subst hr
    exact ⟨⟨this.1, Or.inl this.2⟩, rfl, hq.2.1, hq.2.2, hm.1, by show m ≤ _; omega⟩

theorem pick_tot {c : List Int} (hc : Code c) {s : Src} (hs : Good c s) {l : List Int} (h1 : 1 ≤ l.length) (h2 : l.length ≤ 1000) : Tot (spec_l01Pick s l) (fun r => r.1 ∈ l ∧ Good c r.2) := by
  unfold spec_l01Pick
  refine tbind (next_tot hc hs (by omega)) (fun o ho => ?_)
  refine tbind (tidx ho.1.1 (by have := ho.1.2; omega)) (fun x hx => tsome ?_)
  exact ⟨List.mem_of_getElem? hx, hs.1, ho.2.2⟩
end Go.Proofs.YtneifoepoccjaaaGreatDoor
