/-
  The draws of graphs, runs and traces are there. No program in sight.
-/
import Derived.Test.YtneifoepoccjaaaGreatDoorQD
namespace Go.Proofs.YtneifoepoccjaaaGreatDoor

theorem app1 {α : Type} {b : Nat} {xs : List α} {y : α} (h : (xs.length + 1) * b ≤ 140737488355328) : Tot (appO b xs [y]) (fun r => r = xs ++ [y]) := tapp (by simpa using h)
def okGraph (g : EventGraph) : Prop := (1 ≤ g.Events ∧ g.Events ≤ 10) ∧ g.Places.length ≤ 30 ∧ ∀ p, p ∈ g.Places → spec_l11Place p g.Events = true
theorem isGraph_tot (g : EventGraph) (hl : g.Places.length ≤ 1048576) : Tot (spec_IsEventGraph g) (fun r => r = true → okGraph g) := by
  unfold spec_IsEventGraph
  refine tbind (tloop (fun i : Int => (0 ≤ i ∧ i ≤ (g.Places.length : Int)) ∧ ∀ j : Nat, (j : Int) < i → ∀ p, g.Places[j]? = some p → spec_l11Place p g.Events = true) (fun i => g.Places.length - i.toNat) (fun o => o = .inr () → ∀ p, p ∈ g.Places → spec_l11Place p g.Events = true) ?_ ⟨⟨Int.le_refl 0, Int.natCast_nonneg _⟩, fun j hj => absurd hj (by omega)⟩) (fun o ho => ?_)
  · intro i ⟨⟨h0, h1⟩, h2⟩
    unfold spec_IsEventGraph_L1
    refine tcond (fun hb => ?_) (fun hb => tsome fun _ p hp => ?_)
    · simp only [decide_eq_true_eq] at hb
      refine tbind (tidx h0 hb) (fun x hx => ?_)
      refine tcond (fun _ => tsome fun h => (by cases h)) (fun hb2 => tsome ?_)
      rw [wrap64 (by omega) (by omega)]
      refine ⟨⟨by omega, fun j hj p hp => ?_⟩, by omega⟩
      by_cases hji : (j : Int) < i
      · exact h2 j hji p hp
      · have : j = i.toNat := by omega
        subst this
        rw [hx] at hp
        cases hp
        simpa using hb2
    · simp only [decide_eq_false_iff_not] at hb
      obtain ⟨j, hj⟩ := List.mem_iff_getElem?.1 hp
      have := (List.getElem?_eq_some_iff.1 hj).1
      exact h2 j (by omega) p hj
  · cases o with
    | inl _ => exact tsome fun h => (by cases h)
    | inr _ =>
      refine tsome fun h => ?_
      unfold spec_l01In at h
      simp only [Bool.and_eq_true, decide_eq_true_eq, ge_iff_le] at h
      exact ⟨h.1, by omega, ho rfl⟩

theorem draw11_tot {c : List Int} (hc : Code c) {s : Src} (hs : Good c s) : Tot (spec_l11Draw s) (fun r => r.1.Places.length ≤ 1000 ∧ Good c r.2) := by
  have hs0 := hs.1
  unfold spec_l11Draw
  refine tbind (next_tot hc hs (by omega)) (fun o2 h2 => ?_)
  refine tbind (next_tot hc (s := ⟨s.code, o2.2.at_v, o2.2.seed⟩) ⟨hs0, h2.2.2⟩ (by omega)) (fun o6 h6 => ?_)
  have e2 : IntKind.i64.wrap (1 + o2.1) = 1 + o2.1 := wrap64 (by omega) (by omega)
  refine tbind (tloop (fun q : Int × Int × (List Place) × Int => Good c ⟨s.code, q.1, q.2.1⟩ ∧ (q.2.2.2 ≤ 9 ∧ q.2.2.1.length + q.2.2.2.toNat ≤ 9)) (fun q => q.2.2.2.toNat) (fun r => Good c ⟨s.code, r.1, r.2.1⟩ ∧ r.2.2.length ≤ 9) ?_ ⟨⟨hs0, h6.2.2⟩, by have := h6.1; show o6.1 ≤ 9; omega, by have := h6.1; show 0 + o6.1.toNat ≤ 9; omega⟩) (fun o7 h7 => ?_)
  · intro q ⟨hg, hn, hl⟩
    unfold spec_l11Draw_L1
    rw [e2]
    refine tcond (fun hb => ?_) (fun _ => tsome ⟨hg, by show q.2.2.1.length ≤ 9; omega⟩)
    simp only [decide_eq_true_eq] at hb
    refine tbind (next_tot hc hg (by omega)) (fun o10 h10 => ?_)
    refine tbind (next_tot hc (s := ⟨s.code, o10.2.at_v, o10.2.seed⟩) ⟨hs0, h10.2.2⟩ (by omega)) (fun o11 h11 => ?_)
    refine tbind (next_tot hc (s := ⟨s.code, o11.2.at_v, o11.2.seed⟩) ⟨hs0, h11.2.2⟩ (by omega)) (fun o12 h12 => ?_)
    refine tbind (p := fun z : Int × Int × Int => Good c ⟨s.code, z.1, z.2.1⟩) ?_ (fun o14 h14 => ?_)
    · refine tbind (p := fun z : Int × Int × Bool => Good c ⟨s.code, z.1, z.2.1⟩) ?_ (fun q15 h15 => ?_)
      · refine tcond (fun _ => tsome ⟨hs0, h12.2.2⟩) (fun _ => ?_)
        refine tbind (next_tot hc (s := ⟨s.code, o12.2.at_v, o12.2.seed⟩) ⟨hs0, h12.2.2⟩ (by omega)) (fun o16 h16 => tsome ⟨hs0, h16.2.2⟩)
      · refine tcond (fun _ => ?_) (fun _ => tsome h15)
        refine tbind (next_tot hc h15 (by omega)) (fun o17 h17 => ?_)
        refine tbind (next_tot hc (s := ⟨s.code, o17.2.at_v, o17.2.seed⟩) ⟨hs0, h17.2.2⟩ (by omega)) (fun o18 h18 => tsome ⟨hs0, h18.2.2⟩)
    · refine tbind (p := fun z : Int × Int × Int => Good c ⟨s.code, z.1, z.2.1⟩) ?_ (fun o19 h19 => ?_)
      · refine tbind (next_tot hc h14 (by omega)) (fun o20 h20 => ?_)
        exact tcond (fun _ => tsome ⟨hs0, h20.2.2⟩) (fun _ => tsome ⟨hs0, h20.2.2⟩)
      · refine tbind (app1 (by omega)) (fun z hz => ?_)
        refine tlet (fun y hy => tsome ?_)
        rw [wrap64 (by omega) (by omega)] at hy
        subst hy hz
        refine ⟨⟨h19, by show q.2.2.2 - 1 ≤ 9; omega, ?_⟩, by show (q.2.2.2 - 1).toNat < q.2.2.2.toNat; omega⟩
        show (q.2.2.1 ++ [_]).length + (q.2.2.2 - 1).toNat ≤ 9
        rw [List.length_append]
        simp only [List.length_cons, List.length_nil]
        omega
  · refine tbind (p := fun z : Int × (List Place) × Int × Int => z.2.1.length ≤ 1000 ∧ Good c ⟨s.code, z.2.2.1, z.2.2.2⟩) ?_ (fun o27 h27 => tsome h27)
    refine tbind (next_tot hc h7.1 (by omega)) (fun o28 h28 => ?_)
    have g28 : Good c ⟨s.code, o28.2.at_v, o28.2.seed⟩ := ⟨hs0, h28.2.2⟩
    have h7l := h7.2
    refine tcond (fun _ => ?_) (fun _ => ?_)
    · refine tbind (pick_tot hc g28 (by simp) (by simp)) (fun o31 h31 => tsome ⟨by show o7.2.2.length ≤ 1000; omega, hs0, h31.2.2⟩)
    · refine tcond (fun _ => ?_) (fun _ => ?_)
      · refine tbind (pick_tot hc g28 (by simp) (by simp)) (fun o34 h34 => ?_)
        refine tbind (pick_tot hc (s := ⟨s.code, o34.2.at_v, o34.2.seed⟩) ⟨hs0, h34.2.2⟩ (by simp) (by simp)) (fun o37 h37 => ?_)
        refine tbind (app1 (by omega)) (fun z hz => tsome ⟨?_, hs0, h37.2.2⟩)
        subst hz
        show (o7.2.2 ++ [_]).length ≤ 1000
        simp only [List.length_append, List.length_cons, List.length_nil]
        omega
      · refine tcond (fun _ => ?_) (fun _ => ?_)
        · refine tbind (pick_tot hc g28 (by simp) (by simp)) (fun o45 h45 => ?_)
          refine tbind (app1 (by omega)) (fun z hz => tsome ⟨?_, hs0, h45.2.2⟩)
          subst hz
          show (o7.2.2 ++ [_]).length ≤ 1000
          simp only [List.length_append, List.length_cons, List.length_nil]
          omega
        · refine tcond (fun _ => ?_) (fun _ => tsome ⟨by show o7.2.2.length ≤ 1000; omega, g28⟩)
          refine tbind (tloop (fun q : Int × Int × (List Place) × Int => Good c ⟨s.code, q.1, q.2.1⟩ ∧ (0 ≤ q.2.2.2 ∧ q.2.2.2 ≤ 31) ∧ q.2.2.1.length ≤ 9 + q.2.2.2.toNat) (fun q => 31 - q.2.2.2.toNat) (fun r => r.1.length ≤ 1000 ∧ Good c ⟨s.code, r.2.1, r.2.2⟩) ?_ ⟨g28, ⟨Int.le_refl 0, by show (0 : Int) ≤ 31; omega⟩, by show o7.2.2.length ≤ 9 + 0; omega⟩) (fun o51 h51 => tsome h51)
          intro q ⟨hg, hk, hl⟩
          unfold spec_l11Draw_L2
          refine tbind (next_tot hc hg (by omega)) (fun o54 h54 => ?_)
          have h54b := h54.1
          rw [wrap64 (x := 22 + o54.1) (by omega) (by omega)]
          refine tcond (fun hb => ?_) (fun _ => tsome ⟨by show q.2.2.1.length ≤ 1000; omega, hs0, h54.2.2⟩)
          simp only [decide_eq_true_eq] at hb
          refine tbind (app1 (by omega)) (fun z hz => ?_)
          refine tlet (fun y hy => tsome ?_)
          rw [wrap64 (by omega) (by omega)] at hy
          subst hy hz
          refine ⟨⟨⟨hs0, h54.2.2⟩, by show 0 ≤ q.2.2.2 + 1 ∧ q.2.2.2 + 1 ≤ 31; omega, ?_⟩, by show 31 - (q.2.2.2 + 1).toNat < 31 - q.2.2.2.toNat; omega⟩
          show (q.2.2.1 ++ [_]).length ≤ 9 + (q.2.2.2 + 1).toNat
          simp only [List.length_append, List.length_cons, List.length_nil]
          omega

theorem count14_tot (run : List Firing) (e : Int) (h : run.length ≤ 1048576) : Tot (spec_l14Count run e) (fun r => 0 ≤ r ∧ r ≤ (run.length : Int)) := by
  unfold spec_l14Count
  refine tbind (tloop (fun q : Int × Int => (0 ≤ q.2 ∧ q.2 ≤ (run.length : Int)) ∧ 0 ≤ q.1 ∧ q.1 ≤ q.2) (fun q => run.length - q.2.toNat) (fun r => 0 ≤ r ∧ r ≤ (run.length : Int)) ?_ ⟨⟨Int.le_refl 0, Int.natCast_nonneg _⟩, Int.le_refl 0, Int.le_refl 0⟩) (fun r hr => tsome hr)
  intro q ⟨⟨h0, h1⟩, h2, h3⟩
  unfold spec_l14Count_L1
  refine tcond (fun hb => ?_) (fun _ => tsome ⟨h2, by omega⟩)
  simp only [decide_eq_true_eq] at hb
  refine tbind (p := fun z : Int => 0 ≤ z ∧ z ≤ q.2 + 1) ?_ (fun z hz => tsome ?_)
  · refine tbind (tidx h0 hb) (fun x hx => ?_)
    refine tcond (fun _ => tsome ?_) (fun _ => tsome ?_)
    · rw [wrap64 (by omega) (by omega)]; omega
    · omega
  · rw [wrap64 (by omega) (by omega)]
    exact ⟨⟨by show 0 ≤ q.2 + 1 ∧ q.2 + 1 ≤ _; omega, hz⟩, by show run.length - (q.2 + 1).toNat < run.length - q.2.toNat; omega⟩
theorem find14_tot (run : List Firing) (e k : Int) (h : run.length ≤ 1048576) : Tot (spec_l14Find run e k) (fun _ => True) := by
  unfold spec_l14Find
  refine tbind (tloop (fun i : Int => 0 ≤ i ∧ i ≤ (run.length : Int)) (fun i => run.length - i.toNat) (fun _ => True) ?_ ⟨Int.le_refl 0, Int.natCast_nonneg _⟩) (fun o _ => by cases o <;> exact tsome trivial)
  intro i ⟨h0, h1⟩
  unfold spec_l14Find_L1
  refine tcond (fun hb => ?_) (fun _ => tsome trivial)
  simp only [decide_eq_true_eq] at hb
  refine tbind (tidx h0 hb) (fun x hx => ?_)
  refine tbind (p := fun _ : Bool => True) ?_ (fun q _ => ?_)
  · refine tcond (fun _ => ?_) (fun _ => tsome trivial)
    exact tbind (tidx h0 hb) (fun _ _ => tsome trivial)
  · refine tcond (fun _ => ?_) (fun _ => tsome ?_)
    · exact tbind (tidx h0 hb) (fun _ _ => tsome trivial)
    · rw [wrap64 (by omega) (by omega)]
      exact ⟨by show 0 ≤ i + 1 ∧ i + 1 ≤ _; omega, by show run.length - (i + 1).toNat < run.length - i.toNat; omega⟩
theorem ready14_tot (g : EventGraph) (run : List Firing) (e : Int) (h : run.length ≤ 1048576) (hl : g.Places.length ≤ 1048576) : Tot (spec_l14Ready g run e) (fun _ => True) := by
  unfold spec_l14Ready
  refine tbind (count14_tot run e h) (fun o2 h2 => ?_)
  refine tbind (tloop (fun q : Int × Int => 0 ≤ q.2 ∧ q.2 ≤ (g.Places.length : Int)) (fun q => g.Places.length - q.2.toNat) (fun _ => True) ?_ ⟨Int.le_refl 0, Int.natCast_nonneg _⟩) (fun o _ => by cases o <;> exact tsome trivial)
  intro q ⟨h0, h1⟩
  unfold spec_l14Ready_L1
  refine tcond (fun hb => ?_) (fun _ => tsome trivial)
  simp only [decide_eq_true_eq] at hb
  refine tbind (p := fun _ : Sum Int Unit => True) ?_ (fun o6 _ => ?_)
  · refine tbind (tidx h0 hb) (fun x hx => ?_)
    refine tcond (fun _ => tsome trivial) (fun _ => ?_)
    refine tbind (find14_tot run _ _ h) (fun o10 _ => ?_)
    refine tcond (fun _ => tsome trivial) (fun _ => ?_)
    exact tlet (fun _ _ => tsome trivial)
  · cases o6 with
    | inl x =>
      refine tsome ?_
      rw [wrap64 (by omega) (by omega)]
      exact ⟨by show 0 ≤ q.2 + 1 ∧ q.2 + 1 ≤ _; omega, by show g.Places.length - (q.2 + 1).toNat < g.Places.length - q.2.toNat; omega⟩
    | inr x => exact tsome trivial
theorem long14_tot (n : Int) (h : n ≤ 1000) : Tot (spec_l14Long n) (fun r => r.length ≤ 1000) := by
  unfold spec_l14Long
  refine tbind (tloop (fun q : List Firing × Int => (1 ≤ q.2 ∧ q.2 ≤ 1001) ∧ (q.1.length : Int) = q.2 - 1) (fun q => 1001 - q.2.toNat) (fun r => r.length ≤ 1000) ?_ ⟨⟨Int.le_refl 1, by show (1 : Int) ≤ 1001; omega⟩, rfl⟩) (fun r hr => tsome hr)
  intro q ⟨⟨h0, h1⟩, h2⟩
  unfold spec_l14Long_L1
  refine tcond (fun hb => ?_) (fun _ => tsome (by show q.1.length ≤ 1000; omega))
  simp only [decide_eq_true_eq] at hb
  refine tbind (app1 (by omega)) (fun z hz => tsome ?_)
  subst hz
  rw [wrap64 (by omega) (by omega)]
  refine ⟨⟨by show 1 ≤ q.2 + 1 ∧ q.2 + 1 ≤ 1001; omega, ?_⟩, by show 1001 - (q.2 + 1).toNat < 1001 - q.2.toNat; omega⟩
  show ((q.1 ++ [_]).length : Int) = q.2 + 1 - 1
  simp only [List.length_append, List.length_cons, List.length_nil]
  omega
end Go.Proofs.YtneifoepoccjaaaGreatDoor
