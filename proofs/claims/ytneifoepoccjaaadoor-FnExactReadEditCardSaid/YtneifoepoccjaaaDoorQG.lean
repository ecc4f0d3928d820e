/-
  The readers of places and edits, in plain Lean: what each reads. No program in sight.
-/
import Derived.Test.YtneifoepoccjaaaDoorQE
namespace Go.Proofs.YtneifoepoccjaaaDoor

theorem small_ok {p : Place} (h : okP p) : small p.From ∧ small p.To ∧ small p.Delay ∧ small p.Tokens := by
  unfold okP at h
  unfold small
  omega
theorem i64_ok {p : Place} (h : okP p) : isI64 p.From ∧ isI64 p.To ∧ isI64 p.Delay ∧ isI64 p.Tokens := by
  unfold okP at h
  unfold isI64
  omega
theorem cut62 (z : Int) (v : List UInt8) : cutS 62 (Lib.itoa z ++ 62 :: v) = Lib.itoa z :: cutS 62 v := cutS_app (itoa_no (Or.inr (by decide)) (by decide) z)
theorem no_place {b : UInt8} (hb : b.toNat < 42) (p : Place) : b ∉ placeT p := by
  have h (z : Int) : b ∉ Lib.itoa z := itoa_no (Or.inl (by omega)) (fun e => by subst e; revert hb; decide) z
  have h1 : b ≠ 62 := fun e => by subst e; revert hb; decide
  have h2 : b ≠ 58 := fun e => by subst e; revert hb; decide
  have h3 : b ≠ 42 := fun e => by subst e; revert hb; decide
  unfold placeT
  simp [h, h1, h2, h3]

theorem l11Read_tot (x : List UInt8) (hx : x.length ≤ 1048576) : Tot (spec_l11Read x) (fun r => (r.2 = true → x = placeT r.1) ∧ ∀ p, okP p → x = placeT p → r = (p, true)) := by
  unfold spec_l11Read
  have hsp : spec_l01Split x 62 = some (cutS 62 x) := l01Split_eq x 62 (by omega)
  have hpx := cutS_pieces (b := 62) x.length x (Nat.le_refl _)
  rw [hsp]
  simp only [Option.bind_some]
  refine tcond (fun hb => tsome ⟨fun h => (by cases h), fun p hp e => ?_⟩) (fun hb => ?_)
  · exfalso
    have : (cutS 62 x).length = 2 := by
      rw [e]; unfold placeT
      rw [cut62, cutS_none (u := Lib.itoa p.To ++ 58 :: (Lib.itoa p.Delay ++ 42 :: Lib.itoa p.Tokens))]
      · rfl
      · have h (z : Int) : (62 : UInt8) ∉ Lib.itoa z := itoa_no (Or.inr (by decide)) (by decide) z
        simp [h]
    rw [this] at hb
    exact absurd hb (by decide)
  · have hl : (cutS 62 x).length = 2 := by
      have : ¬ ((cutS 62 x).length : Int) ≠ 2 := by simpa using hb
      omega
    obtain ⟨a, y, hay⟩ := len_two hl
    have hxe := cut_two hay
    have hya := (hpx a (by rw [hay]; simp)).2
    have hyl := (hpx y (by rw [hay]; simp)).2
    rw [hay]
    refine tbind (p := fun r => r = y) ⟨y, rfl, rfl⟩ (fun y' hy' => ?_)
    subst hy'
    have hsp2 : spec_l01Split y' 58 = some (cutS 58 y') := l01Split_eq y' 58 (by omega)
    have hpy := cutS_pieces (b := 58) y'.length y' (Nat.le_refl _)
    rw [hsp2]
    simp only [Option.bind_some]
    refine tcond (fun hb => tsome ⟨fun h => (by cases h), fun p hp e => ?_⟩) (fun hb => ?_)
    · exfalso
      have e2 : y' = Lib.itoa p.To ++ 58 :: (Lib.itoa p.Delay ++ 42 :: Lib.itoa p.Tokens) := by
        have := congrArg (cutS 62) e
        rw [hay] at this
        unfold placeT at this
        rw [cut62, cutS_none (u := Lib.itoa p.To ++ 58 :: (Lib.itoa p.Delay ++ 42 :: Lib.itoa p.Tokens))] at this
        · simpa using (List.cons.inj this).2
        · have h (z : Int) : (62 : UInt8) ∉ Lib.itoa z := itoa_no (Or.inr (by decide)) (by decide) z
          simp [h]
      have h (z : Int) : (58 : UInt8) ∉ Lib.itoa z := itoa_no (Or.inr (by decide)) (by decide) z
      have : (cutS 58 y').length = 2 := by
        rw [e2, cutS_app (h _), cutS_none (by simp [h])]
        rfl
      rw [this] at hb
      exact absurd hb (by decide)
    · have hl2 : (cutS 58 y').length = 2 := by
        have : ¬ ((cutS 58 y').length : Int) ≠ 2 := by simpa using hb
        omega
      obtain ⟨b, z, hbz⟩ := len_two hl2
      have hye := cut_two hbz
      have hlb := (hpy b (by rw [hbz]; simp)).2
      have hlz := (hpy z (by rw [hbz]; simp)).2
      rw [hbz]
      refine tbind (p := fun r => r = a) ⟨a, rfl, rfl⟩ (fun a' ha' => ?_)
      refine tbind (p := fun r => r = b) ⟨b, rfl, rfl⟩ (fun b' hb' => ?_)
      refine tbind (p := fun r => r = z) ⟨z, rfl, rfl⟩ (fun z' hz' => ?_)
      subst ha' hb' hz'
      have hsp3 : spec_l01Split z' 42 = some (cutS 42 z') := l01Split_eq z' 42 (by omega)
      have hpz := cutS_pieces (b := 42) z'.length z' (Nat.le_refl _)
      have hcz := cutS_length 42 z'
      have hcc : z'.count 42 ≤ z'.length := List.count_le_length
      rw [hsp3]
      simp only [Option.bind_some]
      rw [appO_eq (by simp only [List.length_cons, List.length_nil]; omega)]
      simp only [Option.bind_some]
      obtain ⟨ns, ok, g1, g2, g3⟩ := l01Numbers_spec ([a', b'] ++ cutS 42 z') (by simp only [List.length_append, List.length_cons, List.length_nil]; omega) (fun w hw => by
        rcases List.mem_append.1 hw with hw | hw
        · rcases List.mem_cons.1 hw with rfl | hw
          · omega
          · have : w = b' := by simpa using hw
            subst this; omega
        · have := (hpz w hw).2; omega)
      rw [g1]
      simp only [Option.bind_some]
      have hno (q : Int) : (42 : UInt8) ∉ Lib.itoa q := itoa_no (Or.inl (by decide)) (by decide) q
      have h58 (q : Int) : (58 : UInt8) ∉ Lib.itoa q := itoa_no (Or.inr (by decide)) (by decide) q
      have h62 (q : Int) : (62 : UInt8) ∉ Lib.itoa q := itoa_no (Or.inr (by decide)) (by decide) q
      have key : ∀ p : Place, x = placeT p → a' = Lib.itoa p.From ∧ b' = Lib.itoa p.To ∧ cutS 42 z' = [Lib.itoa p.Delay, Lib.itoa p.Tokens] := by
        intro p e
        have e1 := congrArg (cutS 62) e
        rw [hay] at e1
        unfold placeT at e1
        rw [cut62, cutS_none (u := Lib.itoa p.To ++ 58 :: (Lib.itoa p.Delay ++ 42 :: Lib.itoa p.Tokens)) (by simp [h62])] at e1
        obtain ⟨e2, e3⟩ := List.cons.inj e1
        have e4 : y' = Lib.itoa p.To ++ 58 :: (Lib.itoa p.Delay ++ 42 :: Lib.itoa p.Tokens) := by simpa using e3
        have e5 := congrArg (cutS 58) e4
        rw [hbz, cutS_app (h58 _), cutS_none (by simp [h58])] at e5
        obtain ⟨e6, e7⟩ := List.cons.inj e5
        have e8 : z' = Lib.itoa p.Delay ++ 42 :: Lib.itoa p.Tokens := by simpa using e7
        exact ⟨e2, e6, by rw [e8, cutS_app (hno _), cutS_none (hno _)]⟩
      refine tcond (fun hb => tsome ⟨fun h => (by cases h), fun p hp e => ?_⟩) (fun hb => ?_)
      · exfalso
        obtain ⟨k1, k2, k3⟩ := key p e
        obtain ⟨s1, s2, s3, s4⟩ := small_ok hp
        cases ok with
        | false =>
          obtain ⟨w, hw, hn⟩ := g3 rfl
          rw [k3, k1, k2] at hw
          simp only [List.cons_append, List.nil_append, List.mem_cons, List.not_mem_nil, or_false] at hw
          rcases hw with rfl | rfl | rfl | rfl
          · exact hn _ s1 rfl
          · exact hn _ s2 rfl
          · exact hn _ s3 rfl
          · exact hn _ s4 rfl
        | true =>
          have hlen := (g2 rfl).1
          rw [k3] at hlen
          simp only [List.length_append, List.length_cons, List.length_nil] at hlen
          rw [hlen] at hb
          exact absurd hb (by decide)
      · have hb2 : ok = true ∧ ns.length = 4 := by
          rw [Bool.or_eq_false_iff] at hb
          have h1 : ok = true := by simpa using hb.1
          have h2 : ¬ ((ns.length : Int) ≠ 4) := by simpa using hb.2
          exact ⟨h1, by omega⟩
        obtain ⟨rfl, h4⟩ := hb2
        obtain ⟨hlen, hall⟩ := g2 rfl
        obtain ⟨m0, m1, m2, m3, rfl⟩ : ∃ m0 m1 m2 m3, ns = [m0, m1, m2, m3] := by
          match ns, h4 with
          | [m0, m1, m2, m3], _ => exact ⟨m0, m1, m2, m3, rfl⟩
        have hl42 : (cutS 42 z').length = 2 := by
          simp only [List.length_append, List.length_cons, List.length_nil] at hlen; omega
        obtain ⟨u, v, huv⟩ := len_two hl42
        have hze := cut_two huv
        rw [huv] at hall
        have q0 := hall 0 a' m0 rfl rfl
        have q1 := hall 1 b' m1 rfl rfl
        have q2 := hall 2 u m2 rfl rfl
        have q3 := hall 3 v m3 rfl rfl
        refine tbind (p := fun r => r = m0) ⟨m0, rfl, rfl⟩ (fun r0 hr0 => ?_)
        refine tbind (p := fun r => r = m1) ⟨m1, rfl, rfl⟩ (fun r1 hr1 => ?_)
        refine tbind (p := fun r => r = m2) ⟨m2, rfl, rfl⟩ (fun r2 hr2 => ?_)
        refine tbind (p := fun r => r = m3) ⟨m3, rfl, rfl⟩ (fun r3 hr3 => ?_)
        subst hr0 hr1 hr2 hr3
        refine tsome ⟨fun _ => ?_, fun p hp e => ?_⟩
        · show x = placeT ⟨r0, r1, r2, r3⟩
          unfold placeT
          rw [hxe, hye, hze, q0.2, q1.2, q2.2, q3.2]
        · obtain ⟨k1, k2, k3⟩ := key p e
          rw [huv] at k3
          obtain ⟨k3, k4⟩ := List.cons.inj k3
          have k4 : v = Lib.itoa p.Tokens := by simpa using k4
          obtain ⟨s1, s2, s3, s4⟩ := small_ok hp
          have inj {y z : Int} (hy : small y) (hz : small z) (h : Lib.itoa y = Lib.itoa z) : y = z := by
            unfold small at hy hz
            exact itoa_inj (by omega) (by omega) (by omega) (by omega) h
          have j0 := inj q0.1 s1 (q0.2.symm.trans k1)
          have j1 := inj q1.1 s2 (q1.2.symm.trans k2)
          have j2 := inj q2.1 s3 (q2.2.symm.trans k3)
          have j3 := inj q3.1 s4 (q3.2.symm.trans k4)
          subst j0 j1 j2 j3
          rfl
end Go.Proofs.YtneifoepoccjaaaDoor
