/-
  The law of ReadEdit in plain Lean. No program in sight.
-/
import Derived.Test.YtneifoepoccjaaaDoorQG
namespace Go.Proofs.YtneifoepoccjaaaDoor

/-! ## The reference -/
def kindB (b : UInt8) : Int := bif [b] == [61] then 3 else bif [b] == [45] then 2 else bif [b] == [43] then 1 else 0
theorem sub_head (b : UInt8) (t : List UInt8) : subO (b :: t) 0 1 = some [b] := by
  have := subO_eq (xs := b :: t) (i := 0) (j := 1) (by omega) (by simp)
  simpa using this
theorem sub_tail (b : UInt8) (t : List UInt8) : subO (b :: t) 1 (List.length (b :: t) : Int) = some t := by
  have := subO_eq (xs := b :: t) (i := 1) (j := (b :: t).length) (by simp) (by simp)
  rw [show ((1 : Nat) : Int) = 1 from rfl] at this
  rw [this]
  simp
theorem kind_step (b : UInt8) (t : List UInt8) (x k k2 : Int) (h0 : 1 ≤ k) (h1 : k ≤ 3) (h2 : k2 = k + 1) : spec_ReadEdit_L1 (b :: t) (x, k) = some (.inl ((bif [b] == [sign k] then k else x), k2)) := by
  unfold spec_ReadEdit_L1
  simp only
  rw [decide_eq_true (by omega : k ≤ 3), cond_true, sub_head, sign_eq h0 h1, wrap64 (by omega) (by omega), h2]
  simp only [Option.bind_some]
  cases ([b] == [sign k]) <;> rfl
theorem kind_loop (b : UInt8) (t : List UInt8) : loopM (spec_ReadEdit_L1 (b :: t)) (0, 1) = some (kindB b) := by
  rw [loopM_next (kind_step b t 0 1 2 (by decide) (by decide) rfl), loopM_next (kind_step b t _ 2 3 (by decide) (by decide) rfl), loopM_next (kind_step b t _ 3 4 (by decide) (by decide) rfl)]
  refine loopM_done ?_
  unfold spec_ReadEdit_L1
  rfl
theorem kind_sign {k : Int} (h0 : 1 ≤ k) (h1 : k ≤ 3) : kindB (sign k) = k := by
  have : k = 1 ∨ k = 2 ∨ k = 3 := by omega
  rcases this with rfl | rfl | rfl <;> rfl
theorem tail_words {e : Edit} : cutS 32 (tailT e) = if e.Kind = 2 then [Lib.itoa e.Index] else [Lib.itoa e.Index, placeT e.Place] := by
  have h : (32 : UInt8) ∉ Lib.itoa e.Index := itoa_no (Or.inl (by decide)) (by decide) _
  unfold tailT
  by_cases hk : e.Kind = 2
  · rw [if_pos hk, if_pos hk, cutS_none h]
  · rw [if_neg hk, if_neg hk, cutS_app h, cutS_none (no_place (by decide) _)]
def RE (s : List UInt8) (r : Edit × Bool) : Prop := ((r.2 = true → okE r.1 ∧ s = textE r.1) ∧ (r.2 = false → r.1 = e0)) ∧ ∀ e, okE e → s = textE e → r = (e, true)
theorem specEdit_tot (s : List UInt8) (hs : s.length ≤ 1048576) : Tot (spec_ReadEdit s) (RE s) := by
  unfold spec_ReadEdit
  cases s with
  | nil => exact tsome ⟨⟨fun h => (by cases h), fun _ => rfl⟩, fun e _ he => by unfold textE at he; cases he⟩
  | cons b t =>
    have htl : t.length ≤ 1048576 := by simp only [List.length_cons] at hs; omega
    rw [show ((b :: t) == ([] : List UInt8)) = false from rfl, cond_false, sub_tail]
    have hsp : spec_l01Split t 32 = some (cutS 32 t) := l01Split_eq t 32 (by omega)
    have hpt := cutS_pieces (b := 32) t.length t (Nat.le_refl _)
    simp only [Option.bind_some]
    rw [hsp]
    simp only [Option.bind_some]
    rw [kind_loop]
    simp only [Option.bind_some]
    have key : ∀ e, okE e → b :: t = textE e → kindB b = e.Kind ∧ t = tailT e := fun e he h => by
      unfold textE at h
      obtain ⟨h1, h2⟩ := List.cons.inj h
      exact ⟨by rw [h1, kind_sign he.1.1 he.1.2], h2⟩
    obtain ⟨w, ws, hw⟩ := List.exists_cons_of_ne_nil (cutS_ne 32 t)
    rw [hw]
    have hwl := hpt
    rw [hw] at hwl
    refine tbind (p := fun r => r = w) ⟨w, rfl, rfl⟩ (fun w' hw' => ?_)
    subst hw'
    obtain ⟨n, ok, d1, d2, d3⟩ := l01Digits_spec w'
    rw [d1]
    simp only [Option.bind_some]
    have keyn : ∀ e, okE e → b :: t = textE e → ok = true ∧ n = e.Index ∧ (if e.Kind = 2 then ws = [] else ws = [placeT e.Place]) := fun e he h => by
      obtain ⟨_, h2⟩ := key e he h
      have h3 := tail_words (e := e)
      rw [← h2, hw] at h3
      have hi := he.2.1
      have e1 : e.Index = ((e.Index.toNat : Nat) : Int) := by omega
      by_cases hk : e.Kind = 2
      · rw [if_pos hk] at h3 ⊢
        obtain ⟨h4, h5⟩ := List.cons.inj h3
        obtain ⟨h6, h7⟩ := d3 e.Index.toNat (by omega) (h4.trans ((congrArg Lib.itoa e1).trans (Lib.itoa_nonneg _)))
        exact ⟨h6, by omega, h5⟩
      · rw [if_neg hk] at h3 ⊢
        obtain ⟨h4, h5⟩ := List.cons.inj h3
        obtain ⟨h6, h7⟩ := d3 e.Index.toNat (by omega) (h4.trans ((congrArg Lib.itoa e1).trans (Lib.itoa_nonneg _)))
        exact ⟨h6, by omega, h5⟩
    refine tbind (p := fun q : Bool × Int × Int × Int × Int => ∀ e, okE e → b :: t = textE e → q = (true, e.Place.From, e.Place.To, e.Place.Delay, e.Place.Tokens)) ?_ (fun q hq => ?_)
    · refine tcond (fun hb => ?_) (fun hb => tsome fun e he h => ?_)
      · have h2 : (w' :: ws).length = 2 := by
          have : ((w' :: ws).length : Int) = 2 := by simpa using hb
          omega
        obtain ⟨x, hx⟩ : ∃ x, ws = [x] := by
          match ws, h2 with
          | [x], _ => exact ⟨x, rfl⟩
        subst hx
        have hxl := (hwl x (by simp)).2
        refine tbind (p := fun r => r = x) ⟨x, rfl, rfl⟩ (fun x' hx' => ?_)
        subst hx'
        refine tbind (l11Read_tot x' (by omega)) (fun r hr => tsome fun e he h => ?_)
        obtain ⟨k1, k2, k3⟩ := keyn e he h
        by_cases hk : e.Kind = 2
        · rw [if_pos hk] at k3; cases k3
        · rw [if_neg hk] at k3
          have := hr.2 e.Place he.2.2.1 (List.cons.inj k3).1
          rw [this, k1]
          rfl
      · obtain ⟨k1, k2, k3⟩ := keyn e he h
        by_cases hk : e.Kind = 2
        · rw [if_pos hk] at k3
          rw [he.2.2.2 hk, k1]
        · rw [if_neg hk] at k3
          rw [k3] at hb
          simp at hb
    · refine tbind (p := fun z : Bool => (z = false → okE ⟨kindB b, n, ⟨q.2.1, q.2.2.1, q.2.2.2.1, q.2.2.2.2⟩⟩ ∧ b :: t = textE ⟨kindB b, n, ⟨q.2.1, q.2.2.1, q.2.2.2.1, q.2.2.2.2⟩⟩) ∧ ∀ e, okE e → b :: t = textE e → z = false) ?_ (fun z hz => ?_)
      · refine tcond (fun hb => tsome ⟨fun h => (by cases h), fun e he h => ?_⟩) (fun hb => ?_)
        · rw [hq e he h] at hb
          cases hb
        · by_cases ho : okE ⟨kindB b, n, ⟨q.2.1, q.2.2.1, q.2.2.2.1, q.2.2.2.2⟩⟩
          · rw [EditText_ok ho]
            refine tsome ⟨fun h => ⟨ho, ?_⟩, fun e he h => ?_⟩
            · have : textE ⟨kindB b, n, ⟨q.2.1, q.2.2.1, q.2.2.2.1, q.2.2.2.2⟩⟩ = b :: t := by simpa using h
              exact this.symm
            · obtain ⟨k1, k2, k3⟩ := keyn e he h
              rw [hq e he h, k2, (key e he h).1, h]
              simp
          · rw [EditText_no ho]
            refine tsome ⟨fun h => ?_, fun e he h => ?_⟩
            · cases h
            · exfalso
              obtain ⟨k1, k2, k3⟩ := keyn e he h
              refine ho ?_
              rw [hq e he h, k2, (key e he h).1]
              exact he
      · refine tcond (fun hb => tsome ⟨⟨fun h => (by cases h), fun _ => rfl⟩, fun e he h => ?_⟩) (fun hb => tsome ⟨⟨fun _ => hz.1 hb, fun h => (by cases h)⟩, fun e he h => ?_⟩)
        · rw [hz.2 e he h] at hb; cases hb
        · obtain ⟨k1, k2, k3⟩ := keyn e he h
          rw [hq e he h, k2, (key e he h).1]

/-! ## The program -/
theorem cut_eq (s : List UInt8) (b : UInt8) (hs : s.length ≤ 1048576) : strings_Cut s [b] = some (Lib.cut s [b]) := by
  unfold strings_Cut
  rw [if_pos (by omega)]
theorem cut_len (s : List UInt8) (b : UInt8) : (Lib.cut s [b]).1.length ≤ s.length ∧ (Lib.cut s [b]).2.1.length ≤ s.length := by
  rcases cut_or (b := b) s with h | ⟨u, v, rfl, h⟩
  · rw [cut_miss h]; simp
  · rw [cut_hit h]; simp; omega
theorem cut_found {s : List UInt8} {b : UInt8} (hf : (Lib.cut s [b]).2.1 ≠ []) : s = (Lib.cut s [b]).1 ++ b :: (Lib.cut s [b]).2.1 := by
  rcases cut_or (b := b) s with h | ⟨u, v, rfl, h⟩
  · rw [cut_miss h] at hf; exact absurd rfl hf
  · rw [cut_hit h]
theorem cut_flag {s : List UInt8} {b : UInt8} : ((Lib.cut s [b]).2.2 = true → s = (Lib.cut s [b]).1 ++ b :: (Lib.cut s [b]).2.1) ∧ ((Lib.cut s [b]).2.2 = false → s = (Lib.cut s [b]).1) := by
  rcases cut_or (b := b) s with h | ⟨u, v, rfl, h⟩
  · rw [cut_miss h]; exact ⟨fun h => (by cases h), fun _ => rfl⟩
  · rw [cut_hit h]; exact ⟨fun _ => rfl, fun h => (by cases h)⟩
theorem readPlace_tot (x : List UInt8) (hx : x.length ≤ 1048576) : Tot (impl_readPlace x) (fun r => (r.2 = true → x = placeT r.1) ∧ ∀ p, okP p → x = placeT p → r = (p, true)) := by
  unfold impl_readPlace
  have la := cut_len x 62
  rw [cut_eq x 62 hx]
  simp only [Option.bind_some]
  have lb := cut_len (Lib.cut x [62]).2.1 58
  rw [cut_eq _ 58 (by omega)]
  simp only [Option.bind_some]
  have lc := cut_len (Lib.cut (Lib.cut x [62]).2.1 [58]).2.1 42
  rw [cut_eq _ 42 (by omega)]
  simp only [Option.bind_some]
  have fa := cut_found (s := x) (b := 62)
  have fb := cut_found (s := (Lib.cut x [62]).2.1) (b := 58)
  have fc := cut_found (s := (Lib.cut (Lib.cut x [62]).2.1 [58]).2.1) (b := 42)
  have key : ∀ p, okP p → x = placeT p → (Lib.cut x [62]).1 = Lib.itoa p.From ∧ (Lib.cut (Lib.cut x [62]).2.1 [58]).1 = Lib.itoa p.To ∧ (Lib.cut (Lib.cut (Lib.cut x [62]).2.1 [58]).2.1 [42]).1 = Lib.itoa p.Delay ∧ (Lib.cut (Lib.cut (Lib.cut x [62]).2.1 [58]).2.1 [42]).2.1 = Lib.itoa p.Tokens := by
    intro p _ e
    have h62 (q : Int) : (62 : UInt8) ∉ Lib.itoa q := itoa_no (Or.inr (by decide)) (by decide) q
    have h58 (q : Int) : (58 : UInt8) ∉ Lib.itoa q := itoa_no (Or.inr (by decide)) (by decide) q
    have h42 (q : Int) : (42 : UInt8) ∉ Lib.itoa q := itoa_no (Or.inl (by decide)) (by decide) q
    unfold placeT at e
    rw [e, cut_hit (h62 _)]
    simp only
    rw [cut_hit (h58 _)]
    simp only
    rw [cut_hit (h42 _)]
    simp
  generalize Lib.cut (Lib.cut (Lib.cut x [62]).2.1 [58]).2.1 [42] = C at lc fc key ⊢
  generalize Lib.cut (Lib.cut x [62]).2.1 [58] = B at lb lc fb fc key ⊢
  generalize Lib.cut x [62] = A at la lb fa fb key ⊢
  obtain ⟨n0, k0, r0, s0, t0⟩ := readNumber_spec A.1 (by omega)
  obtain ⟨n1, k1, r1, s1, t1⟩ := readNumber_spec B.1 (by omega)
  obtain ⟨n2, k2, r2, s2, t2⟩ := readNumber_spec C.1 (by omega)
  obtain ⟨n3, k3, r3, s3, t3⟩ := readNumber_spec C.2.1 (by omega)
  have st0 (x0 x1 x2 x3 : Int) : impl_readPlace_L1 A B C (x0, x1, x2, x3, 0) = bif !k0 then some (.inr (.inl ())) else some (.inl (n0, x1, x2, x3, 1)) := by
    unfold impl_readPlace_L1
    simp only [idxO, r0, Option.bind_some, List.getElem?_cons_zero, Int.le_refl, if_true, Int.toNat_zero]
    cases k0 <;> rfl
  have st1 (x0 x1 x2 x3 : Int) : impl_readPlace_L1 A B C (x0, x1, x2, x3, 1) = bif !k1 then some (.inr (.inl ())) else some (.inl (x0, n1, x2, x3, 2)) := by
    unfold impl_readPlace_L1
    simp only
    rw [show decide ((1 : Int) < 4) = true from rfl, cond_true, show idxO ([A.1, B.1, C.1, C.2.1] : List (List UInt8)) 1 = some B.1 from rfl]
    simp only [r1, Option.bind_some]
    cases k1 <;> rfl
  have st2 (x0 x1 x2 x3 : Int) : impl_readPlace_L1 A B C (x0, x1, x2, x3, 2) = bif !k2 then some (.inr (.inl ())) else some (.inl (x0, x1, n2, x3, 3)) := by
    unfold impl_readPlace_L1
    simp only
    rw [show decide ((2 : Int) < 4) = true from rfl, cond_true, show idxO ([A.1, B.1, C.1, C.2.1] : List (List UInt8)) 2 = some C.1 from rfl]
    simp only [r2, Option.bind_some]
    cases k2 <;> rfl
  have st3 (x0 x1 x2 x3 : Int) : impl_readPlace_L1 A B C (x0, x1, x2, x3, 3) = bif !k3 then some (.inr (.inl ())) else some (.inl (x0, x1, x2, n3, 4)) := by
    unfold impl_readPlace_L1
    simp only
    rw [show decide ((3 : Int) < 4) = true from rfl, cond_true, show idxO ([A.1, B.1, C.1, C.2.1] : List (List UInt8)) 3 = some C.2.1 from rfl]
    simp only [r3, Option.bind_some]
    cases k3 <;> rfl
  have st4 (x0 x1 x2 x3 : Int) : impl_readPlace_L1 A B C (x0, x1, x2, x3, 4) = some (.inr (.inr (x0, x1, x2, x3))) := rfl
  refine tbind (p := fun o : Sum Unit (Int × Int × Int × Int) => (o = .inl () ∧ (k0 = false ∨ k1 = false ∨ k2 = false ∨ k3 = false)) ∨ (o = .inr (n0, n1, n2, n3) ∧ k0 = true ∧ k1 = true ∧ k2 = true ∧ k3 = true)) ?_ (fun o ho => ?_)
  · cases k0 with
    | false => exact ⟨_, loopM_done (st0 0 0 0 0), Or.inl ⟨rfl, Or.inl rfl⟩⟩
    | true =>
      rw [loopM_next (st0 0 0 0 0)]
      cases k1 with
      | false => exact ⟨_, loopM_done (st1 n0 0 0 0), Or.inl ⟨rfl, Or.inr (Or.inl rfl)⟩⟩
      | true =>
        rw [loopM_next (st1 n0 0 0 0)]
        cases k2 with
        | false => exact ⟨_, loopM_done (st2 n0 n1 0 0), Or.inl ⟨rfl, Or.inr (Or.inr (Or.inl rfl))⟩⟩
        | true =>
          rw [loopM_next (st2 n0 n1 0 0)]
          cases k3 with
          | false => exact ⟨_, loopM_done (st3 n0 n1 n2 0), Or.inl ⟨rfl, Or.inr (Or.inr (Or.inr rfl))⟩⟩
          | true =>
            rw [loopM_next (st3 n0 n1 n2 0)]
            exact ⟨_, loopM_done (st4 n0 n1 n2 n3), Or.inr ⟨rfl, rfl, rfl, rfl, rfl⟩⟩
  · rcases ho with ⟨rfl, ho⟩ | ⟨rfl, rfl, rfl, rfl, rfl⟩
    · refine tsome ⟨fun h => (by cases h), fun p hp e => ?_⟩
      exfalso
      obtain ⟨e0, e1, e2, e3⟩ := key p hp e
      obtain ⟨i0, i1, i2, i3⟩ := i64_ok hp
      rw [(t0 _ i0 e0).1, (t1 _ i1 e1).1, (t2 _ i2 e2).1, (t3 _ i3 e3).1] at ho
      simp at ho
    · refine tsome ⟨fun _ => ?_, fun p hp e => ?_⟩
      · have c3 := (s3 rfl).2
        have c2 := (s2 rfl).2
        have c1 := (s1 rfl).2
        have c0 := (s0 rfl).2
        have fc' := fc (by rw [c3]; exact itoa_ne _)
        have fb' := fb (by rw [fc']; simp)
        have fa' := fa (by rw [fb']; simp)
        show x = placeT ⟨n0, n1, n2, n3⟩
        unfold placeT
        rw [fa', fb', fc', c0, c1, c2, c3]
      · obtain ⟨e0, e1, e2, e3⟩ := key p hp e
        obtain ⟨i0, i1, i2, i3⟩ := i64_ok hp
        have j0 := (t0 _ i0 e0).2
        have j1 := (t1 _ i1 e1).2
        have j2 := (t2 _ i2 e2).2
        have j3 := (t3 _ i3 e3).2
        subst j0 j1 j2 j3
        rfl
theorem implEdit_tot (s : List UInt8) (hs : s.length ≤ 1048576) : Tot (impl_ReadEdit s) (RE s) := by
  unfold impl_ReadEdit
  cases s with
  | nil => exact tsome ⟨⟨fun h => (by cases h), fun _ => rfl⟩, fun e _ he => by unfold textE at he; cases he⟩
  | cons b t =>
    have htl : t.length ≤ 1048576 := by simp only [List.length_cons] at hs; omega
    rw [show ((b :: t) == ([] : List UInt8)) = false from rfl, cond_false, sub_tail]
    simp only [Option.bind_some]
    rw [cut_eq t 32 htl]
    simp only [Option.bind_some]
    have lo := cut_len t 32
    have fo := cut_flag (s := t) (b := 32)
    have key : ∀ e, okE e → b :: t = textE e → b = sign e.Kind ∧ (Lib.cut t [32]).1 = Lib.itoa e.Index ∧ (if e.Kind = 2 then (Lib.cut t [32]).2.2 = false else (Lib.cut t [32]).2.2 = true ∧ (Lib.cut t [32]).2.1 = placeT e.Place) := by
      intro e he h
      unfold textE at h
      obtain ⟨h1, h2⟩ := List.cons.inj h
      have hn : (32 : UInt8) ∉ Lib.itoa e.Index := itoa_no (Or.inl (by decide)) (by decide) _
      unfold tailT at h2
      by_cases hk : e.Kind = 2
      · rw [if_pos hk] at h2 ⊢
        rw [h2, cut_miss hn]
        exact ⟨h1, rfl, rfl⟩
      · rw [if_neg hk] at h2 ⊢
        rw [h2, cut_hit hn]
        exact ⟨h1, rfl, rfl, rfl⟩
    generalize Lib.cut t [32] = O at lo fo key ⊢
    obtain ⟨n, ok, r1, r2, r3⟩ := readNumber_spec O.1 (by omega)
    rw [r1]
    simp only [Option.bind_some]
    have keyn : ∀ e, okE e → b :: t = textE e → ok = true ∧ n = e.Index := fun e he h => by
      have hi := he.2.1
      exact r3 e.Index (by unfold isI64; omega) (key e he h).2.1
    have c45 : ((b.toNat : Int) == 45) = (b == 45) := u8_beq b 45
    have c43 : ((b.toNat : Int) == 43) = (b == 43) := u8_beq b 43
    have c61 : ((b.toNat : Int) == 61) = (b == 61) := u8_beq b 61
    have hi0 : idxO (b :: t) 0 = some b := rfl
    rw [hi0]
    simp only [Option.bind_some]
    rw [c45, c43, c61]
    refine tbind (p := fun q : Int × Int × Int × Int × Int × Bool => (q.2.2.2.2.2 = true → okE ⟨q.1, n, ⟨q.2.1, q.2.2.1, q.2.2.2.1, q.2.2.2.2.1⟩⟩ → b :: t = textE ⟨q.1, n, ⟨q.2.1, q.2.2.1, q.2.2.2.1, q.2.2.2.2.1⟩⟩) ∧ ∀ e, okE e → b :: t = textE e → q = (e.Kind, e.Place.From, e.Place.To, e.Place.Delay, e.Place.Tokens, true)) ?_ (fun q hq => ?_)
    · refine tcond (fun hb => tsome ⟨fun hf ho => ?_, fun e he h => ?_⟩) (fun hb => ?_)
      · have hb : b = 45 := by simpa using hb
        rw [Bool.and_eq_true] at hf
        have h1 : O.2.2 = false := by simpa using hf.2
        rw [hb, fo.2 h1, (r2 hf.1).2]
        rfl
      · have hb : b = 45 := by simpa using hb
        obtain ⟨k1, k2, k3⟩ := key e he h
        have hk : e.Kind = 2 := by
          rw [hb] at k1
          unfold sign at k1
          by_cases h1 : e.Kind = 1
          · rw [if_pos h1] at k1; exact absurd k1 (by decide)
          · by_cases h2 : e.Kind = 2
            · exact h2
            · rw [if_neg h1, if_neg h2] at k1; exact absurd k1 (by decide)
        rw [if_pos hk] at k3
        rw [(keyn e he h).1, k3, hk, he.2.2.2 hk]
        rfl
      · have hb : b ≠ 45 := by simpa using hb
        refine tbind (p := fun z : Bool => z = (b == 43 || b == 61)) ?_ (fun z hz => ?_)
        · refine tcond (fun h => tsome ?_) (fun h => tsome ?_)
          · rw [h]; rfl
          · rw [h]; rfl
        · subst hz
          refine tcond (fun hs2 => ?_) (fun hs2 => tsome ⟨fun _ ho => ?_, fun e he h => ?_⟩)
          · have hpm : b = 43 ∨ b = 61 := by simpa using hs2
            refine tbind (p := fun z : Int => z = if b = 43 then 1 else 3) ?_ (fun z hz => ?_)
            · refine tcond (fun h => tsome ?_) (fun h => tsome ?_)
              · have : b = 61 := by simpa using h
                subst this; rfl
              · have : b ≠ 61 := by simpa using h
                rw [if_pos (hpm.resolve_right this)]
            · refine tbind (readPlace_tot O.2.1 (by omega)) (fun r hr => tsome ⟨fun hf ho => ?_, fun e he h => ?_⟩)
              · simp only [Bool.and_eq_true] at hf
                obtain ⟨⟨f1, f2⟩, f3⟩ := hf
                have hsg : sign z = b ∧ z ≠ 2 := by
                  rcases hpm with rfl | rfl
                  · subst hz; exact ⟨rfl, by decide⟩
                  · subst hz; exact ⟨rfl, by decide⟩
                unfold textE tailT
                simp only
                rw [if_neg hsg.2, hsg.1, fo.1 f2, (r2 f1).2, hr.1 f3]
              · obtain ⟨k1, k2, k3⟩ := key e he h
                have hkz : e.Kind = z ∧ e.Kind ≠ 2 := by
                  have : e.Kind = 1 ∨ e.Kind = 2 ∨ e.Kind = 3 := by have := he.1; omega
                  rcases this with h1 | h1 | h1
                  · rw [h1] at k1
                    have : b = 43 := k1
                    subst this
                    exact ⟨by rw [h1, hz]; rfl, by omega⟩
                  · rw [h1] at k1
                    exact absurd k1 hb
                  · rw [h1] at k1
                    have : b = 61 := k1
                    subst this
                    exact ⟨by rw [h1, hz]; rfl, by omega⟩
                rw [if_neg hkz.2] at k3
                rw [hr.2 e.Place he.2.2.1 k3.2, (keyn e he h).1, k3.1, hkz.1]
                rfl
          · exfalso
            have := ho.1.1
            revert this
            show ¬ ((1 : Int) ≤ 0)
            decide
          · exfalso
            obtain ⟨k1, _⟩ := key e he h
            have hpm : ¬ (b = 43 ∨ b = 61) := by
              intro hh
              have : (b == 43 || b == 61) = true := by simpa using hh
              rw [this] at hs2; cases hs2
            have : e.Kind = 1 ∨ e.Kind = 2 ∨ e.Kind = 3 := by have := he.1; omega
            rcases this with h1 | h1 | h1 <;> rw [h1] at k1
            · exact hpm (Or.inl k1)
            · exact hb k1
            · exact hpm (Or.inr k1)
    · refine tbind (p := fun z : Bool => (z = false → okE ⟨q.1, n, ⟨q.2.1, q.2.2.1, q.2.2.2.1, q.2.2.2.2.1⟩⟩ ∧ b :: t = textE ⟨q.1, n, ⟨q.2.1, q.2.2.1, q.2.2.2.1, q.2.2.2.2.1⟩⟩) ∧ ∀ e, okE e → b :: t = textE e → z = false) ?_ (fun z hz => ?_)
      · refine tcond (fun hb => tsome ⟨fun h => (by cases h), fun e he h => ?_⟩) (fun hb => ?_)
        · rw [hq.2 e he h] at hb
          cases hb
        · rw [letT_eq]
          refine tsome ⟨fun h => ?_, fun e he h => ?_⟩
          · have ho := (isEdit_ok _).1 (by simpa using h)
            exact ⟨ho, hq.1 (by simpa using hb) ho⟩
          · rw [hq.2 e he h, (keyn e he h).2]
            have := (isEdit_ok e).2 he
            simpa using this
      · refine tcond (fun hb => tsome ⟨⟨fun h => (by cases h), fun _ => rfl⟩, fun e he h => ?_⟩) (fun hb => tsome ⟨⟨fun _ => hz.1 hb, fun h => (by cases h)⟩, fun e he h => ?_⟩)
        · rw [hz.2 e he h] at hb; cases hb
        · rw [hq.2 e he h, (keyn e he h).2]

theorem eqPlace_self (p : Place) : laws_eqPlace p p = true := by simp [laws_eqPlace]
theorem eqEdit_self (e : Edit) : laws_eqEdit e e = true := by simp [laws_eqEdit, eqPlace_self]
/-- Both readers are told by what they find. -/
theorem RE_eq {s : List UInt8} {r q : Edit × Bool} (h1 : RE s r) (h2 : RE s q) : r = q := by
  obtain ⟨re, rb⟩ := r
  obtain ⟨qe, qb⟩ := q
  cases rb with
  | true =>
    obtain ⟨a, b⟩ := h1.1.1 rfl
    exact (h2.2 re a b).symm
  | false =>
    cases qb with
    | true =>
      obtain ⟨a, b⟩ := h2.1.1 rfl
      exact h1.2 qe a b
    | false =>
      have a : re = e0 := h1.1.2 rfl
      have b : qe = e0 := h2.1.2 rfl
      rw [a, b]
theorem law_ReadEdit (aS : List UInt8) (_ : aS.length ≤ maxLen) : laws_FnExactReadEdit aS = some true := by
  unfold laws_FnExactReadEdit
  cases hb : decide ((List.length aS : Int) > 1048576) with
  | true => rfl
  | false =>
    have hl : aS.length ≤ 1048576 := by
      have := decide_eq_false_iff_not.1 hb
      omega
    obtain ⟨r, h1, h2⟩ := specEdit_tot aS hl
    obtain ⟨q, h3, h4⟩ := implEdit_tot aS hl
    rw [cond_false, h1]
    simp only [Option.bind_some]
    rw [h3]
    simp only [Option.bind_some]
    rw [RE_eq h4 h2, eqEdit_self]
    simp
end Go.Proofs.YtneifoepoccjaaaDoor
