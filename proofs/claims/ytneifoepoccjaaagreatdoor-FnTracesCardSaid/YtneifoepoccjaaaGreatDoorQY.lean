/-
  The law of traces in plain Lean: what is written is recovered, and what is written before a cut is recovered. No program in sight.
-/
import Derived.Test.YtneifoepoccjaaaGreatDoorQX
import Derived.Test.YtneifoepoccjaaaGreatDoorQK
import Derived.Test.YtneifoepoccjaaaGreatDoorQR
namespace Go.Proofs.YtneifoepoccjaaaGreatDoor

/-! ## Texts are drawn -/
theorem specTrace_tot (run : List Firing) (h : run.length ≤ 1048576) : Tot (spec_TraceText run) (fun r => r.1.length ≤ 50000) := by
  cases hw : run.all writable && decide (run.length ≤ 500) with
  | false =>
    unfold spec_TraceText
    rw [l28All_eq run h, hw]
    exact tsome (by simp)
  | true =>
    simp only [Bool.and_eq_true, decide_eq_true_eq] at hw
    refine ⟨_, spec_trace hw.1 hw.2, ?_⟩
    have := textAt_len run hw.1 run.length
    rw [List.take_length] at this
    show (textAt 1 run).length ≤ 50000
    omega
theorem damage_tot {c : List Int} (hc : Code c) {s : Src} (hs : Good c s) (t : List UInt8) (ht : t.length ≤ 1048576) : Tot (spec_l01Damage s t) (fun r => Good c r.2) := by
  have hs0 := hs.1
  unfold spec_l01Damage
  rw [wrap64 (by omega) (by omega)]
  refine tbind (next_tot hc hs (by omega)) (fun o1 h1 => ?_)
  have hb1 : o1.1 ≤ (t.length : Int) := by have := h1.1; omega
  refine tbind (p := fun z : Sum (Int × Int) ((List UInt8) × Int × Int) => match z with | .inl q => Good c ⟨s.code, q.1, q.2⟩ | .inr q => Good c ⟨s.code, q.2.1, q.2.2⟩) ?_ (fun o2 h2 => by
    cases o2 with
    | inl q => exact tsome h2
    | inr q => exact tsome h2)
  refine tbind (next_tot hc (s := ⟨s.code, o1.2.at_v, o1.2.seed⟩) ⟨hs0, h1.2.2⟩ (by omega)) (fun o3 h3 => ?_)
  have g3 : Good c ⟨s.code, o3.2.at_v, o3.2.seed⟩ := ⟨hs0, h3.2.2⟩
  refine tcond (fun _ => ?_) (fun _ => ?_)
  · exact tbind (tsub (Int.le_refl 0) h1.1.1 hb1) (fun _ _ => tsome g3)
  · refine tcond (fun _ => ?_) (fun _ => ?_)
    · refine tbind (tsub (Int.le_refl 0) h1.1.1 hb1) (fun z5 h5 => ?_)
      refine tbind (next_tot hc g3 (by omega)) (fun o8 h8 => ?_)
      refine tbind (p := fun x : List UInt8 => x.length = 1) ?_ (fun x9 h9 => ?_)
      · refine tmono (tidx h8.1.1 (by have := h8.1.2; simp only [List.length_cons, List.length_nil]; omega)) (fun x hx => ?_)
        have hm := List.mem_of_getElem? hx
        simp only [List.mem_cons, List.not_mem_nil, or_false] at hm
        rcases hm with rfl | rfl | rfl | rfl | rfl | rfl | rfl | rfl <;> rfl
      · subst h5
        refine tbind (tcat (by simp only [List.length_take, List.length_drop]; omega)) (fun z11 h11 => ?_)
        refine tbind (tsub h1.1.1 hb1 (Int.le_refl _)) (fun z12 h12 => ?_)
        subst h11 h12
        refine tbind (tcat (by simp only [List.length_append, List.length_take, List.length_drop]; omega)) (fun _ _ => tsome ⟨hs0, h8.2.2⟩)
    · refine tcond (fun _ => ?_) (fun _ => tsome g3)
      refine tcond (fun hb => ?_) (fun _ => tsome g3)
      simp only [decide_eq_true_eq] at hb
      refine tbind (tsub (Int.le_refl 0) h1.1.1 hb1) (fun z14 h14 => ?_)
      rw [wrap64 (by omega) (by omega)]
      refine tbind (tsub (by omega) (by omega) (Int.le_refl _)) (fun z15 h15 => ?_)
      subst h14 h15
      exact tbind (tcat (by simp only [List.length_take, List.length_drop]; omega)) (fun _ _ => tsome g3)
theorem drawText_tot {c : List Int} (hc : Code c) : Tot (spec_DrawRecoverTrace c) (fun _ => True) := by
  unfold spec_DrawRecoverTrace
  refine tbind (from_tot hc) (fun o1 h1 => ?_)
  refine tbind (p := fun _ => True) ?_ (fun _ _ => tsome trivial)
  unfold spec_l28DrawText
  refine tbind (draw28_tot hc (s := ⟨c, o1.at_v, o1.seed⟩) ⟨rfl, h1.2⟩) (fun o2 h2 => ?_)
  refine tbind (specTrace_tot o2.1 (by have := h2.1; omega)) (fun o4 h4 => ?_)
  refine tbind (next_tot hc (s := ⟨c, o2.2.at_v, o2.2.seed⟩) ⟨rfl, h2.2.2⟩ (by omega)) (fun o5 h5 => ?_)
  have g5 : Good c ⟨c, o5.2.at_v, o5.2.seed⟩ := ⟨rfl, h5.2.2⟩
  refine tcond (fun _ => ?_) (fun _ => ?_)
  · exact tbind (damage_tot hc g5 o4.1 (by omega)) (fun _ _ => tsome trivial)
  · refine tbind (next_tot hc g5 (by omega)) (fun o7 h7 => ?_)
    refine tcond (fun _ => ?_) (fun _ => tsome trivial)
    refine tbind (next_tot hc (s := ⟨c, o7.2.at_v, o7.2.seed⟩) ⟨rfl, h7.2.2⟩ (by omega)) (fun o8 h8 => ?_)
    have := h8.1
    rw [wrap64 (by omega) (by omega)]
    exact tbind (tmk (by omega) (by omega)) (fun _ _ => tsome trivial)

/-! ## What is recovered of a text -/
def recov (s : List UInt8) : List Firing × Int → Prop := fun r => r = if s.length > 20000 then ([], 3) else ((found s).1, 0)
theorem implRec (s : List UInt8) : Tot (impl_RecoverTrace s) (recov s) := by
  unfold impl_RecoverTrace recov
  by_cases h2 : s.length > 20000
  · rw [decide_eq_true (by omega : (s.length : Int) > 20000), if_pos h2]
    exact tsome rfl
  · rw [decide_eq_false (by omega : ¬ (s.length : Int) > 20000), impl_found (by omega), if_neg h2]
    exact tsome rfl
theorem specRec (s : List UInt8) : Tot (spec_RecoverTrace s) (recov s) := by
  unfold spec_RecoverTrace recov
  by_cases h2 : s.length > 20000
  · rw [decide_eq_true (by omega : (s.length : Int) > 20000), if_pos h2]
    exact tsome rfl
  · rw [decide_eq_false (by omega : ¬ (s.length : Int) > 20000), spec_found (by omega), if_neg h2]
    exact tsome rfl
theorem recov_len {s : List UInt8} {r : List Firing × Int} (h : recov s r) : r.1.length ≤ 500 := by
  unfold recov at h
  subst h
  split
  · simp
  · exact (found_text s).1
/-- The run with its numbers told anew. -/
def renum : List Firing → List Firing → List Firing
  | out, [] => out
  | out, f :: r => renum (out ++ [⟨f.Event, (countE out f.Event : Int) + 1, f.Time⟩]) r
theorem renum_len : ∀ (r out : List Firing), (renum out r).length = out.length + r.length
  | [], out => rfl
  | f :: r, out => by
    rw [renum, renum_len r]
    simp only [List.length_append, List.length_cons, List.length_nil]
    omega
theorem renum_take : ∀ (r out : List Firing) (k : Nat), (renum out r).take (out.length + k) = renum out (r.take k)
  | [], out, k => by
    rw [List.take_nil]
    show out.take (out.length + k) = out
    exact List.take_of_length_le (by omega)
  | f :: r, out, 0 => by
    rw [List.take_zero]
    show (renum (out ++ [_]) r).take (out.length + 0) = out
    have key : ∀ (r o : List Firing) (n : Nat), n ≤ o.length → (renum o r).take n = o.take n := by
      intro r
      induction r with
      | nil => intro o n _; rfl
      | cons g r ih =>
        intro o n hn
        rw [renum, ih _ _ (by simp; omega), List.take_append_of_le_length hn]
    rw [key _ _ _ (by simp), List.take_append_of_le_length (by omega)]
    exact List.take_length
  | f :: r, out, k + 1 => by
    rw [List.take_succ_cons, renum, renum]
    have := renum_take r (out ++ [⟨f.Event, (countE out f.Event : Int) + 1, f.Time⟩]) k
    rw [← this]
    congr 1
    simp only [List.length_append, List.length_cons, List.length_nil]
    omega
theorem renum_same : ∀ (r out : List Firing) (i : Nat) (f g : Firing), r[i]? = some f → (renum out r)[out.length + i]? = some g → g.Event = f.Event ∧ g.Time = f.Time
  | [], _, _, _, _, h, _ => by simp at h
  | f :: r, out, 0, f', g, h, hg => by
    have hf : f = f' := by simpa using h
    subst hf
    have h1 := renum_take (f :: r) out 1
    rw [List.take_succ_cons, List.take_zero] at h1
    have h2 : ((renum out (f :: r)).take (out.length + 1))[out.length + 0]? = some g := by
      rw [List.getElem?_take, if_pos (by omega)]; exact hg
    rw [h1, renum, renum] at h2
    have h3 : (out ++ [(⟨f.Event, (countE out f.Event : Int) + 1, f.Time⟩ : Firing)])[out.length]? = some g := h2
    rw [List.getElem?_append_right (by omega)] at h3
    have : (⟨f.Event, (countE out f.Event : Int) + 1, f.Time⟩ : Firing) = g := by simpa using h3
    subst this
    exact ⟨rfl, rfl⟩
  | f :: r, out, i + 1, f', g, h, hg => by
    have h1 : r[i]? = some f' := by simpa using h
    rw [renum] at hg
    refine renum_same r (out ++ [⟨f.Event, (countE out f.Event : Int) + 1, f.Time⟩]) i f' g h1 ?_
    rw [← hg]
    congr 1
    simp only [List.length_append, List.length_cons, List.length_nil]
    omega
theorem writ_nat {f : Firing} (hf : writable f = true) : ∃ e t : Nat, e ≤ 9 ∧ t ≤ 1000000 ∧ f.Event = (e : Int) ∧ f.Time = (t : Int) ∧ f = ⟨(e : Int), f.Number, (t : Int)⟩ := by
  obtain ⟨a, b, c⟩ := f
  simp only [writable, decide_eq_true_eq] at hf
  have e1 : a = ((a.toNat : Nat) : Int) := by omega
  have e2 : c = ((c.toNat : Nat) : Int) := by omega
  exact ⟨a.toNat, c.toNat, by omega, by omega, e1, e2, by rw [← e1, ← e2]⟩
theorem cons_cutS (b : UInt8) (s : List UInt8) : ∃ l rest, cutS b s = l :: rest := by
  cases h : cutS b s with
  | nil =>
    have := cutS_length b s
    rw [h] at this
    simp at this
  | cons l rest => exact ⟨l, rest, rfl⟩
theorem recL_run (w : List UInt8) (hw : (10 : UInt8) ∉ w) : ∀ (r : List Firing) (c : Nat) (out : List Firing) (size : Nat), r.all writable = true → out.length + r.length ≤ 500 → (recL (cutS 10 (textAt c r ++ w)) c out size).1 = renum out r
  | [], c, out, size, _, _ => by
    rw [textAt, List.nil_append, cutS_none hw]
    rfl
  | f :: r, c, out, size, ha, hl => by
    rw [List.all_cons, Bool.and_eq_true] at ha
    obtain ⟨e, t, he, ht, h1, h2, h3⟩ := writ_nat ha.1
    have hn : next c f = nx c e t := by rw [h3]; exact next_nx c e t _
    have hline : line f (next c f) = lineW e t (nx c e t) ++ [10] := by rw [hn, h3]; exact line_W e t _ _
    rw [textAt, hline, hn]
    have e1 : lineW e t (nx c e t) ++ [10] ++ textAt (nx c e t) r ++ w = lineW e t (nx c e t) ++ 10 :: (textAt (nx c e t) r ++ w) := by simp
    rw [e1, cutS_app (lineW_no10 _ _ _)]
    obtain ⟨l2, rest, hlr⟩ := cons_cutS 10 (textAt (nx c e t) r ++ w)
    simp only [List.length_cons] at hl
    rw [hlr, recL, if_pos (by omega), pick_of he ht rfl]
    simp only
    rw [← hlr, recL_run w hw r _ _ _ ha.2 (by simp only [List.length_append, List.length_cons, List.length_nil]; omega), renum, h1, h2]
theorem found_run {w : List UInt8} (hw : (10 : UInt8) ∉ w) {r : List Firing} (ha : r.all writable = true) (hl : r.length ≤ 500) : (found (textAt 1 r ++ w)).1 = renum [] r :=
  recL_run w hw r 1 [] 0 ha (by simp only [List.length_nil]; omega)
/-- A text cut somewhere: whole lines, and a piece of a line. -/
theorem cut_text : ∀ (r : List Firing) (c n : Nat), r.all writable = true → ∃ k w, k ≤ r.length ∧ (textAt c r).take n = textAt c (r.take k) ++ w ∧ (10 : UInt8) ∉ w ∧ ((textAt c r).take n).count 10 = k
  | [], c, n, _ => ⟨0, [], by simp, by simp [textAt], by simp, by simp [textAt]⟩
  | f :: r, c, n, ha => by
    rw [List.all_cons, Bool.and_eq_true] at ha
    obtain ⟨e, t, he, ht, h1, h2, h3⟩ := writ_nat ha.1
    have hline : line f (next c f) = lineW e t (next c f) ++ [10] := by rw [h3]; exact line_W e t _ _
    have hno := lineW_no10 e t (next c f)
    by_cases hn : n ≤ (lineW e t (next c f)).length
    · refine ⟨0, (lineW e t (next c f)).take n, by omega, ?_, fun h => hno (List.mem_of_mem_take h), ?_⟩
      · rw [textAt, hline, List.append_assoc, List.take_append_of_le_length hn]
        simp [textAt]
      · rw [textAt, hline, List.append_assoc, List.take_append_of_le_length hn]
        exact List.count_eq_zero.2 (fun h => hno (List.mem_of_mem_take h))
    · obtain ⟨k, w, hk, e1, hw, hc⟩ := cut_text r (next c f) (n - (lineW e t (next c f) ++ [10]).length) ha.2
      have e2 : (textAt c (f :: r)).take n = line f (next c f) ++ (textAt (next c f) r).take (n - (lineW e t (next c f) ++ [10]).length) := by
        rw [textAt, hline, List.take_append, List.take_of_length_le]
        simp only [List.length_append, List.length_cons, List.length_nil]
        omega
      refine ⟨k + 1, w, by simp only [List.length_cons]; omega, ?_, hw, ?_⟩
      · rw [e2, e1, List.take_succ_cons, textAt, List.append_assoc]
      · rw [e2, List.count_append, hc, hline, List.count_append, List.count_eq_zero.2 hno]
        simp
        omega
theorem text_short : ∀ (r : List Firing) (c : Nat), r.all writable = true → (textAt c r).length ≤ 15 * r.length
  | [], c, _ => by simp [textAt]
  | f :: r, c, ha => by
    rw [List.all_cons, Bool.and_eq_true] at ha
    obtain ⟨e, t, he, ht, h1, h2, h3⟩ := writ_nat ha.1
    have hline : line f (next c f) = lineW e t (next c f) ++ [10] := by rw [h3]; exact line_W e t _ _
    have a := dec_len_lt e 1 (by omega) (by omega)
    have b := dec_len_lt t 7 (by omega) (by omega)
    have d := dec_len_lt (next c f) 4 (by have := next_lt c f; omega) (by omega)
    have ih := text_short r (next c f) ha.2
    rw [textAt, hline]
    simp only [lineW, List.length_append, List.length_cons, List.length_nil]
    omega

/-! ## The law -/
theorem like_self (a : List Firing) (h : a.length ≤ 1048576) : laws_likeRuns9 a a = some true := by
  unfold laws_likeRuns9
  rw [show (((a.length : Int)) != (a.length : Int)) = false by simp, cond_false]
  obtain ⟨o, h1, h2⟩ := tloop (step := laws_likeRuns9_L1 a a) (fun i : Int => 0 ≤ i ∧ i ≤ (a.length : Int)) (fun i => a.length - i.toNat) (fun o => o = .inr ()) (s0 := 0) (fun i ⟨h0, h1⟩ => by
    unfold laws_likeRuns9_L1
    refine tcond (fun hb => ?_) (fun _ => tsome rfl)
    simp only [decide_eq_true_eq] at hb
    refine tbind (tidx h0 hb) (fun x hx => ?_)
    refine tbind (tidx h0 hb) (fun y hy => ?_)
    have : x = y := Option.some.inj (hx.symm.trans hy)
    subst this
    refine tcond (fun hb2 => ?_) (fun _ => tsome ?_)
    · exfalso; revert hb2; simp
    · rw [wrap64 (by omega) (by omega)]
      exact ⟨by show 0 ≤ i + 1 ∧ i + 1 ≤ _; omega, by show a.length - (i + 1).toNat < a.length - i.toNat; omega⟩) ⟨Int.le_refl 0, Int.natCast_nonneg _⟩
  rw [h1, h2]
  rfl
theorem count_loop (t : List UInt8 × Int) (o : Int × Dice) (ht : t.1.length ≤ 1048576) (h0 : 0 ≤ o.1) (h1 : o.1 ≤ (t.1.length : Int)) : Tot (loopM (laws_FnTraces_L1 t o) (0, 0)) (fun r => r = ((t.1.take o.1.toNat).count 10 : Int)) := by
  refine tloop (fun q : Int × Int => (0 ≤ q.2 ∧ q.2 ≤ o.1) ∧ q.1 = ((t.1.take q.2.toNat).count 10 : Int)) (fun q => o.1.toNat - q.2.toNat) _ (fun q ⟨⟨a, b⟩, hq⟩ => ?_) ⟨⟨Int.le_refl 0, h0⟩, by simp⟩
  unfold laws_FnTraces_L1
  refine tcond (fun hb => ?_) (fun hb => tsome ?_)
  · simp only [decide_eq_true_eq] at hb
    have hcl := List.count_le_length (a := (10 : UInt8)) (l := t.1.take q.2.toNat)
    rw [List.length_take] at hcl
    refine tbind (p := fun z : Int => z = ((t.1.take (q.2.toNat + 1)).count 10 : Int)) ?_ (fun z hz => tsome ?_)
    · refine tbind (tidx a (by omega)) (fun x hx => ?_)
      have hx2 : ((x.toNat : Int) == 10) = (x == 10) := u8_beq x 10
      rw [hx2, List.take_add_one, hx, Option.toList_some, List.count_append, List.count_singleton]
      cases hb3 : (x == 10) with
      | true => rw [cond_true, wrap64 (by omega) (by omega)]; exact tsome (by rw [hq]; simp)
      | false => exact tsome (by rw [hq]; simp)
    · rw [wrap64 (by omega) (by omega)]
      refine ⟨⟨by show 0 ≤ q.2 + 1 ∧ q.2 + 1 ≤ o.1; omega, ?_⟩, by show o.1.toNat - (q.2 + 1).toNat < o.1.toNat - q.2.toNat; omega⟩
      show z = ((t.1.take (q.2 + 1).toNat).count 10 : Int)
      rw [hz, show (q.2 + 1).toNat = q.2.toNat + 1 by omega]
  · simp only [decide_eq_false_iff_not] at hb
    have hqo : q.2 = o.1 := by omega
    show q.1 = _
    rw [hq, hqo]
theorem same_loop (run : List Firing) (o : List Firing × Int) (hl : run.length ≤ 500) (ho : o.1 = renum [] run) : Tot (loopM (laws_FnTraces_L2 run o) 0) (fun r => r = .inr ()) := by
  have hlen : o.1.length = run.length := by rw [ho, renum_len]; simp
  refine tloop (fun i : Int => 0 ≤ i ∧ i ≤ (run.length : Int)) (fun i => run.length - i.toNat) _ (fun i ⟨a, b⟩ => ?_) ⟨Int.le_refl 0, Int.natCast_nonneg _⟩
  unfold laws_FnTraces_L2
  rw [hlen]
  refine tcond (fun hb => ?_) (fun _ => tsome rfl)
  simp only [decide_eq_true_eq] at hb
  refine tbind (p := fun z : Bool => z = false) ?_ (fun z hz => ?_)
  · refine tbind (tidx a (by omega)) (fun x hx => ?_)
    refine tbind (tidx a (by omega)) (fun y hy => ?_)
    have hs := renum_same run [] i.toNat y x hy (by rw [← ho]; simpa using hx)
    refine tcond (fun h => ?_) (fun _ => ?_)
    · exfalso; rw [hs.1] at h; simp at h
    · refine tbind (tidx a (by omega)) (fun x2 hx2 => ?_)
      refine tbind (tidx a (by omega)) (fun y2 hy2 => tsome ?_)
      have e1 : x2 = x := Option.some.inj (hx2.symm.trans hx)
      have e2 : y2 = y := Option.some.inj (hy2.symm.trans hy)
      rw [e1, e2, hs.2]
      simp
  · subst hz
    refine tsome ?_
    rw [wrap64 (by omega) (by omega)]
    exact ⟨by show 0 ≤ i + 1 ∧ i + 1 ≤ _; omega, by show run.length - (i + 1).toNat < run.length - i.toNat; omega⟩
theorem law_Traces (code : List Int) (_ : code.length ≤ maxLen) (hok : ∀ x ∈ code, 0 ≤ x ∧ x ≤ 255) : laws_FnTraces code = some true := by
  suffices h : Tot (laws_FnTraces code) (fun r => r = true) by
    obtain ⟨r, h1, h2⟩ := h
    rw [h1, h2]
  unfold laws_FnTraces
  refine tcond (fun _ => tsome rfl) (fun hbig => ?_)
  have hc : Code code := ⟨hok, by
    unfold laws_big at hbig
    simp only [decide_eq_false_iff_not] at hbig
    omega⟩
  refine tbind (drawTrace_tot hc) (fun run hr => ?_)
  cases hw : run.all writable && decide (run.length ≤ 500) with
  | false =>
    have i1 : impl_TraceText run = some ([], 2) := by
      unfold impl_TraceText; rw [isWritable_eq run (by omega), hw]; rfl
    have s1 : spec_TraceText run = some ([], 2) := by
      unfold spec_TraceText; rw [l28All_eq run (by omega), hw]; rfl
    have i2 : impl_ChainAfter run = some (0, 2) := by
      unfold impl_ChainAfter; rw [isWritable_eq run (by omega), hw]; rfl
    have s2 : spec_ChainAfter run = some (0, 2) := by
      unfold spec_ChainAfter; rw [l28All_eq run (by omega), hw]; rfl
    rw [i1, s1, i2, s2]
    simp only [Option.bind_some]
    refine tbind (drawText_tot hc) (fun t _ => ?_)
    refine tbind (implRec t) (fun o9 h9 => ?_)
    refine tbind (specRec t) (fun o12 h12 => ?_)
    have he : o9 = o12 := h9.trans h12.symm
    subst he
    rw [like_self o9.1 (by have := recov_len h9; omega)]
    simp
    exact ⟨_, rfl, rfl⟩
  | true =>
    simp only [Bool.and_eq_true, decide_eq_true_eq] at hw
    have hbt : (run.all writable && decide (run.length ≤ 500)) = true := by simp [hw.1, hw.2]
    have i1 : impl_TraceText run = some (textAt 1 run, 0) := by
      unfold impl_TraceText; rw [isWritable_eq run (by omega), hbt, impl_trace hw.1 hw.2]; rfl
    have s1 : spec_TraceText run = some (textAt 1 run, 0) := spec_trace hw.1 hw.2
    have i2 : impl_ChainAfter run = some ((chainAt run run.length : Int), 0) := by
      unfold impl_ChainAfter; rw [isWritable_eq run (by omega), hbt, impl_trace hw.1 hw.2]; rfl
    have s2 := chainAfter_eq hw.1 hw.2
    have hcl := chainAt_lt run run.length
    have htl := text_short run 1 hw.1
    rw [i1, s1, i2, s2]
    simp only [Option.bind_some]
    refine tbind (drawText_tot hc) (fun t _ => ?_)
    refine tbind (implRec t) (fun o9 h9 => ?_)
    refine tbind (specRec t) (fun o12 h12 => ?_)
    have he : o9 = o12 := h9.trans h12.symm
    subst he
    rw [like_self o9.1 (by have := recov_len h9; omega)]
    simp only [bne_self_eq_false, Bool.or_self, beq_self_eq_true, Bool.not_true, Option.bind_some, cond_false]
    refine tbind (roll_tot hc.2 2801) (fun d hd => ?_)
    rw [wrap64 (by omega) (by omega)]
    refine tbind (below_tot hc (d := ⟨code, d.i, d.h_v⟩) rfl ⟨by rw [hd.2]; exact Int.le_refl 0, by rw [hd.2]; simp⟩ (by omega)) (fun o19 h19 => ?_)
    refine tbind (count_loop _ o19 (by simp only; omega) h19.1.1 (by simp only; omega)) (fun o20 h20 => ?_)
    simp only at h20
    have hsh : ¬ (textAt 1 run).length > 20000 := by omega
    have hf0 : (found (textAt 1 run)).1 = renum [] run := by
      have := found_run (w := []) (by simp) hw.1 hw.2
      rwa [List.append_nil] at this
    refine tbind (implRec (textAt 1 run)) (fun o25 h25 => ?_)
    unfold recov at h25
    rw [if_neg hsh, hf0] at h25
    refine tbind (tsub (Int.le_refl 0) h19.1.1 (by omega)) (fun z28 h28 => ?_)
    obtain ⟨k, w, hk, e1, hnw, hck⟩ := cut_text run 1 o19.1.toNat hw.1
    have e28 : z28 = (textAt 1 run).take o19.1.toNat := by rw [h28]; simp
    have hwr : (run.take k).all writable = true := List.all_eq_true.2 fun x hx => List.all_eq_true.1 hw.1 x (List.mem_of_mem_take hx)
    have hf1 : (found z28).1 = renum [] (run.take k) := by
      rw [e28, e1]
      exact found_run hnw hwr (by rw [List.length_take]; omega)
    have hz28 : ¬ z28.length > 20000 := by rw [e28, List.length_take]; omega
    refine tbind (implRec z28) (fun o29 h29 => ?_)
    unfold recov at h29
    rw [if_neg hz28, hf1] at h29
    have hl25 : o25.1.length = run.length := by rw [h25]; show (renum [] run).length = _; rw [renum_len]; simp
    have ho20 : o20 = (k : Int) := by rw [h20, hck]
    refine tbind (p := fun z : Bool => z = false) ?_ (fun z hz => ?_)
    · have hc0 : (((o25.2 != 0) || (o29.2 != 0)) || ((List.length o25.1 : Int) != (List.length run : Int))) = false := by
        rw [hl25, h25, h29]; simp
      rw [hc0, cond_false]
      refine tbind (tsub (Int.le_refl 0) (by omega) (by omega)) (fun z33 h33 => ?_)
      have hr := renum_take run [] k
      have e33 : z33 = o29.1 := by
        rw [h33, h25, h29, ho20]
        simp only [List.length_nil, Nat.zero_add] at hr
        simp [hr]
      rw [e33, like_self o29.1 (by rw [h29]; show (renum [] (run.take k)).length ≤ _; rw [renum_len, List.length_take]; simp; omega)]
      exact tsome rfl
    · subst hz
      refine tbind (same_loop run o25 hw.2 (by rw [h25])) (fun o37 h37 => ?_)
      subst h37
      refine tsome ?_
      rw [decide_eq_true (by omega : (chainAt run run.length : Int) ≥ 0), decide_eq_true (by omega : (chainAt run run.length : Int) < 9973)]
      rfl
end Go.Proofs.YtneifoepoccjaaaGreatDoor
