/-
  A statement whose order of evaluation is open, in plain words: some operations in front may come in any order that their edges allow; each of them is met once, whatever has come before; what follows comes in the order of the text. No program in sight.
-/
import Derived.Test.YtneifoepoccjaaaGreatDoorV5
namespace Go.Proofs.YtneifoepoccjaaaGreatDoor

/-- What an operation of the open part yields: said of the values 'vals' (by the operations' places). -/
structure Free where
  sc : List Nat
  ok : (Nat → Value) → Prop
  fr : (Nat → Value) → List Item
  fo : (Nat → Value) → List Item
def det (i : Nat) (v : Value) : Free := ⟨[i], fun vals => vals i = v, fun _ => [], fun _ => []⟩
def mask (sc : List Nat) (vals : Nat → Value) (j : Nat) : Value := cond (sc.elem j) (vals j) undef
def Free.OK (f : Free) (vals : Nat → Value) : Prop := f.ok (mask f.sc vals)
def Free.FR (f : Free) (vals : Nat → Value) : List Item := f.fr (mask f.sc vals)
def Free.FO (f : Free) (vals : Nat → Value) : List Item := f.fo (mask f.sc vals)
def upd (vals : Nat → Value) (i : Nat) (v : Value) (j : Nat) : Value := cond (Nat.beq j i) v (vals j)
theorem mask_upd {sc : List Nat} {vals : Nat → Value} {i : Nat} {v : Value} (h : sc.elem i = false) : mask sc (upd vals i v) = mask sc vals := by
  funext j
  unfold mask upd
  cases hj : Nat.beq j i with
  | true =>
    have e : j = i := Nat.eq_of_beq_eq_true hj
    subst e
    rw [h]; rfl
  | false => rfl
theorem Free.OK_upd {f : Free} {vals : Nat → Value} {i : Nat} {v : Value} (h : f.sc.elem i = false) : f.OK (upd vals i v) = f.OK vals := by unfold Free.OK; rw [mask_upd h]
theorem Free.FR_upd {f : Free} {vals : Nat → Value} {i : Nat} {v : Value} (h : f.sc.elem i = false) : f.FR (upd vals i v) = f.FR vals := by unfold Free.FR; rw [mask_upd h]
theorem Free.FO_upd {f : Free} {vals : Nat → Value} {i : Nat} {v : Value} (h : f.sc.elem i = false) : f.FO (upd vals i v) = f.FO vals := by unfold Free.FO; rw [mask_upd h]

def dstOf (ops : Array Oper) (i : Nat) : Option Nat := (ops[i]?).bind (·.dst)
def entOf (d : Option Nat) (v : Value) : Slots := match d with | some d => [(d, v)] | none => []
def entL (ops : Array Oper) (vals : Nat → Value) : List Nat → Slots
  | [] => []
  | i :: r => entOf (dstOf ops i) (vals i) ++ entL ops vals r
def frL (sp : Nat → Free) (vals : Nat → Value) : List Nat → List Item
  | [] => []
  | i :: r => (sp i).FR vals ++ frL sp vals r
def foL (sp : Nat → Free) (vals : Nat → Value) : List Nat → List Item
  | [] => []
  | i :: r => (sp i).FO vals ++ foL sp vals r

def optIs (d : Option Nat) (t : Nat) : Bool := match d with | some d => Nat.beq d t | none => false
theorem lk_mem {t : Nat} {v : Value} : ∀ {E : Slots}, lk E t = some v → ∃ p, p ∈ E ∧ p.1 = t
  | [], h => by cases h
  | (k, u) :: r, h => by
    simp only [lk] at h
    cases hb : Nat.beq k t with
    | true => exact ⟨(k, u), by simp, Nat.eq_of_beq_eq_true hb⟩
    | false =>
      rw [hb] at h
      obtain ⟨p, h1, h2⟩ := lk_mem (E := r) h
      exact ⟨p, List.mem_cons_of_mem _ h1, h2⟩
theorem lk_append {E1 E2 : Slots} {t : Nat} : lk (E1 ++ E2) t = match lk E1 t with | some v => some v | none => lk E2 t := by
  induction E1 with
  | nil => rfl
  | cons p r ih =>
    obtain ⟨k, v⟩ := p
    simp only [List.cons_append, lk]
    cases Nat.beq k t with
    | true => rfl
    | false => exact ih

theorem lk_entL {ops : Array Oper} {vals : Nat → Value} {t : Nat} {v : Value} : ∀ {hs : List Nat}, lk (entL ops vals hs) t = some v → ∃ i, i ∈ hs ∧ dstOf ops i = some t ∧ vals i = v
  | [], h => by cases h
  | i :: r, h => by
    simp only [entL] at h
    rw [lk_append] at h
    cases hd : dstOf ops i with
    | none =>
      rw [hd] at h
      obtain ⟨j, h1, h2, h3⟩ := lk_entL (hs := r) h
      exact ⟨j, List.mem_cons_of_mem _ h1, h2, h3⟩
    | some d =>
      rw [hd] at h
      simp only [entOf, lk] at h
      cases hb : Nat.beq d t with
      | true =>
        rw [hb] at h
        have e : d = t := Nat.eq_of_beq_eq_true hb
        subst e
        exact ⟨i, List.mem_cons_self .., hd, by simpa using h⟩
      | false =>
        rw [hb] at h
        obtain ⟨j, h1, h2, h3⟩ := lk_entL (hs := r) h
        exact ⟨j, List.mem_cons_of_mem _ h1, h2, h3⟩
theorem lk_entL_mem {ops : Array Oper} {vals : Nat → Value} {t i : Nat} : ∀ {hs : List Nat}, i ∈ hs → dstOf ops i = some t → (lk (entL ops vals hs) t).isSome
  | j :: r, hi, hd => by
    simp only [entL]
    rw [lk_append]
    rcases List.mem_cons.1 hi with rfl | hi
    · rw [hd]
      simp [entOf, lk, Nat.beq_refl]
    · have := lk_entL_mem (ops := ops) (vals := vals) hi hd
      split
      · rfl
      · exact this

theorem Owns.permR {w : World} {S : Nat → Prop} {Rs Rs' : List Item} (hp : Rs.Perm Rs') : ∀ {F : List Nat}, Owns w S Rs F → ∃ G, F.Perm G ∧ Owns w S Rs' G := by
  induction hp with
  | nil => exact fun h => ⟨_, List.Perm.refl _, h⟩
  | cons r _ ih =>
    intro F ⟨F1, F2, e, h1, h2⟩
    obtain ⟨G, g1, g2⟩ := ih h2
    exact ⟨F1 ++ G, e ▸ List.Perm.append_left F1 g1, F1, G, rfl, h1, g2⟩
  | swap r r' l =>
    intro F ⟨F1, F2, e, h1, F3, F4, e', h2, h3⟩
    refine ⟨F3 ++ (F1 ++ F4), ?_, F3, F1 ++ F4, rfl, h2, F1, F4, rfl, h1, h3⟩
    rw [e, e', ← List.append_assoc, ← List.append_assoc]
    exact List.Perm.append_right F4 List.perm_append_comm
  | trans _ _ ih1 ih2 =>
    intro F h
    obtain ⟨G, g1, g2⟩ := ih1 h
    obtain ⟨G', g3, g4⟩ := ih2 g2
    exact ⟨G', g1.trans g3, g4⟩
theorem St.permR {c : Ctx} {w : World} {Rs Rs' Xs Os Vs : List Item} (hp : Rs.Perm Rs') (h : St c w Rs Xs Os Vs) : St c w Rs' Xs Os Vs := by
  obtain ⟨F, h⟩ := h
  obtain ⟨G, g1, g2⟩ := Owns.permR hp h.owns
  exact ⟨G, h.perm g1 g2⟩

/-- The regions that operations change one after the other: behind k of them. -/
def RKm (eff : List Nat) (RK : Nat → (Nat → Value) → List Item) (k : Nat) (vals : Nat → Value) : List Item := RK k (mask (eff.take k) vals)
theorem RKm_upd {eff : List Nat} {RK : Nat → (Nat → Value) → List Item} {k : Nat} {vals : Nat → Value} {i : Nat} {v : Value} (h : i ∉ eff) : RKm eff RK k (upd vals i v) = RKm eff RK k vals := by
  unfold RKm
  rw [mask_upd]
  cases he : (eff.take k).elem i with
  | false => rfl
  | true => exact absurd (List.mem_of_mem_take (by simpa using he)) h
/-- What is asked of the region and of the names that are given. -/
def chkDraw (ops : Array Oper) (m : Nat) (D : Nat → List Nat) (eff : List Nat) (sp : Nat → Free) : Bool :=
  Nat.ble m ops.size &&
  (List.range ops.size).all (fun i => match ops[i]? with
    | some o => o.after.toList.all (fun e => !Region.binds .any e || Nat.blt e.on i) &&
        (cond (Nat.blt i m) ((D i).all fun j => Nat.blt j i && o.after.toList.any fun e => Region.binds .any e && (Nat.beq e.on j || (D e.on).elem j))
          ((List.range i).all fun j => o.after.toList.any fun e => Region.binds .any e && (Nat.beq e.on j || (Nat.blt e.on m && (D e.on).elem j) || (Nat.ble m e.on && Nat.ble j e.on))))
    | none => false) &&
  (List.range m).all (fun i => (List.range m).all fun j => Nat.beq i j || (match dstOf ops i, dstOf ops j with | some a, some b => !Nat.beq a b | _, _ => true)) &&
  (List.range m).all (fun i => (sp i).sc.all fun j => Nat.beq j i || (D i).elem j) &&
  (List.range eff.length).all (fun k => match eff[k]? with | some i => Nat.blt i m && (eff.take k).all (D i).elem && !(eff.take k).elem i | none => false)

def AllUp (p : Nat → Prop) : Nat → Prop
  | 0 => True
  | k + 1 => AllUp p k ∧ p k
theorem AllUp.get {p : Nat → Prop} : ∀ {m i : Nat}, AllUp p m → i < m → p i
  | m + 1, i, ⟨h1, h2⟩, hi => by
    rcases Nat.lt_or_ge i m with h | h
    · exact AllUp.get h1 h
    · have e : i = m := by omega
      subst e; exact h2

section
variable (P : Program) (c : Ctx) (n : Nat) (ops : Array Oper) (D : Nat → List Nat) (sp : Nat → Free) (EE : Nat → Slots) (Rs0 Xs Os0 Vs0 : List Item) (RK : Nat → (Nat → Value) → List Item)
/-- Behind one operation of the open part. -/
def FP (i : Nat) (vals : Nat → Value) (RB : Value → List Item) (RA O' : List Item) (e : Exit) (a : Act) (w : World) : Prop :=
  e = .normal ∧ a.defers = [] ∧ ∃ v, (∀ d, dstOf ops i = some d → Nat.blt d n = true ∧ a.tmps[d]? = some v) ∧ (sp i).OK (upd vals i v) ∧ St c w (RB v ++ ((sp i).FR (upd vals i v) ++ RA)) Xs ((sp i).FO (upd vals i v) ++ O') Vs0
/-- What is shown of an operation of the open part: a free one; one of those that write, in their order. -/
def Obl (eff : List Nat) (i : Nat) : Prop := match ops[i]?, eff.idxOf? i with
  | none, _ => True
  | some o, none => ∀ vals E' R' O', (∀ j, j ∈ D i → (sp j).OK vals) →
      GL P c n ops (FP c n ops sp Xs Vs0 i vals (fun _ => []) R' O') [o] (entL ops vals (D i) ++ (EE i ++ E')) R' Xs (foL sp vals (D i) ++ (Os0 ++ O')) (frL sp vals (D i) ++ (Rs0 ++ Vs0))
  | some o, some k => ∀ vals E' R' O', (∀ j, j ∈ D i → (sp j).OK vals) → (∀ it, it ∈ frL sp vals (D i) ++ Rs0 → it ∈ R') →
      GL P c n ops (FP c n ops sp Xs Vs0 i vals (fun v => RKm eff RK (k + 1) (upd vals i v)) R' O') [o] (entL ops vals (D i) ++ (EE i ++ E')) (RKm eff RK k vals ++ R') Xs (foL sp vals (D i) ++ (Os0 ++ O')) (frL sp vals (D i) ++ Rs0)
end

section
variable {P : Program} {c : Ctx} {n : Nat} {ops : Array Oper} {Q : Exit → Act → World → Prop}

theorem op_of_list {Q1 : Exit → Act → World → Prop} {K : Act → World → Prop} {i : Nat} {o : Oper} {a : Act} {w : World} (hi : ops[i]? = some o) (_ha : a.defers = []) (h : wpList P ops Q1 [o] a w) (hn : ∀ e a w, Q1 e a w → e = .normal ∧ a.defers = []) (hk : ∀ v w, Q1 .normal (a.put o.dst v) w → K (a.put o.dst v) w) : wpOp P ops Q i K a w := by
  unfold wpOp
  simp only [hi]
  simp only [wpList] at h
  split at h
  · rename_i hw
    rw [if_pos hw]
    rcases h with h | ⟨_, a0, w0, h2⟩
    · refine Or.inl ?_
      unfold Oper.wp at h ⊢
      generalize (execOp a.eval o).run P w = r at *
      cases r with
      | ok nx w' =>
        cases nx <;> simp only [Oper.upon] at h ⊢ <;> try first | exact hk _ _ h | exact h
        · exact Calls.mono h (fun e w'' he => by cases e with
            | returned v => exact hk _ _ he
            | panicked ch => cases (hn _ _ _ he).1
            | outgrown =>
              obtain ⟨a1, w1, h1⟩ := he
              cases (hn _ _ _ h1).1)
        · have := (hn _ _ _ h).2
          exfalso
          cases hd : o.dst <;> simp [Act.put, hd] at this
        · exact Rows.mono h (fun v w'' he => hk _ _ he)
      | halt x w' => cases x <;> simp only [Oper.upon] at h ⊢ <;> first | (cases (hn _ _ _ h).1; done) | exact h
    · cases (hn _ _ _ h2).1
  · rename_i hw
    rw [if_neg hw]
    exact hk _ _ h

theorem ready_spec {listed : Array Bool} {i : Nat} : i ∈ Region.ready .any ops listed ↔ i < ops.size ∧ listed.getD i true = false ∧ ∃ o, ops[i]? = some o ∧ ∀ e, e ∈ o.after.toList → Region.binds .any e = true → listed.getD e.on false = true := by
  unfold Region.ready
  rw [List.mem_filter, List.mem_range]
  constructor
  · rintro ⟨h1, h2⟩
    rw [Bool.and_eq_true] at h2
    cases ho : ops[i]? with
    | none => rw [ho] at h2; simp at h2
    | some o =>
      rw [ho] at h2
      refine ⟨h1, by simpa using h2.1, o, rfl, fun e he hb => ?_⟩
      have := h2.2
      simp only [Option.map_some, Option.getD_some, Array.all_eq_true_iff_forall_mem] at this
      have := this e (by simpa using he)
      rw [hb] at this
      simpa using this
  · rintro ⟨h1, h2, o, ho, h3⟩
    refine ⟨h1, ?_⟩
    rw [h2, ho]
    simp only [Bool.not_false, Bool.true_and, Option.map_some, Option.getD_some, Array.all_eq_true_iff_forall_mem]
    intro e he
    cases hb : Region.binds .any e with
    | false => rfl
    | true => simpa using h3 e (by simpa using he) hb

/-- The tail, in the order of the text. -/
theorem tail_any {m : Nat} {D : Nat → List Nat} (hDlt : ∀ i, i < m → ∀ j, j ∈ D i → j < i) (hedge : ∀ i o, ops[i]? = some o → ∀ e, e ∈ o.after.toList → Region.binds .any e = true → e.on < i) (hall : ∀ i o, m ≤ i → ops[i]? = some o → ∀ j, j < i → ∃ e, e ∈ o.after.toList ∧ Region.binds .any e = true ∧ (e.on = j ∨ (e.on < m ∧ j ∈ D e.on) ∨ (m ≤ e.on ∧ j ≤ e.on))) :
    ∀ (fuel t : Nat) (listed : Array Bool) (a : Act) (w : World), listed.size = ops.size → (∀ i, i < ops.size → listed[i]? = some (decide (i < t))) → m ≤ t → fuel + t = ops.size → wpList P ops Q (ops.toList.drop t) a w → wpAny P .any ops Q fuel listed a w := by
  intro fuel
  have nr : ∀ (t : Nat) (listed : Array Bool), listed.size = ops.size → (∀ i, i < ops.size → listed[i]? = some (decide (i < t))) → m ≤ t → ∀ i, i ∈ Region.ready .any ops listed → i = t := by
    intro t listed hsz hl hm i hi
    obtain ⟨h1, h2, o, ho, h3⟩ := ready_spec.1 hi
    have hit : ¬ i < t := by
      intro hlt
      have := hl i h1
      rw [Array.getD_eq_getD_getElem?, this] at h2
      simp [hlt] at h2
    rcases Nat.lt_or_ge t i with hlt | hge
    · obtain ⟨e, he, hb, hon⟩ := hall i o (by omega) ho t hlt
      have := h3 e he hb
      have hei := hedge i o ho e he hb
      have het : ¬ e.on < t := by
        rcases hon with hon | hon | hon
        · omega
        · have := hDlt e.on hon.1 t hon.2; omega
        · omega
      rw [Array.getD_eq_getD_getElem?, hl e.on (by omega)] at this
      simp [het] at this
    · omega
  induction fuel with
  | zero =>
    intro t listed a w hsz hl hm hf h
    have ht : t = ops.size := by omega
    refine ⟨?_, ?_⟩
    · cases hr : Region.ready .any ops listed with
      | nil => rfl
      | cons x xs =>
        have hx : x ∈ Region.ready .any ops listed := by rw [hr]; simp
        have := nr t listed hsz hl hm x hx
        have := (ready_spec.1 hx).1
        omega
    · rw [ht, List.drop_of_length_le (by simp)] at h
      exact h
  | succ fuel ih =>
    intro t listed a w hsz hl hm hf h
    have hts : t < ops.size := by omega
    have hot : ops[t]? = some ops[t] := by simp [hts]
    refine ⟨fun hr => ?_, fun i hi => ?_⟩
    · have : t ∈ Region.ready .any ops listed := by
        refine ready_spec.2 ⟨hts, by rw [Array.getD_eq_getD_getElem?, hl t hts]; simp, _, hot, fun e he hb => ?_⟩
        have := hedge t _ hot e he hb
        rw [Array.getD_eq_getD_getElem?, hl e.on (by omega)]
        simp [this]
      rw [hr] at this; cases this
    · have e := nr t listed hsz hl hm i hi
      subst e
      have hd : ops.toList.drop i = ops[i] :: ops.toList.drop (i + 1) := by
        rw [List.drop_eq_getElem_cons (by simpa using hts)]
        simp
      rw [hd] at h
      unfold wpOp
      simp only [hot]
      simp only [wpList] at h
      have hl' : ∀ j, j < ops.size → (listed.setIfInBounds i true)[j]? = some (decide (j < i + 1)) := by
        intro j hj
        rw [Array.getElem?_setIfInBounds]
        by_cases hij : i = j
        · subst hij; simp [hsz, hts]
        · rw [if_neg hij, hl j hj]
          congr 1
          simp only [decide_eq_decide]
          omega
      split at h
      · rename_i hw
        rw [if_pos hw]
        exact h.imp (fun h => Oper.wp_mono (fun a w => ih (i + 1) _ a w (by simp [hsz]) hl' (by omega) (by omega)) h) id
      · rename_i hw
        rw [if_neg hw]
        exact ih (i + 1) _ _ w (by simp [hsz]) hl' (by omega) (by omega) h
end

theorem frL_mem {sp : Nat → Free} {vals : Nat → Value} {it : Item} : ∀ {l : List Nat}, it ∈ frL sp vals l ↔ ∃ j, j ∈ l ∧ it ∈ (sp j).FR vals
  | [] => by simp [frL]
  | i :: r => by simp [frL, frL_mem (l := r)]
theorem foL_mem {sp : Nat → Free} {vals : Nat → Value} {it : Item} : ∀ {l : List Nat}, it ∈ foL sp vals l ↔ ∃ j, j ∈ l ∧ it ∈ (sp j).FO vals
  | [] => by simp [foL]
  | i :: r => by simp [foL, foL_mem (l := r)]
theorem entL_upd {ops : Array Oper} {vals : Nat → Value} {i : Nat} {v : Value} : ∀ {l : List Nat}, i ∉ l → entL ops (upd vals i v) l = entL ops vals l
  | [], _ => rfl
  | j :: r, h => by
    have hj : Nat.beq j i = false := by
      cases hb : Nat.beq j i with
      | true => exact absurd (Nat.eq_of_beq_eq_true hb) (fun e => h (by rw [e]; simp))
      | false => rfl
    have e : upd vals i v j = vals j := by simp [upd, hj]
    simp only [entL, e]
    rw [entL_upd (fun h' => h (List.mem_cons_of_mem _ h'))]
theorem frL_upd {sp : Nat → Free} {vals : Nat → Value} {i : Nat} {v : Value} : ∀ {l : List Nat}, (∀ j, j ∈ l → (sp j).sc.elem i = false) → frL sp (upd vals i v) l = frL sp vals l
  | [], _ => rfl
  | j :: r, h => by
    simp only [frL]
    rw [Free.FR_upd (h j (by simp)), frL_upd (fun j' h' => h j' (List.mem_cons_of_mem _ h'))]
theorem foL_upd {sp : Nat → Free} {vals : Nat → Value} {i : Nat} {v : Value} : ∀ {l : List Nat}, (∀ j, j ∈ l → (sp j).sc.elem i = false) → foL sp (upd vals i v) l = foL sp vals l
  | [], _ => rfl
  | j :: r, h => by
    simp only [foL]
    rw [Free.FO_upd (h j (by simp)), foL_upd (fun j' h' => h j' (List.mem_cons_of_mem _ h'))]
theorem upd_self {vals : Nat → Value} {i : Nat} {v : Value} : upd vals i v i = v := by simp [upd, Nat.beq_refl]

/-- The state in the open part: which operations have come, in which order, what they have yielded, how far those that write have come. -/
def JD (c : Ctx) (n : Nat) (ops : Array Oper) (m : Nat) (D : Nat → List Nat) (sp : Nat → Free) (eff : List Nat) (RK : Nat → (Nat → Value) → List Item) (E0 : Slots) (Rs0 Xs Os0 Vs0 : List Item) (hist : List Nat) (a : Act) (w : World) : Prop :=
  ∃ (vals : Nat → Value) (k : Nat), (∀ i, i ∈ hist → i < m) ∧ hist.Nodup ∧ (∀ i, i ∈ hist → ∀ j, j ∈ D i → j ∈ hist) ∧ (∀ i, i ∈ hist → (sp i).OK vals) ∧
    k ≤ eff.length ∧ (∀ (j i : Nat), eff[j]? = some i → (i ∈ hist ↔ j < k)) ∧ Env a n (entL ops vals hist ++ E0) ∧ St c w (RKm eff RK k vals ++ (frL sp vals hist ++ Rs0)) Xs (foL sp vals hist ++ Os0) Vs0

theorem nodup_bound : ∀ (m : Nat) {l : List Nat}, l.Nodup → (∀ i, i ∈ l → i < m) → l.length ≤ m
  | 0, l, _, hb => by
    cases l with
    | nil => exact Nat.le_refl _
    | cons x r => have := hb x (by simp); omega
  | m + 1, l, hn, hb => by
    by_cases hm : m ∈ l
    · have h1 := nodup_bound m (hn.erase m) (fun i hi => by
        have h2 := (List.Nodup.mem_erase_iff hn).1 hi
        have := hb i h2.2
        have := h2.1
        omega)
      rw [List.length_erase_of_mem hm] at h1
      omega
    · have h1 := nodup_bound m hn (fun i hi => by
        have := hb i hi
        have : i ≠ m := fun e => hm (e ▸ hi)
        omega)
      omega

theorem draw_env {n : Nat} {ops : Array Oper} {m : Nat} {E0 Ei : Slots} {a : Act} {hist l' : List Nat} {vals : Nat → Value}
    (hdd : ∀ i j d, i < m → j < m → dstOf ops i = some d → dstOf ops j = some d → i = j) (hEi : ∀ t v, lk Ei t = some v → lk E0 t = some v ∧ ∀ j, j ∈ hist → dstOf ops j ≠ some t) (h1 : ∀ i, i ∈ hist → i < m)
    (h7 : Env a n (entL ops vals hist ++ E0)) (hdep : ∀ j, j ∈ l' → j ∈ hist) : Env a n (entL ops vals l' ++ (Ei ++ (entL ops vals hist ++ E0))) := by
    refine ⟨h7.1, h7.2.1, fun t v hv => ?_⟩
    rw [lk_append] at hv
    cases hl : lk (entL ops vals l') t with
    | some u =>
      rw [hl] at hv
      have e : u = v := by simpa using hv
      subst e
      obtain ⟨j, hj, hd, hjv⟩ := lk_entL hl
      refine h7.2.2 t u ?_
      rw [lk_append]
      have hs := lk_entL_mem (ops := ops) (vals := vals) (hdep j hj) hd
      cases hl2 : lk (entL ops vals hist) t with
      | none => rw [hl2] at hs; cases hs
      | some u' =>
        obtain ⟨j', hj', hd', hjv'⟩ := lk_entL hl2
        have e := hdd j j' t (h1 j (hdep j hj)) (h1 j' hj') hd hd'
        subst e
        simp [← hjv, ← hjv']
    | none =>
      rw [hl] at hv
      simp only at hv
      rw [lk_append] at hv
      cases hl2 : lk Ei t with
      | none =>
        rw [hl2] at hv
        exact h7.2.2 t v hv
      | some u =>
        rw [hl2] at hv
        have e : u = v := by simpa using hv
        subst e
        obtain ⟨g1, g2⟩ := hEi t u hl2
        refine h7.2.2 t u ?_
        rw [lk_append]
        cases hl3 : lk (entL ops vals hist) t with
        | none => exact g1
        | some u' =>
          obtain ⟨j', hj', hd', _⟩ := lk_entL hl3
          exact absurd hd' (g2 j' hj')
theorem frL_perm {sp : Nat → Free} {vals : Nat → Value} {l l' : List Nat} (h : l.Perm l') : (frL sp vals l).Perm (frL sp vals l') := by
  induction h with
  | nil => exact List.Perm.refl _
  | cons x _ ih => exact List.Perm.append_left _ ih
  | swap x y l => exact List.perm_append_comm_assoc _ _ _
  | trans _ _ ih1 ih2 => exact ih1.trans ih2

theorem put_env {n : Nat} {E : Slots} {a : Act} {o : Oper} {i : Nat} {v0 v : Value} {ops : Array Oper} (hE : Env a n E) (ho : ops[i]? = some o) (h : ∀ d, dstOf ops i = some d → Nat.blt d n = true ∧ (a.put o.dst v0).tmps[d]? = some v) : Env (a.put o.dst v0) n (entOf (dstOf ops i) v ++ E) := by
  have hd : dstOf ops i = o.dst := by simp [dstOf, ho]
  rw [hd] at h ⊢
  cases hdst : o.dst with
  | none => simpa [entOf, Act.put] using hE
  | some d =>
    obtain ⟨h1, h2⟩ := h d hdst
    rw [hdst] at h2
    have h3 := hE.put h1 v0
    have h4 := h3.2.2 d v0 (by simp [lk, Nat.beq_refl])
    rw [h2] at h4
    have e : v = v0 := by simpa using h4
    subst e
    exact h3

theorem draw_step {P : Program} {c : Ctx} {n : Nat} {ops : Array Oper} {Q : Exit → Act → World → Prop} {m : Nat} {D : Nat → List Nat} {sp : Nat → Free} {eff : List Nat} {RK : Nat → (Nat → Value) → List Item} {EE : Nat → Slots} {E0 : Slots} {Rs0 Xs Os0 Vs0 : List Item}
    (hdd : ∀ i j d, i < m → j < m → dstOf ops i = some d → dstOf ops j = some d → i = j)
    (hsc : ∀ i, i < m → ∀ j, j ∈ (sp i).sc → j = i ∨ j ∈ D i) (heff : ∀ (k i : Nat), eff[k]? = some i → i < m ∧ ∀ (j i' : Nat), j < k → eff[j]? = some i' → i' ∈ D i ∧ i' ≠ i) (hV : eff = [] ∨ Vs0 = [])
    (hEE : ∀ i, i < m → ∀ t v, lk (EE i) t = some v → lk E0 t = some v ∧ ∀ j, j < m → dstOf ops j = some t → i ∈ D j)
    (hop : AllUp (Obl P c n ops D sp EE Rs0 Xs Os0 Vs0 RK eff) m) {hist : List Nat} {a : Act} {w : World} (hJ : JD c n ops m D sp eff RK E0 Rs0 Xs Os0 Vs0 hist a w)
    {i : Nat} {o : Oper} (ho : ops[i]? = some o) (hi : i < m) (hni : i ∉ hist) (hdep : ∀ j, j ∈ D i → j ∈ hist) {K : Act → World → Prop}
    (hK : ∀ a' w', JD c n ops m D sp eff RK E0 Rs0 Xs Os0 Vs0 (i :: hist) a' w' → K a' w') : wpOp P ops Q i K a w := by
  obtain ⟨vals, k, h1, h2, h3, h4, h5, h6, h7, h8⟩ := hJ
  have hob := AllUp.get hop hi
  unfold Obl at hob
  rw [ho] at hob
  have hsci : ∀ j, j ∈ hist → (sp j).sc.elem i = false := by
    intro j hj
    cases he : (sp j).sc.elem i with
    | false => rfl
    | true =>
      have hm : i ∈ (sp j).sc := by simpa using he
      rcases hsc j (h1 j hj) i hm with e | e
      · exact absurd (e ▸ hj) hni
      · exact absurd (h3 j hj i e) hni
  have hEnv := draw_env (l' := D i) (Ei := EE i) hdd (fun t v hv => ⟨(hEE i hi t v hv).1, fun j hj hd => hni (h3 j hj i ((hEE i hi t v hv).2 j (h1 j hj) hd))⟩) h1 h7 hdep
  have hfo : ∀ it, it ∈ foL sp vals (D i) ++ (Os0 ++ (foL sp vals hist ++ Os0)) → it ∈ (foL sp vals hist ++ Os0) ++ Xs := by
    intro it hit
    refine List.mem_append.2 (Or.inl ?_)
    rcases List.mem_append.1 hit with hit | hit
    · obtain ⟨j, hj, hjt⟩ := foL_mem.1 hit
      exact List.mem_append.2 (Or.inl (foL_mem.2 ⟨j, hdep j hj, hjt⟩))
    · rcases List.mem_append.1 hit with hit | hit
      · exact List.mem_append.2 (Or.inr hit)
      · exact hit
  have hfr : ∀ it, it ∈ frL sp vals (D i) ++ Rs0 → it ∈ frL sp vals hist ++ Rs0 := by
    intro it hit
    rcases List.mem_append.1 hit with hit | hit
    · obtain ⟨j, hj, hjt⟩ := frL_mem.1 hit
      exact List.mem_append.2 (Or.inl (frL_mem.2 ⟨j, hdep j hj, hjt⟩))
    · exact List.mem_append.2 (Or.inr hit)
  have hok : ∀ j, j ∈ D i → (sp j).OK vals := fun j hj => h4 j (hdep j hj)
  -- what comes after, put together
  have fin : ∀ (v : Value) (k' : Nat) (a' : Act) (w' : World), k' ≤ eff.length → (∀ (j i' : Nat), eff[j]? = some i' → (i' ∈ i :: hist ↔ j < k')) → Env a' n (entOf (dstOf ops i) v ++ (entL ops vals hist ++ E0)) → (sp i).OK (upd vals i v) →
      St c w' (RKm eff RK k' (upd vals i v) ++ ((sp i).FR (upd vals i v) ++ (frL sp vals hist ++ Rs0))) Xs ((sp i).FO (upd vals i v) ++ (foL sp vals hist ++ Os0)) Vs0 → JD c n ops m D sp eff RK E0 Rs0 Xs Os0 Vs0 (i :: hist) a' w' := by
    intro v k' a' w' g1 g2 g3 g4 g5
    refine ⟨upd vals i v, k', ?_, List.nodup_cons.2 ⟨hni, h2⟩, ?_, ?_, g1, g2, ?_, ?_⟩
    · intro j hj
      rcases List.mem_cons.1 hj with rfl | hj
      · exact hi
      · exact h1 j hj
    · intro j hj j' hj'
      rcases List.mem_cons.1 hj with rfl | hj
      · exact List.mem_cons_of_mem _ (hdep j' hj')
      · exact List.mem_cons_of_mem _ (h3 j hj j' hj')
    · intro j hj
      rcases List.mem_cons.1 hj with rfl | hj
      · exact g4
      · rw [Free.OK_upd (hsci j hj)]; exact h4 j hj
    · simp only [entL]
      rw [upd_self, entL_upd hni, List.append_assoc]
      exact g3
    · simp only [frL, foL]
      rw [frL_upd hsci, foL_upd hsci, List.append_assoc, List.append_assoc]
      exact g5
  cases hidx : eff.idxOf? i with
  | none =>
    rw [hidx] at hob
    have hS : St c w (RKm eff RK k vals ++ (frL sp vals hist ++ Rs0)) Xs (foL sp vals (D i) ++ (Os0 ++ (foL sp vals hist ++ Os0))) (frL sp vals (D i) ++ (Rs0 ++ Vs0)) := by
      refine h8.sub (fun _ h => h) hfo (fun it hit => ?_)
      rcases List.mem_append.1 hit with hit | hit
      · exact List.mem_append.2 (Or.inl (List.mem_append.2 (Or.inr (hfr it (List.mem_append.2 (Or.inl hit))))))
      · rcases List.mem_append.1 hit with hit | hit
        · exact List.mem_append.2 (Or.inl (List.mem_append.2 (Or.inr (List.mem_append.2 (Or.inr hit)))))
        · exact List.mem_append.2 (Or.inr (List.mem_append.2 (Or.inl hit)))
    refine op_of_list ho h7.1 (hob vals (entL ops vals hist ++ E0) (RKm eff RK k vals ++ (frL sp vals hist ++ Rs0)) (foL sp vals hist ++ Os0) hok a w hEnv hS) (fun e a w h => ⟨h.1, h.2.1⟩) ?_
    rintro v0 w' ⟨_, _, v, g1, g2, g3⟩
    refine hK _ w' (fin v k _ w' h5 (fun j i' hj => ?_) (put_env h7 ho g1) g2 ?_)
    · rw [List.mem_cons]
      constructor
      · rintro (rfl | h)
        · exact absurd hidx (by rw [List.idxOf?_eq_none_iff]; exact fun h => h (List.mem_of_getElem? hj))
        · exact (h6 j i' hj).1 h
      · exact fun h => Or.inr ((h6 j i' hj).2 h)
    · have hne : i ∉ eff := by
        intro he
        have := List.idxOf?_eq_none_iff.1 hidx
        exact this he
      rw [RKm_upd hne]
      refine St.permR ?_ g3
      rw [List.nil_append]
      exact List.perm_append_comm_assoc _ _ _
  | some j0 =>
    rw [hidx] at hob
    have hj0 : eff[j0]? = some i := by
      have := List.idxOf?_eq_some_iff.1 hidx
      obtain ⟨hlt, he, _⟩ := this
      rw [List.getElem?_eq_getElem hlt]
      simpa using he
    have hk0 : k = j0 := by
      rcases Nat.lt_trichotomy k j0 with hlt | e | hgt
      · have hke : k < eff.length := by have := (List.getElem?_eq_some_iff.1 hj0).1; omega
        have hek : eff[k]? = some eff[k] := List.getElem?_eq_getElem hke
        have := (heff j0 i hj0).2 k _ hlt hek
        have h9 := (h6 k _ hek).1 (hdep _ this.1)
        omega
      · exact e
      · exact absurd ((h6 j0 i hj0).2 hgt) hni
    subst hk0
    have hV0 : Vs0 = [] := hV.resolve_left (fun e => by rw [e] at hj0; simp at hj0)
    have hS : St c w (RKm eff RK k vals ++ (frL sp vals hist ++ Rs0)) Xs (foL sp vals (D i) ++ (Os0 ++ (foL sp vals hist ++ Os0))) (frL sp vals (D i) ++ Rs0) := by
      refine h8.sub (fun _ h => h) hfo (fun it hit => ?_)
      exact List.mem_append.2 (Or.inl (List.mem_append.2 (Or.inr (hfr it hit))))
    refine op_of_list ho h7.1 (hob vals (entL ops vals hist ++ E0) (frL sp vals hist ++ Rs0) (foL sp vals hist ++ Os0) hok hfr a w hEnv hS) (fun e a w h => ⟨h.1, h.2.1⟩) ?_
    rintro v0 w' ⟨_, _, v, g1, g2, g3⟩
    have hlt := (List.getElem?_eq_some_iff.1 hj0).1
    refine hK _ w' (fin v (k + 1) _ w' (by omega) (fun j i' hj => ?_) (put_env h7 ho g1) g2 g3)
    rw [List.mem_cons]
    constructor
    · rintro (rfl | h)
      · rcases Nat.lt_or_ge k j with h' | h'
        · exact absurd rfl ((heff j i' hj).2 k i' h' hj0).2
        · omega
      · have := (h6 j i' hj).1 h; omega
    · intro h
      rcases Nat.lt_or_ge j k with h' | h'
      · exact Or.inr ((h6 j i' hj).2 h')
      · have e : j = k := by omega
        subst e
        rw [hj0] at hj
        exact Or.inl (by simpa using hj.symm)

/-- A STATEMENT WHOSE ORDER IS OPEN. -/
theorem g_drawE {P : Program} {c : Ctx} {n : Nat} {Q : Exit → Act → World → Prop} {E : Slots} {Rs Xs Os Vs : List Item} {id : Nat} {l : List Oper} (m : Nat) (D : Nat → List Nat) (sp : Nat → Free) (eff : List Nat) (RK : Nat → (Nat → Value) → List Item) (EE : Nat → Slots)
    (hm : P.follows .mixedOrders = true) (hchk : chkDraw l.toArray m D eff sp = true) (hV : eff = [] ∨ Vs = [])
    (hEl : ∀ i, i < m → ∀ t v, lk (EE i) t = some v → lk E t = some v) (hEd : ((List.range m).all fun i => (EE i).all fun p => (List.range m).all fun j => !(optIs (dstOf l.toArray j) p.1) || (D j).elem i) = true)
    (hop : AllUp (Obl P c n l.toArray D sp EE Rs Xs Os Vs RK eff) m)
    (hend : ∀ vals, AllUp (fun i => (sp i).OK vals) m → GL P c n l.toArray Q (l.drop m) (entL l.toArray vals (List.range m) ++ E) (RKm eff RK eff.length vals ++ (frL sp vals (List.range m) ++ Rs)) Xs (foL sp vals (List.range m) ++ Os) Vs) :
    G P c n (.region id l.toArray true) Q E (RK 0 (fun _ => undef) ++ Rs) Xs Os Vs := by
  unfold chkDraw at hchk
  simp only [Bool.and_eq_true] at hchk
  obtain ⟨⟨⟨⟨c1, c2⟩, c3⟩, c4⟩, c5⟩ := hchk
  have c1' : m ≤ l.toArray.size := Nat.le_of_ble_eq_true c1
  rw [List.all_eq_true] at c2 c3 c4 c5 hEd
  have hrow : ∀ i o, l.toArray[i]? = some o → (∀ e, e ∈ o.after.toList → Region.binds .any e = true → e.on < i) ∧
      (if i < m then ∀ j, j ∈ D i → j < i ∧ ∃ e, e ∈ o.after.toList ∧ Region.binds .any e = true ∧ (e.on = j ∨ j ∈ D e.on) else ∀ j, j < i → ∃ e, e ∈ o.after.toList ∧ Region.binds .any e = true ∧ (e.on = j ∨ (e.on < m ∧ j ∈ D e.on) ∨ (m ≤ e.on ∧ j ≤ e.on))) := by
    intro i o ho
    have hi : i < l.toArray.size := (Array.getElem?_eq_some_iff.1 ho).1
    have h := c2 i (List.mem_range.2 hi)
    rw [ho] at h
    simp only [Bool.and_eq_true, List.all_eq_true] at h
    refine ⟨fun e he hb => ?_, ?_⟩
    · have h1 := h.1 e he
      rw [hb] at h1
      have h2 : Nat.blt e.on i = true := by simpa using h1
      simp [Nat.blt] at h2
      omega
    · have h2 := h.2
      by_cases him : i < m
      · rw [if_pos him]
        have hbl : Nat.blt i m = true := by simp [Nat.blt]; omega
        rw [hbl] at h2
        simp only [cond_true, List.all_eq_true, Bool.and_eq_true, List.any_eq_true, Bool.or_eq_true] at h2
        intro j hj
        obtain ⟨h3, e, he, hb, hon⟩ := h2 j hj
        exact ⟨by simp [Nat.blt] at h3; omega, e, he, hb, hon.imp Nat.eq_of_beq_eq_true (fun h => by simpa using h)⟩
      · rw [if_neg him]
        have hbl : Nat.blt i m = false := by
          cases hb : Nat.blt i m with
          | false => rfl
          | true => simp [Nat.blt] at hb; omega
        rw [hbl] at h2
        simp only [cond_false, List.all_eq_true, List.any_eq_true, Bool.and_eq_true, Bool.or_eq_true] at h2
        intro j hj
        obtain ⟨e, he, hb, hon⟩ := h2 j (List.mem_range.2 hj)
        refine ⟨e, he, hb, ?_⟩
        rcases hon with (hon | hon) | hon
        · exact Or.inl (Nat.eq_of_beq_eq_true hon)
        · exact Or.inr (Or.inl ⟨by have := hon.1; simp [Nat.blt] at this; omega, by simpa using hon.2⟩)
        · exact Or.inr (Or.inr ⟨Nat.le_of_ble_eq_true hon.1, Nat.le_of_ble_eq_true hon.2⟩)
  have hedge : ∀ i o, l.toArray[i]? = some o → ∀ e, e ∈ o.after.toList → Region.binds .any e = true → e.on < i := fun i o ho => (hrow i o ho).1
  have hall : ∀ i o, m ≤ i → l.toArray[i]? = some o → ∀ j, j < i → ∃ e, e ∈ o.after.toList ∧ Region.binds .any e = true ∧ (e.on = j ∨ (e.on < m ∧ j ∈ D e.on) ∨ (m ≤ e.on ∧ j ≤ e.on)) := fun i o hi ho => by
    have := (hrow i o ho).2
    rwa [if_neg (by omega)] at this
  have hD : ∀ i, i < m → ∀ o, l.toArray[i]? = some o → ∀ j, j ∈ D i → j < i ∧ ∃ e, e ∈ o.after.toList ∧ Region.binds .any e = true ∧ (e.on = j ∨ j ∈ D e.on) := fun i hi o ho => by
    have := (hrow i o ho).2
    rwa [if_pos hi] at this
  have hdd : ∀ i j d, i < m → j < m → dstOf l.toArray i = some d → dstOf l.toArray j = some d → i = j := by
    intro i j d hi hj h1 h2
    have h := c3 i (List.mem_range.2 hi)
    rw [List.all_eq_true] at h
    have h := h j (List.mem_range.2 hj)
    rw [h1, h2] at h
    simp only [Nat.beq_refl, Bool.not_true, Bool.or_false] at h
    exact Nat.eq_of_beq_eq_true h
  have hsc : ∀ i, i < m → ∀ j, j ∈ (sp i).sc → j = i ∨ j ∈ D i := by
    intro i hi j hj
    have h := c4 i (List.mem_range.2 hi)
    rw [List.all_eq_true] at h
    have h := h j hj
    rw [Bool.or_eq_true] at h
    rcases h with h | h
    · exact Or.inl (Nat.eq_of_beq_eq_true h)
    · exact Or.inr (by simpa using h)
  have heff : ∀ (k i : Nat), eff[k]? = some i → i < m ∧ ∀ (j i' : Nat), j < k → eff[j]? = some i' → i' ∈ D i ∧ i' ≠ i := by
    intro k i hk
    have hkl := (List.getElem?_eq_some_iff.1 hk).1
    have h := c5 k (List.mem_range.2 hkl)
    rw [hk] at h
    simp only [Bool.and_eq_true, List.all_eq_true] at h
    refine ⟨by have := h.1.1; simp [Nat.blt] at this; omega, fun j i' hj hi' => ?_⟩
    have hm' : i' ∈ eff.take k := List.mem_of_getElem? (i := j) (by rw [List.getElem?_take, if_pos hj]; exact hi')
    refine ⟨by simpa using h.1.2 i' hm', fun e => ?_⟩
    subst e
    have := h.2
    simp only [Bool.not_eq_true', List.elem_eq_mem, decide_eq_false_iff_not] at this
    exact this hm'
  have hEE : ∀ i, i < m → ∀ t v, lk (EE i) t = some v → lk E t = some v ∧ ∀ j, j < m → dstOf l.toArray j = some t → i ∈ D j := by
    intro i hi t v hv
    refine ⟨hEl i hi t v hv, fun j hj hd => ?_⟩
    have h := hEd i (List.mem_range.2 hi)
    rw [List.all_eq_true] at h
    obtain ⟨p, hp, e⟩ := lk_mem hv
    have h := h p hp
    rw [List.all_eq_true] at h
    have h := h j (List.mem_range.2 hj)
    rw [hd, e] at h
    simpa [optIs, Nat.beq_refl] using h
  -- all of the open part has come
  have done : ∀ (hist : List Nat) (a : Act) (w : World), hist.length = m → JD c n l.toArray m D sp eff RK E Rs Xs Os Vs hist a w → wpList P l.toArray Q (l.toArray.toList.drop m) a w := by
    intro hist a w hlen ⟨vals, k, h1, h2, h3, h4, h5, h6, h7, h8⟩
    have hin : ∀ i, i < m → i ∈ hist := fun i hi => by
      cases he : hist.elem i with
      | true => simpa using he
      | false =>
        have hni : i ∉ hist := by simpa using he
        have := nodup_bound m (l := i :: hist) (List.nodup_cons.2 ⟨hni, h2⟩) (fun j hj => by
          rcases List.mem_cons.1 hj with rfl | hj
          · exact hi
          · exact h1 j hj)
        simp at this; omega
    have hk : k = eff.length := by
      rcases Nat.lt_or_ge k eff.length with hlt | hge
      · have hek : eff[k]? = some eff[k] := List.getElem?_eq_getElem hlt
        have := (h6 k _ hek).1 (hin _ (heff k _ hek).1)
        omega
      · omega
    subst hk
    have hperm : hist.Perm (List.range m) := (List.perm_ext_iff_of_nodup h2 List.nodup_range).2 (fun i => ⟨fun h => List.mem_range.2 (h1 i h), fun h => hin i (List.mem_range.1 h)⟩)
    have hok : ∀ m', m' ≤ m → AllUp (fun i => (sp i).OK vals) m' := by
      intro m'
      induction m' with
      | zero => exact fun _ => trivial
      | succ m' ih => exact fun h => ⟨ih (by omega), h4 m' (hin m' (by omega))⟩
    have hE1 := draw_env (l' := List.range m) (Ei := []) hdd (fun t v hv => by cases hv) h1 h7 (fun j hj => hin j (List.mem_range.1 hj))
    have hE2 : Env a n (entL l.toArray vals (List.range m) ++ E) := ⟨h7.1, h7.2.1, fun t v hv => by
      rw [lk_append] at hv
      cases hl : lk (entL l.toArray vals (List.range m)) t with
      | some u =>
        rw [hl] at hv
        exact hE1.2.2 t v (by rw [lk_append, hl]; exact hv)
      | none =>
        rw [hl] at hv
        refine h7.2.2 t v ?_
        rw [lk_append]
        cases hl2 : lk (entL l.toArray vals hist) t with
        | none => exact hv
        | some u =>
          obtain ⟨j, hj, hd, _⟩ := lk_entL hl2
          have := lk_entL_mem (ops := l.toArray) (vals := vals) (List.mem_range.2 (h1 j hj)) hd
          rw [hl] at this; cases this⟩
    have hg := hend vals (hok m (Nat.le_refl _)) a w hE2 ?_
    · simpa using hg
    · have h9 := St.permR (Rs' := RKm eff RK eff.length vals ++ (frL sp vals (List.range m) ++ Rs)) (List.Perm.append_left _ (List.Perm.append_right _ (frL_perm hperm))) h8
      refine h9.sub (fun _ h => h) (fun it hit => List.mem_append.2 (Or.inl ?_)) (fun it hit => List.mem_append.2 (Or.inr (List.mem_append.2 (Or.inl hit))))
      rcases List.mem_append.1 hit with hit | hit
      · obtain ⟨j, hj, hjt⟩ := foL_mem.1 hit
        exact List.mem_append.2 (Or.inl (foL_mem.2 ⟨j, hin j (List.mem_range.1 hj), hjt⟩))
      · exact List.mem_append.2 (Or.inr hit)
  have main : ∀ (fuel : Nat) (hist : List Nat) (listed : Array Bool) (a : Act) (w : World), listed.size = l.toArray.size → (∀ i, i < l.toArray.size → listed[i]? = some (hist.elem i)) → fuel + hist.length = l.toArray.size →
      JD c n l.toArray m D sp eff RK E Rs Xs Os Vs hist a w → wpAny P .any l.toArray Q fuel listed a w := by
    intro fuel
    induction fuel with
    | zero =>
      intro hist listed a w hsz hl hf hJ
      have hJ' := hJ
      obtain ⟨vals, k, h1, h2, _⟩ := hJ'
      have := nodup_bound m h2 h1
      have hm0 : hist.length = m := by omega
      refine tail_any (P := P) (m := m) (D := D) (fun i hi j hj => by
          cases ho : l.toArray[i]? with
          | none => simp at ho; have := c1'; simp at this; omega
          | some o => exact (hD i hi o ho j hj).1) hedge hall 0 m listed a w hsz (fun i hi => ?_) (Nat.le_refl _) (by omega) (done hist a w hm0 hJ)
      rw [hl i hi]
      have hi' : i ∈ hist := by
        cases he : hist.elem i with
        | true => simpa using he
        | false =>
          have hni : i ∉ hist := by simpa using he
          have := nodup_bound m (l := i :: hist) (List.nodup_cons.2 ⟨hni, h2⟩) (fun j hj => by
            rcases List.mem_cons.1 hj with rfl | hj
            · omega
            · exact h1 j hj)
          simp at this; omega
      have : i < m := by omega
      simp [hi', this]
    | succ fuel ih =>
      intro hist listed a w hsz hl hf hJ
      have hJ' := hJ
      obtain ⟨vals, k, h1, h2, h3, _⟩ := hJ'
      have hle := nodup_bound m h2 h1
      by_cases hm0 : hist.length = m
      · have hin : ∀ i, i < m → i ∈ hist := fun i hi => by
          cases he : hist.elem i with
          | true => simpa using he
          | false =>
            have hni : i ∉ hist := by simpa using he
            have := nodup_bound m (l := i :: hist) (List.nodup_cons.2 ⟨hni, h2⟩) (fun j hj => by
              rcases List.mem_cons.1 hj with rfl | hj
              · exact hi
              · exact h1 j hj)
            simp at this; omega
        refine tail_any (P := P) (m := m) (D := D) (fun i hi j hj => by
          cases ho : l.toArray[i]? with
          | none => simp at ho; have := c1'; simp at this; omega
          | some o => exact (hD i hi o ho j hj).1) hedge hall (fuel + 1) m listed a w hsz (fun i hi => ?_) (Nat.le_refl _) (by omega) (done hist a w hm0 hJ)
        rw [hl i hi]
        by_cases him : i < m
        · have := hin i him
          simp [this, him]
        · have : i ∉ hist := fun h => him (h1 i h)
          simp [this, him]
      · -- some operation of the open part is left: the first one is ready
        have hex : ∃ t, t < m ∧ t ∉ hist ∧ ∀ j, j < t → j ∈ hist := by
          have : ∀ m', (∀ j, j < m' → j ∈ hist) ∨ ∃ t, t < m' ∧ t ∉ hist ∧ ∀ j, j < t → j ∈ hist := by
            intro m'
            induction m' with
            | zero => exact Or.inl (fun j hj => by omega)
            | succ m' ih =>
              rcases ih with h | ⟨t, g1, g2, g3⟩
              · by_cases hm' : m' ∈ hist
                · refine Or.inl (fun j hj => ?_)
                  rcases Nat.lt_or_ge j m' with h' | h'
                  · exact h j h'
                  · have e : j = m' := by omega
                    subst e; exact hm'
                · exact Or.inr ⟨m', by omega, hm', h⟩
              · exact Or.inr ⟨t, by omega, g2, g3⟩
          rcases this m with h | h
          · exfalso
            have hs : (List.range m).length ≤ hist.length := by
              have : ∀ (l1 l2 : List Nat), l1.Nodup → (∀ x, x ∈ l1 → x ∈ l2) → l1.length ≤ l2.length := by
                intro l1
                induction l1 with
                | nil => intro l2 _ _; simp
                | cons x r ih2 =>
                  intro l2 hn hsub
                  have hx := hsub x (by simp)
                  have := ih2 (l2.erase x) (List.nodup_cons.1 hn).2 (fun y hy => by
                    have hne : y ≠ x := fun e => (List.nodup_cons.1 hn).1 (e ▸ hy)
                    exact (List.mem_erase_of_ne hne).2 (hsub y (List.mem_cons_of_mem _ hy)))
                  rw [List.length_erase_of_mem hx] at this
                  have hpos : 0 < l2.length := List.length_pos_of_mem hx
                  simp only [List.length_cons]
                  omega
              exact this _ _ List.nodup_range (fun x hx => h x (List.mem_range.1 hx))
            simp at hs
            omega
          · exact h
        refine ⟨fun hr => ?_, fun i hi => ?_⟩
        · obtain ⟨t, g1, g2, g3⟩ := hex
          have hts : t < l.toArray.size := by omega
          have hot : l.toArray[t]? = some l.toArray[t] := by simp
          have : t ∈ Region.ready .any l.toArray listed := by
            refine ready_spec.2 ⟨hts, by rw [Array.getD_eq_getD_getElem?, hl t hts]; simp [g2], _, hot, fun e he hb => ?_⟩
            have hlt := hedge t _ hot e he hb
            rw [Array.getD_eq_getD_getElem?, hl e.on (by omega)]
            have := g3 e.on hlt
            simp [this]
          rw [hr] at this; cases this
        · obtain ⟨hi1, hi2, o, ho, hi3⟩ := ready_spec.1 hi
          have hni : i ∉ hist := by
            rw [Array.getD_eq_getD_getElem?, hl i hi1] at hi2
            simpa using hi2
          have lsd : ∀ e, e ∈ o.after.toList → Region.binds .any e = true → e.on ∈ hist := fun e he hb => by
            have h9 := hi3 e he hb
            have hlt := hedge i o ho e he hb
            rw [Array.getD_eq_getD_getElem?, hl e.on (by omega)] at h9
            simpa using h9
          have him : i < m := by
            rcases Nat.lt_or_ge i m with h' | h'
            · exact h'
            · exfalso
              obtain ⟨t, g1, g2, g3⟩ := hex
              obtain ⟨e, he, hb, hon⟩ := hall i o h' ho t (by omega)
              rcases hon with hon | hon | hon
              · exact g2 (hon ▸ lsd e he hb)
              · obtain ⟨_, _, _, _, h3, _⟩ := hJ
                exact g2 (h3 _ (lsd e he hb) t hon.2)
              · obtain ⟨_, _, h3, _⟩ := hJ
                have := h3 _ (lsd e he hb)
                omega
          refine draw_step hdd hsc heff hV hEE hop hJ ho him hni (fun j hj => ?_) (fun a' w' hJ2 => ih (i :: hist) _ a' w' (by simpa using hsz) (fun j hj => ?_) (by simp at hf ⊢; omega) hJ2)
          · obtain ⟨_, e, he, hb, hon⟩ := hD i him o ho j hj
            rcases hon with hon | hon
            · exact hon ▸ lsd e he hb
            · obtain ⟨_, _, _, _, h3, _⟩ := hJ
              exact h3 _ (lsd e he hb) j hon
          · rw [Array.getElem?_setIfInBounds]
            by_cases hij : i = j
            · subst hij; simp [hsz] at hi1 ⊢; exact hi1
            · rw [if_neg hij, hl j hj]
              have hij' : j ≠ i := fun e => hij e.symm
              simp [hij']
  intro a w hE hS
  refine wp_region_any hm (main _ [] _ a _ (by simp) (fun i hi => by simp at hi; simp [hi]) (by simp) ⟨fun _ => undef, 0, fun i h => (by cases h), List.nodup_nil, fun i h => (by cases h), fun i h => (by cases h), Nat.zero_le _, fun j i _ => ⟨fun h => (by cases h), fun h => absurd h (by omega)⟩, hE, ?_⟩)
  exact hS.same (Keep.drew w [])
theorem g_draw {P : Program} {c : Ctx} {n : Nat} {Q : Exit → Act → World → Prop} {E : Slots} {Rs Xs Os Vs : List Item} {id : Nat} {l : List Oper} (m : Nat) (D : Nat → List Nat) (sp : Nat → Free) (eff : List Nat) (RK : Nat → (Nat → Value) → List Item) (EE : Nat → Slots)
    (hm : P.follows .mixedOrders = true) (hchk : chkDraw l.toArray m D eff sp = true) (hV : eff = [] ∨ Vs = [])
    (hEs : AllUp (fun i => SubE E (EE i)) m) (hEd : ((List.range m).all fun i => (EE i).all fun p => (List.range m).all fun j => !(optIs (dstOf l.toArray j) p.1) || (D j).elem i) = true)
    (hop : AllUp (Obl P c n l.toArray D sp EE Rs Xs Os Vs RK eff) m)
    (hend : ∀ vals, AllUp (fun i => (sp i).OK vals) m → GL P c n l.toArray Q (l.drop m) (entL l.toArray vals (List.range m) ++ E) (RKm eff RK eff.length vals ++ (frL sp vals (List.range m) ++ Rs)) Xs (foL sp vals (List.range m) ++ Os) Vs) :
    G P c n (.region id l.toArray true) Q E (RK 0 (fun _ => undef) ++ Rs) Xs Os Vs :=
  g_drawE m D sp eff RK EE hm hchk hV (fun _ hi t v hv => (AllUp.get hEs hi).lk t v hv) hEd hop hend
def spOf (l : List Free) (i : Nat) : Free := (l[i]?).getD (det i undef)
def dOf (l : List (List Nat)) (i : Nat) : List Nat := (l[i]?).getD []
def eOf (l : List Slots) (i : Nat) : Slots := (l[i]?).getD []
theorem gx_fp {c : Ctx} {n : Nat} {ops : Array Oper} {sp : Nat → Free} {Xs Vs0 : List Item} {i d : Nat} {vals : Nat → Value} {RB : Value → List Item} {RA O' : List Item} {E : Slots} {Rs Os Vs : List Item} (v : Value) (hd : dstOf ops i = some d) (hdn : Nat.blt d n = true) (hv : lk E d = some v) (hok : (sp i).OK (upd vals i v))
    (hS : ∀ w, St c w Rs Xs Os Vs → St c w (RB v ++ ((sp i).FR (upd vals i v) ++ RA)) Xs ((sp i).FO (upd vals i v) ++ O') Vs0) : GX c n .normal (FP c n ops sp Xs Vs0 i vals RB RA O') E Rs Xs Os Vs :=
  fun a w hE hSt => ⟨rfl, hE.1, v, fun d' hd' => by
    have e : d = d' := by rw [hd] at hd'; simpa using hd'
    subst e
    exact ⟨hdn, hE.2.2 d v hv⟩, hok, hS w hSt⟩
/-- The same for an operation that yields nothing (a store). -/
theorem gx_fp0 {c : Ctx} {n : Nat} {ops : Array Oper} {sp : Nat → Free} {Xs Vs0 : List Item} {i : Nat} {vals : Nat → Value} {RB : Value → List Item} {RA O' : List Item} {E : Slots} {Rs Os Vs : List Item} (hd : dstOf ops i = none) (hok : (sp i).OK (upd vals i undef))
    (hS : ∀ w, St c w Rs Xs Os Vs → St c w (RB undef ++ ((sp i).FR (upd vals i undef) ++ RA)) Xs ((sp i).FO (upd vals i undef) ++ O') Vs0) : GX c n .normal (FP c n ops sp Xs Vs0 i vals RB RA O') E Rs Xs Os Vs :=
  fun a w hE hSt => ⟨rfl, hE.1, undef, fun d' (hd' : dstOf ops i = some d') => (by rw [hd] at hd'; cases hd'), hok, hS w hSt⟩
end Go.Proofs.YtneifoepoccjaaaGreatDoor
