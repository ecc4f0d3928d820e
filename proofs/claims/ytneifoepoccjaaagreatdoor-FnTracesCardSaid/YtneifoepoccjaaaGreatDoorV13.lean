/-
  Statements whose order is open, in plain words: where each operation yields what is known beforehand. No program in sight.
-/
import Derived.Test.YtneifoepoccjaaaGreatDoorV12
namespace Go.Proofs.YtneifoepoccjaaaGreatDoor

def vOf (DV : List Value) (i : Nat) : Value := (DV[i]?).getD undef
/-- Each yields what is told, but for some. -/
def spM (DV : List Value) (FR : List (Nat × Free)) (i : Nat) : Free := match FR with
  | [] => det i (vOf DV i)
  | (j, f) :: r => cond (Nat.beq j i) f (spM DV r i)
def detB (FR : List (Nat × Free)) (i : Nat) : Bool := match FR with
  | [] => true
  | (j, _) :: r => cond (Nat.beq j i) false (detB r i)
theorem spM_det {DV : List Value} {i : Nat} : ∀ {FR : List (Nat × Free)}, detB FR i = true → spM DV FR i = det i (vOf DV i)
  | [], _ => rfl
  | (j, f) :: r, h => by
    simp only [detB, spM] at h ⊢
    cases hb : Nat.beq j i with
    | true => rw [hb] at h; cases h
    | false => rw [hb] at h; exact spM_det (FR := r) h
/-- The slots of a list, as they are. -/
def pickE : Slots → List Nat → Slots
  | [], _ => []
  | (t, v) :: r, s => cond (s.elem t) ((t, v) :: pickE r s) (pickE r s)
theorem pickE_lk {s : List Nat} {t : Nat} {v : Value} : ∀ {E : Slots}, lk (pickE E s) t = some v → lk E t = some v
  | [], h => by cases h
  | (k, u) :: r, h => by
    simp only [pickE] at h
    cases hs : s.elem k with
    | true =>
      rw [hs] at h
      simp only [cond_true, lk] at h ⊢
      cases hb : Nat.beq k t with
      | true => rw [hb] at h; exact h
      | false => rw [hb] at h; exact pickE_lk (E := r) h
    | false =>
      rw [hs] at h
      have h1 := pickE_lk (E := r) h
      simp only [lk]
      cases hb : Nat.beq k t with
      | true =>
        -- the slot is not among those of the list: then it is not found behind
        exfalso
        have e : k = t := Nat.eq_of_beq_eq_true hb
        subst e
        have : ∀ {r : Slots}, lk (pickE r s) k = none := by
          intro r
          induction r with
          | nil => rfl
          | cons p r ih =>
            obtain ⟨q, w⟩ := p
            simp only [pickE]
            cases hq : s.elem q with
            | true =>
              have hne : Nat.beq q k = false := by
                cases hb2 : Nat.beq q k with
                | false => rfl
                | true =>
                  have e2 : q = k := Nat.eq_of_beq_eq_true hb2
                  subst e2
                  rw [hs] at hq; cases hq
              simp only [cond_true, lk, hne, cond_false, ih]
            | false => simp only [cond_false, ih]
        rw [cond_false, this] at h
        cases h
      | false => exact h1

theorem lk_sub {E E' : Slots} (h : ∀ t v, lk E' t = some v → lk E t = some v) {a : Act} {n : Nat} (hE : Env a n E) : Env a n E' := ⟨hE.1, hE.2.1, fun t v hv => hE.2.2 t v (h t v hv)⟩
theorem entL_det {ops : Array Oper} {vals : Nat → Value} {DV : List Value} {FR : List (Nat × Free)} : ∀ {js : List Nat}, js.all (detB FR) = true → (∀ j, j ∈ js → (spM DV FR j).OK vals) → entL ops vals js = entL ops (vOf DV) js
  | [], _, _ => rfl
  | j :: r, hd, h => by
    rw [List.all_cons, Bool.and_eq_true] at hd
    have hj := h j (by simp)
    rw [spM_det hd.1] at hj
    have e : vals j = vOf DV j := by
      have h2 : mask [j] vals j = vOf DV j := hj
      have h3 : mask [j] vals j = vals j := by
        unfold mask
        have : ([j] : List Nat).elem j = true := by simp
        rw [this]; rfl
      rw [← h3]; exact h2
    simp only [entL, e]
    rw [entL_det (js := r) hd.2 (fun q hq => h q (List.mem_cons_of_mem _ hq))]
theorem frL_det {vals : Nat → Value} {DV : List Value} {FR : List (Nat × Free)} : ∀ {js : List Nat}, js.all (detB FR) = true → frL (spM DV FR) vals js = [] ∧ foL (spM DV FR) vals js = []
  | [], _ => ⟨rfl, rfl⟩
  | j :: r, hd => by
    rw [List.all_cons, Bool.and_eq_true] at hd
    obtain ⟨h1, h2⟩ := frL_det (vals := vals) (DV := DV) (js := r) hd.2
    simp only [frL, foL, h1, h2, spM_det hd.1]
    exact ⟨rfl, rfl⟩

/-- Behind an operation that yields v. -/
def DP (c : Ctx) (n : Nat) (ops : Array Oper) (i : Nat) (v : Value) (R' Xs O' : List Item) (e : Exit) (a : Act) (w : World) : Prop :=
  e = .normal ∧ a.defers = [] ∧ (∀ d, dstOf ops i = some d → Nat.blt d n = true ∧ a.tmps[d]? = some v) ∧ St c w R' Xs O' []

section
variable {P : Program} {c : Ctx} {n : Nat} {ops : Array Oper} {D : Nat → List Nat} {DV : List Value} {FR : List (Nat × Free)} {EE : Nat → Slots} {Rs0 Xs Os0 : List Item} {RK : Nat → (Nat → Value) → List Item} {eff : List Nat}

theorem GL_mono {Q Q' : Exit → Act → World → Prop} (hq : ∀ e a w, Q e a w → Q' e a w) {l : List Oper} {E : Slots} {Rs Xs Os Vs : List Item} (h : GL P c n ops Q l E Rs Xs Os Vs) : GL P c n ops Q' l E Rs Xs Os Vs :=
  fun a w hE hS => wpList_mono hq _ a w (h a w hE hS)
/-- An operation of the open part that writes nothing and yields what is told, behind others of the kind. -/
theorem obl_in {i : Nat} {o : Oper} (ho : ops[i]? = some o) (he : eff.idxOf? i = none) (hi : detB FR i = true) (hD : (D i).all (detB FR) = true)
    (h : ∀ R' O', GL P c n ops (DP c n ops i (vOf DV i) R' Xs O') [o] (entL ops (vOf DV) (D i) ++ EE i) R' Xs (Os0 ++ O') Rs0) : Obl P c n ops D (spM DV FR) EE Rs0 Xs Os0 [] RK eff i := by
  unfold Obl
  rw [ho, he]
  intro vals E' R' O' hok a w hE hS
  obtain ⟨f1, f2⟩ := frL_det (vals := vals) (DV := DV) hD
  have hent := entL_det (ops := ops) (vals := vals) hD hok
  rw [f1] at hS
  rw [f2] at hS
  rw [hent] at hE
  have hE2 : Env a n (entL ops (vOf DV) (D i) ++ EE i) := lk_sub (fun t v hv => by
    rw [← List.append_assoc, lk_append, hv]) hE
  have hS2 : St c w R' Xs (Os0 ++ O') Rs0 := by simpa using hS
  refine wpList_mono (fun e a w hq => ?_) _ a w (h R' O' a w hE2 hS2)
  obtain ⟨q1, q2, q3, q4⟩ := hq
  refine ⟨q1, q2, vOf DV i, q3, ?_, ?_⟩
  · rw [spM_det hi]
    show mask [i] (upd vals i (vOf DV i)) i = vOf DV i
    unfold mask upd
    have : ([i] : List Nat).elem i = true := by simp
    rw [this, Nat.beq_refl]; rfl
  · rw [spM_det hi]
    exact q4
theorem gl_dp {i d : Nat} {v : Value} {E : Slots} {R' O' Vs : List Item} (hd : dstOf ops i = some d) (hdn : Nat.blt d n = true) (hv : lk E d = some v) : GL P c n ops (DP c n ops i v R' Xs O') [] E R' Xs (Os0 ++ O') Vs :=
  gl_nil (fun _ _ hE hS => ⟨rfl, hE.1, fun d' hd' => by
    have e : d = d' := by rw [hd] at hd'; simpa using hd'
    subst e
    exact ⟨hdn, hE.2.2 d v hv⟩, hS.sub (fun _ h => h) (fun _ ho => List.mem_append.2 (Or.inl (List.mem_append.2 (Or.inr ho)))) (fun o ho => by cases ho)⟩)
/-- One that looks at no memory. -/
theorem obl_pure {i d : Nat} {o : Oper} {N : Slots} (ho : ops[i]? = some o) (he : eff.idxOf? i = none) (hi : detB FR i = true) (hD : (D i).all (detB FR) = true)
    (hs : evalSteps n ops (entL ops (vOf DV) (D i) ++ EE i) [o] = some N) (hd : dstOf ops i = some d) (hdn : Nat.blt d n = true) (hv : lk N d = some (vOf DV i)) : Obl P c n ops D (spM DV FR) EE Rs0 Xs Os0 [] RK eff i := by
  refine obl_in ho he hi hD (fun R' O' => ?_)
  intro a w hE hS
  simp only [evalSteps] at hs
  simp only [wpList]
  split at hs
  · rename_i hw
    split at hs
    · rename_i v hv1
      split at hs
      · rename_i E1 h1
        have e : E1 = N := by simpa using hs
        subst e
        rw [if_pos (wantE_eq hE hw)]
        refine Or.inl ?_
        unfold Oper.wp
        rw [evalOp_run hE hv1 w]
        exact gl_dp (P := P) (c := c) (Xs := Xs) hd hdn hv _ w (stepE_put hE h1) hS
      · cases hs
    · cases hs
  · rename_i hw
    split at hs
    · rename_i E1 h1
      have e : E1 = N := by simpa using hs
      subst e
      rw [wantE_eq hE hw]
      simp only [Bool.false_eq_true, if_false]
      exact gl_dp (P := P) (c := c) (Xs := Xs) hd hdn hv _ w (stepE_put hE h1) hS
    · cases hs
  · cases hs
end

/-- A STATEMENT WHOSE ORDER IS OPEN and in which each operation yields what is told. -/
theorem g_drawD {P : Program} {c : Ctx} {n : Nat} {Q : Exit → Act → World → Prop} {E : Slots} {Rs Xs Os Vs : List Item} {id : Nat} {l : List Oper} (m : Nat) (D : List (List Nat)) (SL : List (List Nat)) (DV : List Value)
    (hm : P.follows .mixedOrders = true) (hchk : chkDraw l.toArray m (dOf D) [] (spM DV []) = true)
    (hEd : ((List.range m).all fun i => (pickE E (dOf SL i)).all fun p => (List.range m).all fun j => !(optIs (dstOf l.toArray j) p.1) || (dOf D j).elem i) = true)
    (hop : AllUp (Obl P c n l.toArray (dOf D) (spM DV []) (fun i => pickE E (dOf SL i)) Rs Xs Os [] (fun _ _ => []) []) m)
    (hend : GL P c n l.toArray Q (l.drop m) (entL l.toArray (vOf DV) (List.range m) ++ E) Rs Xs Os []) :
    G P c n (.region id l.toArray true) Q E Rs Xs Os Vs := by
  refine g_st (Rs' := Rs) (Xs' := Xs) (Os' := Os) (Vs' := []) (fun w hS => hS.sub (fun _ h => h) (fun _ h => List.mem_append.2 (Or.inl h)) (fun o ho => by cases ho)) ?_
  have all : ∀ k, ((List.range k).all (detB []) = true) := fun k => by rw [List.all_eq_true]; exact fun _ _ => rfl
  refine g_drawE m (dOf D) (spM DV []) [] (fun _ _ => []) (fun i => pickE E (dOf SL i)) hm hchk (Or.inl rfl) (fun i _ t v hv => pickE_lk hv) hEd hop (fun vals hv => ?_)
  have hent : entL l.toArray vals (List.range m) = entL l.toArray (vOf DV) (List.range m) := entL_det (FR := []) (all m) (fun j hj => AllUp.get hv (List.mem_range.1 hj))
  obtain ⟨f1, f2⟩ := frL_det (vals := vals) (DV := DV) (FR := []) (all m)
  rw [hent, f1, f2]
  exact hend
/-- The same with some that make rows, and some that change them. -/
theorem g_drawM {P : Program} {c : Ctx} {n : Nat} {Q : Exit → Act → World → Prop} {E : Slots} {Rs Xs Os : List Item} {id : Nat} {l : List Oper} (m : Nat) (D : List (List Nat)) (SL : List (List Nat)) (DV : List Value) (FR : List (Nat × Free)) (eff : List Nat) (RK : Nat → (Nat → Value) → List Item)
    (hm : P.follows .mixedOrders = true) (hchk : chkDraw l.toArray m (dOf D) eff (spM DV FR) = true)
    (hEd : ((List.range m).all fun i => (pickE E (dOf SL i)).all fun p => (List.range m).all fun j => !(optIs (dstOf l.toArray j) p.1) || (dOf D j).elem i) = true)
    (hop : AllUp (Obl P c n l.toArray (dOf D) (spM DV FR) (fun i => pickE E (dOf SL i)) Rs Xs Os [] RK eff) m)
    (hend : ∀ vals, AllUp (fun i => (spM DV FR i).OK vals) m → GL P c n l.toArray Q (l.drop m) (entL l.toArray vals (List.range m) ++ E) (RKm eff RK eff.length vals ++ (frL (spM DV FR) vals (List.range m) ++ Rs)) Xs (foL (spM DV FR) vals (List.range m) ++ Os) []) :
    G P c n (.region id l.toArray true) Q E (RK 0 (fun _ => undef) ++ Rs) Xs Os [] :=
  g_drawE m (dOf D) (spM DV FR) eff RK (fun i => pickE E (dOf SL i)) hm hchk (Or.inr rfl) (fun _ _ _ _ hv => pickE_lk hv) hEd hop hend
/-! ## Arrays -/
theorem b_case {p : Prop} (b : Bool) (h1 : b = true → p) (h2 : b = false → p) : p := by
  cases b with
  | true => exact h1 rfl
  | false => exact h2 rfl
section
variable {P : Program} {c : Ctx} {n : Nat} {Q : Exit → Act → World → Prop} {E : Slots} {Rs Xs Os Vs : List Item} {ops : Array Oper} {l : List Oper} {d : Nat} {ty : TypeId} {pos : String} {aft : Array Edge} {gd : Option (Nat × Bool)}
/-- A call that takes what is owned, whatever the form of the list. -/
theorem gl_callR {o : Oper} {f : FuncId} {args : List Value} {R0 Ins RosI RosV : List Item} {Post : Value → List Item → List Item → Prop} (hw : wantE ops E o = some true) (hk : (notSelect o.op && known E o) = true)
    (hr : ∀ w, (execOp (rho E) o).run P w = .ok (.enter f args.toArray) w) (hc : CallOK P f args Ins RosI RosV Post) (hR : R0 = Ins ++ Rs) (hI : ∀ o, o ∈ RosI → o ∈ Xs) (hV : ∀ o, o ∈ RosV → o ∈ Rs ++ (Os ++ Xs))
    (h : ∀ v outs ros, Post v outs ros → ∃ E', stepE n E o v = some E' ∧ GL P c n ops Q l E' (outs ++ Rs) (ros ++ Xs) Os []) : GL P c n ops Q (o :: l) E R0 Xs Os Vs := by
  subst hR
  exact gl_callIn hw hk hr hc hI hV h
/-- An array's element (of one cell). -/
theorem gl_aidx {α : Type} {t T : TypeId} {len : Nat} {X Y : Operand} {cs : Array Value} {f : α → Value} {xs : List α} {k : IntKind} {i : Int} {x : α} (hX : ev E X = some (.agg cs)) (hY : ev E Y = some (.int k i))
    (ht : P.underlying t = some (.array len T)) (h1 : isOne P T = true) (hz : (P.info? T).map (·.size) = some 1) (hcs : cs = (xs.map f).toArray) (hl : xs.length = len) (hb : idxO xs i = some x)
    (hw : wantE ops E ⟨some d, .index t X Y, ty, pos, aft, gd⟩ = some true) (hd : Nat.blt d n = true) (h : GL P c n ops Q l ((d, f x) :: E) Rs Xs Os Vs) : GL P c n ops Q (⟨some d, .index t X Y, ty, pos, aft, gd⟩ :: l) E Rs Xs Os Vs := by
  refine gl_run (v := f x) hw (by simp [known, notSelect, Op.operands, hX, hY]) (by simp [stepE, hd]) (fun w => ?_) h
  obtain ⟨h0, hlt, hget⟩ := idxO_some hb
  obtain ⟨inf, hi, hs⟩ := Option.map_eq_some_iff.1 hz
  have ha : (isAgg T).run P w = .ok false w := by
    cases hu : P.underlying T with
    | none => unfold isOne at h1; rw [hu] at h1; cases h1
    | some dsc =>
      unfold isOne at h1
      rw [hu] at h1
      simp only [isAgg, Sem.run_bind, run_underlying hu, Result.andThen_ok]
      cases dsc <;> first | rfl | cases h1
  have hg : (xs.map f).toArray[i.toNat]? = some (f x) := by simp [hget]
  have hlt2 : i < (len : Int) := by omega
  subst hcs
  simp only [execOp, rho, hX, hY, Instr.index, asIntOf]
  simp [run_underlying ht, h0, hlt2, sizeOf, typeInfo, hi, hs, part, ha, hget]
end
/-! ## Steps together -/
section
variable {P : Program} {c : Ctx} {n : Nat} {Q : Exit → Act → World → Prop} {E : Slots} {Rs Xs Os Vs : List Item} {ops : Array Oper} {y : Code} {id : Nat}
theorem g_sr {l : List Oper} (h : GL P c n l.toArray (Nx P y Q) l E Rs Xs Os Vs) : G P c n (.seq (.region id l.toArray false) y) Q E Rs Xs Os Vs := g_seq (g_region h)
theorem gl_ns (h : G P c n y Q E Rs Xs Os Vs) : GL P c n ops (Nx P y Q) [] E Rs Xs Os Vs := gl_nil (gx_seq h)
theorem gl_nx {l : List Oper} (h : GL P c n l.toArray (Nx P y Q) l E Rs Xs Os Vs) : GL P c n ops (Nx P (.seq (.region id l.toArray false) y) Q) [] E Rs Xs Os Vs := gl_ns (g_sr h)
end
end Go.Proofs.YtneifoepoccjaaaGreatDoor
