/-
  A strings.Builder in memory, in plain words: its block, the row of bytes behind it; how it is taken apart and put together again. No program in sight.
-/
import Derived.Test.YtneifoepoccjaaaGreatDoorV11
import Derived.Lib.UnsafeStr
import Derived.Lib.Builder
import Derived.Laws.Pointers
namespace Go.Proofs.YtneifoepoccjaaaGreatDoor

/-- A builder: two cells (the address it was first written at, or none; the bytes' header), and the bytes. -/
def bldS (T eT : TypeId) : Shape (List UInt8) where
  size := 1
  rep := fun w S cs x => ∃ b p v, cs = [.pointer (some ⟨b, 0, none⟩)] ∧ S b ∧ w.heap[b]? = some (.cells #[p, v] T (0, 0)) ∧ (sliceS true eT (intS .u8)).rep w S [v] (toBytes x)
  own := fun w S F cs x => ∃ b p v F', cs = [.pointer (some ⟨b, 0, none⟩)] ∧ w.heap[b]? = some (.cells #[p, v] T (0, 0)) ∧ (p = .pointer none ∨ p = .pointer (some ⟨b, 0, none⟩)) ∧ (sliceS true eT (intS .u8)).own w S F' [v] (toBytes x) ∧ F = b :: F'
  len := fun ⟨_, _, _, e, _⟩ => by rw [e]; rfl
  rep_frame := fun h ⟨b, p, v, e, hS, hb, hr⟩ => ⟨b, p, v, e, hS, (h b hS).trans hb, Shape.rep_frame _ h hr⟩
  rep_mono := fun h ⟨b, p, v, e, hS, hb, hr⟩ => ⟨b, p, v, e, h b hS, hb, Shape.rep_mono _ h hr⟩
  own_frame := fun h hF ⟨b, p, v, F', e, hb, hp, ho, eF⟩ => ⟨b, p, v, F', e, (hF b (by rw [eF]; simp)).trans hb, hp, Shape.own_frame _ h (fun b' hb' => hF b' (by rw [eF]; simp [hb'])) ho, eF⟩
  own_mono := fun h ⟨b, p, v, F', e, hb, hp, ho, eF⟩ => ⟨b, p, v, F', e, hb, hp, Shape.own_mono _ h ho, eF⟩
  own_rep := fun ⟨b, p, v, F', e, hb, hp, ho, eF⟩ => ⟨b, p, v, e, Or.inr (by rw [eF]; simp), hb, Shape.rep_mono _ (fun b' hb' => hb'.elim Or.inl (fun h => Or.inr (by rw [eF]; simp [h]))) (Shape.own_rep _ ho)⟩
  own_lt := fun ⟨b, p, v, F', e, hb, hp, ho, eF⟩ b' hb' => by
    rw [eF] at hb'
    rcases List.mem_cons.1 hb' with rfl | hb'
    · exact (Array.getElem?_eq_some_iff.1 hb).1
    · exact Shape.own_lt _ ho b' hb'
abbrev BLD (T eT : TypeId) (b : Nat) (x : List UInt8) : Item := ⟨List UInt8, bldS T eT, [.pointer (some ⟨b, 0, none⟩)], x⟩

section
variable {P : Program} {c : Ctx} {n : Nat} {Q : Exit → Act → World → Prop} {E E' : Slots} {Rs Xs Os Vs : List Item} {ops : Array Oper} {l : List Oper} {o : Oper}

theorem St.openB {w : World} {T eT : TypeId} {b : Nat} {x : List UInt8} (h : St c w (BLD T eT b x :: Rs) Xs Os Vs) :
    ∃ p a cp, (p = .pointer none ∨ p = .pointer (some ⟨b, 0, none⟩)) ∧ (a = none ∨ cp ≠ 0) ∧ St c w (BK T b [p, .slice a (toBytes x).length cp] :: SL true eT (intS .u8) a cp (toBytes x) :: Rs) Xs Os Vs := by
  obtain ⟨F, h⟩ := h
  obtain ⟨F1, F2, e, ⟨b', p, v, F', eb, hb, hp, ho, eF⟩, h2⟩ := h.owns
  have e1 : b = b' := by simpa using eb
  subst e1
  obtain ⟨v', cells, F'', ev, ⟨a, cp, hv, hnt⟩, hrest⟩ := ho
  have ev' : v = v' := by simpa using ev
  subst ev'
  subst hv
  have hcp : a = none ∨ cp ≠ 0 := by
    rcases hrest.1.2 with ⟨hv1, _⟩ | ⟨g, cap, cur, hv1, _, _, hle, _⟩
    · left; have := (Value.slice.injEq .. ▸ hv1); exact this.1
    · right
      have hv' : a = some ⟨g, 0, none⟩ ∧ cp = cap := by simpa using hv1
      have hx : toBytes x ≠ [] := fun e => by
        have := (hnt rfl).2 e
        rw [hv'.1] at this; cases this
      have := List.length_pos_iff.2 hx
      have hle' : (toBytes x).length ≤ cap := hle
      omega
  refine ⟨p, a, cp, hp, hcp, F, ⟨⟨[b], F' ++ F2, by rw [e, eF]; simp, ⟨b, rfl, rfl, hb⟩, F', F2, rfl, ⟨_, cells, F'', ev, ⟨a, cp, rfl, hnt⟩, hrest⟩, h2⟩, h.nodup, h.lt, h.xs, h.os, h.vs, h.keep⟩⟩
theorem St.closeB {w : World} {T eT : TypeId} {b : Nat} {p : Value} {a : Option Addr} {cp k : Nat} {x : List UInt8} (hk : k = (toBytes x).length) (hp : p = .pointer none ∨ p = .pointer (some ⟨b, 0, none⟩)) (h : St c w (BK T b [p, .slice a k cp] :: SL true eT (intS .u8) a cp (toBytes x) :: Rs) Xs Os Vs) :
    St c w (BLD T eT b x :: Rs) Xs Os Vs := by
  subst hk
  obtain ⟨F, h⟩ := h
  obtain ⟨F1, F2, e, ⟨b', eb, eF1, hb⟩, F3, F4, e2, ho, h2⟩ := h.owns
  have e1 : b = b' := by simpa using eb
  subst e1
  exact ⟨F, ⟨⟨b :: F3, F4, by rw [e, e2, eF1]; simp, ⟨b, p, _, F3, rfl, hb, hp, ho, rfl⟩, h2⟩, h.nodup, h.lt, h.xs, h.os, h.vs, h.keep⟩⟩
theorem g_openB {x : Code} {T eT : TypeId} {b : Nat} {s : List UInt8} (h : ∀ p a cp, (p = .pointer none ∨ p = .pointer (some ⟨b, 0, none⟩)) → (a = none ∨ cp ≠ 0) → G P c n x Q E (BK T b [p, .slice a (toBytes s).length cp] :: SL true eT (intS .u8) a cp (toBytes s) :: Rs) Xs Os Vs) : G P c n x Q E (BLD T eT b s :: Rs) Xs Os Vs := by
  intro a w hE hS
  obtain ⟨p, a', cp, hp, hz, hS'⟩ := hS.openB
  exact h p a' cp hp hz a w hE hS'
/-- A builder made. -/
theorem St.newB {w : World} {T eT : TypeId} {b : Nat} (h : St c w (BK T b [.pointer none, .slice none 0 0] :: Rs) Xs Os Vs) : St c w (BLD T eT b [] :: Rs) Xs Os Vs :=
  St.closeB rfl (Or.inl rfl) ((h.nil true eT (intS .u8)).pick 1 rfl)

/-- The region in front is used up by what changes only its blocks. -/
theorem St.consume {w w' : World} {r : Item} (h : St c w (r :: Rs) Xs Os Vs) (hk : ∀ S F, r.owned w S F → Keep w w' F) : St c w' Rs Xs Os [] := by
  obtain ⟨F, h⟩ := h
  obtain ⟨F1, F2, e, h1, h2⟩ := h.owns
  subst e
  exact ⟨_, StF.step (c := c) (Rout := []) (Fin := F1) (Frest := F2) (Fout := []) h2 h.nodup h.lt h.xs h.os h.keep (hk _ _ h1) (fun _ _ _ => rfl) List.nodup_nil (fun b hb => by cases hb)⟩
end
theorem Keep.freeze (w : World) (a : Addr) (k : Nat) : Keep w (w.freeze a k) [a.block] := by
  unfold World.freeze
  split
  · exact Keep.refl w _
  · refine ⟨rfl, rfl, rfl, by simp, fun b hb hn => ?_⟩
    have : a.block ≠ b := fun e => hn (by simp [e])
    simp [Array.getElem?_modify, this]

section
variable {P : Program} {c : Ctx} {n : Nat} {Q : Exit → Act → World → Prop} {E E' : Slots} {Rs Xs Os Vs : List Item} {ops : Array Oper} {l : List Oper} {o : Oper}
variable {d : Nat} {ty : TypeId} {pos : String} {aft : Array Edge} {gd : Option (Nat × Bool)}
/-- The pointer to a builder's bytes. -/
theorem gl_usd {t : TypeId} {X : Operand} {a : Option Addr} {k cp : Nat} (hX : ev E X = some (.slice a k cp)) (hz : a = none ∨ cp ≠ 0)
    (hw : wantE ops E ⟨some d, .call ⟨.builtin .unsafeSliceData, #[X], #[t]⟩, ty, pos, aft, gd⟩ = some true) (hd : Nat.blt d n = true) (h : GL P c n ops Q l ((d, .pointer a) :: E) Rs Xs Os Vs) : GL P c n ops Q (⟨some d, .call ⟨.builtin .unsafeSliceData, #[X], #[t]⟩, ty, pos, aft, gd⟩ :: l) E Rs Xs Os Vs := by
  refine gl_run (v := .pointer a) hw (by simp [known, notSelect, Op.operands, Call.operands, hX]) (by simp [stepE, hd]) (fun w => ?_) h
  have key : (Builtin.unsafeSliceData_ #[t] ty #[.slice a k cp]).run P w = .ok (.pointer a) w := by
    cases a with
    | none => rfl
    | some ad =>
      have hc : cp ≠ 0 := hz.resolve_left (by simp)
      exact Lib.run_unsafeSliceData_row _ _ _ _ _ _ hc
  simp only [execOp, resolve, rho, List.map_toArray, List.map_cons, List.map_nil, hX, Option.getD_some, Sem.run_bind, Sem.run_pure, Result.andThen_ok, invoke, builtin, key]
/-- The string of a builder's bytes: the bytes are frozen; the row is given up. -/
theorem gl_ustr {eT pt it : TypeId} {X Y : Operand} {a : Option Addr} {cp : Nat} {x : List UInt8} (hX : ev E X = some (.pointer a)) (hY : ev E Y = some (.int .i64 (toBytes x).length)) (hp : P.underlying pt = some (.pointer eT)) (hc : P.cellsOf eT = 1)
    (hw : wantE ops E ⟨some d, .call ⟨.builtin .unsafeString, #[X, Y], #[pt, it]⟩, ty, pos, aft, gd⟩ = some true) (hd : Nat.blt d n = true) (h : GL P c n ops Q l ((d, str x) :: E) Rs Xs Os []) :
    GL P c n ops Q (⟨some d, .call ⟨.builtin .unsafeString, #[X, Y], #[pt, it]⟩, ty, pos, aft, gd⟩ :: l) E (SL true eT (intS .u8) a cp (toBytes x) :: Rs) Xs Os Vs := by
  have hlx : (toBytes x).length = x.length := by simp [toBytes]
  refine gl_op (v := str x) hw (by simp [known, notSelect, Op.operands, Call.operands, hX, hY]) (by simp [stepE, hd]) (fun w hS => ?_) h
  obtain ⟨F, hF⟩ := id hS
  obtain ⟨F1, F2, e, ⟨v, cells, F', ev, ⟨a', c', hv, hnt⟩, ho, hl, eF⟩, h2⟩ := hF.owns
  have ev' : Value.slice a (toBytes x).length cp = v := by simpa using ev
  subst ev'
  have ea : a = a' ∧ cp = c' := by simpa using hv
  obtain ⟨rfl, rfl⟩ := ea
  obtain ⟨ecells, eF'⟩ := ownL_flat_cells hl
  subst ecells
  subst eF'
  have ho : w.ownsRow 0 eT 1 (.slice a (toBytes x).length cp) (toBytes x).length ((toBytes x).flatMap (fun x => [Value.int .u8 x])) := ho
  have hnt' : a = none ↔ toBytes x = [] := hnt rfl
  have run : ∀ {w'}, (Builtin.unsafeString_ #[pt, it] ty #[.pointer a, .int .i64 (toBytes x).length]).run P w = .ok (str x) w' → (execOp (rho E) ⟨some d, .call ⟨.builtin .unsafeString, #[X, Y], #[pt, it]⟩, ty, pos, aft, gd⟩).run P w = .ok (.value (str x)) w' := by
    intro w' hr
    simp only [execOp, resolve, rho, List.map_toArray, List.map_cons, List.map_nil, hX, hY, Option.getD_some, Sem.run_bind, Sem.run_pure, Result.andThen_ok, invoke, builtin, hr]
  rcases ho.2 with ⟨hv1, h0⟩ | ⟨g, cap, cur, hv1, _, hg, hle, hmx, hcs, htk⟩
  · have hx : x = [] := List.eq_nil_of_length_eq_zero (by omega)
    have ha : a = none := by have := (Value.slice.injEq .. ▸ hv1); exact this.1
    subst ha; subst hx
    exact ⟨w, run (Lib.run_unsafeString_none w _ _ _ none), hS.consume (fun S F _ => Keep.refl w F)⟩
  · have hv' : a = some ⟨g, 0, none⟩ ∧ cp = cap := by simpa using hv1
    obtain ⟨rfl, rfl⟩ := hv'
    have hx : x ≠ [] := fun e => by
      have := hnt'.2 (by rw [e]; rfl)
      cases this
    have hr := Lib.run_unsafeString_row (P := P) w pt it ty eT hp hc g cur.size (by simp [World.shape?, hg]) x hx (by omega) (by unfold maxLen at hmx; omega) (fun j b hj => ho.cells (g := g) rfl j _ (by
      rw [← List.map_eq_flatMap]
      simp [toBytes, hj]))
    refine ⟨_, run (by rw [hlx]; exact hr), hS.consume (fun S G hG => ?_)⟩
    obtain ⟨v2, _, G', ev2, _, _, _, eG⟩ := hG
    have ev2' : Value.slice (some ⟨g, 0, none⟩) (toBytes x).length cp = v2 := by simpa using ev2
    refine (Keep.freeze w ⟨g, 0, none⟩ x.length).mono (fun b hb => ?_)
    rw [eG, ← ev2']
    have : b = g := by simpa using hb
    simp [Value.ownBlock, this]
theorem St.bk {w : World} {T : TypeId} {b : Nat} {cells : List Value} (h : St c w (BK T b cells :: Rs) Xs Os Vs) : w.heap[b]? = some (.cells cells.toArray T (0, 0)) := by
  obtain ⟨F, h⟩ := h
  obtain ⟨F1, F2, e, ⟨b', eb, eF, hb⟩, h2⟩ := h.owns
  have e1 : b = b' := by simpa using eb
  subst e1
  exact hb
/-- Two pointers compared. -/
theorem gl_pcmp {op : BinOp} {t t2 : TypeId} {X Y : Operand} {p q : Option Addr} {r : Bool} (hX : ev E X = some (.pointer p)) (hY : ev E Y = some (.pointer q)) (hb : ∀ w, (binOp op t (.pointer p) (.pointer q)).run P w = .ok (.bool r) w)
    (hw : wantE ops E ⟨some d, .binOp op t X Y t2, ty, pos, aft, gd⟩ = some true) (hd : Nat.blt d n = true) (h : GL P c n ops Q l ((d, .bool r) :: E) Rs Xs Os Vs) : GL P c n ops Q (⟨some d, .binOp op t X Y t2, ty, pos, aft, gd⟩ :: l) E Rs Xs Os Vs := by
  refine gl_run (v := .bool r) hw (by simp [known, notSelect, Op.operands, hX, hY]) (by simp [stepE, hd]) (fun w => ?_) h
  have hg : (eqGuard op t X Y (.pointer p) (.pointer q)).run P w = .ok () w := by cases op <;> simp [eqGuard]
  simp [execOp, rho, hX, hY, hg, hb]
/-- A pointer to a block of the call's own, seen as another type of pointer. -/
theorem gl_pcvt {src dst T : TypeId} {X : Operand} {b : Nat} {cells : List Value} (hX : ev E X = some (.pointer (some ⟨b, 0, none⟩))) (hr : ∀ w, w.shape? b = some (T, cells.length) → (convert src dst (.pointer (some ⟨b, 0, none⟩))).run P w = .ok (.pointer (some ⟨b, 0, none⟩)) w)
    (hw : wantE ops E ⟨some d, .convert src dst X, ty, pos, aft, gd⟩ = some true) (hd : Nat.blt d n = true) (h : GL P c n ops Q l ((d, .pointer (some ⟨b, 0, none⟩)) :: E) (BK T b cells :: Rs) Xs Os Vs) : GL P c n ops Q (⟨some d, .convert src dst X, ty, pos, aft, gd⟩ :: l) E (BK T b cells :: Rs) Xs Os Vs := by
  refine gl_op (v := .pointer (some ⟨b, 0, none⟩)) hw (by simp [known, notSelect, Op.operands, hX]) (by simp [stepE, hd]) (fun w hS => ⟨w, ?_, hS⟩) h
  have := hr w (by simp [World.shape?, hS.bk])
  simp [execOp, rho, hX, this]
theorem gl_noesc {f : FuncId} {X : Operand} {t : TypeId} {v : Value} (hX : ev E X = some v) (hr : ∀ w, (callFunc f #[v]).run P w = .ok (.value v) w)
    (hw : wantE ops E ⟨some d, .call ⟨.value (.func f), #[X], #[t]⟩, ty, pos, aft, gd⟩ = some true) (hd : Nat.blt d n = true) (h : GL P c n ops Q l ((d, v) :: E) Rs Xs Os Vs) : GL P c n ops Q (⟨some d, .call ⟨.value (.func f), #[X], #[t]⟩, ty, pos, aft, gd⟩ :: l) E Rs Xs Os Vs := by
  have e1 : ev E (.func f) = some (.func (.func f) #[] #[]) := rfl
  refine gl_run (v := v) hw (by simp [known, notSelect, Op.operands, Call.operands, e1, hX]) (by simp [stepE, hd]) (fun w => ?_) h
  simp [execOp, resolve, Deferred.ofValue, rho, e1, hX, invoke, hr]
end
end Go.Proofs.YtneifoepoccjaaaGreatDoor
