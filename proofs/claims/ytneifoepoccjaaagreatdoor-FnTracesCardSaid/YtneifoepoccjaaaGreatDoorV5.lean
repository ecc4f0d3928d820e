/-
  How a function is entered and left in a walk, in plain words. No program in sight.
-/
import Derived.Test.YtneifoepoccjaaaGreatDoorV4
namespace Go.Proofs.YtneifoepoccjaaaGreatDoor

def enumE : Nat → List Value → Slots
  | _, [] => []
  | k, v :: r => (k, v) :: enumE (k + 1) r
theorem enumE_lk : ∀ (k : Nat) (l : List Value) (t : Nat) (v : Value), lk (enumE k l) t = some v → k ≤ t ∧ l[t - k]? = some v
  | _, [], _, _, h => by cases h
  | k, u :: r, t, v, h => by
    simp only [enumE, lk] at h
    cases hb : Nat.beq k t with
    | true =>
      rw [hb] at h
      have e : k = t := Nat.eq_of_beq_eq_true hb
      subst e
      exact ⟨Nat.le_refl _, by simpa using h⟩
    | false =>
      rw [hb] at h
      obtain ⟨h1, h2⟩ := enumE_lk (k + 1) r t v h
      refine ⟨by omega, ?_⟩
      have e : t - k = (t - (k + 1)) + 1 := by omega
      rw [e]; simpa using h2

/-- What a function's end gives. -/
def RP (c : Ctx) (Post : Value → List Item → List Item → Prop) (e : Ending) (w' : World) : Prop := ∃ v outs ros, e = .returned v ∧ Post v outs ros ∧ St c w' outs ros [] []
abbrev Fin (P : Program) (fn : Func) (c : Ctx) (Post : Value → List Item → List Item → Prop) : Exit → Act → World → Prop := bodyPost P fn (RP c Post)

theorem fn_ok {P : Program} {f : FuncId} {fn : Func} {code : Code} {N : Nat} {args : List Value} {Ins RosI RosV : List Item} {Post : Value → List Item → List Item → Prop}
    (hf : P.funcs[f]? = some fn) (hb : fn.body = some code) (hn : fn.ntmps = N) (hlen : Nat.ble args.length N = true)
    (h : ∀ c : Ctx, (Ins = [] → c.F0 = []) → G P c N code (Fin P fn c Post) (enumE 0 args) Ins RosI RosV []) : CallOK P f args Ins RosI RosV Post := by
  intro w S F hS hI hnd hX hV
  have hlen' : args.length ≤ N := Nat.le_of_ble_eq_true hlen
  refine (calls_of_wp hf hb (h ⟨w, S, F, hS⟩ (fun e => by rw [e] at hI; exact hI) _ w ⟨rfl, ?_, fun t v hv => ?_⟩ ⟨F, ?_⟩)).mono ?_
  · rw [hn]; simp; omega
  · obtain ⟨_, h2⟩ := enumE_lk 0 args t v hv
    have ht : t < args.length := by simpa using (List.getElem?_eq_some_iff.1 h2).1
    simp only [Array.getElem?_append, List.size_toArray, ht, if_true]
    simpa using h2
  · exact ⟨Owns.mono (fun b hb => ⟨Or.inl hb, hS b hb⟩) hI, hnd, fun b hb => ⟨Owns.lt hI b hb, Or.inr hb⟩, fun o ho => o.sh.rep_mono (fun b hb => ⟨Or.inl hb, hS b hb⟩) (hX o ho),
      fun o ho => o.sh.rep_mono (fun b hb => ⟨Or.inl hb, hb⟩) (hV o ho), fun o ho => (by cases ho), Keep.refl w F⟩
  · rintro e w' ⟨v, outs, ros, rfl, hp, F', h'⟩
    exact ⟨v, outs, ros, rfl, hp, F', h'.owns, h'.nodup, fun b hb => ⟨(h'.lt b hb).1, (h'.lt b hb).2.symm⟩, h'.xs, h'.keep⟩

/-- A result variable's value. -/
def ResOK (P : Program) (E : Slots) (All : List Item) : ResultVar → Value → Prop
  | .tmp t, v => lk E t = some v
  | .cell a t, v => ∃ p it cs, lk E a = some (.pointer (some p)) ∧ it ∈ All ∧ HasCells it p cs ∧
      ((isMany P t = true ∧ (P.info? t).map (·.size) = some cs.length ∧ v = .agg cs.toArray) ∨
       (isOne P t = true ∧ cs = [v]))
def ResAll (P : Program) (E : Slots) (All : List Item) : List ResultVar → List Value → Prop
  | [], vs => vs = []
  | r :: rs, vs => ∃ v vs', vs = v :: vs' ∧ ResOK P E All r v ∧ ResAll P E All rs vs'

def resRead (tm : Array Value) : ResultVar → Sem Value
  | .tmp t => pure (tm.getD t undef)
  | .cell x t => do loadVar t (← asAddr (tm.getD x undef))
def tupV : List Value → Value
  | [u] => u
  | us => .tuple us.toArray
theorem resOK_run {P : Program} {c : Ctx} {n : Nat} {E : Slots} {Rs Xs Os Vs : List Item} {a : Act} {w : World} (hE : Env a n E) (hS : St c w Rs Xs Os Vs) {r : ResultVar} {v : Value} (h : ResOK P E (Rs ++ (Vs ++ (Os ++ Xs))) r v) :
    (resRead a.tmps r).run P w = .ok v w := by
  cases r with
  | tmp t =>
    have e := hE.2.2 t v h
    simp [resRead, Array.getD_eq_getD_getElem?, e]
  | cell x t =>
    obtain ⟨p, it, cs, hx, hm, hc, h1⟩ := h
    have e := hE.2.2 x _ hx
    obtain ⟨h0, hcell⟩ := hc w _ (hS.all hm)
    have hadd := cells_add h0 hcell 0
    rcases h1 with ⟨ht, hs, rfl⟩ | ⟨ht, rfl⟩
    · have hl := run_loadAgg (q := p) (w := w) ht hs (fun j v hv => hadd j v (by simpa using hv))
      simpa [resRead, Array.getD_eq_getD_getElem?, e, asAddr, Instr.loadAt, Instr.sureAddr] using hl
    · have hl := run_loadOne (q := p) (w := w) (v := v) ht (by simpa [Addr.add] using hadd 0 v rfl)
      simpa [resRead, Array.getD_eq_getD_getElem?, e, asAddr, Instr.loadAt, Instr.sureAddr] using hl

theorem resAll_run {P : Program} {c : Ctx} {n : Nat} {E : Slots} {Rs Xs Os Vs : List Item} {a : Act} {w : World} (hE : Env a n E) (hS : St c w Rs Xs Os Vs) : ∀ (l : List ResultVar) (vs : List Value), ResAll P E (Rs ++ (Vs ++ (Os ++ Xs))) l vs →
    (l.mapM (resRead a.tmps)).run P w = .ok vs w
  | [], vs, h => by
    have e : vs = [] := h
    subst e; rfl
  | r :: rs, vs, ⟨v, vs', e, h1, h2⟩ => by
    subst e
    have i1 := resOK_run hE hS h1
    have i2 := resAll_run hE hS rs vs' h2
    rw [List.mapM_cons]
    simp only [Sem.run_bind, i1, Result.andThen_ok, i2, Sem.run_pure]

theorem gx_fin {P : Program} {c : Ctx} {n : Nat} {fn : Func} {Post : Value → List Item → List Item → Prop} {E : Slots} {Rs Xs Os Vs : List Item} {rl : List ResultVar} {e : Exit} (hr : fn.results = rl.toArray) (vs : List Value) (v : Value) (outs ros : List Item)
    (hR : ResAll P E (Rs ++ (Vs ++ (Os ++ Xs))) rl vs) (hv : tupV vs = v) (hp : Post v outs ros) (hS : ∀ w, St c w Rs Xs Os Vs → St c w outs ros [] []) (he : e = .ret ∨ e = .normal) : GX c n e (Fin P fn c Post) E Rs Xs Os Vs := by
  intro a w hE hSt
  have hrun : (results fn a.tmps).run P w = .ok v w := by
    have i := resAll_run (P := P) hE hSt rl vs hR
    have e1 : results fn a.tmps = (do let vs ← fn.results.mapM (resRead a.tmps); pure (if h : vs.size = 1 then vs[0] else .tuple vs)) := by
      unfold results
      congr 1
    rw [e1, hr]
    simp only [List.mapM_toArray, Sem.run_bind, Sem.run_map, i, Result.andThen_ok, Sem.run_pure]
    congr 1
    rw [← hv]
    match vs with
    | [] => simp [tupV]
    | [u] => simp [tupV]
    | u :: u' :: r => simp [tupV]
  rcases he with rfl | rfl
  · exact ⟨hE.1, v, hrun, v, outs, ros, rfl, hp, hS w hSt⟩
  · exact ⟨hE.1, v, hrun, v, outs, ros, rfl, hp, hS w hSt⟩

/-- The regions are put in order, others let go: each named by its place at that moment. -/
theorem St.take {c : Ctx} {w : World} {Xs Os Vs : List Item} : ∀ {Rs : List Item} (k : Nat), St c w Rs Xs Os Vs → St c w (Rs.take k) Xs Os Vs := by
  have key : ∀ (Rs Rs' : List Item), St c w (Rs ++ Rs') Xs Os Vs → St c w Rs Xs Os Vs := by
    intro Rs Rs' ⟨F, h⟩
    obtain ⟨F1, F2, e, h1, h2⟩ := Owns.split h.owns
    subst e
    have hsx : ∀ b, Sx c w (F1 ++ F2) b → Sx c w F1 b := fun b ⟨h1, h2, h3⟩ => ⟨h1, h2, fun hb => h3 (List.mem_append.2 (Or.inl hb))⟩
    have htx : ∀ b, Tx c w (F1 ++ F2) b → Tx c w F1 b := fun b ⟨h1, h2, h3⟩ => ⟨h1, h2, fun hb => h3 (List.mem_append.2 (Or.inl hb))⟩
    exact ⟨F1, Owns.mono hsx h1, (List.nodup_append.1 h.nodup).1, fun b hb => h.lt b (List.mem_append.2 (Or.inl hb)), fun o ho => o.sh.rep_mono hsx (h.xs o ho), fun o ho => o.sh.rep_mono htx (h.os o ho), h.vs, h.keep⟩
  intro Rs k h
  exact key (Rs.take k) (Rs.drop k) (by rw [List.take_append_drop]; exact h)
theorem St.facts {c : Ctx} {w : World} {Rs Xs Os Vs : List Item} (Xs' Os' Vs' : List Item) (h : St c w Rs Xs Os Vs) (hx : ∀ o, o ∈ Xs' → o ∈ Xs) (ho : ∀ o, o ∈ Os' → o ∈ Os ++ Xs) (hv : ∀ o, o ∈ Vs' → o ∈ Rs ++ (Vs ++ (Os ++ Xs))) : St c w Rs Xs' Os' Vs' := h.sub hx ho hv
theorem noItem {l : List Item} : ∀ o, o ∈ ([] : List Item) → o ∈ l := fun o h => by cases h
theorem consItem {l r : List Item} {x : Item} (h : x ∈ l) (hr : ∀ o, o ∈ r → o ∈ l) : ∀ o, o ∈ x :: r → o ∈ l := fun o ho => by
  rcases List.mem_cons.1 ho with rfl | ho
  · exact h
  · exact hr o ho
end Go.Proofs.YtneifoepoccjaaaGreatDoor
