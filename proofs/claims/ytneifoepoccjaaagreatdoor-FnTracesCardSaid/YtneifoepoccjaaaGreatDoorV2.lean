/-
  The state of a walk, in plain words: the frame's slots that are known ('Env'), the regions that the call owns, the facts that are frozen, and the views that stand until something is written ('St'); and what a call of a function gives ('CallOK'). No program in sight.
-/
import Derived.Test.YtneifoepoccjaaaGreatDoorV1
namespace Go.Proofs.YtneifoepoccjaaaGreatDoor

structure Item where
  α : Type
  sh : Shape α
  cs : List Value
  x : α

def Item.ro (o : Item) (w : World) (S : Nat → Prop) : Prop := o.sh.rep w S o.cs o.x
def Item.owned (o : Item) (w : World) (S : Nat → Prop) (F : List Nat) : Prop := o.sh.own w S F o.cs o.x

def Owns (w : World) (S : Nat → Prop) : List Item → List Nat → Prop
  | [], F => F = []
  | r :: Rs, F => ∃ F1 F2, F = F1 ++ F2 ∧ r.owned w S F1 ∧ Owns w S Rs F2

/-- What was there is as it was, but for the blocks of F. -/
structure Keep (w0 w : World) (F : List Nat) : Prop where
  os : w.os = w0.os
  tape : w.tape = w0.tape
  output : w.output = w0.output
  size : w0.heap.size ≤ w.heap.size
  block : ∀ b, b < w0.heap.size → b ∉ F → w.heap[b]? = w0.heap[b]?

theorem Keep.refl (w : World) (F : List Nat) : Keep w w F := ⟨rfl, rfl, rfl, Nat.le_refl _, fun _ _ _ => rfl⟩
theorem Keep.trans {a b c : World} {F G : List Nat} (h : Keep a b F) (k : Keep b c G) (hG : ∀ x, x ∈ G → x ∈ F ∨ a.heap.size ≤ x) : Keep a c F :=
  ⟨k.os.trans h.os, k.tape.trans h.tape, k.output.trans h.output, Nat.le_trans h.size k.size, fun x hx hn =>
    (k.block x (Nat.lt_of_lt_of_le hx h.size) (fun hg => by rcases hG x hg with h1 | h1; exact hn h1; omega)).trans (h.block x hx hn)⟩
theorem Keep.alloc (w : World) (o : Obj) (F : List Nat) : Keep w (w.alloc o) F :=
  ⟨rfl, rfl, rfl, by simp, fun b hb _ => RowKit.Below.heap_alloc w o b hb⟩
theorem Keep.drew (w : World) (F : List Nat) : Keep w w.drew F := ⟨rfl, rfl, rfl, Nat.le_refl _, fun _ _ _ => rfl⟩
theorem Keep.setCell (w : World) (a : Addr) (u : Value) : Keep w (w.setCell a u) [a.block] :=
  ⟨rfl, rfl, rfl, by simp [World.setCell], fun b _ hn => RowKit.Below.heap_setCell w a u b (by simpa using hn)⟩
theorem Keep.grown {w w' : World} {row : Option Nat} (h : w.grownBy w' row) : Keep w w' row.toList :=
  ⟨h.os, h.tape, h.output, h.size, fun b hb hn => h.block b hb (fun e => hn (by rw [← e]; simp))⟩
theorem Keep.mono {w w' : World} {F G : List Nat} (h : Keep w w' F) (hs : ∀ b, b ∈ F → b ∈ G) : Keep w w' G :=
  ⟨h.os, h.tape, h.output, h.size, fun b hb hn => h.block b hb (fun hf => hn (hs b hf))⟩

/-- What stands fast through a function's body: the world at its start, the blocks that may be shared for good, the blocks that it may write. -/
structure Ctx where
  w0 : World
  S0 : Nat → Prop
  F0 : List Nat
  hS : ∀ b, S0 b → b < w0.heap.size ∧ b ∉ F0

def Sx (c : Ctx) (w : World) (F : List Nat) : Nat → Prop := fun b => (c.S0 b ∨ c.w0.heap.size ≤ b) ∧ b < w.heap.size ∧ b ∉ F
/-- What stands fast for the rest of the body. -/
def Tx (c : Ctx) (w : World) (F : List Nat) : Nat → Prop := fun b => ((b < c.w0.heap.size ∧ b ∉ c.F0) ∨ c.w0.heap.size ≤ b) ∧ b < w.heap.size ∧ b ∉ F
theorem Sx_Tx {c : Ctx} {w : World} {F : List Nat} {b : Nat} (h : Sx c w F b) : Tx c w F b := ⟨h.1.imp (c.hS b) id, h.2⟩

structure StF (c : Ctx) (w : World) (F : List Nat) (Rs Xs Os Vs : List Item) : Prop where
  owns : Owns w (Sx c w F) Rs F
  nodup : F.Nodup
  lt : ∀ b, b ∈ F → b < w.heap.size ∧ (c.w0.heap.size ≤ b ∨ b ∈ c.F0)
  xs : ∀ o, o ∈ Xs → o.ro w (Sx c w F)
  os : ∀ o, o ∈ Os → o.ro w (Tx c w F)
  vs : ∀ o, o ∈ Vs → o.ro w (fun b => b < w.heap.size)
  keep : Keep c.w0 w c.F0

/-- THE STATE: regions owned, facts that may be shared for good, facts that stand fast, views. -/
def St (c : Ctx) (w : World) (Rs Xs Os Vs : List Item) : Prop := ∃ F, StF c w F Rs Xs Os Vs

theorem Owns.frame {w w' : World} {S : Nat → Prop} (h : ∀ b, S b → w'.heap[b]? = w.heap[b]?) : ∀ {Rs : List Item} {F : List Nat}, (∀ b, b ∈ F → w'.heap[b]? = w.heap[b]?) → Owns w S Rs F → Owns w' S Rs F
  | [], _, _, e => e
  | r :: _, _, hF, ⟨F1, F2, e, h1, h2⟩ => ⟨F1, F2, e, r.sh.own_frame h (fun b hb => hF b (by rw [e]; simp [hb])) h1, Owns.frame h (fun b hb => hF b (by rw [e]; simp [hb])) h2⟩
theorem Owns.mono {w : World} {S S' : Nat → Prop} (h : ∀ b, S b → S' b) : ∀ {Rs : List Item} {F : List Nat}, Owns w S Rs F → Owns w S' Rs F
  | [], _, e => e
  | r :: _, _, ⟨F1, F2, e, h1, h2⟩ => ⟨F1, F2, e, r.sh.own_mono h h1, Owns.mono h h2⟩
theorem Owns.append {w : World} {S : Nat → Prop} : ∀ {Rs Rs' : List Item} {F F' : List Nat}, Owns w S Rs F → Owns w S Rs' F' → Owns w S (Rs ++ Rs') (F ++ F')
  | [], _, F, F', e, h => by
    have e' : F = [] := e
    subst e'; exact h
  | r :: _, _, _, _, ⟨F1, F2, e, h1, h2⟩, h => ⟨F1, F2 ++ _, by rw [e, List.append_assoc], h1, Owns.append h2 h⟩
theorem Owns.split {w : World} {S : Nat → Prop} : ∀ {Rs Rs' : List Item} {F : List Nat}, Owns w S (Rs ++ Rs') F → ∃ F1 F2, F = F1 ++ F2 ∧ Owns w S Rs F1 ∧ Owns w S Rs' F2
  | [], _, F, h => ⟨[], F, rfl, rfl, h⟩
  | r :: Rs, Rs', F, ⟨F1, F2, e, h1, h2⟩ => by
    obtain ⟨G1, G2, g, k1, k2⟩ := Owns.split (Rs := Rs) (Rs' := Rs') h2
    exact ⟨F1 ++ G1, G2, by rw [e, g, List.append_assoc], ⟨F1, G1, rfl, h1, k1⟩, k2⟩
theorem Owns.lt {w : World} {S : Nat → Prop} : ∀ {Rs : List Item} {F : List Nat}, Owns w S Rs F → ∀ b, b ∈ F → b < w.heap.size
  | [], F, e, b, hb => by
    have e' : F = [] := e
    rw [e'] at hb; cases hb
  | r :: _, _, ⟨F1, F2, e, h1, h2⟩, b, hb => by
    rw [e] at hb
    rcases List.mem_append.1 hb with h | h
    · exact r.sh.own_lt h1 b h
    · exact Owns.lt h2 b h

/-- THE ONE STEP OF WHICH ALL ARE MADE: some regions in front are changed into others; nothing but their blocks is touched. -/
theorem StF.step {c : Ctx} {w w' : World} {Fin Frest Fout : List Nat} {Rs Xs Os Rout : List Item}
    (hown : Owns w (Sx c w (Fin ++ Frest)) Rs Frest) (hnd : (Fin ++ Frest).Nodup) (hlt : ∀ b, b ∈ Fin ++ Frest → b < w.heap.size ∧ (c.w0.heap.size ≤ b ∨ b ∈ c.F0))
    (hxs : ∀ o, o ∈ Xs → o.ro w (Sx c w (Fin ++ Frest))) (hos : ∀ o, o ∈ Os → o.ro w (Tx c w (Fin ++ Frest))) (hkeep : Keep c.w0 w c.F0) (k : Keep w w' Fin)
    (hout : ∀ S : Nat → Prop, (∀ b, Sx c w (Fin ++ Frest) b → S b) → (∀ b, w.heap.size ≤ b → b < w'.heap.size → b ∉ Fout → S b) → Owns w' S Rout Fout) (hnd' : Fout.Nodup) (hfr : ∀ b, b ∈ Fout → b < w'.heap.size ∧ (b ∈ Fin ∨ w.heap.size ≤ b)) :
    StF c w' (Fout ++ Frest) (Rout ++ Rs) Xs Os [] := by
  have hgo : ∀ b, b < w.heap.size → b ∉ Fin ++ Frest → b < w'.heap.size ∧ b ∉ Fout ++ Frest := fun b h2 h3 => by
    refine ⟨Nat.lt_of_lt_of_le h2 k.size, fun hb => ?_⟩
    rcases List.mem_append.1 hb with hb | hb
    · rcases (hfr b hb).2 with h4 | h4
      · exact h3 (List.mem_append.2 (Or.inl h4))
      · omega
    · exact h3 (List.mem_append.2 (Or.inr hb))
  have hsx : ∀ b, Sx c w (Fin ++ Frest) b → Sx c w' (Fout ++ Frest) b := fun b ⟨h1, h2, h3⟩ => ⟨h1, hgo b h2 h3⟩
  have htx : ∀ b, Tx c w (Fin ++ Frest) b → Tx c w' (Fout ++ Frest) b := fun b ⟨h1, h2, h3⟩ => ⟨h1, hgo b h2 h3⟩
  have hsame : ∀ b, b < w.heap.size → b ∉ Fin ++ Frest → w'.heap[b]? = w.heap[b]? := fun b h2 h3 => k.block b h2 (fun hb => h3 (List.mem_append.2 (Or.inl hb)))
  have hdis : ∀ b, b ∈ Frest → b ∉ Fin := fun b hb hf => (List.nodup_append.1 hnd).2.2 b hf b hb rfl
  have hrest : ∀ b, b ∈ Frest → w'.heap[b]? = w.heap[b]? := fun b hb => k.block b (hlt b (List.mem_append.2 (Or.inr hb))).1 (hdis b hb)
  refine ⟨Owns.append (hout _ hsx ?_) (Owns.mono hsx (Owns.frame (fun b hb => hsame b hb.2.1 hb.2.2) hrest hown)), ?_, ?_,
    fun o ho => o.sh.rep_mono hsx (o.sh.rep_frame (fun b hb => hsame b hb.2.1 hb.2.2) (hxs o ho)), fun o ho => o.sh.rep_mono htx (o.sh.rep_frame (fun b hb => hsame b hb.2.1 hb.2.2) (hos o ho)), fun o ho => (by cases ho), ?_⟩
  · intro b h1 h2 h3
    refine ⟨Or.inr (Nat.le_trans hkeep.size h1), h2, fun hb => ?_⟩
    rcases List.mem_append.1 hb with hb | hb
    · exact h3 hb
    · have := (hlt b (List.mem_append.2 (Or.inr hb))).1; omega
  · refine List.nodup_append.2 ⟨hnd', (List.nodup_append.1 hnd).2.1, fun b hb b' hb' e => ?_⟩
    subst e
    rcases (hfr b hb).2 with h4 | h4
    · exact hdis b hb' h4
    · have := (hlt b (List.mem_append.2 (Or.inr hb'))).1; omega
  · intro b hb
    rcases List.mem_append.1 hb with hb | hb
    · refine ⟨(hfr b hb).1, ?_⟩
      rcases (hfr b hb).2 with h4 | h4
      · exact (hlt b (List.mem_append.2 (Or.inl h4))).2
      · exact Or.inl (Nat.le_trans hkeep.size h4)
    · have := hlt b (List.mem_append.2 (Or.inr hb))
      exact ⟨Nat.lt_of_lt_of_le this.1 k.size, this.2⟩
  · exact hkeep.trans k (fun x hx => by
      rcases (hlt x (List.mem_append.2 (Or.inl hx))).2 with h1 | h1
      · exact Or.inr h1
      · exact Or.inl h1)

/-- The same where nothing old is written: the views stand. -/
theorem StF.fresh {c : Ctx} {w w' : World} {F Fout : List Nat} {Rs Xs Os Vs Rout : List Item} (h : StF c w F Rs Xs Os Vs) (k : Keep w w' [])
    (hout : ∀ S : Nat → Prop, (∀ b, Sx c w F b → S b) → (∀ b, w.heap.size ≤ b → b < w'.heap.size → b ∉ Fout → S b) → Owns w' S Rout Fout) (hnd' : Fout.Nodup) (hfr : ∀ b, b ∈ Fout → b < w'.heap.size ∧ w.heap.size ≤ b) :
    StF c w' (Fout ++ F) (Rout ++ Rs) Xs Os Vs := by
  have h1 := StF.step (c := c) (w := w) (w' := w') (Fin := []) (Frest := F) (Fout := Fout) (Rs := Rs) (Xs := Xs) (Os := Os) (Rout := Rout) h.owns h.nodup h.lt h.xs h.os h.keep k hout hnd' (fun b hb => ⟨(hfr b hb).1, Or.inr (hfr b hb).2⟩)
  refine ⟨h1.owns, h1.nodup, h1.lt, h1.xs, h1.os, fun o ho => ?_, h1.keep⟩
  exact o.sh.rep_mono (fun b hb => Nat.lt_of_lt_of_le hb k.size) (o.sh.rep_frame (fun b hb => k.block b hb (by simp)) (h.vs o ho))

theorem St.fresh {c : Ctx} {w w' : World} {Fout : List Nat} {Rs Xs Os Vs Rout : List Item} (h : St c w Rs Xs Os Vs) (k : Keep w w' [])
    (hout : ∀ S : Nat → Prop, (∀ b, w.heap.size ≤ b → b < w'.heap.size → b ∉ Fout → S b) → Owns w' S Rout Fout) (hnd' : Fout.Nodup) (hfr : ∀ b, b ∈ Fout → b < w'.heap.size ∧ w.heap.size ≤ b) :
    St c w' (Rout ++ Rs) Xs Os Vs :=
  let ⟨_, h⟩ := h
  ⟨_, h.fresh k (fun S _ hS => hout S hS) hnd' hfr⟩
theorem St.same {c : Ctx} {w w' : World} {Rs Xs Os Vs : List Item} (h : St c w Rs Xs Os Vs) (k : Keep w w' []) : St c w' Rs Xs Os Vs := by
  have := h.fresh (Fout := []) (Rout := []) k (fun _ _ => rfl) List.nodup_nil (fun b hb => by cases hb)
  exact this

/-- All that can be read now: the regions, the views, the facts. -/
theorem St.all {c : Ctx} {w : World} {Rs Xs Os Vs : List Item} (h : St c w Rs Xs Os Vs) {o : Item} (ho : o ∈ Rs ++ (Vs ++ (Os ++ Xs))) : o.ro w (fun b => b < w.heap.size) := by
  obtain ⟨F, h⟩ := h
  have hown : ∀ {Rs : List Item} {F : List Nat} {S : Nat → Prop}, (∀ b, S b → b < w.heap.size) → Owns w S Rs F → ∀ o, o ∈ Rs → o.ro w (fun b => b < w.heap.size) := by
    intro Rs
    induction Rs with
    | nil => intro F S _ _ o ho; cases ho
    | cons r Rs ih =>
      intro F S hS ⟨F1, F2, e, h1, h2⟩ o ho
      rcases List.mem_cons.1 ho with rfl | ho
      · exact o.sh.rep_mono (fun b hb => hb.elim (hS b) (o.sh.own_lt h1 b)) (o.sh.own_rep h1)
      · exact ih hS h2 o ho
  rcases List.mem_append.1 ho with ho | ho
  · exact hown (fun b hb => hb.2.1) h.owns o ho
  · rcases List.mem_append.1 ho with ho | ho
    · exact h.vs o ho
    · rcases List.mem_append.1 ho with ho | ho
      · exact o.sh.rep_mono (fun b hb => hb.2.1) (h.os o ho)
      · exact o.sh.rep_mono (fun b hb => hb.2.1) (h.xs o ho)
/-- What follows from a fact that stands fast stands fast; what follows from what can be read is a view. -/
theorem St.addO {c : Ctx} {w : World} {Rs Xs Os Vs : List Item} (h : St c w Rs Xs Os Vs) {o o' : Item} (ho : o ∈ Os ++ Xs) (hd : ∀ S, o.ro w S → o'.ro w S) : St c w Rs Xs (o' :: Os) Vs := by
  obtain ⟨F, h⟩ := h
  refine ⟨F, h.owns, h.nodup, h.lt, h.xs, fun q hq => ?_, h.vs, h.keep⟩
  rcases List.mem_cons.1 hq with rfl | hq
  · rcases List.mem_append.1 ho with ho | ho
    · exact hd _ (h.os o ho)
    · exact q.sh.rep_mono (fun b hb => Sx_Tx hb) (hd _ (h.xs o ho))
  · exact h.os q hq
theorem St.addV {c : Ctx} {w : World} {Rs Xs Os Vs : List Item} (h : St c w Rs Xs Os Vs) {o o' : Item} (ho : o ∈ Rs ++ (Vs ++ (Os ++ Xs))) (hd : ∀ S, o.ro w S → o'.ro w S) : St c w Rs Xs Os (o' :: Vs) := by
  have h1 := hd _ (h.all ho)
  obtain ⟨F, h⟩ := h
  refine ⟨F, h.owns, h.nodup, h.lt, h.xs, h.os, fun q hq => ?_, h.keep⟩
  rcases List.mem_cons.1 hq with rfl | hq
  · exact h1
  · exact h.vs q hq

/-- A region is brought to the front. -/
theorem Owns.pick {w : World} {S : Nat → Prop} : ∀ {Rs : List Item} {F : List Nat} {i : Nat} {r : Item}, Rs[i]? = some r → Owns w S Rs F → ∃ G, F.Perm G ∧ Owns w S (r :: Rs.eraseIdx i) G
  | [], _, i, r, hr, _ => by simp at hr
  | r0 :: Rs, F, 0, r, hr, h => by
    have : r0 = r := by simpa using hr
    subst this
    exact ⟨F, List.Perm.refl _, h⟩
  | r0 :: Rs, F, i + 1, r, hr, ⟨F1, F2, e, h1, h2⟩ => by
    obtain ⟨G, hp, G1, G2, g, k1, k2⟩ := Owns.pick (Rs := Rs) (i := i) (r := r) (by simpa using hr) h2
    refine ⟨G1 ++ (F1 ++ G2), ?_, G1, F1 ++ G2, rfl, k1, F1, G2, rfl, h1, k2⟩
    rw [e]
    refine (List.Perm.append_left F1 hp).trans ?_
    rw [g, ← List.append_assoc, ← List.append_assoc]
    exact List.Perm.append_right G2 List.perm_append_comm

theorem StF.perm {c : Ctx} {w : World} {F G : List Nat} {Rs Rs' Xs Os Vs : List Item} (h : StF c w F Rs Xs Os Vs) (hp : F.Perm G) (ho : Owns w (Sx c w F) Rs' G) : StF c w G Rs' Xs Os Vs := by
  have hsx : ∀ b, Sx c w F b → Sx c w G b := fun b ⟨h1, h2, h3⟩ => ⟨h1, h2, fun hb => h3 (hp.mem_iff.2 hb)⟩
  have htx : ∀ b, Tx c w F b → Tx c w G b := fun b ⟨h1, h2, h3⟩ => ⟨h1, h2, fun hb => h3 (hp.mem_iff.2 hb)⟩
  exact ⟨Owns.mono hsx ho, hp.nodup_iff.1 h.nodup, fun b hb => h.lt b (hp.mem_iff.2 hb), fun o ho => o.sh.rep_mono hsx (h.xs o ho), fun o ho => o.sh.rep_mono htx (h.os o ho), h.vs, h.keep⟩
theorem St.pick {c : Ctx} {w : World} {Rs Xs Os Vs : List Item} (i : Nat) {r : Item} (hr : Rs[i]? = some r) (h : St c w Rs Xs Os Vs) : St c w (r :: Rs.eraseIdx i) Xs Os Vs := by
  obtain ⟨F, h⟩ := h
  obtain ⟨G, hp, ho⟩ := Owns.pick hr h.owns
  exact ⟨G, h.perm hp ho⟩

/-- The region in front is let go. -/
theorem StF.drop1 {c : Ctx} {w : World} {F1 F2 : List Nat} {Rs Xs Os Vs : List Item} (h : StF c w (F1 ++ F2) Rs Xs Os Vs) {Rs' : List Item} (ho : Owns w (Sx c w (F1 ++ F2)) Rs' F2) : StF c w F2 Rs' Xs Os Vs := by
  have hsx : ∀ b, Sx c w (F1 ++ F2) b → Sx c w F2 b := fun b ⟨h1, h2, h3⟩ => ⟨h1, h2, fun hb => h3 (List.mem_append.2 (Or.inr hb))⟩
  have htx : ∀ b, Tx c w (F1 ++ F2) b → Tx c w F2 b := fun b ⟨h1, h2, h3⟩ => ⟨h1, h2, fun hb => h3 (List.mem_append.2 (Or.inr hb))⟩
  exact ⟨Owns.mono hsx ho, (List.nodup_append.1 h.nodup).2.1, fun b hb => h.lt b (List.mem_append.2 (Or.inr hb)), fun o ho => o.sh.rep_mono hsx (h.xs o ho), fun o ho => o.sh.rep_mono htx (h.os o ho), h.vs, h.keep⟩
theorem St.drop {c : Ctx} {w : World} {r : Item} {Rs Xs Os Vs : List Item} (h : St c w (r :: Rs) Xs Os Vs) : St c w Rs Xs Os Vs := by
  obtain ⟨F, h⟩ := h
  obtain ⟨F1, F2, e, h1, h2⟩ := h.owns
  subst e
  exact ⟨F2, h.drop1 h2⟩
/-- The region in front is frozen (where the function writes nothing of its caller's): a fact from now on. -/
theorem St.freeze {c : Ctx} {w : World} {r : Item} {Rs Xs Os Vs : List Item} (h : St c w (r :: Rs) Xs Os Vs) (hF0 : c.F0 = []) : St c w Rs Xs (r :: Os) Vs := by
  obtain ⟨F, h⟩ := h
  obtain ⟨F1, F2, e, h1, h2⟩ := h.owns
  subst e
  have hd := h.drop1 h2
  refine ⟨F2, hd.owns, hd.nodup, hd.lt, hd.xs, fun o ho => ?_, hd.vs, hd.keep⟩
  rcases List.mem_cons.1 ho with rfl | ho
  · refine o.sh.rep_mono (fun b hb => ?_) (o.sh.own_rep h1)
    rcases hb with hb | hb
    · have hb := Sx_Tx hb
      exact ⟨hb.1, hb.2.1, fun h3 => hb.2.2 (List.mem_append.2 (Or.inr h3))⟩
    · have hl := h.lt b (List.mem_append.2 (Or.inl hb))
      refine ⟨?_, hl.1, fun h3 => (List.nodup_append.1 h.nodup).2.2 b hb b h3 rfl⟩
      rcases hl.2 with h4 | h4
      · exact Or.inr h4
      · rw [hF0] at h4; cases h4
  · exact hd.os o ho
/-- Facts may be forgotten, doubled, put in another order. -/
theorem St.sub {c : Ctx} {w : World} {Rs Xs Os Vs Xs' Os' Vs' : List Item} (h : St c w Rs Xs Os Vs) (hx : ∀ o, o ∈ Xs' → o ∈ Xs) (ho : ∀ o, o ∈ Os' → o ∈ Os ++ Xs) (hv : ∀ o, o ∈ Vs' → o ∈ Rs ++ (Vs ++ (Os ++ Xs))) : St c w Rs Xs' Os' Vs' :=
  have h0 := h
  let ⟨F, h⟩ := h
  ⟨F, h.owns, h.nodup, h.lt, fun o hm => h.xs o (hx o hm), fun o hm => (List.mem_append.1 (ho o hm)).elim (h.os o) (fun h2 => o.sh.rep_mono (fun _ hb => Sx_Tx hb) (h.xs o h2)), fun o hm => h0.all (hv o hm), h.keep⟩
/-- A nil slice is a region of no block. -/
theorem St.nil {c : Ctx} {w : World} {Rs Xs Os Vs : List Item} (h : St c w Rs Xs Os Vs) {α : Type} (nt : Bool) (T : TypeId) (s : Shape α) : St c w (⟨List α, sliceS nt T s, [.slice none 0 0], []⟩ :: Rs) Xs Os Vs :=
  h.fresh (Rout := [⟨List α, sliceS nt T s, [.slice none 0 0], []⟩]) (Fout := []) (Keep.refl w [])
    (fun _ _ => ⟨[], [], rfl, ⟨.slice none 0 0, [], [], rfl, ⟨none, 0, rfl, fun _ => ⟨fun _ => rfl, fun _ => rfl⟩⟩, World.ownsRow_nil w 0 T s.size, ⟨rfl, rfl⟩, rfl⟩, rfl⟩) List.nodup_nil (fun _ hb => by cases hb)

/-- WHAT A CALL GIVES. 'Ins': regions handed over (written, and handed back); 'RosI': what may be kept; 'RosV': what is only read. -/
def CallOK (P : Program) (f : FuncId) (args : List Value) (Ins RosI RosV : List Item) (Post : Value → List Item → List Item → Prop) : Prop :=
  ∀ (w : World) (S : Nat → Prop) (F : List Nat), (∀ b, S b → b < w.heap.size ∧ b ∉ F) → Owns w S Ins F → F.Nodup → (∀ o, o ∈ RosI → o.ro w S) →
    (∀ o, o ∈ RosV → o.ro w (fun b => b < w.heap.size ∧ b ∉ F)) →
    Calls P f args.toArray w fun e w' => ∃ v outs ros, e = .returned v ∧ Post v outs ros ∧
      ∃ F', Owns w' (fun b => (S b ∨ w.heap.size ≤ b) ∧ b < w'.heap.size ∧ b ∉ F') outs F' ∧ F'.Nodup ∧ (∀ b, b ∈ F' → b < w'.heap.size ∧ (b ∈ F ∨ w.heap.size ≤ b)) ∧
        (∀ o, o ∈ ros → o.ro w' (fun b => (S b ∨ w.heap.size ≤ b) ∧ b < w'.heap.size ∧ b ∉ F')) ∧ Keep w w' F

theorem CallOK.mono {P : Program} {f : FuncId} {args : List Value} {Ins RosI RosV : List Item} {Post Post' : Value → List Item → List Item → Prop} (h : CallOK P f args Ins RosI RosV Post)
    (hp : ∀ v outs ros, Post v outs ros → Post' v outs ros) : CallOK P f args Ins RosI RosV Post' :=
  fun w S F a b c d e => (h w S F a b c d e).mono fun _ _ ⟨v, outs, ros, he, hq, r⟩ => ⟨v, outs, ros, he, hp _ _ _ hq, r⟩

/-- A call that is handed the regions in front: they come back changed; the views are gone. -/
theorem St.callIn {P : Program} {f : FuncId} {args : List Value} {Ins RosI RosV : List Item} {Post : Value → List Item → List Item → Prop} {c : Ctx} {w : World} {Rs Xs Os Vs : List Item} {R : Ending → World → Prop}
    (hc : CallOK P f args Ins RosI RosV Post) (h : St c w (Ins ++ Rs) Xs Os Vs) (hI : ∀ o, o ∈ RosI → o ∈ Xs) (hV : ∀ o, o ∈ RosV → o ∈ Rs ++ (Os ++ Xs))
    (hk : ∀ v outs ros w', Post v outs ros → St c w' (outs ++ Rs) (ros ++ Xs) Os [] → R (.returned v) w') : Calls P f args.toArray w R := by
  obtain ⟨F, h⟩ := h
  obtain ⟨F1, F2, e, h1, h2⟩ := Owns.split h.owns
  subst e
  have hdis : ∀ b, b ∈ F2 → b ∉ F1 := fun b hb hf => (List.nodup_append.1 h.nodup).2.2 b hf b hb rfl
  have hrs : ∀ {Rs : List Item} {G : List Nat}, (∀ b, b ∈ G → b ∈ F2) → Owns w (Sx c w (F1 ++ F2)) Rs G → ∀ o, o ∈ Rs → o.ro w (fun b => b < w.heap.size ∧ b ∉ F1) := by
    intro Rs
    induction Rs with
    | nil => intro G _ _ o ho; cases ho
    | cons r Rs ih =>
      intro G hG ⟨G1, G2, e, k1, k2⟩ o ho
      rcases List.mem_cons.1 ho with rfl | ho
      · refine o.sh.rep_mono (fun b hb => ?_) (o.sh.own_rep k1)
        rcases hb with hb | hb
        · exact ⟨hb.2.1, fun h3 => hb.2.2 (List.mem_append.2 (Or.inl h3))⟩
        · exact ⟨o.sh.own_lt k1 b hb, hdis b (hG b (by rw [e]; simp [hb]))⟩
      · exact ih (fun b hb => hG b (by rw [e]; simp [hb])) k2 o ho
  refine (hc w (Sx c w (F1 ++ F2)) F1 (fun b hb => ⟨hb.2.1, fun h3 => hb.2.2 (List.mem_append.2 (Or.inl h3))⟩) h1 (List.nodup_append.1 h.nodup).1 (fun o ho => h.xs o (hI o ho)) (fun o ho => ?_)).mono ?_
  · rcases List.mem_append.1 (hV o ho) with ho | ho
    · exact hrs (fun b hb => hb) h2 o ho
    · rcases List.mem_append.1 ho with ho | ho
      · exact o.sh.rep_mono (fun b hb => ⟨hb.2.1, fun h3 => hb.2.2 (List.mem_append.2 (Or.inl h3))⟩) (h.os o ho)
      · exact o.sh.rep_mono (fun b hb => ⟨hb.2.1, fun h3 => hb.2.2 (List.mem_append.2 (Or.inl h3))⟩) (h.xs o ho)
  · rintro e w' ⟨v, outs, ros, rfl, hq, F', g1, g2, g3, g4, g5⟩
    refine hk v outs ros w' hq ?_
    have hsub : ∀ b, ((Sx c w (F1 ++ F2) b ∨ w.heap.size ≤ b) ∧ b < w'.heap.size ∧ b ∉ F') → ∀ S : Nat → Prop, (∀ b, Sx c w (F1 ++ F2) b → S b) → (∀ b, w.heap.size ≤ b → b < w'.heap.size → b ∉ F' → S b) → S b :=
      fun b hb S hS1 hS2 => hb.1.elim (hS1 b) (fun h1 => hS2 b h1 hb.2.1 hb.2.2)
    have h3 := StF.step (c := c) h2 h.nodup h.lt h.xs h.os h.keep g5 (fun S hS1 hS2 => Owns.mono (fun b hb => hsub b hb S hS1 hS2) g1) g2 g3
    refine ⟨F' ++ F2, h3.owns, h3.nodup, h3.lt, fun o ho => ?_, h3.os, h3.vs, h3.keep⟩
    rcases List.mem_append.1 ho with ho | ho
    · refine o.sh.rep_mono (fun b hb => ?_) (g4 o ho)
      rcases hb.1 with h5 | h5
      · exact ⟨h5.1, hb.2.1, fun h4 => by
          rcases List.mem_append.1 h4 with h6 | h6
          · exact hb.2.2 h6
          · exact h5.2.2 (List.mem_append.2 (Or.inr h6))⟩
      · exact ⟨Or.inr (Nat.le_trans h.keep.size h5), hb.2.1, fun h4 => by
          rcases List.mem_append.1 h4 with h6 | h6
          · exact hb.2.2 h6
          · have := (h.lt b (List.mem_append.2 (Or.inr h6))).1; omega⟩
    · exact h3.xs o ho

/-- A call that is handed nothing to write: all that was known stands, and what it hands back comes in front. -/
theorem St.call {P : Program} {f : FuncId} {args : List Value} {RosI RosV : List Item} {Post : Value → List Item → List Item → Prop} {c : Ctx} {w : World} {Rs Xs Os Vs : List Item} {R : Ending → World → Prop}
    (hc : CallOK P f args [] RosI RosV Post) (h : St c w Rs Xs Os Vs) (hI : ∀ o, o ∈ RosI → o ∈ Xs) (hV : ∀ o, o ∈ RosV → o ∈ Rs ++ (Vs ++ (Os ++ Xs)))
    (hk : ∀ v outs ros w', Post v outs ros → St c w' (outs ++ Rs) (ros ++ Xs) Os Vs → R (.returned v) w') : Calls P f args.toArray w R := by
  have h0 := h
  obtain ⟨F, h⟩ := h
  refine (hc w (Sx c w F) [] (fun b hb => ⟨hb.2.1, by simp⟩) rfl List.nodup_nil (fun o ho => h.xs o (hI o ho)) (fun o ho => o.sh.rep_mono (fun b hb => ⟨hb, by simp⟩) (h0.all (hV o ho)))).mono ?_
  rintro e w' ⟨v, outs, ros, rfl, hq, F', g1, g2, g3, g4, g5⟩
  refine hk v outs ros w' hq ?_
  have hg3 : ∀ b, b ∈ F' → b < w'.heap.size ∧ w.heap.size ≤ b := fun b hb => ⟨(g3 b hb).1, (g3 b hb).2.resolve_left (by simp)⟩
  have hsub : ∀ b, ((Sx c w F b ∨ w.heap.size ≤ b) ∧ b < w'.heap.size ∧ b ∉ F') → ∀ S : Nat → Prop, (∀ b, Sx c w F b → S b) → (∀ b, w.heap.size ≤ b → b < w'.heap.size → b ∉ F' → S b) → S b :=
    fun b hb S hS1 hS2 => hb.1.elim (hS1 b) (fun h1 => hS2 b h1 hb.2.1 hb.2.2)
  have h2 := h.fresh (Fout := F') (Rout := outs) g5 (fun S hS1 hS2 => Owns.mono (fun b hb => hsub b hb S hS1 hS2) g1) g2 hg3
  refine ⟨F' ++ F, h2.owns, h2.nodup, h2.lt, fun o ho => ?_, h2.os, h2.vs, h2.keep⟩
  rcases List.mem_append.1 ho with ho | ho
  · refine o.sh.rep_mono (fun b hb => ?_) (g4 o ho)
    rcases hb.1 with h3 | h3
    · exact ⟨h3.1, hb.2.1, fun h4 => by
        rcases List.mem_append.1 h4 with h5 | h5
        · exact hb.2.2 h5
        · exact h3.2.2 h5⟩
    · exact ⟨Or.inr (Nat.le_trans h.keep.size h3), hb.2.1, fun h4 => by
        rcases List.mem_append.1 h4 with h5 | h5
        · exact hb.2.2 h5
        · have := (h.lt b h5).1; omega⟩
  · exact h2.xs o ho

/-! ## Regions chosen and put in order: by their places -/
theorem Owns.mem {w : World} {S : Nat → Prop} : ∀ {Rs : List Item} {F : List Nat}, Owns w S Rs F → ∃ Fs : List (List Nat), Fs.length = Rs.length ∧ F = Fs.flatten ∧ ∀ (i : Nat) (r : Item) (G : List Nat), Rs[i]? = some r → Fs[i]? = some G → r.owned w S G
  | [], F, e => ⟨[], rfl, e, fun i r G h => by simp at h⟩
  | r :: Rs, F, ⟨F1, F2, e, h1, h2⟩ => by
    obtain ⟨Fs, hl, hf, hi⟩ := Owns.mem h2
    refine ⟨F1 :: Fs, by simp [hl], by simp [e, hf], fun i q G hq hG => ?_⟩
    cases i with
    | zero =>
      simp only [List.getElem?_cons_zero, Option.some.injEq] at hq hG
      subst hq; subst hG; exact h1
    | succ i => exact hi i q G (by simpa using hq) (by simpa using hG)

end Go.Proofs.YtneifoepoccjaaaGreatDoor
