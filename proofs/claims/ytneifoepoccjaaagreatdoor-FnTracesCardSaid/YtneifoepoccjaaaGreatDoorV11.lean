/-
  How a contract of the shelf becomes one of ours, in plain words: what is known of the program's tables, and results without memory. No program in sight.
-/
import Derived.Test.YtneifoepoccjaaaGreatDoorV10
import Derived.Sort.Grow
import Derived.Deep.Draws
import Derived.Lib.ItoaNum
namespace Go.Proofs.YtneifoepoccjaaaGreatDoor

/-- A block of which something is known. -/
def heapS (φ : Option Obj → Prop) : Shape Unit where
  size := 1
  rep := fun w S cs _ => ∃ b, cs = [.pointer (some ⟨b, 0, none⟩)] ∧ S b ∧ φ (w.heap[b]?)
  own := fun w S F cs _ => F = [] ∧ ∃ b, cs = [.pointer (some ⟨b, 0, none⟩)] ∧ S b ∧ φ (w.heap[b]?)
  len := fun ⟨_, e, _⟩ => by rw [e]; rfl
  rep_frame := fun h ⟨b, e, hS, hp⟩ => ⟨b, e, hS, by rw [h b hS]; exact hp⟩
  rep_mono := fun h ⟨b, e, hS, hp⟩ => ⟨b, e, h b hS, hp⟩
  own_frame := fun h _ ⟨eF, b, e, hS, hp⟩ => ⟨eF, b, e, hS, by rw [h b hS]; exact hp⟩
  own_mono := fun h ⟨eF, b, e, hS, hp⟩ => ⟨eF, b, e, h b hS, hp⟩
  own_rep := fun ⟨_, b, e, hS, hp⟩ => ⟨b, e, Or.inl hS, hp⟩
  own_lt := fun ⟨e, _⟩ b hb => by rw [e] at hb; cases hb
/-- A table of the program's: its cells. -/
def gTab (g : Nat) (cells : List Value) : Item := ⟨Unit, heapS (fun o => ∃ T f, o = some (.cells cells.toArray T f)), [.pointer (some ⟨g, 0, none⟩)], ()⟩
/-- A variable of the program's that holds some number. -/
def gNum (g : Nat) : Item := ⟨Unit, heapS (fun o => ∃ cs m T f, o = some (.cells cs T f) ∧ cs[0]? = some (.int .i64 m)), [.pointer (some ⟨g, 0, none⟩)], ()⟩
/-- The powers of ten, as cells. -/
def pow10C : List Value := Lib.pow10Tab.map fun z => Value.int .u64 z
theorem gTab_heap {g : Nat} {cells : List Value} {w : World} {S : Nat → Prop} (h : (gTab g cells).ro w S) : ∃ T f, w.heap[g]? = some (.cells cells.toArray T f) := by
  obtain ⟨b, e, _, hp⟩ := h
  have e' : g = b := by simpa [gTab] using e
  subst e'; exact hp
theorem gNum_cell {g : Nat} {w : World} {S : Nat → Prop} (h : (gNum g).ro w S) : ∃ m, w.cell? ⟨g, 0, none⟩ = some (.int .i64 m) := by
  obtain ⟨b, e, _, cs, m, T, f, hp, hc⟩ := h
  have e' : g = b := by simpa [gNum] using e
  subst e'
  exact ⟨m, by simp [World.cell?, hp, hc]⟩
theorem gTab_var {P : Program} {g : Nat} {cells : List Value} {w : World} {S : Nat → Prop} {name : String} (hn : P.globalNamed name = some g) (h : (gTab g cells).ro w S) : w.var? P name = some cells.toArray := by
  obtain ⟨T, f, hp⟩ := gTab_heap h
  simp [World.var?, hn, hp]

theorem Keep.drewN (w : World) (k : Nat) (F : List Nat) : Keep w (w.drewN k) F := ⟨rfl, rfl, rfl, Nat.le_refl _, fun _ _ _ => rfl⟩
theorem Keep.grow (w : World) (os : Array Obj) (F : List Nat) : Keep w (Sort.grow w os) F :=
  ⟨rfl, rfl, rfl, by simp [Sort.grow], fun b hb _ => by simp [Sort.grow, Array.getElem?_append, hb]⟩

/-- A call that returns a value without memory and changes nothing that was there. -/
theorem ok_flat {P : Program} {f : FuncId} {args : List Value} {RosI RosV : List Item} {v : Value}
    (h : ∀ w, (∀ o, o ∈ RosI ++ RosV → o.ro w (fun b => b < w.heap.size)) → Calls P f args.toArray w fun e w' => e = .returned v ∧ Keep w w' []) : CallOK P f args [] RosI RosV (fun v' outs ros => v' = v ∧ outs = [] ∧ ros = []) := by
  intro w S F hS hI hnd hX hV
  have eF : F = [] := hI
  subst eF
  refine (h w (fun o ho => ?_)).mono ?_
  · rcases List.mem_append.1 ho with ho | ho
    · exact o.sh.rep_mono (fun b hb => (hS b hb).1) (hX o ho)
    · exact o.sh.rep_mono (fun b hb => hb.1) (hV o ho)
  · rintro e w' ⟨rfl, hk⟩
    exact ⟨v, [], [], rfl, ⟨rfl, rfl, rfl⟩, [], rfl, List.nodup_nil, fun b hb => (by cases hb), fun o ho => (by cases ho), hk⟩
/-- A call that returns a new row of data without pointers. -/
theorem ok_row {P : Program} {f : FuncId} {args : List Value} {RosI RosV : List Item} {α : Type} {m : Nat} {enc : α → List Value} {hn : ∀ x, (enc x).length = m} {T : TypeId} {xs : List α}
    (h : ∀ w, (∀ o, o ∈ RosI ++ RosV → o.ro w (fun b => b < w.heap.size)) → Calls P f args.toArray w fun e w' => ∃ a c, e = .returned (.slice a xs.length c) ∧ Keep w w' [] ∧ ∃ F', (∀ S, (SL false T (flatS m enc hn) a c xs).owned w' S F') ∧ F'.Nodup ∧ ∀ b, b ∈ F' → b < w'.heap.size ∧ w.heap.size ≤ b) :
    CallOK P f args [] RosI RosV (fun v' outs ros => ∃ (a : Option Addr) (c : Nat), v' = .slice a xs.length c ∧ outs = [SL false T (flatS m enc hn) a c xs] ∧ ros = []) := by
  intro w S F hS hI hnd hX hV
  have eF : F = [] := hI
  subst eF
  refine (h w (fun o ho => ?_)).mono ?_
  · rcases List.mem_append.1 ho with ho | ho
    · exact o.sh.rep_mono (fun b hb => (hS b hb).1) (hX o ho)
    · exact o.sh.rep_mono (fun b hb => hb.1) (hV o ho)
  · rintro e w' ⟨a, c, rfl, hk, F', h1, h2, h3⟩
    exact ⟨_, _, [], rfl, ⟨a, c, rfl, rfl, rfl⟩, F', ⟨F', [], by simp, h1 _, rfl⟩, h2, fun b hb => ⟨(h3 b hb).1, Or.inr (h3 b hb).2⟩, fun o ho => (by cases ho), hk⟩
end Go.Proofs.YtneifoepoccjaaaGreatDoor
