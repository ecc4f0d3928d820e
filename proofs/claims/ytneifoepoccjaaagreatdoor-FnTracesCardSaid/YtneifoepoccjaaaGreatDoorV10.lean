/-
  More rules for statements whose order is open, in plain words. No program in sight.
-/
import Derived.Test.YtneifoepoccjaaaGreatDoorV9
namespace Go.Proofs.YtneifoepoccjaaaGreatDoor

theorem memN {l : List Nat} (i : Nat) {x : Nat} (h : l[i]? = some x) : x ∈ l := List.mem_of_getElem? h
def newF (i : Nat) (T : TypeId) (cells : List Value) : Free := ⟨[i], fun vals => ∃ b, vals i = .pointer (some ⟨b, 0, none⟩), fun vals => [⟨_, blkS T, [vals i], cells⟩], fun _ => []⟩
def rowF {α : Type} (i : Nat) (T : TypeId) (s : Shape α) (xs : List α) : Free := ⟨[i], fun vals => ∃ a c, vals i = .slice a xs.length c, fun vals => [⟨_, sliceS false T s, [vals i], xs⟩], fun _ => []⟩
abbrev litF {α : Type} {m : Nat} (i : Nat) (T : TypeId) {enc : α → List Value} {hn : ∀ x, (enc x).length = m} (xs : List α) : Free := rowF i T (flatS m enc hn) xs

theorem memV {α : Type 1} {R V O X : List α} {x : α} (h : x ∈ V) : x ∈ R ++ (V ++ (O ++ X)) := List.mem_append.2 (Or.inr (List.mem_append.2 (Or.inl h)))
theorem memO {α : Type 1} {R V O X : List α} {x : α} (h : x ∈ O) : x ∈ R ++ (V ++ (O ++ X)) := List.mem_append.2 (Or.inr (List.mem_append.2 (Or.inr (List.mem_append.2 (Or.inl h)))))
theorem memX {α : Type 1} {R V O X : List α} {x : α} (h : x ∈ X) : x ∈ R ++ (V ++ (O ++ X)) := List.mem_append.2 (Or.inr (List.mem_append.2 (Or.inr (List.mem_append.2 (Or.inr h)))))

section
variable {P : Program} {c : Ctx} {n : Nat} {Q : Exit → Act → World → Prop} {E E' : Slots} {Rs Xs Os Vs : List Item} {ops : Array Oper} {l : List Oper} {o : Oper}
theorem gl_convV {E2 : Slots} {V2 : List Item} (e1 : E = E2) (e2 : Vs = V2) (h : GL P c n ops Q l E2 Rs Xs Os V2) : GL P c n ops Q l E Rs Xs Os Vs := by
  subst e1; subst e2; exact h
theorem elem_at {α : Type} {s : Shape α} {nt : Bool} {T : TypeId} {a : Option Addr} {cp : Nat} {xs : List α} {i : Int} {y : α} {p : Addr} (hy : idxO xs i = some y) (hp : a.map (fun A => A.add (i.toNat * s.size)) = some p)
    {w : World} {S : Nat → Prop} (hr : (SL nt T s a cp xs).ro w S) : (AT s p y).ro w S := by
  obtain ⟨h0, hlt, hx⟩ := idxO_some hy
  obtain ⟨a', c', e, _, _, hA⟩ := hr
  have e' : a = a' ∧ cp = c' := by simpa using e
  obtain ⟨rfl, rfl⟩ := e'
  obtain ⟨A, rfl, hsp, hSA, hrep⟩ := hA (by intro h; have h' : xs = [] := h; rw [h'] at hlt; simp at hlt)
  obtain ⟨ds, hds, hcell⟩ := hrep _ y hx
  have ep : A.add (i.toNat * s.size) = ⟨A.block, A.off + i.toNat * s.size, none⟩ := by
    obtain ⟨b, off, sp⟩ := A
    simp only at hsp
    subst hsp
    unfold Addr.add
    split <;> simp_all
  have e2 : A.add (i.toNat * s.size) = p := by simpa using hp
  subst e2
  refine ⟨_, rfl, by rw [ep], by rw [ep]; exact hSA, ds, hds, fun j v hj => ?_⟩
  rw [ep]
  have := hcell j v hj
  simpa [Nat.add_assoc] using this
/-- What an element's address holds, told anew. -/
theorem gl_elemV {α : Type} {s : Shape α} {nt : Bool} {T : TypeId} {a : Option Addr} {cp : Nat} {xs : List α} {i : Int} {y : α} {p : Addr} (hm : SL nt T s a cp xs ∈ Rs ++ (Vs ++ (Os ++ Xs))) (hy : idxO xs i = some y) (hp : a.map (fun A => A.add (i.toNat * s.size)) = some p)
    (h : GL P c n ops Q l E Rs Xs Os (AT s p y :: Vs)) : GL P c n ops Q l E Rs Xs Os Vs :=
  fun a w hE hS => h a w hE (hS.addV hm (fun _ hr => elem_at hy hp hr))
theorem st_det0 {c : Ctx} {Rs Xs A Os0 O' V : List Item} : ∀ w, St c w Rs Xs (A ++ (Os0 ++ O')) V → St c w ([] ++ ([] ++ Rs)) Xs ([] ++ O') [] :=
  fun w h => h.sub (fun _ h => h) (fun o ho => List.mem_append.2 (Or.inl (List.mem_append.2 (Or.inr (List.mem_append.2 (Or.inr ho)))))) (fun o ho => by cases ho)
theorem st_eff {c : Ctx} {Rs Xs A Os0 O' V : List Item} : ∀ w, St c w Rs Xs (A ++ (Os0 ++ O')) V → St c w Rs Xs ([] ++ O') [] :=
  fun _ h => h.sub (fun _ h => h) (fun _ ho => List.mem_append.2 (Or.inl (List.mem_append.2 (Or.inr (List.mem_append.2 (Or.inr ho)))))) (fun o ho => by cases ho)
theorem st_mk {c : Ctx} {X : Item} {Rs Xs A Os0 O' V : List Item} : ∀ w, St c w (X :: Rs) Xs (A ++ (Os0 ++ O')) V → St c w ([] ++ ([X] ++ Rs)) Xs ([] ++ O') [] :=
  fun w h => h.sub (fun _ h => h) (fun o ho => List.mem_append.2 (Or.inl (List.mem_append.2 (Or.inr (List.mem_append.2 (Or.inr ho)))))) (fun o ho => by cases ho)
end
end Go.Proofs.YtneifoepoccjaaaGreatDoor
