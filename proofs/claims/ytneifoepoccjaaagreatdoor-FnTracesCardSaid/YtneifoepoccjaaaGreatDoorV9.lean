/-
  More rules of a walk, in plain words: the ways out of a piece of code, division, bytes and strings. No program in sight.
-/
import Derived.Test.YtneifoepoccjaaaGreatDoorV6
import Derived.Test.YtneifoepoccjaaaGreatDoorV8
import Derived.Laws.BytesArg
import Derived.Lib.AppendStr
namespace Go.Proofs.YtneifoepoccjaaaGreatDoor

theorem elimL {α β γ : Type} {f : α → γ} {g : β → γ} {s : α} {r : γ} (h : Sum.elim f g (.inl s) = r) : f s = r := h
theorem elimR {α β γ : Type} {f : α → γ} {g : β → γ} {s : β} {r : γ} (h : Sum.elim f g (.inr s) = r) : g s = r := h
theorem inL {α β : Type} {f : α → Exit → Act → World → Prop} {g : β → Exit → Act → World → Prop} {s : α} {e : Exit} {a : Act} {w : World} (h : f s e a w) : Sum.elim f g (.inl s) e a w := h
theorem inR {α β : Type} {f : α → Exit → Act → World → Prop} {g : β → Exit → Act → World → Prop} {s : β} {e : Exit} {a : Act} {w : World} (h : g s e a w) : Sum.elim f g (.inr s) e a w := h
theorem lp_in {σ ρ : Type} {A : σ → Act → World → Prop} {B : ρ → Exit → Act → World → Prop} {s : σ} {a : Act} {w : World} (h : A s a w) : LP A B (.inl s) .normal a w := ⟨rfl, h⟩
theorem lp_out {σ ρ : Type} {A : σ → Act → World → Prop} {B : ρ → Exit → Act → World → Prop} {r : ρ} {e : Exit} {a : Act} {w : World} (he : e ≠ .normal) (h : B r e a w) : LP A B (.inr r) e a w := ⟨he, h⟩

def toStr (xs : List Int) : List UInt8 := xs.map fun n => UInt8.ofNat n.toNat
def toBytes (s : List UInt8) : List Int := s.map fun b => (b.toNat : Int)
def quoO (k : IntKind) (a b : Int) : Option Int := if b = 0 then none else some (k.wrap (a.tdiv b))
def remO (_k : IntKind) (a b : Int) : Option Int := if b = 0 then none else some (a.tmod b)
/-- A string's bytes behind a row of bytes. -/
def appsO (xs : List Int) (s : List UInt8) : Option (List Int) := if xs.length + s.length ≤ 140737488355328 then some (xs ++ toBytes s) else none
theorem appsO_some {xs zs : List Int} {s : List UInt8} (h : appsO xs s = some zs) : xs.length + s.length ≤ 140737488355328 ∧ zs = xs ++ toBytes s := by
  unfold appsO at h
  split at h
  · exact ⟨by assumption, (Option.some.inj h).symm⟩
  · cases h

section
variable {P : Program} {c : Ctx} {n : Nat} {Q : Exit → Act → World → Prop} {E E' : Slots} {Rs Xs Os Vs : List Item} {ops : Array Oper} {l : List Oper} {o : Oper}
variable {d : Nat} {ty : TypeId} {pos : String} {aft : Array Edge} {gd : Option (Nat × Bool)}

theorem g_enter {x : Code} {a : Act} {w : World} (hE : Env a n E) (hS : St c w Rs Xs Os Vs) (h : G P c n x Q E Rs Xs Os Vs) : x.wp P Q a w := h a w hE hS
theorem gx_to {e : Exit} {a : Act} {w : World} (hE : Env a n E) (hS : St c w Rs Xs Os Vs) (h : GX c n e Q E Rs Xs Os Vs) : Q e a w := h a w hE hS
/-- The same state, spelt otherwise. -/
theorem gl_conv {E2 : Slots} {R2 O2 : List Item} (e1 : E = E2) (e2 : Rs = R2) (e3 : Os = O2) (h : GL P c n ops Q l E2 R2 Xs O2 Vs) : GL P c n ops Q l E Rs Xs Os Vs := by
  subst e1; subst e2; subst e3; exact h
/-- An element that is there has an address. -/
theorem g_elem {α : Type} {s : Shape α} {nt : Bool} {T : TypeId} {a : Option Addr} {cp : Nat} {xs : List α} {i : Int} {y : α} {x : Code} (hm : SL nt T s a cp xs ∈ Rs ++ (Vs ++ (Os ++ Xs))) (hy : idxO xs i = some y)
    (h : ∀ p, a.map (fun A => A.add (i.toNat * s.size)) = some p → G P c n x Q E Rs Xs Os Vs) : G P c n x Q E Rs Xs Os Vs := by
  intro act w hE hS
  obtain ⟨h0, hlt, hx⟩ := idxO_some hy
  obtain ⟨a', c', e, _, _, hA⟩ := hS.all hm
  have e' : a = a' ∧ cp = c' := by simpa using e
  obtain ⟨rfl, rfl⟩ := e'
  obtain ⟨A, rfl, _⟩ := hA (by intro h; have h' : xs = [] := h; rw [h'] at hlt; simp at hlt)
  exact h _ rfl act w hE hS

/-- Division by what is not zero. -/
theorem gl_quo {t t2 : TypeId} {X Y : Operand} {k : IntKind} {a b v : Int} (hX : ev E X = some (.int k a)) (hY : ev E Y = some (.int k b)) (hv : quoO k a b = some v)
    (hw : wantE ops E ⟨some d, .binOp .quo t X Y t2, ty, pos, aft, gd⟩ = some true) (hd : Nat.blt d n = true) (h : GL P c n ops Q l ((d, .int k v) :: E) Rs Xs Os Vs) : GL P c n ops Q (⟨some d, .binOp .quo t X Y t2, ty, pos, aft, gd⟩ :: l) E Rs Xs Os Vs := by
  refine gl_run (v := .int k v) hw (by simp [known, notSelect, Op.operands, hX, hY]) (by simp [stepE, hd]) (fun w => ?_) h
  unfold quoO at hv
  split at hv
  · cases hv
  · rename_i hb
    have e := Option.some.inj hv
    subst e
    simp [execOp, rho, hX, hY, eqGuard, binOp, Op.intDiv, hb]
theorem gl_rem {t t2 : TypeId} {X Y : Operand} {k : IntKind} {a b v : Int} (hX : ev E X = some (.int k a)) (hY : ev E Y = some (.int k b)) (hv : remO k a b = some v)
    (hw : wantE ops E ⟨some d, .binOp .rem t X Y t2, ty, pos, aft, gd⟩ = some true) (hd : Nat.blt d n = true) (h : GL P c n ops Q l ((d, .int k v) :: E) Rs Xs Os Vs) : GL P c n ops Q (⟨some d, .binOp .rem t X Y t2, ty, pos, aft, gd⟩ :: l) E Rs Xs Os Vs := by
  refine gl_run (v := .int k v) hw (by simp [known, notSelect, Op.operands, hX, hY]) (by simp [stepE, hd]) (fun w => ?_) h
  unfold remO at hv
  split at hv
  · cases hv
  · rename_i hb
    have e := Option.some.inj hv
    subst e
    simp [execOp, rho, hX, hY, eqGuard, binOp, Op.intDiv, hb]

/-- Lengths. -/
theorem gl_len {X : Operand} {t : TypeId} {T : TypeId} {a : Option Addr} {k cp : Nat} (hX : ev E X = some (.slice a k cp)) (ht : P.underlying t = some (.slice T))
    (hw : wantE ops E ⟨some d, .call ⟨.builtin .len, #[X], #[t]⟩, ty, pos, aft, gd⟩ = some true) (hd : Nat.blt d n = true) (h : GL P c n ops Q l ((d, .int .i64 k) :: E) Rs Xs Os Vs) : GL P c n ops Q (⟨some d, .call ⟨.builtin .len, #[X], #[t]⟩, ty, pos, aft, gd⟩ :: l) E Rs Xs Os Vs := by
  refine gl_run (v := .int .i64 k) hw (by simp [known, notSelect, Op.operands, Call.operands, hX]) (by simp [stepE, hd]) (fun w => ?_) h
  simp [execOp, resolve, rho, hX, invoke, builtin, Builtin.len_, run_underlying ht, goInt]
theorem gl_slen {X : Operand} {t : TypeId} {s : List UInt8} (hX : ev E X = some (str s)) (ht : P.underlying t = some .string)
    (hw : wantE ops E ⟨some d, .call ⟨.builtin .len, #[X], #[t]⟩, ty, pos, aft, gd⟩ = some true) (hd : Nat.blt d n = true) (h : GL P c n ops Q l ((d, .int .i64 s.length) :: E) Rs Xs Os Vs) : GL P c n ops Q (⟨some d, .call ⟨.builtin .len, #[X], #[t]⟩, ty, pos, aft, gd⟩ :: l) E Rs Xs Os Vs := by
  refine gl_run (v := .int .i64 s.length) hw (by simp [known, notSelect, Op.operands, Call.operands, hX]) (by simp [stepE, hd]) (fun w => ?_) h
  have e : (ByteArray.mk s.toArray).size = s.length := rfl
  simp [execOp, resolve, rho, hX, invoke, builtin, Builtin.len_, e, run_underlying ht, goInt]

/-- Bytes to a string. -/
theorem gl_b2s {nt : Bool} {T src dst : TypeId} {X : Operand} {a : Option Addr} {cp : Nat} {xs : List Int} (hm : SL nt T (intS .u8) a cp xs ∈ Rs ++ (Vs ++ (Os ++ Xs))) (hX : ev E X = some (.slice a xs.length cp))
    (hs : P.underlying src = some (.slice T)) (hT : P.underlying T = some (.int .u8)) (hdst : P.underlying dst = some .string)
    (hw : wantE ops E ⟨some d, .convert src dst X, ty, pos, aft, gd⟩ = some true) (hd : Nat.blt d n = true) (h : GL P c n ops Q l ((d, str (toStr xs)) :: E) Rs Xs Os Vs) : GL P c n ops Q (⟨some d, .convert src dst X, ty, pos, aft, gd⟩ :: l) E Rs Xs Os Vs := by
  refine gl_op (v := str (toStr xs)) hw (by simp [known, notSelect, Op.operands, hX]) (by simp [stepE, hd]) (fun w hS => ⟨w, ?_, hS⟩) h
  obtain ⟨a', c', e, _, _, hA⟩ := hS.all hm
  have e' : a = a' ∧ cp = c' := by simpa using e
  obtain ⟨rfl, rfl⟩ := e'
  have key : (convert src dst (.slice a xs.length cp)).run P w = .ok (str (toStr xs)) w := by
    by_cases hx : xs = []
    · cases a with
      | none =>
        subst hx
        simp [convert, run_underlying hs, run_underlying hdst, run_underlying hT, Conv.bytesToString, toStr]
        rfl
      | some ad =>
        subst hx
        simp [convert, run_underlying hs, run_underlying hdst, run_underlying hT, Conv.bytesToString, toStr, loadCells, loadCellsFrom]
        rfl
    · obtain ⟨A, rfl, h0, hS2, hr⟩ := hA hx
      obtain ⟨b, off, sp⟩ := A
      simp only at h0
      subst h0
      refine run_convert_bytes_arg (P := P) w src T hs hT b off xs.length cp xs rfl (fun i hi => ?_) dst hdst
      obtain ⟨cs, hc1, hc2⟩ := hr i xs[i] (by simp [hi])
      have hc1' : cs = [.int .u8 xs[i]] := hc1
      have := hc2 0 (.int .u8 xs[i]) (by rw [hc1']; rfl)
      have e1 : (intS .u8).size = 1 := rfl
      rw [e1] at this
      simpa [List.getD_eq_getElem?_getD, hi] using this
  simp [execOp, rho, hX, key]

theorem apps_parts {nt : Bool} {T t u ty : TypeId} {a : Option Addr} {cp : Nat} {xs : List Int} {s : List UInt8} {w : World}
    (ht : P.underlying t = some (.slice T)) (hu : P.underlying u = some .string) (hi : (P.info? T).map (fun i => (i.zero, i.size, i.bytes)) = some (some (.int .u8 0), 1, 1))
    (hsz : xs.length + s.length ≤ 140737488355328) {S1 : Nat → Prop} {F : List Nat} (hown : (SL nt T (intS .u8) a cp xs).owned w S1 F) :
    ∃ a' cp' w', (Builtin.append_ #[t, u] ty #[.slice a xs.length cp, str s]).run P w = .ok (.slice a' (xs ++ toBytes s).length cp') w' ∧ Keep w w' F ∧
      (∃ F2, (∀ S, (SL nt T (intS .u8) a' cp' (xs ++ toBytes s)).owned w' S F2) ∧ F2.Nodup ∧ ∀ b, b ∈ F2 → b < w'.heap.size ∧ (b ∈ F ∨ w.heap.size ≤ b)) := by
  obtain ⟨i, hi0, hi1, hi2, hi3⟩ := info_parts hi
  obtain ⟨v, cells, F', e, ⟨a', c', ev, hnt⟩, ho, hl, eF⟩ := hown
  have e' : Value.slice a xs.length cp = v := by simpa using e
  subst e'
  have ea : a = a' ∧ cp = c' := by simpa using ev
  obtain ⟨rfl, rfl⟩ := ea
  obtain ⟨ecells, eF'⟩ := ownL_flat_cells hl
  subst ecells
  subst eF'
  have ho : w.ownsRow 0 T 1 (.slice a xs.length cp) xs.length (xs.flatMap (fun x => [Value.int .u8 x])) := ho
  have hnt : nt = true → (a = none ↔ xs = []) := hnt
  have hln : (xs ++ toBytes s).length = xs.length + s.length := by simp [toBytes]
  have hsc : Lib.strCells ⟨s.toArray⟩ = (toBytes s).flatMap (fun x => [Value.int .u8 x]) := by
    simp [Lib.strCells, toBytes, List.flatMap_map, ← List.map_eq_flatMap]
  have hcat : (xs ++ toBytes s).flatMap (fun x => [Value.int .u8 x]) = xs.flatMap (fun x => [Value.int .u8 x]) ++ Lib.strCells ⟨s.toArray⟩ := by rw [hsc]; simp
  have hm1 : (⟨s.toArray⟩ : ByteArray).size = s.length := rfl
  obtain ⟨v', w', hr, hown', hg, hiff⟩ := Lib.run_append_own_string (P := P) w 0 t u ty T i ht hu hi0 hi1 hi2 hi3 (.slice a xs.length cp) xs.length _ ho ⟨s.toArray⟩ (by rw [hm1]; unfold maxLen; omega) (by rw [hm1]; exact hsz) (Nat.zero_le _)
  have hblk : ∀ b, v'.ownBlock = some b → b ∈ F ∨ w.heap.size ≤ b := by
    intro b hb
    rcases ho.2 with ⟨hv, h0⟩ | ⟨g, cap, cur, hv, _, hg0, hle, hmx, hcs, htk⟩
    · have hv' : a = none ∧ xs.length = 0 ∧ cp = 0 := by simpa using hv
      obtain ⟨rfl, hx0, rfl⟩ := hv'
      by_cases hs0 : s = []
      · have hv2 := hiff.2 ⟨by rw [hx0], by rw [hm1, hs0]; rfl⟩
        rw [hv2] at hb
        simp [Value.ownBlock] at hb
      · have hr2 := run_append_nil_string (P := P) w t u ty T i (.int .u8 0) ht hu hi0 hi1 ⟨s.toArray⟩ (by rw [hm1]; have := List.length_pos_iff.2 hs0; omega) (by rw [hm1]; omega) (by rw [hm1, hi3]; omega)
        rw [hx0] at hr
        rw [hr2] at hr
        have e := (by simpa using hr : _ = v' ∧ _ = w').1
        subst e
        right
        have : w.heap.size = b := by simpa [Value.ownBlock] using hb
        omega
    · have hv' : a = some ⟨g, 0, none⟩ ∧ cp = cap := by simpa using hv
      obtain ⟨rfl, rfl⟩ := hv'
      by_cases hroom : xs.length + s.length ≤ cp
      · have hr2 := Lib.run_append_room_string (P := P) w t u ty T i ht hu hi0 hi2 g xs.length cp cur hg0 ⟨s.toArray⟩ (by rw [hm1]; exact hroom) (by rw [hm1]; omega)
        rw [hr2] at hr
        have e := (by simpa using hr : _ = v' ∧ _ = w').1
        subst e
        left
        have : g = b := by simpa [Value.ownBlock] using hb
        rw [eF, ← this]; simp [Value.ownBlock]
      · have holds : ∀ (j : Nat) (u : Value), (xs.flatMap (fun x => [Value.int .u8 x]))[j]? = some u → w.cell? ((⟨g, 0, none⟩ : Addr).add j) = some u := ho.cells (g := g) rfl
        have hr2 := Lib.run_append_grow_string (P := P) w t u ty T i (.int .u8 0) ht hu hi0 hi1 ⟨g, 0, none⟩ xs.length cp _ (by rw [hi2]; exact ho.1) holds ⟨s.toArray⟩ (by rw [hm1]; omega) (by rw [hm1]; omega) (by rw [hi3, hm1]; exact growslice_fits (by omega) (by omega))
        rw [hr2] at hr
        have e := (by simpa using hr : _ = v' ∧ _ = w').1
        subst e
        right
        have : w.heap.size = b := by simpa [Value.ownBlock] using hb
        omega
  rw [hm1] at hown'
  have hF2 : ∀ b, b ∈ v'.ownBlock.toList → b < w'.heap.size ∧ (b ∈ F ∨ w.heap.size ≤ b) := fun b hb => ⟨(hown'.lt b (by simpa using hb)).2, hblk b (by simpa using hb)⟩
  rcases hown'.2 with ⟨rfl, h0⟩ | ⟨g, cap, cur, rfl, _, _, _, _⟩
  · have hx : xs = [] := List.eq_nil_of_length_eq_zero (by omega)
    have hs : s = [] := List.eq_nil_of_length_eq_zero (by omega)
    subst hx; subst hs
    exact ⟨none, 0, w', hr, (Keep.grown hg).mono (fun b hb => by rw [eF]; simpa using hb), ⟨[], fun S => ⟨_, _, [], rfl, ⟨none, 0, rfl, fun _ => ⟨fun _ => rfl, fun _ => rfl⟩⟩, hown', ⟨by simp, by simp [Lib.strCells]⟩, by simp [Value.ownBlock]⟩, by simp, fun b hb => by cases hb⟩⟩
  · have hr : (Builtin.append_ #[t, u] ty #[.slice a xs.length cp, str s]).run P w = .ok (.slice (some ⟨g, 0, none⟩) (xs ++ toBytes s).length cap) w' := by rw [hln]; exact hr
    rw [← hln] at hown'
    rw [← hcat] at hown'
    have hne : nt = true → xs ++ toBytes s ≠ [] := fun h e => by
      have e1 : xs = [] ∧ s = [] := by simpa [toBytes] using e
      have h2 : a = none := (hnt h).2 e1.1
      rcases ho.2 with ⟨hv, _⟩ | ⟨g', cap', cur', hv, _⟩
      · have h3 := hiff.2 ⟨by rw [hv], by rw [hm1, e1.2]; rfl⟩
        simp at h3
      · rw [h2] at hv; simp at hv
    exact ⟨some ⟨g, 0, none⟩, cap, w', hr, (Keep.grown hg).mono (fun b hb => by rw [eF]; simpa using hb), ⟨[g], fun S => ⟨_, _, [], rfl, ⟨_, _, rfl, fun h => ⟨fun e => (by cases e), fun e => absurd e (hne h)⟩⟩, hown', OwnL.flat, by simp [Value.ownBlock]⟩, by simp, fun b hb => hF2 b (by simpa [Value.ownBlock, eq_comm] using hb)⟩⟩

/-- APPEND of a string's bytes to an owned row of bytes (the region in front). -/
theorem gl_apps {nt : Bool} {T t u : TypeId} {a : Option Addr} {cp : Nat} {xs zs : List Int} {s : List UInt8} {X Y : Operand} (hX : ev E X = some (.slice a xs.length cp)) (hY : ev E Y = some (str s))
    (ht : P.underlying t = some (.slice T)) (hu : P.underlying u = some .string) (hi : (P.info? T).map (fun i => (i.zero, i.size, i.bytes)) = some (some (.int .u8 0), 1, 1)) (hzs : appsO xs s = some zs)
    (hw : wantE ops E ⟨some d, .call ⟨.builtin .append, #[X, Y], #[t, u]⟩, ty, pos, aft, gd⟩ = some true) (hd : Nat.blt d n = true)
    (h : ∀ a' cp', GL P c n ops Q l ((d, .slice a' zs.length cp') :: E) (SL nt T (intS .u8) a' cp' zs :: Rs) Xs Os []) :
    GL P c n ops Q (⟨some d, .call ⟨.builtin .append, #[X, Y], #[t, u]⟩, ty, pos, aft, gd⟩ :: l) E (SL nt T (intS .u8) a cp xs :: Rs) Xs Os Vs := by
  obtain ⟨hsz, rfl⟩ := appsO_some hzs
  refine gl_opx (ι := Option Addr × Nat) (V := fun q => .slice q.1 (xs ++ toBytes s).length q.2) (EE := fun q => (d, .slice q.1 (xs ++ toBytes s).length q.2) :: E) (RR := fun q => SL nt T (intS .u8) q.1 q.2 (xs ++ toBytes s) :: Rs) (OO := fun _ => Os) (VV := fun _ => []) (XX := fun _ => Xs) hw (by simp [known, notSelect, Op.operands, Call.operands, hX, hY]) (fun b => by simp [stepE, hd]) (fun w hS => ?_) (fun q => h q.1 q.2)
  obtain ⟨F, hF⟩ := hS
  obtain ⟨F1, F2, e, hown, h2⟩ := hF.owns
  subst e
  obtain ⟨a', cp', w', hr, hk, G, g1, g2, g3⟩ := apps_parts (ty := ty) ht hu hi hsz hown
  refine ⟨(a', cp'), w', ?_, ?_⟩
  · simp only [execOp, resolve, rho, List.map_toArray, List.map_cons, List.map_nil, hX, hY, Option.getD_some, Sem.run_bind, Sem.run_pure, Result.andThen_ok, invoke, builtin, hr]
  · exact ⟨_, StF.step (c := c) (Rout := [SL nt T (intS .u8) a' cp' (xs ++ toBytes s)]) (Fin := F1) (Frest := F2) (Fout := G) h2 hF.nodup hF.lt hF.xs hF.os hF.keep hk (fun S _ _ => ⟨G, [], by simp, g1 S, rfl⟩) g2 g3⟩
end
end Go.Proofs.YtneifoepoccjaaaGreatDoor
