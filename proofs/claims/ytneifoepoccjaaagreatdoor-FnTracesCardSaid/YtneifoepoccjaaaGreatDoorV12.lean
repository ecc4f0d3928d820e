/-
  More rules of a walk, in plain words: slices whose header's length is told on its own; parts of slices; structs compared; errors compared with nil. No program in sight.
-/
import Derived.Test.YtneifoepoccjaaaGreatDoorV11
import Derived.Laws.StructEq
import Derived.WideLaws
namespace Go.Proofs.YtneifoepoccjaaaGreatDoor

/-- A slice whose header is told with a length of its own. -/
abbrev SN {α : Type} (nt : Bool) (T : TypeId) (s : Shape α) (a : Option Addr) (ln : Nat) (c : Nat) (xs : List α) : Item := ⟨List α, sliceS nt T s, [.slice a ln c], xs⟩
theorem sn_len {α : Type} {nt : Bool} {T : TypeId} {s : Shape α} {a : Option Addr} {ln c : Nat} {xs : List α} {w : World} {S : Nat → Prop} (h : (SN nt T s a ln c xs).ro w S) : ln = xs.length ∧ ln ≤ c := by
  obtain ⟨a', c', e, hl, _⟩ := h
  have : a = a' ∧ ln = xs.length ∧ c = c' := by simpa using e
  exact ⟨this.2.1, by rw [this.2.1, this.2.2]; exact hl⟩

section
variable {P : Program} {c : Ctx} {n : Nat} {Q : Exit → Act → World → Prop} {E E' : Slots} {Rs Xs Os Vs : List Item} {ops : Array Oper} {l : List Oper} {o : Oper}
variable {d : Nat} {ty : TypeId} {pos : String} {aft : Array Edge} {gd : Option (Nat × Bool)}

theorem gl_lenE {α : Type} {nt : Bool} {T : TypeId} {s : Shape α} {a : Option Addr} {ln cp : Nat} {xs : List α} (hm : SN nt T s a ln cp xs ∈ Rs ++ (Vs ++ (Os ++ Xs))) (h : ln = xs.length → GL P c n ops Q l E Rs Xs Os Vs) : GL P c n ops Q l E Rs Xs Os Vs :=
  fun a w hE hS => h (sn_len (hS.all hm)).1 a w hE hS
theorem g_lenE {α : Type} {nt : Bool} {T : TypeId} {s : Shape α} {a : Option Addr} {ln cp : Nat} {xs : List α} {x : Code} (hm : SN nt T s a ln cp xs ∈ Rs ++ (Vs ++ (Os ++ Xs))) (h : ln = xs.length → G P c n x Q E Rs Xs Os Vs) : G P c n x Q E Rs Xs Os Vs :=
  fun a w hE hS => h (sn_len (hS.all hm)).1 a w hE hS
theorem gx_lenE {α : Type} {nt : Bool} {T : TypeId} {s : Shape α} {a : Option Addr} {ln cp : Nat} {xs : List α} {e : Exit} (hm : SN nt T s a ln cp xs ∈ Rs ++ (Vs ++ (Os ++ Xs))) (h : ln = xs.length → GX c n e Q E Rs Xs Os Vs) : GX c n e Q E Rs Xs Os Vs :=
  fun a w hE hS => h (sn_len (hS.all hm)).1 a w hE hS

theorem gl_idxOn {α : Type} {s : Shape α} {nt : Bool} {T t : TypeId} {a : Option Addr} {ln cp : Nat} {xs : List α} {x ix : Operand} {k : IntKind} {i : Int} {y : α} (hm : SN nt T s a ln cp xs ∈ Os ++ Xs) (hx : ev E x = some (.slice a ln cp)) (hi : ev E ix = some (.int k i))
    (ht : P.underlying t = some (.slice T)) (hsz : (P.info? T).map (·.size) = some s.size) (hy : idxO xs i = some y) (hw : wantE ops E ⟨some d, .indexAddr t x ix, ty, pos, aft, gd⟩ = some true) (hd : Nat.blt d n = true)
    (h : ∀ p, GL P c n ops Q l ((d, .pointer (some p)) :: E) Rs Xs (AT s p y :: Os) Vs) : GL P c n ops Q (⟨some d, .indexAddr t x ix, ty, pos, aft, gd⟩ :: l) E Rs Xs Os Vs :=
  gl_lenE (List.mem_append.2 (Or.inr (List.mem_append.2 (Or.inr hm)))) (fun e => by subst e; exact gl_idxO hm hx hi ht hsz hy hw hd h)
theorem gl_idxVn {α : Type} {s : Shape α} {nt : Bool} {T t : TypeId} {a : Option Addr} {ln cp : Nat} {xs : List α} {x ix : Operand} {k : IntKind} {i : Int} {y : α} (hm : SN nt T s a ln cp xs ∈ Rs ++ (Vs ++ (Os ++ Xs))) (hx : ev E x = some (.slice a ln cp)) (hi : ev E ix = some (.int k i))
    (ht : P.underlying t = some (.slice T)) (hsz : (P.info? T).map (·.size) = some s.size) (hy : idxO xs i = some y) (hw : wantE ops E ⟨some d, .indexAddr t x ix, ty, pos, aft, gd⟩ = some true) (hd : Nat.blt d n = true)
    (h : ∀ p, a.map (fun A => A.add (i.toNat * s.size)) = some p → GL P c n ops Q l ((d, .pointer (some p)) :: E) Rs Xs Os (AT s p y :: Vs)) : GL P c n ops Q (⟨some d, .indexAddr t x ix, ty, pos, aft, gd⟩ :: l) E Rs Xs Os Vs :=
  gl_lenE hm (fun e => by subst e; exact gl_idxV hm hx hi ht hsz hy hw hd h)
theorem g_elemn {α : Type} {s : Shape α} {nt : Bool} {T : TypeId} {a : Option Addr} {ln cp : Nat} {xs : List α} {i : Int} {y : α} {x : Code} (hm : SN nt T s a ln cp xs ∈ Rs ++ (Vs ++ (Os ++ Xs))) (hy : idxO xs i = some y)
    (h : ∀ p, a.map (fun A => A.add (i.toNat * s.size)) = some p → G P c n x Q E Rs Xs Os Vs) : G P c n x Q E Rs Xs Os Vs :=
  g_lenE hm (fun e => by subst e; exact g_elem hm hy h)
theorem gl_elemVn {α : Type} {s : Shape α} {nt : Bool} {T : TypeId} {a : Option Addr} {ln cp : Nat} {xs : List α} {i : Int} {y : α} {p : Addr} (hm : SN nt T s a ln cp xs ∈ Rs ++ (Vs ++ (Os ++ Xs))) (hy : idxO xs i = some y) (hp : a.map (fun A => A.add (i.toNat * s.size)) = some p)
    (h : GL P c n ops Q l E Rs Xs Os (AT s p y :: Vs)) : GL P c n ops Q l E Rs Xs Os Vs :=
  gl_lenE hm (fun e => by subst e; exact gl_elemV hm hy hp h)
theorem gl_stEn {α : Type} {m : Nat} {enc : α → List Value} {hn : ∀ x, (enc x).length = m} {nt : Bool} {T t : TypeId} {a : Option Addr} {ln cp : Nat} {xs : List α} {X V : Operand} {v : Value} {i : Int} {x : α} {p q : Addr} (off : Nat) (vs : List Value) (y : α)
    (hp : a.map (fun A => A.add (i.toNat * (flatS m enc hn).size)) = some p) (hx : idxO xs i = some x) (hq : q = p.add off) (hX : ev E X = some (.pointer (some q))) (hV : ev E V = some v) (hv : v.cells.toList = vs) (hs : (P.info? t).map (·.size) = some vs.length)
    (hone : vs.all Value.oneCell' = true) (hfit : Nat.ble (off + vs.length) m = true) (hc : splice (enc x) off vs = enc y) (hw : wantE ops E ⟨none, .store t X V, ty, pos, aft, gd⟩ = some true)
    (h : GL P c n ops Q l E (SN nt T (flatS m enc hn) a ln cp (xs.set i.toNat y) :: Rs) Xs Os []) : GL P c n ops Q (⟨none, .store t X V, ty, pos, aft, gd⟩ :: l) E (SN nt T (flatS m enc hn) a ln cp xs :: Rs) Xs Os Vs :=
  gl_lenE (xs := xs) (mem_at 0 rfl) (fun e => by
    subst e
    refine gl_stE off vs y hp hx hq hX hV hv hs hone hfit hc hw ?_
    have e2 : (SL nt T (flatS m enc hn) a cp (xs.set i.toNat y)) = SN nt T (flatS m enc hn) a xs.length cp (xs.set i.toNat y) := by show SN _ _ _ _ _ _ _ = _; rw [List.length_set]
    rw [e2]; exact h)
theorem gl_appn {α : Type} {m bytes : Nat} {enc : α → List Value} {hn : ∀ x, (enc x).length = m} {nt nt2 : Bool} {T T2 t : TypeId} {a a2 : Option Addr} {ln ln2 cp cp2 : Nat} {xs ys zs : List α} {z : Value} {X Y : Operand}
    (hm : SN nt2 T2 (flatS m enc hn) a2 ln2 cp2 ys ∈ (SN nt T (flatS m enc hn) a ln cp xs :: Rs) ++ (Vs ++ (Os ++ Xs))) (hX : ev E X = some (.slice a ln cp)) (hY : ev E Y = some (.slice a2 ln2 cp2))
    (ht : P.underlying t = some (.slice T)) (hi : (P.info? T).map (fun i => (i.zero, i.size, i.bytes)) = some (some z, m, bytes)) (hz : z.cells.size = m) (hmb : (Nat.blt 0 m && Nat.blt 0 bytes) = true) (h1 : ∀ x, (enc x).all Value.oneCell' = true) (hzs : appO bytes xs ys = some zs)
    (hw : wantE ops E ⟨some d, .call ⟨.builtin .append, #[X, Y], #[t, t]⟩, ty, pos, aft, gd⟩ = some true) (hd : Nat.blt d n = true)
    (h : ∀ a' cp', GL P c n ops Q l ((d, .slice a' zs.length cp') :: E) (SL nt T (flatS m enc hn) a' cp' zs :: Rs) Xs Os []) :
    GL P c n ops Q (⟨some d, .call ⟨.builtin .append, #[X, Y], #[t, t]⟩, ty, pos, aft, gd⟩ :: l) E (SN nt T (flatS m enc hn) a ln cp xs :: Rs) Xs Os Vs :=
  gl_lenE (xs := xs) (mem_at 0 rfl) (fun e => gl_lenE hm (fun e2 => by subst e; subst e2; exact gl_app hm hX hY ht hi hz hmb h1 hzs hw hd h))
theorem gl_appsn {nt : Bool} {T t u : TypeId} {a : Option Addr} {ln cp : Nat} {xs zs : List Int} {s : List UInt8} {X Y : Operand} (hX : ev E X = some (.slice a ln cp)) (hY : ev E Y = some (str s))
    (ht : P.underlying t = some (.slice T)) (hu : P.underlying u = some .string) (hi : (P.info? T).map (fun i => (i.zero, i.size, i.bytes)) = some (some (.int .u8 0), 1, 1)) (hzs : appsO xs s = some zs)
    (hw : wantE ops E ⟨some d, .call ⟨.builtin .append, #[X, Y], #[t, u]⟩, ty, pos, aft, gd⟩ = some true) (hd : Nat.blt d n = true)
    (h : ∀ a' cp', GL P c n ops Q l ((d, .slice a' zs.length cp') :: E) (SL nt T (intS .u8) a' cp' zs :: Rs) Xs Os []) :
    GL P c n ops Q (⟨some d, .call ⟨.builtin .append, #[X, Y], #[t, u]⟩, ty, pos, aft, gd⟩ :: l) E (SN nt T (intS .u8) a ln cp xs :: Rs) Xs Os Vs :=
  gl_lenE (xs := xs) (mem_at 0 rfl) (fun e => by subst e; exact gl_apps hX hY ht hu hi hzs hw hd h)
theorem gl_b2sn {nt : Bool} {T src dst : TypeId} {X : Operand} {a : Option Addr} {ln cp : Nat} {xs : List Int} (hm : SN nt T (intS .u8) a ln cp xs ∈ Rs ++ (Vs ++ (Os ++ Xs))) (hX : ev E X = some (.slice a ln cp))
    (hs : P.underlying src = some (.slice T)) (hT : P.underlying T = some (.int .u8)) (hdst : P.underlying dst = some .string)
    (hw : wantE ops E ⟨some d, .convert src dst X, ty, pos, aft, gd⟩ = some true) (hd : Nat.blt d n = true) (h : GL P c n ops Q l ((d, str (toStr xs)) :: E) Rs Xs Os Vs) : GL P c n ops Q (⟨some d, .convert src dst X, ty, pos, aft, gd⟩ :: l) E Rs Xs Os Vs :=
  gl_lenE hm (fun e => by subst e; exact gl_b2s hm hX hs hT hdst hw hd h)

theorem gl_relen {α : Type} {nt : Bool} {T : TypeId} {s : Shape α} {a : Option Addr} {ln cp : Nat} {xs : List α} (h : ln = xs.length → GL P c n ops Q l E (SL nt T s a cp xs :: Rs) Xs Os Vs) : GL P c n ops Q l E (SN nt T s a ln cp xs :: Rs) Xs Os Vs := by
  refine gl_lenE (xs := xs) (mem_at 0 rfl) (fun e => ?_)
  have h1 := h e
  subst e
  exact h1
theorem gl_beq {X Y : Operand} {t t2 : TypeId} {b b' : Bool} (hX : ev E X = some (.bool b)) (hY : ev E Y = some (.bool b')) (ht : P.underlying t = some .bool)
    (hw : wantE ops E ⟨some d, .binOp .eql t X Y t2, ty, pos, aft, gd⟩ = some true) (hd : Nat.blt d n = true) (h : GL P c n ops Q l ((d, .bool (b == b')) :: E) Rs Xs Os Vs) : GL P c n ops Q (⟨some d, .binOp .eql t X Y t2, ty, pos, aft, gd⟩ :: l) E Rs Xs Os Vs := by
  refine gl_run (v := .bool (b == b')) hw (by simp [known, notSelect, Op.operands, hX, hY]) (by simp [stepE, hd]) (fun w => ?_) h
  have h1 : (Op.equalIn 10000 t (.bool b) (.bool b')).run P w = .ok (b == b') w := run_equalIn_bool' w 9999 t b b' ht
  simp only [execOp, rho, hX, hY, Option.getD_some, eqGuard, binOp, Op.equal, Op.maxDepth, Sem.run_bind, Sem.run_pure]
  simp [h1]
theorem gl_bne {X Y : Operand} {t t2 : TypeId} {b b' : Bool} (hX : ev E X = some (.bool b)) (hY : ev E Y = some (.bool b')) (ht : P.underlying t = some .bool)
    (hw : wantE ops E ⟨some d, .binOp .neq t X Y t2, ty, pos, aft, gd⟩ = some true) (hd : Nat.blt d n = true) (h : GL P c n ops Q l ((d, .bool (b != b')) :: E) Rs Xs Os Vs) : GL P c n ops Q (⟨some d, .binOp .neq t X Y t2, ty, pos, aft, gd⟩ :: l) E Rs Xs Os Vs := by
  refine gl_run (v := .bool (b != b')) hw (by simp [known, notSelect, Op.operands, hX, hY]) (by simp [stepE, hd]) (fun w => ?_) h
  have h1 : (Op.equalIn 10000 t (.bool b) (.bool b')).run P w = .ok (b == b') w := run_equalIn_bool' w 9999 t b b' ht
  simp only [execOp, rho, hX, hY, Option.getD_some, eqGuard, binOp, Op.equal, Op.maxDepth, Sem.run_bind, Sem.run_pure]
  cases b <;> cases b' <;> simp [h1]
/-! ## Parts of slices -/
theorem sub_ro {α : Type} {s : Shape α} {nt : Bool} {T : TypeId} {a : Option Addr} {ln cp : Nat} {xs ys : List α} {i j : Int} (hu : subO xs i j = some ys) {w : World} {S : Nat → Prop} (hr : (SN nt T s a ln cp xs).ro w S) :
    (SL false T s (if cp = i.toNat then a else a.map (fun A => A.add (i.toNat * s.size))) (cp - i.toNat) ys).ro w S ∧ ys.length = j.toNat - i.toNat ∧ 0 ≤ i ∧ i ≤ j ∧ j.toNat ≤ cp ∧ i.toNat ≤ j.toNat ∧ j ≤ ln := by
  obtain ⟨h0, h1, h2, rfl⟩ := subO_some hu
  obtain ⟨a', c', e, hl, _, hA⟩ := hr
  have e' : a = a' ∧ ln = xs.length ∧ cp = c' := by simpa using e
  obtain ⟨rfl, rfl, rfl⟩ := e'
  have hij : i.toNat ≤ j.toNat := by omega
  have hjl : j.toNat ≤ xs.length := by omega
  have hlen : ((xs.drop i.toNat).take (j.toNat - i.toNat)).length = j.toNat - i.toNat := by
    rw [List.length_take, List.length_drop]; omega
  have hl' : xs.length ≤ cp := hl
  refine ⟨⟨_, cp - i.toNat, rfl, (by rw [hlen]; omega : ((xs.drop i.toNat).take (j.toNat - i.toNat)).length ≤ cp - i.toNat), nofun, fun hne => ?_⟩, hlen, h0, h1, by omega, hij, h2⟩
  have hne' : 0 < j.toNat - i.toNat := by rw [← hlen]; exact List.length_pos_iff.2 hne
  have hne2 : xs ≠ [] := by
    intro h
    rw [h] at hjl
    simp at hjl
    omega
  obtain ⟨A, rfl, hsp, hSA, hrep⟩ := hA hne2
  rw [if_neg (by omega)]
  have ep : A.add (i.toNat * s.size) = ⟨A.block, A.off + i.toNat * s.size, none⟩ := by
    obtain ⟨b, off, sp⟩ := A
    simp only at hsp
    subst hsp
    unfold Addr.add
    split <;> simp_all
  refine ⟨A.add (i.toNat * s.size), rfl, by rw [ep], by rw [ep]; exact hSA, fun k x hx => ?_⟩
  have hx2 : xs[i.toNat + k]? = some x := by
    rw [List.getElem?_take] at hx
    split at hx
    · rw [List.getElem?_drop] at hx; exact hx
    · cases hx
  obtain ⟨ds, hds, hcell⟩ := hrep _ x hx2
  refine ⟨ds, hds, fun q v hv => ?_⟩
  rw [ep]
  have := hcell q v hv
  rw [Nat.add_mul] at this
  simpa [Nat.add_assoc] using this
theorem sub_run {t T : TypeId} {a : Option Addr} {ln cp z : Nat} {i j : Int} {k k2 : IntKind} {lo hi : Option Value} (hlo : lo = some (.int k i) ∨ (lo = none ∧ i = 0)) (hhi : hi = some (.int k2 j) ∨ (hi = none ∧ j = ln)) (ht : P.underlying t = some (.slice T)) (hsz : (P.info? T).map (·.size) = some z)
    (h0 : 0 ≤ i) (h1 : i ≤ j) (h2 : j.toNat ≤ cp) (w : World) : (Instr.sliceAt t (.slice a ln cp) lo hi none).run P w = .ok (.slice (if cp = i.toNat then a else a.map (fun A => A.add (i.toNat * z))) (j.toNat - i.toNat) (cp - i.toNat)) w := by
  obtain ⟨inf, hi0, hz⟩ := Option.map_eq_some_iff.1 hsz
  have hj : 0 ≤ j ∧ j ≤ (cp : Int) := ⟨by omega, by omega⟩
  have hjn : ((j.toNat : Nat) : Int) = j := Int.toNat_of_nonneg hj.1
  rcases hlo with rfl | ⟨rfl, rfl⟩ <;> rcases hhi with rfl | ⟨rfl, rfl⟩
  · simp [Instr.sliceAt, Instr.slice, Instr.sliceBounds, Instr.sliceBound, asIntOf, run_underlying ht, sizeOf, typeInfo, hi0, hz, hj, hjn, h0, h1]
  · have h1' : i ≤ (ln : Int) := h1
    simp [Instr.sliceAt, Instr.slice, Instr.sliceBounds, Instr.sliceBound, asIntOf, run_underlying ht, sizeOf, typeInfo, hi0, hz, h0, h1']
  · simp [Instr.sliceAt, Instr.slice, Instr.sliceBounds, Instr.sliceBound, asIntOf, run_underlying ht, sizeOf, typeInfo, hi0, hj]
  · simp [Instr.sliceAt, Instr.slice, Instr.sliceBounds, run_underlying ht, sizeOf, typeInfo, hi0]
def optV (E : Slots) : Option Operand → Option Value
  | some x => some (rho E x)
  | none => none
theorem sub_exec {α : Type} {s : Shape α} {T t : TypeId} {a : Option Addr} {ln cp : Nat} {X : Operand} {lo hi : Option Operand} {k k2 : IntKind} {i j : Int} (hX : ev E X = some (.slice a ln cp)) (hlo : (match lo with | some x => ev E x = some (.int k i) | none => i = 0)) (hhi : (match hi with | some x => ev E x = some (.int k2 j) | none => j = ln))
    (ht : P.underlying t = some (.slice T)) (hsz : (P.info? T).map (·.size) = some s.size) (h0 : 0 ≤ i) (h1 : i ≤ j) (h2 : j.toNat ≤ cp) :
    (known E ⟨some d, .slice t X lo hi none, ty, pos, aft, gd⟩ = true) ∧ ∀ w, (execOp (rho E) ⟨some d, .slice t X lo hi none, ty, pos, aft, gd⟩).run P w = .ok (.value (.slice (if cp = i.toNat then a else a.map (fun A => A.add (i.toNat * s.size))) (j.toNat - i.toNat) (cp - i.toNat))) w := by
  refine ⟨by cases lo <;> cases hi <;> simp_all [known, Op.operands], fun w => ?_⟩
  have hl : (lo.map (rho E)) = some (.int k i) ∨ ((lo.map (rho E)) = none ∧ i = 0) := by
    cases lo with
    | none => exact Or.inr ⟨rfl, hlo⟩
    | some x => left; have hlo' : ev E x = some (.int k i) := hlo; simp [rho, hlo']
  have hh : (hi.map (rho E)) = some (.int k2 j) ∨ ((hi.map (rho E)) = none ∧ j = ln) := by
    cases hi with
    | none => exact Or.inr ⟨rfl, hhi⟩
    | some x => left; have hhi' : ev E x = some (.int k2 j) := hhi; simp [rho, hhi']
  have hr := sub_run (a := a) hl hh ht hsz h0 h1 h2 w
  have hXr : rho E X = .slice a ln cp := by simp [rho, hX]
  simp only [execOp, hXr, Option.map_none, Sem.run_bind, hr, Result.andThen_ok, Sem.run_pure]
/-- A PART of a slice that can be read: a view. -/
theorem gl_subV {α : Type} {s : Shape α} {nt : Bool} {T t : TypeId} {a : Option Addr} {ln cp : Nat} {xs ys : List α} {X : Operand} {lo hi : Option Operand} {k k2 : IntKind} {i j : Int} (hm : SN nt T s a ln cp xs ∈ Rs ++ (Vs ++ (Os ++ Xs))) (hX : ev E X = some (.slice a ln cp)) (hlo : (match lo with | some x => ev E x = some (.int k i) | none => i = 0)) (hhi : (match hi with | some x => ev E x = some (.int k2 j) | none => j = ln))
    (ht : P.underlying t = some (.slice T)) (hsz : (P.info? T).map (·.size) = some s.size) (hu : subO xs i j = some ys) (hw : wantE ops E ⟨some d, .slice t X lo hi none, ty, pos, aft, gd⟩ = some true) (hd : Nat.blt d n = true)
    (h : ∀ a' c', GL P c n ops Q l ((d, .slice a' ys.length c') :: E) Rs Xs Os (SL false T s a' c' ys :: Vs)) : GL P c n ops Q (⟨some d, .slice t X lo hi none, ty, pos, aft, gd⟩ :: l) E Rs Xs Os Vs := by
  intro a0 w0 hE hS
  have hsub := sub_ro hu (hS.all hm)
  obtain ⟨hk, hr⟩ := sub_exec (s := s) (T := T) (P := P) (d := d) (ty := ty) (pos := pos) (aft := aft) (gd := gd) hX hlo hhi ht hsz hsub.2.2.1 hsub.2.2.2.1 hsub.2.2.2.2.1
  refine gl_opx (ι := Unit) (V := fun _ => .slice (if cp = i.toNat then a else a.map (fun A => A.add (i.toNat * s.size))) ys.length (cp - i.toNat)) (EE := fun _ => (d, .slice (if cp = i.toNat then a else a.map (fun A => A.add (i.toNat * s.size))) ys.length (cp - i.toNat)) :: E) (RR := fun _ => Rs) (OO := fun _ => Os) (VV := fun _ => SL false T s (if cp = i.toNat then a else a.map (fun A => A.add (i.toNat * s.size))) (cp - i.toNat) ys :: Vs) (XX := fun _ => Xs) hw (by rw [hk]; rfl) (fun _ => by simp [stepE, hd]) (fun w hS => ⟨(), w, ?_, hS.addV hm (fun S hr => (sub_ro hu hr).1)⟩) (fun _ => h _ _) a0 w0 hE hS
  rw [hr w, hsub.2.1]
theorem gl_subO {α : Type} {s : Shape α} {nt : Bool} {T t : TypeId} {a : Option Addr} {ln cp : Nat} {xs ys : List α} {X : Operand} {lo hi : Option Operand} {k k2 : IntKind} {i j : Int} (hm : SN nt T s a ln cp xs ∈ Os ++ Xs) (hX : ev E X = some (.slice a ln cp)) (hlo : (match lo with | some x => ev E x = some (.int k i) | none => i = 0)) (hhi : (match hi with | some x => ev E x = some (.int k2 j) | none => j = ln))
    (ht : P.underlying t = some (.slice T)) (hsz : (P.info? T).map (·.size) = some s.size) (hu : subO xs i j = some ys) (hw : wantE ops E ⟨some d, .slice t X lo hi none, ty, pos, aft, gd⟩ = some true) (hd : Nat.blt d n = true)
    (h : ∀ a' c', GL P c n ops Q l ((d, .slice a' ys.length c') :: E) Rs Xs (SL false T s a' c' ys :: Os) Vs) : GL P c n ops Q (⟨some d, .slice t X lo hi none, ty, pos, aft, gd⟩ :: l) E Rs Xs Os Vs := by
  intro a0 w0 hE hS
  have hsub := sub_ro hu (hS.all (List.mem_append.2 (Or.inr (List.mem_append.2 (Or.inr hm)))))
  obtain ⟨hk, hr⟩ := sub_exec (s := s) (T := T) (P := P) (d := d) (ty := ty) (pos := pos) (aft := aft) (gd := gd) hX hlo hhi ht hsz hsub.2.2.1 hsub.2.2.2.1 hsub.2.2.2.2.1
  refine gl_opx (ι := Unit) (V := fun _ => .slice (if cp = i.toNat then a else a.map (fun A => A.add (i.toNat * s.size))) ys.length (cp - i.toNat)) (EE := fun _ => (d, .slice (if cp = i.toNat then a else a.map (fun A => A.add (i.toNat * s.size))) ys.length (cp - i.toNat)) :: E) (RR := fun _ => Rs) (VV := fun _ => Vs) (OO := fun _ => SL false T s (if cp = i.toNat then a else a.map (fun A => A.add (i.toNat * s.size))) (cp - i.toNat) ys :: Os) (XX := fun _ => Xs) hw (by rw [hk]; rfl) (fun _ => by simp [stepE, hd]) (fun w hS => ⟨(), w, ?_, hS.addO hm (fun S hr => (sub_ro hu hr).1)⟩) (fun _ => h _ _) a0 w0 hE hS
  rw [hr w, hsub.2.1]
/-- A beginning of an owned slice (the region in front): what is behind it is let go. -/
theorem own_cut {α : Type} {s : Shape α} {nt : Bool} {T : TypeId} {a : Option Addr} {cp : Nat} {xs : List α} {k : Nat} (hk : k ≤ xs.length) {w : World} {S : Nat → Prop} {F : List Nat} (h : (SL nt T s a cp xs).owned w S F) (hn : F.Nodup) (hlt : ∀ b, b ∈ F → b < w.heap.size) :
    ∃ F2, (∀ S' : Nat → Prop, (∀ b, S b → S' b) → (SL false T s a cp (xs.take k)).owned w S' F2) ∧ F2.Nodup ∧ (∀ b, b ∈ F2 → b < w.heap.size ∧ (b ∈ F ∨ w.heap.size ≤ b)) := by
  cases a with
  | none =>
    obtain ⟨v, cells, F', e, ⟨a', c', ev, hnt⟩, ho, hl, eF⟩ := h
    have e' : Value.slice none xs.length cp = v := by simpa using e
    subst e'
    rcases ho.2 with ⟨hv, h0⟩ | ⟨g, cap, cur, hv, _⟩
    · have hx : xs = [] := List.eq_nil_of_length_eq_zero h0
      subst hx
      have hc0 : cp = 0 := by simpa using hv
      subst hc0
      have hnil : ∀ S' : Nat → Prop, (SL false T s none 0 ([] : List α)).owned w S' [] := fun S' => ⟨.slice none 0 0, [], [], rfl, ⟨none, 0, rfl, nofun⟩, World.ownsRow_nil w 0 T s.size, ⟨rfl, rfl⟩, rfl⟩
      exact ⟨[], fun S' _ => by rw [List.take_nil]; exact hnil S', List.nodup_nil, fun b hb => by cases hb⟩
    · simp at hv
  | some A =>
    obtain ⟨g, cur, F', rfl, hg, l1, l2, l3, hl, rfl⟩ := own_block h
    obtain ⟨F1, F2, c1, c2, e1, e2, e3, hl2⟩ := OwnL.take k hk hl
    have hkl : (xs.take k).length = k := by rw [List.length_take]; omega
    have hc1 : c1 = cur.toList.take ((xs.take k).length * s.size) := by
      rw [hkl]
      have h1 : (c1 ++ c2).take (k * s.size) = c1 := by rw [← e3, List.take_left']; rfl
      rw [← h1, ← e2, List.take_take]
      congr 1
      have := Nat.mul_le_mul_right s.size hk
      omega
    have hsub : ∀ b, b ∈ g :: F1 → b ∈ g :: F' := fun b hb => by
      rcases List.mem_cons.1 hb with rfl | hb
      · simp
      · rw [e1]; simp [hb]
    refine ⟨g :: F1, fun S' hS' => own_mk nofun hg (by rw [hkl]; omega) l2 l3 (by rw [← hc1]; exact OwnL.mono hS' hl2), ?_, fun b hb => ⟨hlt b (hsub b hb), Or.inl (hsub b hb)⟩⟩
    have h3 := List.nodup_cons.1 hn
    rw [e1] at h3
    exact List.nodup_cons.2 ⟨fun h => h3.1 (List.mem_append.2 (Or.inl h)), (List.nodup_append.1 h3.2).1⟩
theorem addr_add0 (A : Addr) : A.add 0 = A := by
  obtain ⟨b, off, sp⟩ := A
  unfold Addr.add
  split <;> simp_all
theorem gl_subF {α : Type} {s : Shape α} {nt : Bool} {T t : TypeId} {a : Option Addr} {ln cp : Nat} {xs : List α} {X Y : Operand} {k2 : IntKind} {j : Int} (hX : ev E X = some (.slice a ln cp)) (hY : ev E Y = some (.int k2 j))
    (ht : P.underlying t = some (.slice T)) (hsz : (P.info? T).map (·.size) = some s.size) {ys : List α} (hu : subO xs 0 j = some ys) (hw : wantE ops E ⟨some d, .slice t X none (some Y) none, ty, pos, aft, gd⟩ = some true) (hd : Nat.blt d n = true)
    (h : GL P c n ops Q l ((d, .slice a ys.length cp) :: E) (SL false T s a cp ys :: Rs) Xs Os []) : GL P c n ops Q (⟨some d, .slice t X none (some Y) none, ty, pos, aft, gd⟩ :: l) E (SN nt T s a ln cp xs :: Rs) Xs Os Vs := by
  refine gl_lenE (xs := xs) (mem_at 0 rfl) (fun eln => ?_)
  subst eln
  intro a0 w0 hE hS
  have hsub := sub_ro hu (hS.all (mem_at 0 rfl))
  obtain ⟨hk, hr⟩ := sub_exec (s := s) (T := T) (P := P) (d := d) (ty := ty) (pos := pos) (aft := aft) (gd := gd) (k := .i64) (i := 0) (lo := none) (hi := some Y) hX rfl hY ht hsz (Int.le_refl 0) hsub.2.2.2.1 hsub.2.2.2.2.1
  have ha : (if cp = (0 : Int).toNat then a else a.map (fun A => A.add ((0 : Int).toNat * s.size))) = a := by
    split
    · rfl
    · cases a <;> simp [addr_add0]
  obtain ⟨_, _, h2, hys⟩ := subO_some hu
  have hyt : ys = xs.take j.toNat := by simpa using hys
  refine gl_op (v := .slice a ys.length cp) (Rs' := SL false T s a cp ys :: Rs) (Xs' := Xs) (Os' := Os) (Vs' := []) hw (by rw [hk]; rfl) (by simp [stepE, hd]) (fun w hS => ⟨w, ?_, ?_⟩) h a0 w0 hE hS
  · rw [hr w, ha, hsub.2.1]; rfl
  · refine St.write (r := SL nt T s a cp xs) hS (fun S F1 ho hn hSl => ?_)
    obtain ⟨F2, g1, g2, g3⟩ := own_cut (k := j.toNat) (by omega) ho hn (fun b hb => (SL nt T s a cp xs).sh.own_lt ho b hb)
    exact ⟨F2, by rw [hyt]; exact g1, g2, g3, Keep.refl w F1⟩

end
/-! ## Structs compared -/
def partV (P : Program) (t : TypeId) (cs : List Value) (off : Nat) : Option Value :=
  match P.underlying t with
  | some (.struct _) => match P.info? t with
    | some i => some (.agg ((cs.drop off).take i.size).toArray)
    | none => none
  | some (.array _ _) => none
  | some _ => cs[off]?
  | none => none
theorem partV_run {P : Program} {t : TypeId} {cs : Array Value} {off : Nat} {v : Value} (h : partV P t cs.toList off = some v) (w : World) : (part t cs off).run P w = .ok v w := by
  unfold partV at h
  cases hu : P.underlying t with
  | none => rw [hu] at h; cases h
  | some dsc =>
    rw [hu] at h
    cases dsc with
    | struct fs =>
      simp only at h
      cases hi : P.info? t with
      | none => rw [hi] at h; cases h
      | some i =>
        rw [hi] at h
        have e := Option.some.inj h
        subst e
        have ea : cs.extract off (off + i.size) = ((cs.toList.drop off).take i.size).toArray := by
          rw [← Array.toList_inj]
          simp
        simp [part, isAgg, run_underlying hu, sizeOf, typeInfo, hi, ea]
    | array k e => cases h
    | _ =>
      have h' : cs[off]? = some v := by simpa using h
      simp [part, isAgg, run_underlying hu, h']
def eqStep (nm : String) (a b : Option Value) (F : Value → Value → Option Bool) (acc : Option Bool) : Option Bool :=
  match a, b, acc with
  | some a, some b, some q => match F a b with
    | some r => cond (nm == "_") none (some (r && q))
    | none => none
  | _, _, _ => none
def goEq (P : Program) : Nat → TypeId → Value → Value → Option Bool
  | 0, _, _, _ => none
  | k + 1, t, x, y => match P.underlying t, x, y with
    | some (.int _), .int j a, .int j' b => cond (kindEq j j') (some (a == b)) none
    | some .bool, .bool a, .bool b => some (a == b)
    | some (.struct fs), .agg xs, .agg ys => cond (P.stoodInHeld t) none (fs.toList.foldr (fun f acc => eqStep f.name (partV P f.type xs.toList f.offset) (partV P f.type ys.toList f.offset) (goEq P k f.type) acc) (some true))
    | _, _, _ => none
theorem eqFields_run {P : Program} {d : Nat} {xs ys : Array Value} {F : TypeId → Value → Value → Option Bool} (hF : ∀ t a b r, F t a b = some r → ∀ w, (Op.equalIn d t a b).run P w = .ok r w) :
    ∀ (fs : List Field) (r : Bool), fs.foldr (fun f acc => eqStep f.name (partV P f.type xs.toList f.offset) (partV P f.type ys.toList f.offset) (F f.type) acc) (some true) = some r → ∀ w, (Op.eqFields d xs ys fs).run P w = .ok r w
  | [], r, h, w => by
    have e : true = r := by simpa using h
    subst e; rfl
  | f :: fs, r, h, w => by
    rw [List.foldr_cons] at h
    cases hq : fs.foldr (fun f acc => eqStep f.name (partV P f.type xs.toList f.offset) (partV P f.type ys.toList f.offset) (F f.type) acc) (some true) with
    | none =>
      rw [hq] at h
      unfold eqStep at h
      split at h
      · rename_i h0; cases h0
      · cases h
    | some q =>
      rw [hq] at h
      cases hx : partV P f.type xs.toList f.offset with
      | none => rw [hx] at h; cases h
      | some a =>
        cases hy : partV P f.type ys.toList f.offset with
        | none => rw [hx, hy] at h; cases h
        | some b =>
          rw [hx, hy] at h
          simp only [eqStep] at h
          cases hr : F f.type a b with
          | none => rw [hr] at h; cases h
          | some r1 =>
            rw [hr] at h
            cases hn : (f.name == "_") with
            | true => rw [hn] at h; cases h
            | false =>
              rw [hn] at h
              have e : (r1 && q) = r := by simpa using h
              have hne : f.name ≠ "_" := fun e => by rw [e] at hn; simp at hn
              have i1 := partV_run hx w
              have i2 := partV_run hy w
              have i3 := hF _ _ _ _ hr w
              have i4 := eqFields_run hF fs q hq w
              simp only [Op.eqFields, if_pos hne, Sem.run_bind, i1, i2, i3, Result.andThen_ok]
              cases r1 with
              | true => simpa [← e] using i4
              | false => simp [← e]
theorem goEq_run {P : Program} : ∀ (k : Nat) (t : TypeId) (x y : Value) (r : Bool), goEq P k t x y = some r → ∀ d, k ≤ d → ∀ w, (Op.equalIn d t x y).run P w = .ok r w
  | 0, _, _, _, _, h, _, _, _ => by cases h
  | k + 1, t, x, y, r, h, 0, hd, w => by omega
  | k + 1, t, x, y, r, h, d + 1, hd, w => by
    simp only [goEq] at h
    split at h
    · rename_i kk j a j' b hu
      cases hk : kindEq j j' with
      | false => rw [hk] at h; cases h
      | true =>
        rw [hk] at h
        have e : j = j' := by simpa [kindEq] using hk
        subst e
        have e2 : (a == b) = r := by simpa using h
        subst e2
        exact run_equalIn_int w d t j _ a b hu
    · rename_i a b hu
      have e2 : (a == b) = r := by simpa using h
      subst e2
      exact run_equalIn_bool' w d t a b hu
    · rename_i fs xs ys hu
      cases hs : P.stoodInHeld t with
      | true => rw [hs] at h; cases h
      | false =>
        rw [hs] at h
        have hfs : P.fieldsOf t = fs := by simp [Program.fieldsOf, hu]
        rw [run_equalIn_agg w d t xs ys (by rw [hfs]; exact hu) hs, hfs]
        exact eqFields_run (F := goEq P k) (fun t a b r hr w => goEq_run k t a b r hr d (by omega) w) _ _ h w
    · cases h

section
variable {P : Program} {c : Ctx} {n : Nat} {Q : Exit → Act → World → Prop} {E E' : Slots} {Rs Xs Os Vs : List Item} {ops : Array Oper} {l : List Oper} {o : Oper}
variable {d : Nat} {ty : TypeId} {pos : String} {aft : Array Edge} {gd : Option (Nat × Bool)}
theorem gl_aeq {t t2 : TypeId} {X Y : Operand} {xs ys : Array Value} {r : Bool} (hX : ev E X = some (.agg xs)) (hY : ev E Y = some (.agg ys)) (hr : goEq P 20 t (.agg xs) (.agg ys) = some r) (hg : P.eqGuardType P.depth t = false)
    (hw : wantE ops E ⟨some d, .binOp .eql t X Y t2, ty, pos, aft, gd⟩ = some true) (hd : Nat.blt d n = true) (h : GL P c n ops Q l ((d, .bool r) :: E) Rs Xs Os Vs) : GL P c n ops Q (⟨some d, .binOp .eql t X Y t2, ty, pos, aft, gd⟩ :: l) E Rs Xs Os Vs := by
  refine gl_run (v := .bool r) hw (by simp [known, notSelect, Op.operands, hX, hY]) (by simp [stepE, hd]) (fun w => ?_) h
  have h1 := goEq_run 20 t _ _ r hr 10000 (by omega) w
  have h2 := run_eqGuard_agg w .eql t X Y xs ys hg
  simp only [execOp, rho, hX, hY, Option.getD_some, Sem.run_bind, h2, Result.andThen_ok, run_eql_struct, h1, Sem.run_pure]
theorem gl_ane {t t2 : TypeId} {X Y : Operand} {xs ys : Array Value} {r : Bool} (hX : ev E X = some (.agg xs)) (hY : ev E Y = some (.agg ys)) (hr : goEq P 20 t (.agg xs) (.agg ys) = some r) (hg : P.eqGuardType P.depth t = false)
    (hw : wantE ops E ⟨some d, .binOp .neq t X Y t2, ty, pos, aft, gd⟩ = some true) (hd : Nat.blt d n = true) (h : GL P c n ops Q l ((d, .bool (!r)) :: E) Rs Xs Os Vs) : GL P c n ops Q (⟨some d, .binOp .neq t X Y t2, ty, pos, aft, gd⟩ :: l) E Rs Xs Os Vs := by
  refine gl_run (v := .bool (!r)) hw (by simp [known, notSelect, Op.operands, hX, hY]) (by simp [stepE, hd]) (fun w => ?_) h
  have h1 := goEq_run 20 t _ _ r hr 10000 (by omega) w
  have h2 := run_eqGuard_agg w .neq t X Y xs ys hg
  simp only [execOp, rho, hX, hY, Option.getD_some, Sem.run_bind, h2, Result.andThen_ok, run_neq_struct, h1, Sem.run_pure]

/-! ## Errors -/
/-- An error that is nil, or not. -/
def ErrIs (b : Bool) (v : Value) : Prop := (b = false ∧ v = .nilIface) ∨ (b = true ∧ ∃ t u, v = .iface t u)
def isIface (P : Program) (t : TypeId) : Bool := match P.underlying t with | some (.interface _) => true | _ => false
theorem gl_ene {t t2 : TypeId} {X : Operand} {v : Value} {b : Bool} (hX : ev E X = some v) (hv : ErrIs b v) (ht : isIface P t = true)
    (hw : wantE ops E ⟨some d, .binOp .neq t X (.const .nilIface) t2, ty, pos, aft, gd⟩ = some true) (hd : Nat.blt d n = true) (h : GL P c n ops Q l ((d, .bool b) :: E) Rs Xs Os Vs) : GL P c n ops Q (⟨some d, .binOp .neq t X (.const .nilIface) t2, ty, pos, aft, gd⟩ :: l) E Rs Xs Os Vs := by
  have ec0 : ev E (.const .nilIface) = some .nilIface := rfl
  refine gl_run (v := .bool b) hw (by simp [known, notSelect, Op.operands, hX, ec0]) (by simp [stepE, hd]) (fun w => ?_) h
  cases hu : P.underlying t with
  | none => unfold isIface at ht; rw [hu] at ht; cases ht
  | some dsc =>
    cases dsc with
    | interface ms =>
      have hm : P.underlying t = some (.interface (P.methodsAt t)) := by simp [Program.methodsAt, hu]
      rcases hv with ⟨rfl, rfl⟩ | ⟨rfl, tt, u, rfl⟩
      · have hg : (eqGuard .neq t X (.const .nilIface) .nilIface .nilIface).run P w = .ok () w := by cases X <;> simp [eqGuard]
        simp only [execOp, rho, hX, ec0, Option.getD_some, Sem.run_bind, hg, Result.andThen_ok, run_neq_nil_nil w t hm, Sem.run_pure]
      · have hg : (eqGuard .neq t X (.const .nilIface) (.iface tt u) .nilIface).run P w = .ok () w := by simp [eqGuard]
        simp only [execOp, rho, hX, ec0, Option.getD_some, Sem.run_bind, hg, Result.andThen_ok, run_neq_held_nil w t tt u hm, Sem.run_pure]
    | _ => unfold isIface at ht; rw [hu] at ht; cases ht
theorem gl_eeq {t t2 : TypeId} {X : Operand} {v : Value} {b : Bool} (hX : ev E X = some v) (hv : ErrIs b v) (ht : isIface P t = true)
    (hw : wantE ops E ⟨some d, .binOp .eql t X (.const .nilIface) t2, ty, pos, aft, gd⟩ = some true) (hd : Nat.blt d n = true) (h : GL P c n ops Q l ((d, .bool (!b)) :: E) Rs Xs Os Vs) : GL P c n ops Q (⟨some d, .binOp .eql t X (.const .nilIface) t2, ty, pos, aft, gd⟩ :: l) E Rs Xs Os Vs := by
  have ec0 : ev E (.const .nilIface) = some .nilIface := rfl
  refine gl_run (v := .bool (!b)) hw (by simp [known, notSelect, Op.operands, hX, ec0]) (by simp [stepE, hd]) (fun w => ?_) h
  cases hu : P.underlying t with
  | none => unfold isIface at ht; rw [hu] at ht; cases ht
  | some dsc =>
    cases dsc with
    | interface ms =>
      have hm : P.underlying t = some (.interface (P.methodsAt t)) := by simp [Program.methodsAt, hu]
      rcases hv with ⟨rfl, rfl⟩ | ⟨rfl, tt, u, rfl⟩
      · have hg : (eqGuard .eql t X (.const .nilIface) .nilIface .nilIface).run P w = .ok () w := by cases X <;> simp [eqGuard]
        simp only [execOp, rho, hX, ec0, Option.getD_some, Sem.run_bind, hg, Result.andThen_ok, run_eql_nil_nil w t hm, Sem.run_pure, Bool.not_false]
      · have hg : (eqGuard .eql t X (.const .nilIface) (.iface tt u) .nilIface).run P w = .ok () w := by simp [eqGuard]
        simp only [execOp, rho, hX, ec0, Option.getD_some, Sem.run_bind, hg, Result.andThen_ok, run_eql_held_nil w t tt u hm, Sem.run_pure, Bool.not_true]
    | _ => unfold isIface at ht; rw [hu] at ht; cases ht

/-! ## For open orders -/
theorem gl_dropR {x : Item} (h : GL P c n ops Q l E Rs Xs Os Vs) : GL P c n ops Q l E (x :: Rs) Xs Os Vs := fun a w hE hS => h a w hE hS.drop
theorem gl_convR {R2 : List Item} (e : Rs = R2) (h : GL P c n ops Q l E R2 Xs Os Vs) : GL P c n ops Q l E Rs Xs Os Vs := by subst e; exact h
theorem st_oo {Xs A Os0 O' : List Item} : ∀ o, o ∈ ([] : List Item) ++ O' → o ∈ (A ++ (Os0 ++ O')) ++ Xs :=
  fun _ ho => List.mem_append.2 (Or.inl (List.mem_append.2 (Or.inr (List.mem_append.2 (Or.inr ho)))))
theorem st_oo1 {Xs A Os0 O' : List Item} : ∀ o, o ∈ O' → o ∈ (A ++ (Os0 ++ O')) ++ Xs :=
  fun _ ho => List.mem_append.2 (Or.inl (List.mem_append.2 (Or.inr (List.mem_append.2 (Or.inr ho)))))
theorem gl_convO {O2 : List Item} (e : Os = O2) (h : GL P c n ops Q l E Rs Xs O2 Vs) : GL P c n ops Q l E Rs Xs Os Vs := by subst e; exact h
theorem memRest {A R Y : List Item} {x : Item} (h : x ∈ R) : x ∈ (A ++ R) ++ Y := List.mem_append.2 (Or.inl (List.mem_append.2 (Or.inr h)))
theorem memRestO {A R O X : List Item} {x : Item} (h : x ∈ O) : x ∈ (A ++ R) ++ (O ++ X) := List.mem_append.2 (Or.inr (List.mem_append.2 (Or.inl h)))
theorem memRestX {A R O X : List Item} {x : Item} (h : x ∈ X) : x ∈ (A ++ R) ++ (O ++ X) := List.mem_append.2 (Or.inr (List.mem_append.2 (Or.inr h)))
abbrev slA : Value → Option Addr
  | .slice a _ _ => a
  | _ => none
abbrev slC : Value → Nat
  | .slice _ _ c => c
  | _ => 0
abbrev ptB : Value → Nat
  | .pointer (some a) => a.block
  | _ => 0
abbrev ptA : Value → Addr
  | .pointer (some a) => a
  | _ => ⟨0, 0, none⟩
def nthL : List Value → Nat → Value
  | [], _ => undef
  | v :: _, 0 => v
  | _ :: r, k + 1 => nthL r k
abbrev nthV : Value → Nat → Value
  | .tuple vs, k => nthL vs.toList k
  | .agg vs, k => nthL vs.toList k
  | _, _ => undef
end
/-- A variable of the program's that holds an error. -/
def gErr (g : Nat) : Item := ⟨Unit, heapS (fun o => ∃ cs v T f, o = some (.cells cs T f) ∧ cs[0]? = some v ∧ (v = .nilIface ∨ ∃ t u, v = .iface t u)), [.pointer (some ⟨g, 0, none⟩)], ()⟩
theorem gErr_cell {g : Nat} {w : World} {S : Nat → Prop} (h : (gErr g).ro w S) : ∃ v, w.cell? ⟨g, 0, none⟩ = some v ∧ (v = .nilIface ∨ ∃ t u, v = .iface t u) := by
  obtain ⟨b, e, _, cs, v, T, f, hp, hc, hv⟩ := h
  have e' : g = b := by simpa [gErr] using e
  subst e'
  exact ⟨v, by simp [World.cell?, hp, hc], hv⟩
/-- A call that returns a number and an error. -/
theorem ok_err {P : Program} {f : FuncId} {args : List Value} {RosI RosV : List Item} {x : Value} {b : Bool}
    (h : ∀ w, (∀ o, o ∈ RosI ++ RosV → o.ro w (fun b => b < w.heap.size)) → Calls P f args.toArray w fun e w' => ∃ ev, ErrIs b ev ∧ e = .returned (.tuple #[x, ev]) ∧ Keep w w' []) : CallOK P f args [] RosI RosV (fun v' outs ros => ∃ (ev : Value), ErrIs b ev ∧ v' = .tuple #[x, ev] ∧ outs = [] ∧ ros = []) := by
  intro w S F hS hI hnd hX hV
  have eF : F = [] := hI
  subst eF
  refine (h w (fun o ho => ?_)).mono ?_
  · rcases List.mem_append.1 ho with ho | ho
    · exact o.sh.rep_mono (fun b hb => (hS b hb).1) (hX o ho)
    · exact o.sh.rep_mono (fun b hb => hb.1) (hV o ho)
  · rintro e w' ⟨ev, hev, rfl, hk⟩
    exact ⟨_, [], [], rfl, ⟨ev, hev, rfl, rfl, rfl⟩, [], rfl, List.nodup_nil, fun b hb => (by cases hb), fun o ho => (by cases ho), hk⟩
theorem Keep.below {w w' : World} (h : RowKit.Below w.heap.size w w') : Keep w w' [] := ⟨h.os, h.tape, h.output, h.size, fun b hb _ => h.block b hb⟩
end Go.Proofs.YtneifoepoccjaaaGreatDoor
