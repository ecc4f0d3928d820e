/-
  The rules of a walk, in plain words: one rule for each form of code and of operation, over the state of V2; and the plain meaning of a loop ('loopM') and of what is told by fuel ('lim'). No program in sight.
-/
import Derived.Test.YtneifoepoccjaaaGreatDoorV2
namespace Go.Proofs.YtneifoepoccjaaaGreatDoor

/-! ## Plain meanings -/
/-- What a function of fuel comes to, if it comes to anything. -/
noncomputable def lim {α : Type} (f : Nat → Option α) : Option α :=
  open Classical in if h : ∃ k r, f k = some r then f h.choose else none
theorem lim_some {α : Type} {f : Nat → Option α} {r : α} (h : lim f = some r) : ∃ k, f k = some r := by
  unfold lim at h
  split at h
  · exact ⟨_, h⟩
  · cases h
theorem lim_eq {α : Type} {f : Nat → Option α} (hmono : ∀ j k a b, f j = some a → f k = some b → a = b) {k : Nat} {r : α} (h : f k = some r) : lim f = some r := by
  unfold lim
  have he : ∃ k r, f k = some r := ⟨k, r, h⟩
  rw [dif_pos he]
  obtain ⟨r', hr'⟩ := he.choose_spec
  rw [hr', hmono _ _ _ _ hr' h]

/-- A loop: 'step' tells the next state, or the way out. -/
def iterM {σ ρ : Type} (step : σ → Option (Sum σ ρ)) : Nat → σ → Option ρ
  | 0, _ => none
  | k + 1, s => match step s with
    | none => none
    | some (.inl s') => iterM step k s'
    | some (.inr r) => some r
theorem iterM_det {σ ρ : Type} {step : σ → Option (Sum σ ρ)} : ∀ (j k : Nat) (s : σ) (a b : ρ), iterM step j s = some a → iterM step k s = some b → a = b
  | 0, _, _, _, _, h, _ => by cases h
  | _, 0, _, _, _, _, h => by cases h
  | j + 1, k + 1, s, a, b, h1, h2 => by
    simp only [iterM] at h1 h2
    cases hs : step s with
    | none => rw [hs] at h1; cases h1
    | some o =>
      rw [hs] at h1 h2
      cases o with
      | inl s' => exact iterM_det j k s' a b h1 h2
      | inr r => simp only [Option.some.injEq] at h1 h2; rw [← h1, ← h2]
noncomputable def loopM {σ ρ : Type} (step : σ → Option (Sum σ ρ)) (s : σ) : Option ρ := lim (fun k => iterM step k s)
theorem loopM_some {σ ρ : Type} {step : σ → Option (Sum σ ρ)} {s : σ} {r : ρ} (h : loopM step s = some r) : ∃ k, iterM step k s = some r := lim_some h
theorem loopM_of {σ ρ : Type} {step : σ → Option (Sum σ ρ)} {s : σ} {r : ρ} {k : Nat} (h : iterM step k s = some r) : loopM step s = some r :=
  lim_eq (fun j k a b => iterM_det j k s a b) h
theorem loopM_next {σ ρ : Type} {step : σ → Option (Sum σ ρ)} {s s' : σ} (h : step s = some (.inl s')) : loopM step s = loopM step s' := by
  cases h' : loopM step s' with
  | some r =>
    obtain ⟨k, hk⟩ := loopM_some h'
    exact loopM_of (k := k + 1) (by simp only [iterM, h]; exact hk)
  | none =>
    cases h2 : loopM step s with
    | none => rfl
    | some r =>
      obtain ⟨k, hk⟩ := loopM_some h2
      cases k with
      | zero => cases hk
      | succ k =>
        simp only [iterM, h] at hk
        rw [loopM_of hk] at h'; cases h'
theorem loopM_done {σ ρ : Type} {step : σ → Option (Sum σ ρ)} {s : σ} {r : ρ} (h : step s = some (.inr r)) : loopM step s = some r :=
  loopM_of (k := 1) (by simp only [iterM, h])

theorem bindS {α β : Type} {e : Option α} {f : α → Option β} {r : β} (h : e.bind f = some r) : ∃ y, e = some y ∧ f y = some r := by
  cases e with
  | none => cases h
  | some y => exact ⟨y, rfl, h⟩
theorem condT {α : Type} {c : Bool} {x y : Option α} {r : α} (hc : c = true) (h : (cond c x y) = some r) : x = some r := by rw [hc] at h; exact h
theorem condTt {α : Type} {c : Bool} {x y r : α} (hc : c = true) (h : (cond c x y) = r) : x = r := by rw [hc] at h; exact h
theorem condFt {α : Type} {c : Bool} {x y r : α} (hc : c = false) (h : (cond c x y) = r) : y = r := by rw [hc] at h; exact h
theorem and_t {a b : Bool} (h : a = true) : (a && b) = b := by rw [h]; rfl
theorem and_f {a b : Bool} (h : a = false) : (a && b) = false := by rw [h]; rfl
theorem or_t {a b : Bool} (h : a = true) : (a || b) = true := by rw [h]; rfl
theorem or_f {a b : Bool} (h : a = false) : (a || b) = b := by rw [h]; rfl
def letT {α β : Type} (x : α) (f : α → β) : β := f x
theorem letS {α β : Type} {x : α} {f : α → β} {r : β} (h : letT x f = r) : ∃ y, x = y ∧ f y = r := ⟨x, rfl, h⟩
theorem condF {α : Type} {c : Bool} {x y : Option α} {r : α} (hc : c = false) (h : (cond c x y) = some r) : y = some r := by rw [hc] at h; exact h

/-! ## Slots -/
abbrev Slots := List (Nat × Value)
def lk : Slots → Nat → Option Value
  | [], _ => none
  | (k, v) :: r, t => cond (Nat.beq k t) (some v) (lk r t)
def Env (a : Act) (n : Nat) (E : Slots) : Prop := a.defers = [] ∧ a.tmps.size = n ∧ ∀ t v, lk E t = some v → a.tmps[t]? = some v
def ev (E : Slots) : Operand → Option Value
  | .tmp t => lk E t
  | .const v => some v
  | .func f => some (.func (.func f) #[] #[])
  | .global g => some (.pointer (some ⟨g, 0, none⟩))
theorem Env.eval {a : Act} {n : Nat} {E : Slots} (h : Env a n E) {x : Operand} {v : Value} (hv : ev E x = some v) : a.eval x = v := by
  cases x with
  | tmp t => simp only [Act.eval, Array.getD_eq_getD_getElem?, h.2.2 t v hv, Option.getD_some]
  | const u => simpa [ev, Act.eval] using hv
  | func f => simpa [ev, Act.eval] using hv
  | global g => simpa [ev, Act.eval] using hv
theorem Env.put {a : Act} {n : Nat} {E : Slots} (h : Env a n E) {d : Nat} (hd : Nat.blt d n = true) (v : Value) : Env (a.put (some d) v) n ((d, v) :: E) := by
  have hd' : d < n := by simp [Nat.blt] at hd; omega
  refine ⟨h.1, by simp [Act.put, h.2.1], fun t u hu => ?_⟩
  simp only [lk] at hu
  cases hb : Nat.beq d t with
  | true =>
    rw [hb] at hu
    have e : d = t := Nat.eq_of_beq_eq_true hb
    subst e
    have e2 : v = u := by simpa using hu
    subst e2
    simp only [Act.put]
    rw [Array.getElem?_setIfInBounds_self, if_pos (by rw [h.2.1]; exact hd')]
  | false =>
    rw [hb] at hu
    have e : d ≠ t := fun e => by subst e; rw [Nat.beq_refl] at hb; cases hb
    simp only [Act.put]
    rw [Array.getElem?_setIfInBounds_ne e]
    exact h.2.2 t u hu
def SubE (E : Slots) : Slots → Prop
  | [] => True
  | (t, v) :: r => lk E t = some v ∧ SubE E r
theorem SubE.lk {E : Slots} : ∀ {E' : Slots}, SubE E E' → ∀ t v, lk E' t = some v → Go.Proofs.YtneifoepoccjaaaGreatDoor.lk E t = some v
  | [], _, t, v, h => by cases h
  | (k, u) :: r, ⟨h1, h2⟩, t, v, h => by
    simp only [Go.Proofs.YtneifoepoccjaaaGreatDoor.lk] at h
    cases hb : Nat.beq k t with
    | true =>
      rw [hb] at h
      have e : k = t := Nat.eq_of_beq_eq_true hb
      subst e
      have e2 : u = v := by simpa using h
      subst e2
      exact h1
    | false => rw [hb] at h; exact SubE.lk h2 t v h
theorem Env.sub {a : Act} {n : Nat} {E E' : Slots} (h : Env a n E) (hs : SubE E E') : Env a n E' := ⟨h.1, h.2.1, fun t v hv => h.2.2 t v (hs.lk t v hv)⟩

/-! ## Operations that look at no memory and at no table -/
def binI (op : BinOp) (k : IntKind) (a b : Int) : Option Value :=
  match op with
  | .add => some (.int k (k.wrap (a + b)))
  | .sub => some (.int k (k.wrap (a - b)))
  | .mul => some (.int k (k.wrap (a * b)))
  | .eql => some (.bool (a == b))
  | .neq => some (.bool (a != b))
  | .lss => some (.bool (decide (a < b)))
  | .leq => some (.bool (decide (a ≤ b)))
  | .gtr => some (.bool (decide (a > b)))
  | .geq => some (.bool (decide (a ≥ b)))
  | .quo => cond (decide (b = 0)) none (some (.int k (k.wrap (a.tdiv b))))
  | .rem => cond (decide (b = 0)) none (some (.int k (a.tmod b)))
  | _ => none
def kindEq (j k : IntKind) : Bool := decide (j = k)
def evalCall (E : Slots) (c : Call) : Option Value :=
  match c.callee, c.args.toList with
  | .builtin .max, [x, y] => match ev E x, ev E y with
    | some (.int k a), some (.int _ b) => some (.int k (if b > a then b else a))
    | _, _ => none
  | .builtin .min, [x, y] => match ev E x, ev E y with
    | some (.int k a), some (.int _ b) => some (.int k (if b < a then b else a))
    | _, _ => none
  | _, _ => none
def evalOp (E : Slots) (o : Oper) : Option Value :=
  match o.op with
  | .move x => ev E x
  | .assign x => ev E x
  | .pick c x y => match ev E c with
    | some (.bool true) => ev E x
    | some (.bool false) => ev E y
    | _ => none
  | .binOp op _ x y _ => match ev E x, ev E y with
    | some (.int k a), some (.int k' b) => cond (kindEq k k') (binI op k a b) none
    | _, _ => none
  | .unOp op _ x => match op, ev E x with
    | .not, some (.bool b) => some (.bool !b)
    | .neg, some (.int k n) => some (.int k (k.wrap (0 - n)))
    | _, _ => none
  | .extract x i => match ev E x with
    | some (.tuple vs) => vs[i]?
    | _ => none
  | .nilCheck x => match ev E x with
    | some (.pointer (some a)) => some (.pointer (some a))
    | _ => none
  | .call c => evalCall E c
  | _ => none

theorem binI_run {P : Program} {w : World} {op : BinOp} {t : TypeId} {k : IntKind} {a b : Int} {v : Value} (h : binI op k a b = some v) : (binOp op t (.int k a) (.int k b)).run P w = .ok v w := by
  cases op <;> simp only [binI] at h <;> try (cases h; done)
  case quo =>
    cases hb : decide (b = 0) with
    | true => rw [hb] at h; cases h
    | false =>
      rw [hb] at h
      have e := Option.some.inj h
      have hne : b ≠ 0 := fun e0 => by subst e0; simp at hb
      subst e
      simp [binOp, Op.intDiv, hne]
  case rem =>
    cases hb : decide (b = 0) with
    | true => rw [hb] at h; cases h
    | false =>
      rw [hb] at h
      have e := Option.some.inj h
      have hne : b ≠ 0 := fun e0 => by subst e0; simp at hb
      subst e
      simp [binOp, Op.intDiv, hne]
  all_goals (have e := Option.some.inj h; subst e; simp [binOp, Op.intArith, Op.intCmp])
theorem eqGuard_int {P : Program} {w : World} {op : BinOp} {t : TypeId} {x y : Operand} {k k' : IntKind} {a b : Int} : (eqGuard op t x y (.int k a) (.int k' b)).run P w = .ok () w := by
  cases op <;> simp [eqGuard]

theorem evalOp_run {P : Program} {a : Act} {n : Nat} {E : Slots} (hE : Env a n E) {o : Oper} {v : Value} (h : evalOp E o = some v) (w : World) : (execOp a.eval o).run P w = .ok (.value v) w := by
  obtain ⟨dst, op, type, pos, after, guard⟩ := o
  cases op <;> simp only [evalOp] at h <;> try (cases h; done)
  case move x => simp only [execOp, hE.eval h]; rfl
  case assign x => simp only [execOp, hE.eval h]; rfl
  case pick c x y =>
    split at h
    · rename_i hc; simp [execOp, hE.eval hc, hE.eval h, asBool]
    · rename_i hc; simp [execOp, hE.eval hc, hE.eval h, asBool]
    · cases h
  case binOp op t x y yt =>
    split at h
    · rename_i k p k' q hx hy
      cases hk : kindEq k k' with
      | false => rw [hk] at h; cases h
      | true =>
        rw [hk] at h
        have e : k = k' := by simpa [kindEq] using hk
        subst e
        simp only [execOp, hE.eval hx, hE.eval hy, Sem.run_bind, eqGuard_int, Result.andThen_ok, binI_run h]
        rfl
    · cases h
  case unOp op t x =>
    split at h
    · rename_i b hx
      have e := Option.some.inj h
      subst e
      simp [execOp, hE.eval hx, Op.unary]
    · rename_i k q hx
      have e := Option.some.inj h
      subst e
      simp [execOp, hE.eval hx, Op.unary, Op.intArith]
    · cases h
  case extract x i =>
    split at h
    · rename_i vs hx; simp [execOp, hE.eval hx, Instr.extract, h]
    · cases h
  case nilCheck x =>
    split at h
    · rename_i q hx
      have e := Option.some.inj h
      subst e
      simp [execOp, hE.eval hx]
    · cases h
  case call c =>
    obtain ⟨callee, args, ats⟩ := c
    simp only [evalCall] at h
    split at h
    · rename_i x y hargs
      split at h
      · rename_i k p k' q hx hy
        have e := Option.some.inj h
        subst e
        have ea : args = #[x, y] := by rw [← Array.toList_inj]; simpa using hargs
        subst ea
        simp [execOp, resolve, invoke, builtin, Builtin.max_, Builtin.max2, hE.eval hx, hE.eval hy]
      · cases h
    · rename_i x y hargs
      split at h
      · rename_i k p k' q hx hy
        have e := Option.some.inj h
        subst e
        have ea : args = #[x, y] := by rw [← Array.toList_inj]; simpa using hargs
        subst ea
        simp [execOp, resolve, invoke, builtin, Builtin.min_, Builtin.min2, hE.eval hx, hE.eval hy]
      · cases h
    · cases h

def stepE (n : Nat) (E : Slots) (o : Oper) (v : Value) : Option Slots :=
  match o.dst with
  | some d => cond (Nat.blt d n) (some ((d, v) :: E)) none
  | none => some E
theorem stepE_put {a : Act} {n : Nat} {E E' : Slots} {o : Oper} {v : Value} (hE : Env a n E) (h : stepE n E o v = some E') : Env (a.put o.dst v) n E' := by
  unfold stepE at h
  split at h
  · rename_i d hd
    cases hb : Nat.blt d n with
    | false => rw [hb] at h; cases h
    | true =>
      rw [hb] at h
      have e := Option.some.inj h
      subst e
      rw [hd]
      exact hE.put hb v
  · rename_i hd
    have e := Option.some.inj h
    subst e
    rw [hd]
    exact hE

/-- Is the operation wanted, as far as the slots tell? -/
def wantE (ops : Array Oper) (E : Slots) (o : Oper) : Option Bool :=
  match o.guard with
  | none => some true
  | some (j, want) => match ((ops[j]?).bind (·.dst)).bind (lk E) with
    | some (.bool b) => some (b == want)
    | some (.tuple _) => some false
    | _ => none
theorem wantE_eq {a : Act} {n : Nat} {E : Slots} {ops : Array Oper} {o : Oper} {b : Bool} (hE : Env a n E) (h : wantE ops E o = some b) : Region.wanted o (yielded ops a.tmps) = b := by
  unfold wantE at h
  unfold Region.wanted
  cases hg : o.guard with
  | none => rw [hg] at h; simpa using h
  | some g =>
    obtain ⟨j, want⟩ := g
    rw [hg] at h
    simp only at h ⊢
    split at h
    · rename_i q hq
      have e := Option.some.inj h
      subst e
      unfold yielded
      cases hd : (ops[j]?).bind (·.dst) with
      | none => rw [hd] at hq; cases hq
      | some d =>
        rw [hd] at hq
        simp only [Option.bind_some] at hq ⊢
        rw [hE.2.2 d _ hq]
        simp only
        cases q <;> cases want <;> rfl
    · rename_i q hq
      have e := Option.some.inj h
      subst e
      unfold yielded
      cases hd : (ops[j]?).bind (·.dst) with
      | none => rw [hd] at hq; cases hq
      | some d =>
        rw [hd] at hq
        simp only [Option.bind_some] at hq ⊢
        rw [hE.2.2 d _ hq]
        rfl
    · cases h

def evalSteps (n : Nat) (ops : Array Oper) : Slots → List Oper → Option Slots
  | E, [] => some E
  | E, o :: l => match wantE ops E o with
    | some true => match evalOp E o with
      | some v => match stepE n E o v with
        | some E' => evalSteps n ops E' l
        | none => none
      | none => none
    | some false => match stepE n E o undef with
      | some E' => evalSteps n ops E' l
      | none => none
    | none => none

/-! ## The judgements -/
section
variable (P : Program) (c : Ctx) (n : Nat)
def G (code : Code) (Q : Exit → Act → World → Prop) (E : Slots) (Rs Xs Os Vs : List Item) : Prop := ∀ a w, Env a n E → St c w Rs Xs Os Vs → code.wp P Q a w
def GL (ops : Array Oper) (Q : Exit → Act → World → Prop) (l : List Oper) (E : Slots) (Rs Xs Os Vs : List Item) : Prop := ∀ a w, Env a n E → St c w Rs Xs Os Vs → wpList P ops Q l a w
def GX (e : Exit) (Q : Exit → Act → World → Prop) (E : Slots) (Rs Xs Os Vs : List Item) : Prop := ∀ a w, Env a n E → St c w Rs Xs Os Vs → Q e a w
end
abbrev Nx (P : Program) (y : Code) (Q : Exit → Act → World → Prop) : Exit → Act → World → Prop := Exit.then (y.wp P Q) Q

section
variable {P : Program} {c : Ctx} {n : Nat} {Q : Exit → Act → World → Prop} {E E' : Slots} {Rs Xs Os Vs : List Item} {ops : Array Oper} {l : List Oper} {o : Oper}

theorem g_seq {x y : Code} (h : G P c n x (Nx P y Q) E Rs Xs Os Vs) : G P c n (.seq x y) Q E Rs Xs Os Vs := fun a w hE hS => wp_seq (h a w hE hS)
theorem g_mid {x y : Code} {M : Exit → Act → World → Prop} (h : G P c n x M E Rs Xs Os Vs) (hm : ∀ e a w, M e a w → (Nx P y Q) e a w) : G P c n (.seq x y) Q E Rs Xs Os Vs :=
  fun a w hE hS => wp_seq (Code.wp_mono hm (h a w hE hS))
theorem g_imp {x : Code} {M : Exit → Act → World → Prop} (h : G P c n x M E Rs Xs Os Vs) (hm : ∀ e a w, M e a w → Q e a w) : G P c n x Q E Rs Xs Os Vs :=
  fun a w hE hS => Code.wp_mono hm (h a w hE hS)
theorem g_skip (h : GX c n .normal Q E Rs Xs Os Vs) : G P c n .skip Q E Rs Xs Os Vs := fun a w hE hS => wp_skip (h a w hE hS)
theorem g_exit {id : Nat} (h : GX c n (.exit id) Q E Rs Xs Os Vs) : G P c n (.exit id) Q E Rs Xs Os Vs := fun a w hE hS => wp_exit (h a w hE hS)
theorem g_ret (h : GX c n .ret Q E Rs Xs Os Vs) : G P c n .ret Q E Rs Xs Os Vs := fun a w hE hS => wp_ret (h a w hE hS)
theorem g_block {id : Nat} {x : Code} (h : G P c n x (Exit.inBlock id Q) E Rs Xs Os Vs) : G P c n (.block id x) Q E Rs Xs Os Vs := fun a w hE hS => wp_block (h a w hE hS)
theorem g_condT {x y : Code} {t : Operand} (ht : ev E t = some (.bool true)) (h : G P c n x Q E Rs Xs Os Vs) : G P c n (.cond t x y) Q E Rs Xs Os Vs := fun a w hE hS => wp_cond_true (hE.eval ht) (h a w hE hS)
theorem g_condF {x y : Code} {t : Operand} (ht : ev E t = some (.bool false)) (h : G P c n y Q E Rs Xs Os Vs) : G P c n (.cond t x y) Q E Rs Xs Os Vs := fun a w hE hS => wp_cond_false (hE.eval ht) (h a w hE hS)
/-- A test: two ways. -/
theorem g_cond {x y : Code} {t : Operand} {b : Bool} (ht : ev E t = some (.bool b)) (h1 : b = true → G P c n x Q E Rs Xs Os Vs) (h2 : b = false → G P c n y Q E Rs Xs Os Vs) : G P c n (.cond t x y) Q E Rs Xs Os Vs := by
  intro a w hE hS
  cases b with
  | true => exact wp_cond_true (hE.eval ht) (h1 rfl a w hE hS)
  | false => exact wp_cond_false (hE.eval ht) (h2 rfl a w hE hS)
theorem g_region {id : Nat} {l : List Oper} (h : GL P c n l.toArray Q l E Rs Xs Os Vs) : G P c n (.region id l.toArray false) Q E Rs Xs Os Vs := fun a w hE hS => wp_region_lit (h a w hE hS)

theorem gx_seq {y : Code} (h : G P c n y Q E Rs Xs Os Vs) : GX c n .normal (Nx P y Q) E Rs Xs Os Vs := h
theorem gx_seq_exit {y : Code} {id : Nat} (h : GX c n (.exit id) Q E Rs Xs Os Vs) : GX c n (.exit id) (Nx P y Q) E Rs Xs Os Vs := h
theorem gx_seq_ret {y : Code} (h : GX c n .ret Q E Rs Xs Os Vs) : GX c n .ret (Nx P y Q) E Rs Xs Os Vs := h
theorem gx_blk {id : Nat} (h : GX c n .normal Q E Rs Xs Os Vs) : GX c n .normal (Exit.inBlock id Q) E Rs Xs Os Vs := h
theorem gx_blk_ret {id : Nat} (h : GX c n .ret Q E Rs Xs Os Vs) : GX c n .ret (Exit.inBlock id Q) E Rs Xs Os Vs := h
theorem gx_blk_hit {id : Nat} (h : GX c n .normal Q E Rs Xs Os Vs) : GX c n (.exit id) (Exit.inBlock id Q) E Rs Xs Os Vs := fun a w hE hS => by
  show (if id = id then Q .normal a w else Q (.exit id) a w)
  rw [if_pos rfl]; exact h a w hE hS
theorem gx_blk_miss {id id' : Nat} (hne : Nat.beq id' id = false) (h : GX c n (.exit id') Q E Rs Xs Os Vs) : GX c n (.exit id') (Exit.inBlock id Q) E Rs Xs Os Vs := fun a w hE hS => by
  show (if id' = id then Q .normal a w else Q (.exit id') a w)
  rw [if_neg (fun e => by subst e; rw [Nat.beq_refl] at hne; cases hne)]; exact h a w hE hS

theorem gl_nil (h : GX c n .normal Q E Rs Xs Os Vs) : GL P c n ops Q [] E Rs Xs Os Vs := h

/-- Many operations that look at no memory, at once. -/
theorem gl_batch (k : Nat) (N : Slots) (he : evalSteps n ops E (l.take k) = some (N ++ E)) (h : GL P c n ops Q (l.drop k) (N ++ E) Rs Xs Os Vs) : GL P c n ops Q l E Rs Xs Os Vs := by
  have key : ∀ (l1 l2 : List Oper) (E E' : Slots), evalSteps n ops E l1 = some E' → GL P c n ops Q l2 E' Rs Xs Os Vs → GL P c n ops Q (l1 ++ l2) E Rs Xs Os Vs := by
    intro l1
    induction l1 with
    | nil =>
      intro l2 E E' he h
      have e := Option.some.inj he
      subst e
      exact h
    | cons o l1 ih =>
      intro l2 E E' he h a w hE hS
      simp only [evalSteps] at he
      simp only [List.cons_append, wpList]
      split at he
      · rename_i hw
        split at he
        · rename_i v hv
          split at he
          · rename_i E1 h1
            rw [if_pos (wantE_eq hE hw)]
            refine Or.inl ?_
            unfold Oper.wp
            rw [evalOp_run hE hv w]
            exact ih l2 E1 E' he h _ w (stepE_put hE h1) hS
          · cases he
        · cases he
      · rename_i hw
        split at he
        · rename_i E1 h1
          rw [wantE_eq hE hw]
          simp only [Bool.false_eq_true, if_false]
          exact ih l2 E1 E' he h _ w (stepE_put hE h1) hS
        · cases he
      · cases he
  have := key (l.take k) (l.drop k) E (N ++ E) he h
  rwa [List.take_append_drop] at this

/-- A slot's bool is decided. -/
theorem gl_case {b : Bool} (t : Nat) (hb : lk E t = some (.bool b)) (h1 : b = true → GL P c n ops Q l ((t, .bool true) :: E) Rs Xs Os Vs) (h2 : b = false → GL P c n ops Q l ((t, .bool false) :: E) Rs Xs Os Vs) : GL P c n ops Q l E Rs Xs Os Vs := by
  have put : ∀ (u : Value), lk E t = some u → ∀ a, Env a n E → Env a n ((t, u) :: E) := fun u hu a hE => ⟨hE.1, hE.2.1, fun t' v hv => by
    simp only [lk] at hv
    cases hbt : Nat.beq t t' with
    | true =>
      rw [hbt] at hv
      have e : t = t' := Nat.eq_of_beq_eq_true hbt
      subst e
      have e2 : u = v := by simpa using hv
      subst e2
      exact hE.2.2 t u hu
    | false => rw [hbt] at hv; exact hE.2.2 t' v hv⟩
  intro a w hE hS
  cases b with
  | true => exact h1 rfl a w (put _ hb a hE) hS
  | false => exact h2 rfl a w (put _ hb a hE) hS
theorem wpList_mono {Q Q' : Exit → Act → World → Prop} (hq : ∀ e a w, Q e a w → Q' e a w) : ∀ (l : List Oper) (a : Act) (w : World), wpList P ops Q l a w → wpList P ops Q' l a w
  | [], a, w, h => hq _ _ _ h
  | o :: l, a, w, h => by
    simp only [wpList] at h ⊢
    split at h
    · rename_i hw
      rw [if_pos hw]
      rcases h with h | ⟨h1, a0, w0, h2⟩
      · refine Or.inl ?_
        have h3 := Oper.wp_mono (K' := wpList P ops Q' l) (fun a w => wpList_mono hq l a w) h
        unfold Oper.wp at h3 ⊢
        generalize (execOp a.eval o).run P w = r at *
        cases r with
        | ok nx w' =>
          cases nx <;> simp only [Oper.upon] at h3 ⊢ <;> try exact h3
          exact Calls.mono h3 (fun e w'' he => by cases e with
            | returned v => exact he
            | panicked ch => exact hq _ _ _ he
            | outgrown => exact ⟨he.choose, he.choose_spec.choose, hq _ _ _ he.choose_spec.choose_spec⟩)
        | halt x w' => cases x <;> simp only [Oper.upon] at h3 ⊢ <;> first | exact hq _ _ _ h3 | exact h3
      · exact Or.inr ⟨h1, a0, w0, hq _ _ _ h2⟩
    · rename_i hw
      rw [if_neg hw]
      exact wpList_mono hq l _ w h
theorem wpList_append {Q : Exit → Act → World → Prop} : ∀ (l1 l2 : List Oper) (a : Act) (w : World), wpList P ops (Exit.then (wpList P ops Q l2) Q) l1 a w → wpList P ops Q (l1 ++ l2) a w
  | [], l2, a, w, h => h
  | o :: l, l2, a, w, h => by
    simp only [List.cons_append, wpList] at h ⊢
    split at h
    · rename_i hw
      rw [if_pos hw]
      rcases h with h | ⟨h1, a0, w0, h2⟩
      · refine Or.inl ?_
        have h3 := Oper.wp_mono (K' := wpList P ops Q (l ++ l2)) (fun a w => wpList_append l l2 a w) h
        unfold Oper.wp at h3 ⊢
        generalize (execOp a.eval o).run P w = r at *
        cases r with
        | ok nx w' =>
          cases nx <;> simp only [Oper.upon] at h3 ⊢ <;> try exact h3
        | halt x w' => exact h3
      · exact Or.inr ⟨h1, a0, w0, h2⟩
    · rename_i hw
      rw [if_neg hw]
      exact wpList_append l l2 _ w h
/-- What a piece of a region comes to, whatever way it took: the slots EE, the state RR .. . -/
def Mid (c : Ctx) (n : Nat) (EE : Slots) (RR XX OO VV : List Item) (e : Exit) (a : Act) (w : World) : Prop := e = .normal ∧ Env a n EE ∧ St c w RR XX OO VV
theorem gl_join {EE : Slots} {RR XX OO VV : List Item} (k : Nat) (h1 : GL P c n ops (Mid c n EE RR XX OO VV) (l.take k) E Rs Xs Os Vs) (h2 : GL P c n ops Q (l.drop k) EE RR XX OO VV) : GL P c n ops Q l E Rs Xs Os Vs := by
  intro a w hE hS
  have h := wpList_mono (Q' := Exit.then (wpList P ops Q (l.drop k)) Q) (fun e a w ⟨he, hE', hS'⟩ => by subst he; exact h2 a w hE' hS') _ a w (h1 a w hE hS)
  have h' := wpList_append _ _ a w h
  rwa [List.take_append_drop] at h'
theorem gx_mid {EE : Slots} {RR XX OO VV : List Item} (hs : SubE E EE) (hS : ∀ w, St c w Rs Xs Os Vs → St c w RR XX OO VV) : GX c n .normal (Mid c n EE RR XX OO VV) E Rs Xs Os Vs :=
  fun _ w hE hSt => ⟨rfl, hE.sub hs, hS w hSt⟩

theorem gl_state {E' : Slots} {Rs' Xs' Os' Vs' : List Item} (hs : SubE E E') (hS : ∀ w, St c w Rs Xs Os Vs → St c w Rs' Xs' Os' Vs') (h : GL P c n ops Q l E' Rs' Xs' Os' Vs') : GL P c n ops Q l E Rs Xs Os Vs :=
  fun a w hE hSt => h a w (hE.sub hs) (hS w hSt)
theorem g_state {x : Code} {E' : Slots} {Rs' Xs' Os' Vs' : List Item} (hs : SubE E E') (hS : ∀ w, St c w Rs Xs Os Vs → St c w Rs' Xs' Os' Vs') (h : G P c n x Q E' Rs' Xs' Os' Vs') : G P c n x Q E Rs Xs Os Vs :=
  fun a w hE hSt => h a w (hE.sub hs) (hS w hSt)
theorem gl_st {Rs' Xs' Os' Vs' : List Item} (hS : ∀ w, St c w Rs Xs Os Vs → St c w Rs' Xs' Os' Vs') (h : GL P c n ops Q l E Rs' Xs' Os' Vs') : GL P c n ops Q l E Rs Xs Os Vs :=
  fun a w hE hSt => h a w hE (hS w hSt)
theorem g_st {x : Code} {Rs' Xs' Os' Vs' : List Item} (hS : ∀ w, St c w Rs Xs Os Vs → St c w Rs' Xs' Os' Vs') (h : G P c n x Q E Rs' Xs' Os' Vs') : G P c n x Q E Rs Xs Os Vs :=
  fun a w hE hSt => h a w hE (hS w hSt)
theorem gl_pick (i : Nat) {r : Item} (hr : Rs[i]? = some r) (h : GL P c n ops Q l E (r :: Rs.eraseIdx i) Xs Os Vs) : GL P c n ops Q l E Rs Xs Os Vs :=
  fun a w hE hSt => h a w hE (hSt.pick i hr)
theorem gl_push (t : Nat) (v : Value) (hv : lk E t = some v) (h : GL P c n ops Q l ((t, v) :: E) Rs Xs Os Vs) : GL P c n ops Q l E Rs Xs Os Vs := by
  intro a w hE hSt
  refine h a w ⟨hE.1, hE.2.1, fun t' u hu => ?_⟩ hSt
  simp only [lk] at hu
  cases hbt : Nat.beq t t' with
  | true =>
    rw [hbt] at hu
    have e : t = t' := Nat.eq_of_beq_eq_true hbt
    subst e
    have e2 : v = u := by simpa using hu
    subst e2
    exact hE.2.2 t v hv
  | false => rw [hbt] at hu; exact hE.2.2 t' u hu
theorem gl_dropV {x : Item} (h : GL P c n ops Q l E Rs Xs Os Vs) : GL P c n ops Q l E Rs Xs Os (x :: Vs) := fun a w hE hS => h a w hE (hS.sub (fun _ h => h) (fun _ ho => List.mem_append.2 (Or.inl ho)) (fun _ ho => List.mem_append.2 (Or.inr (List.mem_append.2 (Or.inl (List.mem_cons_of_mem _ ho))))))
theorem gl_dropO {x : Item} (h : GL P c n ops Q l E Rs Xs Os Vs) : GL P c n ops Q l E Rs Xs (x :: Os) Vs := fun a w hE hS => h a w hE (hS.sub (fun _ h => h) (fun _ ho => List.mem_append.2 (Or.inl (List.mem_cons_of_mem _ ho))) (fun _ ho => List.mem_append.2 (Or.inr (List.mem_append.2 (Or.inl ho)))))
theorem g_case {x : Code} (b : Bool) (h1 : b = true → G P c n x Q E Rs Xs Os Vs) (h2 : b = false → G P c n x Q E Rs Xs Os Vs) : G P c n x Q E Rs Xs Os Vs := by
  cases b with
  | true => exact h1 rfl
  | false => exact h2 rfl
theorem gx_of {e : Exit} {M : Exit → Act → World → Prop} (h : ∀ a w, Env a n E → St c w Rs Xs Os Vs → M e a w) : GX c n e M E Rs Xs Os Vs := h
theorem g_of {M : Exit → Act → World → Prop} {a : Act} {w : World} (hE : Env a n E) (hS : St c w Rs Xs Os Vs) (h : GX c n .normal M E Rs Xs Os Vs) : M .normal a w := h a w hE hS

/-- The operand's values, as far as the slots tell. -/
def rho (E : Slots) (x : Operand) : Value := (ev E x).getD undef
def known (E : Slots) (o : Oper) : Bool := o.op.operands.toList.all fun x => (ev E x).isSome
theorem rho_eval {a : Act} (hE : Env a n E) {o : Oper} (hs : ∀ cs b, o.op ≠ .select cs b) (hk : known E o = true) : execOp a.eval o = execOp (rho E) o := by
  refine execOp_congr o hs fun x hx => ?_
  unfold known at hk
  rw [List.all_eq_true] at hk
  have := hk x (by simpa using hx)
  cases hv : ev E x with
  | none => rw [hv] at this; cases this
  | some v => rw [hE.eval hv]; simp [rho, hv]
def notSelect : Op → Bool
  | .select _ _ => false
  | _ => true
theorem notSelect_spec {o : Op} (h : notSelect o = true) : ∀ cs b, o ≠ .select cs b := by
  intro cs b e; rw [e] at h; cases h

/-- One operation, by what it yields in whatever world: the state goes on by what is known of the new world. -/
theorem gl_op {v : Value} {Rs' Xs' Os' Vs' : List Item} (hw : wantE ops E o = some true) (hk : (notSelect o.op && known E o) = true) (hs : stepE n E o v = some E')
    (hr : ∀ w, St c w Rs Xs Os Vs → ∃ w', (execOp (rho E) o).run P w = .ok (.value v) w' ∧ St c w' Rs' Xs' Os' Vs') (h : GL P c n ops Q l E' Rs' Xs' Os' Vs') : GL P c n ops Q (o :: l) E Rs Xs Os Vs := by
  intro a w hE hS
  simp only [Bool.and_eq_true] at hk
  simp only [wpList]
  rw [if_pos (wantE_eq hE hw)]
  refine Or.inl ?_
  obtain ⟨w', h1, h2⟩ := hr w hS
  unfold Oper.wp
  rw [rho_eval hE (notSelect_spec hk.1) hk.2, h1]
  exact h _ w' (stepE_put hE hs) h2
theorem gl_run {v : Value} (hw : wantE ops E o = some true) (hk : (notSelect o.op && known E o) = true) (hs : stepE n E o v = some E')
    (hr : ∀ w, (execOp (rho E) o).run P w = .ok (.value v) w) (h : GL P c n ops Q l E' Rs Xs Os Vs) : GL P c n ops Q (o :: l) E Rs Xs Os Vs :=
  gl_op hw hk hs (fun w hS => ⟨w, hr w, hS⟩) h
/-- The same where the value is only known to be there. -/
theorem gl_opx {ι : Type} {V : ι → Value} {EE : ι → Slots} {RR XX OO VV : ι → List Item} (hw : wantE ops E o = some true) (hk : (notSelect o.op && known E o) = true) (hs : ∀ i, stepE n E o (V i) = some (EE i))
    (hr : ∀ w, St c w Rs Xs Os Vs → ∃ i w', (execOp (rho E) o).run P w = .ok (.value (V i)) w' ∧ St c w' (RR i) (XX i) (OO i) (VV i)) (h : ∀ i, GL P c n ops Q l (EE i) (RR i) (XX i) (OO i) (VV i)) : GL P c n ops Q (o :: l) E Rs Xs Os Vs := by
  intro a w hE hS
  simp only [Bool.and_eq_true] at hk
  simp only [wpList]
  rw [if_pos (wantE_eq hE hw)]
  refine Or.inl ?_
  obtain ⟨i, w', h1, h2⟩ := hr w hS
  unfold Oper.wp
  rw [rho_eval hE (notSelect_spec hk.1) hk.2, h1]
  exact h i _ w' (stepE_put hE (hs i)) h2
/-- A store and its like: no value. -/
theorem gl_skip {Rs' Xs' Os' Vs' : List Item} (hw : wantE ops E o = some true) (hk : (notSelect o.op && known E o) = true) (hs : stepE n E o undef = some E')
    (hr : ∀ w, St c w Rs Xs Os Vs → ∃ w', (execOp (rho E) o).run P w = .ok .skip w' ∧ St c w' Rs' Xs' Os' Vs') (h : GL P c n ops Q l E' Rs' Xs' Os' Vs') : GL P c n ops Q (o :: l) E Rs Xs Os Vs := by
  intro a w hE hS
  simp only [Bool.and_eq_true] at hk
  simp only [wpList]
  rw [if_pos (wantE_eq hE hw)]
  refine Or.inl ?_
  obtain ⟨w', h1, h2⟩ := hr w hS
  unfold Oper.wp
  rw [rho_eval hE (notSelect_spec hk.1) hk.2, h1]
  exact h _ w' (stepE_put hE hs) h2
/-- A call of a function, by what it gives. -/
theorem gl_call {f : FuncId} {args : List Value} {RosI RosV : List Item} {Post : Value → List Item → List Item → Prop} (hw : wantE ops E o = some true) (hk : (notSelect o.op && known E o) = true)
    (hr : ∀ w, (execOp (rho E) o).run P w = .ok (.enter f args.toArray) w) (hc : CallOK P f args [] RosI RosV Post) (hI : ∀ o, o ∈ RosI → o ∈ Xs) (hV : ∀ o, o ∈ RosV → o ∈ Rs ++ (Vs ++ (Os ++ Xs)))
    (h : ∀ v outs ros, Post v outs ros → ∃ E', stepE n E o v = some E' ∧ GL P c n ops Q l E' (outs ++ Rs) (ros ++ Xs) Os Vs) : GL P c n ops Q (o :: l) E Rs Xs Os Vs := by
  intro a w hE hS
  simp only [Bool.and_eq_true] at hk
  simp only [wpList]
  rw [if_pos (wantE_eq hE hw)]
  refine Or.inl ?_
  unfold Oper.wp
  rw [rho_eval hE (notSelect_spec hk.1) hk.2, hr w]
  refine (St.call (R := fun e w' => ∃ v E' outs ros, e = .returned v ∧ stepE n E o v = some E' ∧ St c w' (outs ++ Rs) (ros ++ Xs) Os Vs ∧ GL P c n ops Q l E' (outs ++ Rs) (ros ++ Xs) Os Vs) hc hS hI hV (fun v outs ros w' hp hS' => ?_)).mono ?_
  · obtain ⟨E', h1, h2⟩ := h v outs ros hp
    exact ⟨v, E', outs, ros, rfl, h1, hS', h2⟩
  · rintro e w' ⟨v, E', outs, ros, rfl, h1, h2, h3⟩
    exact h3 _ w' (stepE_put hE h1) h2
/-- A call that is handed the regions in front. -/
theorem gl_callIn {f : FuncId} {args : List Value} {Ins RosI RosV : List Item} {Post : Value → List Item → List Item → Prop} (hw : wantE ops E o = some true) (hk : (notSelect o.op && known E o) = true)
    (hr : ∀ w, (execOp (rho E) o).run P w = .ok (.enter f args.toArray) w) (hc : CallOK P f args Ins RosI RosV Post) (hI : ∀ o, o ∈ RosI → o ∈ Xs) (hV : ∀ o, o ∈ RosV → o ∈ Rs ++ (Os ++ Xs))
    (h : ∀ v outs ros, Post v outs ros → ∃ E', stepE n E o v = some E' ∧ GL P c n ops Q l E' (outs ++ Rs) (ros ++ Xs) Os []) : GL P c n ops Q (o :: l) E (Ins ++ Rs) Xs Os Vs := by
  intro a w hE hS
  simp only [Bool.and_eq_true] at hk
  simp only [wpList]
  rw [if_pos (wantE_eq hE hw)]
  refine Or.inl ?_
  unfold Oper.wp
  rw [rho_eval hE (notSelect_spec hk.1) hk.2, hr w]
  refine (St.callIn (R := fun e w' => ∃ v E' outs ros, e = .returned v ∧ stepE n E o v = some E' ∧ St c w' (outs ++ Rs) (ros ++ Xs) Os [] ∧ GL P c n ops Q l E' (outs ++ Rs) (ros ++ Xs) Os []) hc hS hI hV (fun v outs ros w' hp hS' => ?_)).mono ?_
  · obtain ⟨E', h1, h2⟩ := h v outs ros hp
    exact ⟨v, E', outs, ros, rfl, h1, hS', h2⟩
  · rintro e w' ⟨v, E', outs, ros, rfl, h1, h2, h3⟩
    exact h3 _ w' (stepE_put hE h1) h2

/-! ## Loops -/
def LP {σ ρ : Type} (A : σ → Act → World → Prop) (B : ρ → Exit → Act → World → Prop) : Sum σ ρ → Exit → Act → World → Prop
  | .inl s, e, a, w => e = .normal ∧ A s a w
  | .inr r, e, a, w => e ≠ .normal ∧ B r e a w
theorem g_loop {σ ρ : Type} {body : Code} (step : σ → Option (Sum σ ρ)) (A : σ → Act → World → Prop) (B : ρ → Exit → Act → World → Prop) {s0 : σ} {r : ρ} (hl : loopM step s0 = some r)
    (h0 : ∀ a w, Env a n E → St c w Rs Xs Os Vs → A s0 a w) (hb : ∀ s o, step s = some o → ∀ a w, A s a w → body.wp P (LP A B o) a w) (hx : ∀ e a w, B r e a w → Q e a w) : G P c n (.loop body) Q E Rs Xs Os Vs := by
  intro a w hE hS
  obtain ⟨k, hk⟩ := loopM_some hl
  have hA := h0 a w hE hS
  intro b kk cs
  have key : ∀ k s a w, iterM step k s = some r → A s a w →
      ∃ e a' w', Q e a' w' ∧ Arrives P (lone (b.at a (.code body :: .inLoop body :: kk)) cs w) b kk cs e a' w' := by
    intro k
    induction k with
    | zero => intro s a w h; cases h
    | succ k ih =>
      intro s a w h hA
      simp only [iterM] at h
      cases hs : step s with
      | none => rw [hs] at h; cases h
      | some o =>
        rw [hs] at h
        obtain ⟨e, a₁, w₁, hq, harr⟩ := hb s o hs a w hA b (.inLoop body :: kk) cs
        cases o with
        | inl s' =>
          obtain ⟨rfl, hA'⟩ := hq
          obtain ⟨e₂, a₂, w₂, hq₂, harr₂⟩ := ih s' a₁ w₁ h hA'
          exact ⟨e₂, a₂, w₂, hq₂, .of_steps (Steps.trans harr (.one step_inLoop)) harr₂⟩
        | inr r' =>
          have er : r' = r := by simpa using h
          subst er
          obtain ⟨hne, hB⟩ := hq
          exact ⟨e, a₁, w₁, hx e a₁ w₁ hB, .pass (x := .inLoop body) rfl (fun _ _ => .inl hne) harr⟩
  obtain ⟨e, a', w', hq, harr⟩ := key k s0 a w hk hA
  exact ⟨e, a', w', hq, .of_steps (.one step_loop) harr⟩
end
end Go.Proofs.YtneifoepoccjaaaGreatDoor
