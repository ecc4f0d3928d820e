/-
  More rules of a walk, in plain words: slices that are made and grown, parts of slices; strings. No program in sight.
-/
import Derived.Test.YtneifoepoccjaaaGreatDoorV7
namespace Go.Proofs.YtneifoepoccjaaaGreatDoor

def appO {α : Type} (bytes : Nat) (xs ys : List α) : Option (List α) := if (xs.length + ys.length) * bytes ≤ 140737488355328 then some (xs ++ ys) else none
def mkO {α : Type} (bytes : Nat) (z : α) (n : Int) : Option (List α) := if 0 ≤ n ∧ (bytes : Int) * n ≤ 140737488355328 then some (List.replicate n.toNat z) else none
def subO {α : Type} (xs : List α) (lo hi : Int) : Option (List α) := if 0 ≤ lo ∧ lo ≤ hi ∧ hi ≤ xs.length then some ((xs.drop lo.toNat).take (hi.toNat - lo.toNat)) else none
def catO (s t : List UInt8) : Option (List UInt8) := if s.length + t.length ≤ 9223372036854775807 then some (s ++ t) else none
theorem appO_some {α : Type} {bytes : Nat} {xs ys zs : List α} (h : appO bytes xs ys = some zs) : (xs.length + ys.length) * bytes ≤ 140737488355328 ∧ zs = xs ++ ys := by
  unfold appO at h
  split at h
  · exact ⟨by assumption, (Option.some.inj h).symm⟩
  · cases h
theorem mkO_some {α : Type} {bytes : Nat} {z : α} {n : Int} {zs : List α} (h : mkO bytes z n = some zs) : 0 ≤ n ∧ (bytes : Int) * n ≤ 140737488355328 ∧ zs = List.replicate n.toNat z := by
  unfold mkO at h
  split at h
  · rename_i h1
    exact ⟨h1.1, h1.2, (Option.some.inj h).symm⟩
  · cases h
theorem subO_some {α : Type} {xs zs : List α} {lo hi : Int} (h : subO xs lo hi = some zs) : 0 ≤ lo ∧ lo ≤ hi ∧ hi ≤ xs.length ∧ zs = (xs.drop lo.toNat).take (hi.toNat - lo.toNat) := by
  unfold subO at h
  split at h
  · rename_i h1
    exact ⟨h1.1, h1.2.1, h1.2.2, (Option.some.inj h).symm⟩
  · cases h
theorem catO_some {s t u : List UInt8} (h : catO s t = some u) : s.length + t.length ≤ 9223372036854775807 ∧ u = s ++ t := by
  unfold catO at h
  split at h
  · exact ⟨by assumption, (Option.some.inj h).symm⟩
  · cases h

section
variable {P : Program} {c : Ctx} {n : Nat} {Q : Exit → Act → World → Prop} {E E' : Slots} {Rs Xs Os Vs : List Item} {ops : Array Oper} {l : List Oper} {o : Oper}
variable {d : Nat} {ty : TypeId} {pos : String} {aft : Array Edge} {gd : Option (Nat × Bool)}

theorem one_cells {α : Type} {enc : α → List Value} (h1 : ∀ x, (enc x).all Value.oneCell' = true) (xs : List α) : ∀ u, u ∈ xs.flatMap enc → u.oneCell' = true := by
  intro u hu
  obtain ⟨x, _, hx⟩ := List.mem_flatMap.1 hu
  exact (List.all_eq_true.1 (h1 x)) u hx

theorem rep_cells {α : Type} {m : Nat} {enc : α → List Value} {hn : ∀ x, (enc x).length = m} {w : World} {S : Nat → Prop} {A : Addr} {xs : List α} (h : RepArr (flatS m enc hn) w S A xs) :
    ∀ (j : Nat) (u : Value), (xs.flatMap enc)[j]? = some u → w.cell? (A.add j) = some u := by
  obtain ⟨h0, _, h2⟩ := h
  intro j u hj
  have eA : A.add j = ⟨A.block, A.off + j, none⟩ := by
    obtain ⟨b, off, sp⟩ := A
    simp only at h0
    subst h0
    unfold Addr.add
    split <;> simp_all
  have hlen : (xs.flatMap enc).length = xs.length * m := by
    have := OwnL.length (s := flatS m enc hn) (w := w) (S := S) (OwnL.flat (xs := xs))
    exact this
  have hjl : j < xs.length * m := by have := (List.getElem?_eq_some_iff.1 hj).1; omega
  have hm : 0 < m := by
    rcases Nat.eq_zero_or_pos m with e | e
    · rw [e] at hjl; omega
    · exact e
  have hi : j / m < xs.length := (Nat.div_lt_iff_lt_mul hm).2 hjl
  have hget : xs[j / m]? = some xs[j / m] := List.getElem?_eq_getElem hi
  obtain ⟨cs, hr, hc⟩ := h2 _ _ hget
  have hcs : cs = enc xs[j / m] := hr
  obtain ⟨e1, e2⟩ := flat_split hn hget
  have hmod : j = j / m * m + j % m := by rw [Nat.mul_comm]; exact (Nat.div_add_mod j m).symm
  have hlt : j % m < m := Nat.mod_lt _ hm
  have hu : (enc xs[j / m])[j % m]? = some u := by
    rw [e1, List.append_assoc, List.getElem?_append_right (by rw [e2]; omega), e2, List.getElem?_append_left (by rw [hn]; omega)] at hj
    rw [← hj]
    congr 1
    omega
  have := hc (j % m) u (by rw [hcs]; exact hu)
  rw [eA]
  have e3 : j / m * (flatS m enc hn).size + j % m = j := hmod.symm
  rw [e3] at this
  exact this

theorem run_app_none {w : World} {t ty T : TypeId} {i : TypeInfo} (ht : P.underlying t = some (.slice T)) (hi : P.info? T = some i) (a : Option Addr) (ln cp cp2 : Nat) (hle : ln ≤ cp) :
    (Builtin.append_ #[t, t] ty #[.slice a ln cp, .slice none 0 cp2]).run P w = .ok (.slice a ln cp) w := by
  cases a <;> simp [Builtin.append_, run_underlying ht, sizeOf, typeInfo, hi, Builtin.lenOf, Builtin.firstCells, hle, storeCells]

/-- The row behind an append lies where it lay, or is new. -/
theorem app_block {m bytes : Nat} {T t ty : TypeId} {a : Option Addr} {cp cp2 ln m2 : Nat} {ad : Addr} {xs news : List Value} {z : Value} {w w' : World} {i : TypeInfo} {v' : Value}
    (ht : P.underlying t = some (.slice T)) (hi0 : P.info? T = some i) (hi1 : i.zero = some z) (hi2 : i.size = m) (hi3 : i.bytes = bytes) (hb : 0 < bytes)
    (ho : w.ownsRow 0 T m (.slice a ln cp) ln xs) (hl : news.length = m2 * m) (hnews : ∀ (j : Nat) (u : Value), news[j]? = some u → w.cell? (ad.add j) = some u) (h1 : ∀ u, u ∈ news → u.oneCell' = true)
    (hsz : (ln + m2) * bytes ≤ 140737488355328) (hr : (Builtin.append_ #[t, t] ty #[.slice a ln cp, .slice (some ad) m2 cp2]).run P w = .ok v' w') {b : Nat} (hbk : v'.ownBlock = some b) : (Value.slice a ln cp).ownBlock = some b ∨ w.heap.size ≤ b := by
  subst hi2
  subst hi3
  have hlx : ln + m2 ≤ 140737488355328 := by
    have := Nat.le_mul_of_pos_right (ln + m2) hb
    omega
  rcases ho.2 with ⟨hv, h0⟩ | ⟨g, cap, cur, hv, _, hg, hle, hmx, hcs, htk⟩
  · have hv' : a = none ∧ ln = 0 ∧ cp = 0 := by simpa using hv
    obtain ⟨rfl, rfl, rfl⟩ := hv'
    by_cases hm2 : m2 = 0
    · subst hm2
      have hn : news = [] := List.eq_nil_of_length_eq_zero (by simpa using hl)
      have : (Builtin.append_ #[t, t] ty #[.slice none 0 0, .slice (some ad) 0 cp2]).run P w = .ok (.slice none 0 0) w := by
        simp [Builtin.append_, run_underlying ht, sizeOf, typeInfo, hi0, Builtin.lenOf, Builtin.firstCells, loadCells, loadCellsFrom]
      rw [this] at hr
      have e : Value.slice none 0 0 = v' := by simpa using (by simpa using hr : Value.slice none 0 0 = v' ∧ w = w').1
      subst e
      simp [Value.ownBlock] at hbk
    · have := run_append_nil (P := P) w t ty T i z ht hi0 hi1 ad m2 cp2 news hl hnews (by omega) (by omega) (by have h := hsz; simp only [Nat.zero_add] at h; omega)
      rw [this] at hr
      have e := (by simpa using hr : _ = v' ∧ _ = w').1
      subst e
      right
      have : w.heap.size = b := by simpa [Value.ownBlock] using hbk
      omega
  · have hv' : a = some ⟨g, 0, none⟩ ∧ cp = cap := by simpa using hv
    obtain ⟨rfl, rfl⟩ := hv'
    by_cases hroom : ln + m2 ≤ cp
    · have hfit : ln * i.size + news.length ≤ cur.size := by rw [hl, hcs, ← Nat.add_mul]; exact Nat.mul_le_mul_right _ hroom
      have := run_append_room (P := P) w t ty T i ht hi0 g ln cp cur hg ad m2 cp2 news hl hnews h1 hroom hfit
      rw [this] at hr
      have e := (by simpa using hr : _ = v' ∧ _ = w').1
      subst e
      left
      simpa [Value.ownBlock] using hbk
    · have holds : ∀ (j : Nat) (u : Value), xs[j]? = some u → w.cell? ((⟨g, 0, none⟩ : Addr).add j) = some u := ho.cells (g := g) rfl
      have := run_append_grow (P := P) w t ty T i z ht hi0 hi1 ⟨g, 0, none⟩ ln cp xs ho.1 holds ad m2 cp2 news hl hnews (by omega) (by omega) (growslice_fits (by omega) hsz)
      rw [this] at hr
      have e := (by simpa using hr : _ = v' ∧ _ = w').1
      subst e
      right
      have : w.heap.size = b := by simpa [Value.ownBlock] using hbk
      omega

/-- What appending gives. -/
theorem app_parts {α : Type} {m bytes : Nat} {enc : α → List Value} {hn : ∀ x, (enc x).length = m} {nt nt2 : Bool} {T T2 t ty : TypeId} {a a2 : Option Addr} {cp cp2 : Nat} {xs ys : List α} {z : Value} {w : World}
    (ht : P.underlying t = some (.slice T)) (hi : (P.info? T).map (fun i => (i.zero, i.size, i.bytes)) = some (some z, m, bytes)) (hz : z.cells.size = m) (hm : 0 < m) (hb : 0 < bytes) (h1 : ∀ x, (enc x).all Value.oneCell' = true)
    (hsz : (xs.length + ys.length) * bytes ≤ 140737488355328) {S1 S2 : Nat → Prop} {F : List Nat} (hown : (SL nt T (flatS m enc hn) a cp xs).owned w S1 F) (hsrc : (SL nt2 T2 (flatS m enc hn) a2 cp2 ys).ro w S2) :
    ∃ a' cp' w', (Builtin.append_ #[t, t] ty #[.slice a xs.length cp, .slice a2 ys.length cp2]).run P w = .ok (.slice a' (xs ++ ys).length cp') w' ∧ Keep w w' F ∧
      (∃ F2, (∀ S, (SL nt T (flatS m enc hn) a' cp' (xs ++ ys)).owned w' S F2) ∧ F2.Nodup ∧ ∀ b, b ∈ F2 → b < w'.heap.size ∧ (b ∈ F ∨ w.heap.size ≤ b)) := by
  obtain ⟨i, hi0, hi1, hi2, hi3⟩ := info_parts hi
  obtain ⟨v, cells, F', e, ⟨a', c', ev, hnt⟩, ho, hl, eF⟩ := hown
  have e' : Value.slice a xs.length cp = v := by simpa using e
  subst e'
  have ea : a = a' ∧ cp = c' := by simpa using ev
  obtain ⟨rfl, rfl⟩ := ea
  obtain ⟨ecells, eF'⟩ := ownL_flat_cells hl
  subst ecells
  subst eF'
  obtain ⟨a2', c2', e2, _, hnt2, hA⟩ := hsrc
  have ea2 : a2 = a2' ∧ cp2 = c2' := by simpa using e2
  obtain ⟨rfl, rfl⟩ := ea2
  have hlx : xs.length + ys.length ≤ 140737488355328 := by
    have := Nat.le_mul_of_pos_right (xs.length + ys.length) hb
    omega
  cases a2 with
  | none =>
    have hy : ys = [] := by
      cases hys : ys with
      | nil => rfl
      | cons y r =>
        have hA' : ys ≠ [] → ∃ A, none = some A ∧ RepArr (flatS m enc hn) w S2 A ys := hA
        obtain ⟨A, hA, _⟩ := hA' (by rw [hys]; simp)
        cases hA
    subst hy
    have hle : xs.length ≤ cp := by
      rcases ho.2 with ⟨hv, h0⟩ | ⟨g, cap, cur, hv, _, _, hle, _⟩
      · have h0' : xs.length = 0 := h0
        omega
      · have hle' : xs.length ≤ cap := hle
        have : cp = cap := (by simpa using hv : _ ∧ cp = cap).2
        omega
    refine ⟨a, cp, w, ?_, Keep.refl w F, ⟨F, fun S => ?_, ?_, fun b hb => ?_⟩⟩
    · rw [List.append_nil]
      exact run_app_none ht hi0 a xs.length cp cp2 hle
    · rw [List.append_nil]
      exact ⟨_, _, [], rfl, ⟨_, _, rfl, hnt⟩, ho, OwnL.flat, eF⟩
    · rw [eF]; cases (Value.slice a xs.length cp).ownBlock <;> simp
    · refine ⟨(ho.lt b ?_).2, Or.inl hb⟩
      rw [eF] at hb; simpa using hb
  | some ad =>
    have hnews : ∀ (j : Nat) (u : Value), (ys.flatMap enc)[j]? = some u → w.cell? (ad.add j) = some u := by
      by_cases hys : ys = []
      · subst hys; intro j u h; simp at h
      · have hA' : ys ≠ [] → ∃ A, some ad = some A ∧ RepArr (flatS m enc hn) w S2 A ys := hA
        obtain ⟨A, eA, hr⟩ := hA' hys
        have e3 : ad = A := by simpa using eA
        subst e3
        exact rep_cells hr
    have hly : (ys.flatMap enc).length = ys.length * m := OwnL.length (s := flatS m enc hn) (w := w) (S := fun _ => True) (OwnL.flat (xs := ys))
    obtain ⟨v', w', hr, hown', hg, hiff⟩ := run_append_own (P := P) w 0 t ty T i z m bytes ht hi0 hi1 hi2 hi3 hz hm (.slice a xs.length cp) xs.length (xs.flatMap enc) ho ad ys.length cp2 (ys.flatMap enc) hly hnews (one_cells h1 ys)
      (by unfold maxLen; omega) hsz (Nat.zero_le _)
    have hcat : (xs ++ ys).flatMap enc = xs.flatMap enc ++ ys.flatMap enc := by simp
    have hln : (xs ++ ys).length = xs.length + ys.length := List.length_append
    have hF2 : ∀ b, b ∈ v'.ownBlock.toList → b < w'.heap.size ∧ (b ∈ F ∨ w.heap.size ≤ b) := by
      intro b hb1
      have hb' : v'.ownBlock = some b := by simpa using hb1
      refine ⟨(hown'.lt b hb').2, ?_⟩
      rw [eF]
      rcases app_block ht hi0 hi1 hi2 hi3 hb ho hly hnews (one_cells h1 ys) hsz hr hb' with h | h
      · left; simp [h]
      · exact Or.inr h
    rcases hown'.2 with ⟨rfl, h0⟩ | ⟨g, cap, cur, rfl, _, _, _, _⟩
    · have hxy : xs = [] ∧ ys = [] := by
        constructor
        · exact List.eq_nil_of_length_eq_zero (by omega)
        · exact List.eq_nil_of_length_eq_zero (by omega)
      obtain ⟨rfl, rfl⟩ := hxy
      exact ⟨none, 0, w', hr, (Keep.grown hg).mono (fun b hb => by rw [eF]; simpa using hb), ⟨[], fun S => ⟨_, _, [], rfl, ⟨none, 0, rfl, fun _ => ⟨fun _ => rfl, fun _ => rfl⟩⟩, hown', ⟨by simp, by simp⟩, by simp [Value.ownBlock]⟩, by simp, fun b hb => by cases hb⟩⟩
    · rw [← hln] at hown' hr
      rw [← hcat] at hown'
      have hne : nt = true → xs ++ ys ≠ [] := fun h e => by
        have e1 : xs = [] ∧ ys = [] := by simpa using e
        have h2 : a = none := (hnt h).2 e1.1
        rcases ho.2 with ⟨hv, _⟩ | ⟨g', cap', cur', hv, _⟩
        · have h5 : ys.length = 0 := by rw [e1.2]; rfl
          have h3 := hiff.2 ⟨hv, h5⟩
          simp at h3
        · rw [h2] at hv; simp at hv
      refine ⟨some ⟨g, 0, none⟩, cap, w', hr, (Keep.grown hg).mono (fun b hb => by rw [eF]; simpa using hb), ⟨[g], fun S => ⟨_, _, [], rfl, ⟨_, _, rfl, fun h => ⟨fun e => (by cases e), fun e => absurd e (hne h)⟩⟩, hown', OwnL.flat, by simp [Value.ownBlock]⟩, by simp, fun b hb => hF2 b (by simpa [Value.ownBlock, eq_comm] using hb)⟩⟩

/-- APPEND to an owned row without pointers (the region in front). -/
theorem gl_app {α : Type} {m bytes : Nat} {enc : α → List Value} {hn : ∀ x, (enc x).length = m} {nt nt2 : Bool} {T T2 t : TypeId} {a a2 : Option Addr} {cp cp2 : Nat} {xs ys zs : List α} {z : Value} {X Y : Operand}
    (hm : SL nt2 T2 (flatS m enc hn) a2 cp2 ys ∈ (SL nt T (flatS m enc hn) a cp xs :: Rs) ++ (Vs ++ (Os ++ Xs))) (hX : ev E X = some (.slice a xs.length cp)) (hY : ev E Y = some (.slice a2 ys.length cp2))
    (ht : P.underlying t = some (.slice T)) (hi : (P.info? T).map (fun i => (i.zero, i.size, i.bytes)) = some (some z, m, bytes)) (hz : z.cells.size = m) (hmb : (Nat.blt 0 m && Nat.blt 0 bytes) = true) (h1 : ∀ x, (enc x).all Value.oneCell' = true) (hzs : appO bytes xs ys = some zs)
    (hw : wantE ops E ⟨some d, .call ⟨.builtin .append, #[X, Y], #[t, t]⟩, ty, pos, aft, gd⟩ = some true) (hd : Nat.blt d n = true)
    (h : ∀ a' cp', GL P c n ops Q l ((d, .slice a' zs.length cp') :: E) (SL nt T (flatS m enc hn) a' cp' zs :: Rs) Xs Os []) :
    GL P c n ops Q (⟨some d, .call ⟨.builtin .append, #[X, Y], #[t, t]⟩, ty, pos, aft, gd⟩ :: l) E (SL nt T (flatS m enc hn) a cp xs :: Rs) Xs Os Vs := by
  obtain ⟨hsz, rfl⟩ := appO_some hzs
  simp only [Bool.and_eq_true] at hmb
  have hm0 : 0 < m := by have := hmb.1; simp [Nat.blt] at this; omega
  have hb0 : 0 < bytes := by have := hmb.2; simp [Nat.blt] at this; omega
  refine gl_opx (ι := Option Addr × Nat) (V := fun q => .slice q.1 (xs ++ ys).length q.2) (EE := fun q => (d, .slice q.1 (xs ++ ys).length q.2) :: E) (RR := fun q => SL nt T (flatS m enc hn) q.1 q.2 (xs ++ ys) :: Rs) (OO := fun _ => Os) (VV := fun _ => []) (XX := fun _ => Xs) hw (by simp [known, notSelect, Op.operands, Call.operands, hX, hY]) (fun b => by simp [stepE, hd]) (fun w hS => ?_) (fun q => h q.1 q.2)
  have hsrc := hS.all hm
  obtain ⟨F, hF⟩ := hS
  obtain ⟨F1, F2, e, hown, h2⟩ := hF.owns
  subst e
  obtain ⟨a', cp', w', hr, hk, G, g1, g2, g3⟩ := app_parts (ty := ty) ht hi hz hm0 hb0 h1 hsz hown hsrc
  refine ⟨(a', cp'), w', ?_, ?_⟩
  · simp only [execOp, resolve, rho, List.map_toArray, List.map_cons, List.map_nil, hX, hY, Option.getD_some, Sem.run_bind, Sem.run_pure, Result.andThen_ok, invoke, builtin, hr]
  · exact ⟨_, StF.step (c := c) (Rout := [SL nt T (flatS m enc hn) a' cp' (xs ++ ys)]) (Fin := F1) (Frest := F2) (Fout := G) h2 hF.nodup hF.lt hF.xs hF.os hF.keep hk (fun S _ _ => ⟨G, [], by simp, g1 S, rfl⟩) g2 g3⟩

/-- MAKE of a slice without pointers. -/
theorem gl_mk {α : Type} {m bytes : Nat} {enc : α → List Value} {hn : ∀ x, (enc x).length = m} {T t : TypeId} {z : Value} {z0 : α} {X Y : Operand} {k k2 : IntKind} {q : Int} {zs : List α}
    (hX : ev E X = some (.int k q)) (hY : ev E Y = some (.int k2 q)) (ht : P.underlying t = some (.slice T)) (hi : (P.info? T).map (fun i => (i.zero, i.size, i.bytes)) = some (some z, m, bytes)) (hb : Nat.blt 0 bytes = true) (hz : z.cells.toList = enc z0) (hzs : mkO bytes z0 q = some zs)
    (hw : wantE ops E ⟨some d, .makeSlice t X Y, ty, pos, aft, gd⟩ = some true) (hd : Nat.blt d n = true)
    (h : ∀ a cp, GL P c n ops Q l ((d, .slice a zs.length cp) :: E) (SL false T (flatS m enc hn) a cp zs :: Rs) Xs Os Vs) :
    GL P c n ops Q (⟨some d, .makeSlice t X Y, ty, pos, aft, gd⟩ :: l) E Rs Xs Os Vs := by
  obtain ⟨h0, hby, rfl⟩ := mkO_some hzs
  obtain ⟨i, hi0, hi1, hi2, hi3⟩ := info_parts hi
  have hb0 : 0 < bytes := by simp [Nat.blt] at hb; omega
  have hq : q ≤ 140737488355328 := by
    have : (1 : Int) * q ≤ bytes * q := Int.mul_le_mul_of_nonneg_right (by omega) h0
    omega
  refine gl_opx (ι := Option Addr × Nat) (V := fun r => .slice r.1 (List.replicate q.toNat z0).length r.2) (EE := fun r => (d, .slice r.1 (List.replicate q.toNat z0).length r.2) :: E) (RR := fun r => SL false T (flatS m enc hn) r.1 r.2 (List.replicate q.toNat z0) :: Rs) (OO := fun _ => Os) (VV := fun _ => Vs) (XX := fun _ => Xs) hw (by simp [known, notSelect, Op.operands, hX, hY]) (fun b => by simp [stepE, hd]) (fun w hS => ?_) (fun r => h r.1 r.2)
  have hr := run_make (P := P) w t T i z ht hi0 hi1 k k2 q q h0 (Int.le_refl _) (by rw [hi3]; omega) (by omega)
  have hcells : madeCells z.cells (q.toNat * i.size) = ((List.replicate q.toNat z0).flatMap enc).toArray := by
    have hzc : z.cells = (enc z0).toArray := by rw [← hz]
    have hzl : (enc z0).length = m := hn z0
    apply Array.ext
    · simp [madeCells, hi2, List.length_flatMap, hzl]
    · intro j h1 h2
      simp [madeCells] at h1
      have hm0 : 0 < m := by
        rcases Nat.eq_zero_or_pos m with e | e
        · rw [hi2, e] at h1; omega
        · exact e
      rw [hi2] at h1
      have hj : j / m < q.toNat := (Nat.div_lt_iff_lt_mul hm0).2 h1
      have hget : (List.replicate q.toNat z0)[j / m]? = some z0 := by rw [List.getElem?_replicate, if_pos hj]
      obtain ⟨e1, e2⟩ := flat_split hn hget
      have hmod : j = j / m * m + j % m := by rw [Nat.mul_comm]; exact (Nat.div_add_mod j m).symm
      have hlt : j % m < m := Nat.mod_lt _ hm0
      have : ((List.replicate q.toNat z0).flatMap enc)[j]? = (enc z0)[j % m]? := by
        rw [e1, List.append_assoc, List.getElem?_append_right (by rw [e2]; omega), e2, List.getElem?_append_left (by rw [hn]; omega)]
        congr 1
        omega
      have hz2 : (enc z0)[j % m]? = some ((enc z0)[j % m]'(by omega)) := List.getElem?_eq_getElem _
      rw [hz2] at this
      have h3 := (List.getElem?_eq_some_iff.1 this).2
      simp only [madeCells, hzc, Array.getElem_map, Array.getElem_range, List.size_toArray, hzl, List.getElem_toArray]
      rw [h3]
      simp [hzl, hlt]
  rw [hcells] at hr
  refine ⟨(some ⟨w.heap.size, 0, none⟩, q.toNat), w.alloc (.cells ((List.replicate q.toNat z0).flatMap enc).toArray T), ?_, ?_⟩
  · simp only [execOp, rho, hX, hY, Option.getD_some, Sem.run_bind, hr, Result.andThen_ok, Sem.run_pure, List.length_replicate]
  · have hown := fun S => own_made (hn := hn) false T (List.replicate q.toNat z0) w S (fun h => by cases h) (by simp [maxLen]; omega)
    rw [List.length_replicate] at hown
    refine hS.fresh (Rout := [SL false T (flatS m enc hn) (some ⟨w.heap.size, 0, none⟩) q.toNat (List.replicate q.toNat z0)]) (Fout := [w.heap.size]) (Keep.alloc w _ []) (fun S _ => ⟨[w.heap.size], [], rfl, ?_, rfl⟩) (by simp) (fun b hb => ?_)
    · simpa using hown S
    · have e : b = w.heap.size := by simpa using hb
      subst e
      simp

/-! ## Strings -/
theorem str_size (s : List UInt8) : (ByteArray.mk s.toArray).size = s.length := rfl
theorem str_append (s t : List UInt8) : (ByteArray.mk s.toArray) ++ (ByteArray.mk t.toArray) = ByteArray.mk (s ++ t).toArray := by
  apply ByteArray.ext
  simp [ByteArray.data_append]
theorem str_extract (s : List UInt8) (i j : Nat) : (ByteArray.mk s.toArray).extract i j = ByteArray.mk ((s.drop i).take (j - i)).toArray := by
  apply ByteArray.ext
  simp [ByteArray.data_extract, List.extract_eq_take_drop]
/-- A string's byte. -/
theorem gl_sidx {t : TypeId} {X Y : Operand} {s : List UInt8} {k : IntKind} {i : Int} {b : UInt8} (hX : ev E X = some (str s)) (hY : ev E Y = some (.int k i)) (ht : P.underlying t = some .string) (hb : idxO s i = some b)
    (hw : wantE ops E ⟨some d, .index t X Y, ty, pos, aft, gd⟩ = some true) (hd : Nat.blt d n = true) (h : GL P c n ops Q l ((d, .int .u8 b.toNat) :: E) Rs Xs Os Vs) : GL P c n ops Q (⟨some d, .index t X Y, ty, pos, aft, gd⟩ :: l) E Rs Xs Os Vs := by
  refine gl_run (v := .int .u8 b.toNat) hw (by simp [known, notSelect, Op.operands, hX, hY]) (by simp [stepE, hd]) (fun w => ?_) h
  obtain ⟨h0, hlt, hget⟩ := idxO_some hb
  have hg : (ByteArray.mk s.toArray)[i.toNat]? = some b := by
    have h1 : i.toNat < (ByteArray.mk s.toArray).size := hlt
    rw [getElem?_pos (ByteArray.mk s.toArray) i.toNat h1]
    have h2 := (List.getElem?_eq_some_iff.1 hget).2
    congr 1
  simp [execOp, rho, hX, hY, Instr.index, asIntOf, run_underlying ht, h0, hg]
/-- A part of a string. -/
theorem gl_ssub {t : TypeId} {X : Operand} {lo hi : Option Operand} {s u : List UInt8} {k k2 : IntKind} {i j : Int} (hX : ev E X = some (str s)) (hlo : (match lo with | some x => ev E x = some (.int k i) | none => i = 0)) (hhi : (match hi with | some x => ev E x = some (.int k2 j) | none => j = s.length))
    (ht : P.underlying t = some .string) (hu : subO s i j = some u)
    (hw : wantE ops E ⟨some d, .slice t X lo hi none, ty, pos, aft, gd⟩ = some true) (hd : Nat.blt d n = true) (h : GL P c n ops Q l ((d, str u) :: E) Rs Xs Os Vs) : GL P c n ops Q (⟨some d, .slice t X lo hi none, ty, pos, aft, gd⟩ :: l) E Rs Xs Os Vs := by
  obtain ⟨h0, h1, h2, rfl⟩ := subO_some hu
  refine gl_run (v := str ((s.drop i.toNat).take (j.toNat - i.toNat))) hw (by cases lo <;> cases hi <;> simp_all [known, notSelect, Op.operands]) (by simp [stepE, hd]) (fun w => ?_) h
  have hext := str_extract s i.toNat j.toNat
  have hsz : (ByteArray.mk s.toArray).size = s.length := rfl
  have hj : 0 ≤ j ∧ j ≤ (s.length : Int) := ⟨by omega, h2⟩
  cases lo with
  | none =>
    have hi0 : i = 0 := hlo
    subst hi0
    cases hi with
    | none =>
      have hj0 : j = s.length := hhi
      subst hj0
      simp [execOp, rho, hX, Instr.sliceAt, Instr.slice, Instr.sliceBounds, run_underlying ht]
    | some y =>
      have hy : ev E y = some (.int k2 j) := hhi
      simpa [execOp, rho, hX, hy, Instr.sliceAt, Instr.slice, Instr.sliceBounds, Instr.sliceBound, asIntOf, run_underlying ht, hsz, hj] using hext
  | some x =>
    have hx : ev E x = some (.int k i) := hlo
    cases hi with
    | none =>
      have hj0 : j = s.length := hhi
      subst hj0
      have : 0 ≤ i ∧ i ≤ (s.length : Int) := ⟨h0, h1⟩
      simpa [execOp, rho, hX, hx, Instr.sliceAt, Instr.slice, Instr.sliceBounds, Instr.sliceBound, asIntOf, run_underlying ht, hsz, this] using hext
    | some y =>
      have hy : ev E y = some (.int k2 j) := hhi
      have hij : 0 ≤ i ∧ i ≤ j := ⟨h0, h1⟩
      have hjn : ((j.toNat : Nat) : Int) = j := Int.toNat_of_nonneg hj.1
      simpa [execOp, rho, hX, hx, hy, Instr.sliceAt, Instr.slice, Instr.sliceBounds, Instr.sliceBound, asIntOf, run_underlying ht, hsz, hj, hij, hjn, h0] using hext
/-- Two strings, one behind the other. -/
theorem gl_scat {t t2 : TypeId} {X Y : Operand} {s u z : List UInt8} (hX : ev E X = some (str s)) (hY : ev E Y = some (str u)) (hz : catO s u = some z)
    (hw : wantE ops E ⟨some d, .binOp .add t X Y t2, ty, pos, aft, gd⟩ = some true) (hd : Nat.blt d n = true) (h : GL P c n ops Q l ((d, str z) :: E) Rs Xs Os Vs) : GL P c n ops Q (⟨some d, .binOp .add t X Y t2, ty, pos, aft, gd⟩ :: l) E Rs Xs Os Vs := by
  obtain ⟨hle, rfl⟩ := catO_some hz
  refine gl_run (v := str (s ++ u)) hw (by simp [known, notSelect, Op.operands, hX, hY]) (by simp [stepE, hd]) (fun w => ?_) h
  have : ¬ ((s.length + u.length : Nat) : Int) > IntKind.i64.max := by
    show ¬ _ > (9223372036854775807 : Int)
    omega
  have h2 := str_append s u
  simp only [execOp, rho, hX, hY, Option.getD_some, eqGuard, binOp, Op.stringOp, str_size]
  simp only [Sem.run_bind, Sem.run_ite, if_neg this, Sem.run_pure, h2]
  simp
/-- Are two strings equal? -/
theorem gl_seq {t t2 : TypeId} {X Y : Operand} {s u : List UInt8} (hX : ev E X = some (str s)) (hY : ev E Y = some (str u))
    (hw : wantE ops E ⟨some d, .binOp .eql t X Y t2, ty, pos, aft, gd⟩ = some true) (hd : Nat.blt d n = true) (h : GL P c n ops Q l ((d, .bool (s == u)) :: E) Rs Xs Os Vs) : GL P c n ops Q (⟨some d, .binOp .eql t X Y t2, ty, pos, aft, gd⟩ :: l) E Rs Xs Os Vs := by
  refine gl_run (v := .bool (s == u)) hw (by simp [known, notSelect, Op.operands, hX, hY]) (by simp [stepE, hd]) (fun w => ?_) h
  simp [execOp, rho, hX, hY, eqGuard, binOp, Op.stringOp]
theorem gl_sne {t t2 : TypeId} {X Y : Operand} {s u : List UInt8} (hX : ev E X = some (str s)) (hY : ev E Y = some (str u))
    (hw : wantE ops E ⟨some d, .binOp .neq t X Y t2, ty, pos, aft, gd⟩ = some true) (hd : Nat.blt d n = true) (h : GL P c n ops Q l ((d, .bool (!(s == u))) :: E) Rs Xs Os Vs) : GL P c n ops Q (⟨some d, .binOp .neq t X Y t2, ty, pos, aft, gd⟩ :: l) E Rs Xs Os Vs := by
  refine gl_run (v := .bool (!(s == u))) hw (by simp [known, notSelect, Op.operands, hX, hY]) (by simp [stepE, hd]) (fun w => ?_) h
  simp [execOp, rho, hX, hY, eqGuard, binOp, Op.stringOp]
end
end Go.Proofs.YtneifoepoccjaaaGreatDoor
