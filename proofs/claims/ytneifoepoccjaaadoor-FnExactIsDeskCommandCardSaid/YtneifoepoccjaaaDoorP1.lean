/-
  What the functions compute, in plain Lean on lists and integers (none: where Go would panic, or never end). Written by a program of ours from the form of the code.
-/
import Derived.Test.YtneifoepoccjaaaDoorS
namespace Go.Proofs.YtneifoepoccjaaaDoor
noncomputable section
def spec_l01Split_L1 (s : List UInt8) (by_v : Int) (s4 : (List (List UInt8)) × Int × Int) : Option (Sum ((List (List UInt8)) × Int × Int) ((List (List UInt8)))) :=
  bif (decide (s4.2.2 ≤ (List.length s : Int))) then
    (
      ((bif (s4.2.2 == (List.length s : Int)) then
        some true
      else
        (idxO s s4.2.2).bind fun y8 =>
        some ((y8.toNat : Int) == by_v)).bind fun q7 =>
      bif q7 then
        (subO s s4.2.1 s4.2.2).bind fun z9 =>
        (appO 16 s4.1 [z9]).bind fun z12 =>
        some (z12, IntKind.i64.wrap (s4.2.2 + 1))
      else
        some (s4.1, s4.2.1) : Option ((List (List UInt8)) × Int))).bind fun o6 =>
    some (.inl (o6.1, o6.2, IntKind.i64.wrap (s4.2.2 + 1)))
  else
    some (.inr s4.1)
def spec_l01Split (s : List UInt8) (by_v : Int) : Option (List (List UInt8)) :=
  (loopM (spec_l01Split_L1 s by_v) ([], 0, 0)).bind fun o3 =>
  some o3

def spec_l01Dec_F : Nat → Int → Option (List UInt8)
  | 0, _ => none
  | kf + 1, n_v =>
    bif (decide (n_v < 10)) then
      some (toStr [IntKind.u8.wrap (IntKind.i64.wrap (48 + n_v))])
    else
      (spec_l01Dec_F kf (IntKind.i64.wrap (Int.tdiv n_v 10))).bind fun o3 =>
      (catO o3 (toStr [IntKind.u8.wrap (IntKind.i64.wrap (48 + (Int.tmod n_v 10)))])).bind fun z6 =>
      some z6
def spec_l01Dec (n_v : Int) : Option (List UInt8) := lim (fun kf => spec_l01Dec_F kf n_v)

def spec_l01Digits_L1 (s : List UInt8) (s2 : Int × Int) : Option (Sum (Int × Int) (Sum Unit Int)) :=
  bif (decide (s2.2 < (List.length s : Int))) then
    (idxO s s2.2).bind fun y4 =>
    (bif (decide ((y4.toNat : Int) < 48)) then
      some true
    else
      (idxO s s2.2).bind fun y6 =>
      some (decide ((y6.toNat : Int) > 57))).bind fun q5 =>
    bif q5 then
      some (.inr (.inl ()))
    else
      (idxO s s2.2).bind fun y7 =>
      letT (IntKind.i64.wrap ((IntKind.i64.wrap (10 * s2.1)) + (IntKind.i64.wrap (IntKind.u8.wrap ((y7.toNat : Int) - 48))))) fun n_v8 =>
      some (.inl (n_v8, IntKind.i64.wrap (s2.2 + 1)))
  else
    some (.inr (.inr s2.1))
def spec_l01Digits (s : List UInt8) : Option (Int × Bool) :=
  bif ((decide ((List.length s : Int) < 1)) || (decide ((List.length s : Int) > 10))) then
    some (0, false)
  else
    (loopM (spec_l01Digits_L1 s) (0, 0)).bind fun o1 =>
    Sum.elim
      (fun _ =>
      some (0, false))
      (fun s10 =>
      (spec_l01Dec s10).bind fun o11 =>
      some (s10, o11 == s)) o1

def spec_l01Signed (s : List UInt8) : Option (Int × Bool) :=
  (bif (decide ((List.length s : Int) > 0)) then
    (idxO s 0).bind fun y2 =>
    some ((y2.toNat : Int) == 45)
  else
    some false).bind fun q1 =>
  bif q1 then
    (subO s 1 (List.length s : Int)).bind fun z3 =>
    (spec_l01Digits z3).bind fun o4 =>
    some (IntKind.i64.wrap (0 - o4.1), o4.2 && (decide (o4.1 > 0)))
  else
    (spec_l01Digits s).bind fun o5 =>
    some (o5.1, o5.2)

def spec_l01Numbers_L1 (words : List (List UInt8)) (s4 : (List Int) × Int) : Option (Sum ((List Int) × Int) (Sum Unit (List Int))) :=
  bif (decide (s4.2 < (List.length words : Int))) then
    (idxO words s4.2).bind fun x6 =>
    (spec_l01Signed x6).bind fun o8 =>
    bif (!o8.2) then
      some (.inr (.inl ()))
    else
      (appO 8 s4.1 [o8.1]).bind fun z11 =>
      some (.inl (z11, IntKind.i64.wrap (s4.2 + 1)))
  else
    some (.inr (.inr s4.1))
def spec_l01Numbers (words : List (List UInt8)) : Option (List Int × Bool) :=
  (loopM (spec_l01Numbers_L1 words) ([], 0)).bind fun o3 =>
  Sum.elim
    (fun _ =>
    some (([] : List Int), false))
    (fun s15 =>
    some (s15, true)) o3

def spec_l14Count_L1 (run : List Firing) (event : Int) (s2 : Int × Int) : Option (Sum (Int × Int) (Int)) :=
  bif (decide (s2.2 < (List.length run : Int))) then
    (
      ((idxO run s2.2).bind fun x5 =>
      bif (x5.Event == event) then
        some (IntKind.i64.wrap (s2.1 + 1))
      else
        some s2.1 : Option (Int))).bind fun o4 =>
    some (.inl (o4, IntKind.i64.wrap (s2.2 + 1)))
  else
    some (.inr s2.1)
def spec_l14Count (run : List Firing) (event : Int) : Option (Int) :=
  (loopM (spec_l14Count_L1 run event) (0, 0)).bind fun o1 =>
  some o1

def spec_l01In (n_v : Int) (low : Int) (high : Int) : Bool :=
  (decide (n_v ≥ low)) && (decide (n_v ≤ high))

def spec_l28Writable (f : Firing) : Bool :=
  (spec_l01In f.Event 0 9) && (spec_l01In f.Time 0 1000000)

def spec_l28Next (chain : Int) (f : Firing) : Int :=
  Int.tmod (IntKind.i64.wrap ((IntKind.i64.wrap ((IntKind.i64.wrap (31 * chain)) + (IntKind.i64.wrap (7 * f.Event)))) + f.Time)) 9973

def spec_l28Recover_L1 (o1 : List (List UInt8)) (s7 : Int × Int × (List Firing) × Int) : Option (Sum (Int × Int × (List Firing) × Int) (Int × (List Firing))) :=
  bif ((decide ((IntKind.i64.wrap (s7.2.2.2 + 1)) < (List.length o1 : Int))) && (decide ((List.length s7.2.2.1 : Int) < 500))) then
    (idxO o1 s7.2.2.2).bind fun x9 =>
    (spec_l01Split x9 32).bind fun o11 =>
    (spec_l01Numbers o11).bind fun o14 =>
    bif ((!o14.2) || ((List.length o14.1 : Int) != 3)) then
      some (.inr (s7.2.1, s7.2.2.1))
    else
      (idxO o14.1 0).bind fun x17 =>
      (idxO o14.1 0).bind fun x19 =>
      (spec_l14Count s7.2.2.1 x19).bind fun o21 =>
      (idxO o14.1 1).bind fun x22 =>
      (
        (letT (spec_l28Writable (⟨x17, IntKind.i64.wrap (o21 + 1), x22⟩ : Firing)) fun o26 =>
        bif (!o26) then
          some true
        else
          (idxO o14.1 2).bind fun x28 =>
          letT (spec_l28Next s7.1 (⟨x17, IntKind.i64.wrap (o21 + 1), x22⟩ : Firing)) fun o30 =>
          some (x28 != o30) : Option (Bool))).bind fun o25 =>
      bif o25 then
        some (.inr (s7.2.1, s7.2.2.1))
      else
        (idxO o14.1 2).bind fun x31 =>
        (idxO o1 s7.2.2.2).bind fun x33 =>
        letT (IntKind.i64.wrap ((IntKind.i64.wrap (s7.2.1 + (List.length x33 : Int))) + 1)) fun size35 =>
        (appO 24 s7.2.2.1 [(⟨x17, IntKind.i64.wrap (o21 + 1), x22⟩ : Firing)]).bind fun z38 =>
        letT (IntKind.i64.wrap (s7.2.2.2 + 1)) fun i41 =>
        some (.inl (x31, size35, z38, i41))
  else
    some (.inr (s7.2.1, s7.2.2.1))
def spec_l28Recover (s : List UInt8) : Option (List Firing × Int) :=
  (spec_l01Split s 10).bind fun o1 =>
  (loopM (spec_l28Recover_L1 o1) (1, 0, [], 0)).bind fun o6 =>
  some (o6.2, o6.1)

def spec_RecoverTrace (s : List UInt8) : Option (List Firing × Int) :=
  bif (decide ((List.length s : Int) > 20000)) then
    some (([] : List Firing), 3)
  else
    (spec_l28Recover s).bind fun o1 =>
    some (o1.1, 0)

def strings_Cut (s : List UInt8) (sep : List UInt8) : Option (List UInt8 × List UInt8 × Bool) := if s.length < 4294967281 then some (Lib.cut s sep) else none

def strings_Split (s : List UInt8) (sep : List UInt8) : Option (List (List UInt8)) := if s.length < 4294967281 ∧ 1 ≤ sep.length ∧ (Lib.splitB ⟨sep.toArray⟩ 0 (Lib.countB ⟨s.toArray⟩ ⟨sep.toArray⟩) ⟨s.toArray⟩).length = Lib.countB ⟨s.toArray⟩ ⟨sep.toArray⟩ + 1 ∧ Lib.countB ⟨s.toArray⟩ ⟨sep.toArray⟩ < 4294967290 then some ((Lib.splitB ⟨sep.toArray⟩ 0 (Lib.countB ⟨s.toArray⟩ ⟨sep.toArray⟩) ⟨s.toArray⟩).map (·.data.toList)) else none

def strconv_ParseInt (s : List UInt8) (base : Int) (bitSize : Int) : Option (Int × Bool) := if base = 10 ∧ bitSize = 64 ∧ s.length ≤ 281474976710656 then some (match Lib.parseIntB 64 s with | .ok v => (v, false) | .range => (Lib.intSat 64 s, true) | _ => (0, true)) else none

def strconv_FormatInt (i : Int) (base : Int) : Option (List UInt8) := if base = 10 ∧ -9223372036854775808 ≤ i ∧ i ≤ 9223372036854775807 then some (Lib.itoa i) else none

def impl_decimal (n_v : Int) : Option (List UInt8) :=
  (strconv_FormatInt n_v 10).bind fun o1 =>
  some o1

def impl_readNumber (s : List UInt8) : Option (Int × Bool) :=
  (strconv_ParseInt s 10 64).bind fun o1 =>
  (bif o1.2 then
    some true
  else
    (impl_decimal o1.1).bind fun o4 =>
    some (!(o4 == s))).bind fun q3 =>
  bif q3 then
    some (0, false)
  else
    some (o1.1, true)

def impl_within (n_v : Int) (low : Int) (high : Int) : Bool :=
  (decide (n_v ≥ low)) && (decide (n_v ≤ high))

def impl_isWritable_c1 (f : Firing) : Bool :=
  (!(impl_within f.Event 0 9)) || (!(impl_within f.Time 0 1000000))

def slices_IndexFunc_Firing_isWritable_c1_L1 (s : List Firing) (s2 : Int) : Option (Sum (Int) (Sum Int Unit)) :=
  bif (decide (s2 < (List.length s : Int))) then
    (idxO s s2).bind fun x4 =>
    bif (impl_isWritable_c1 x4) then
      some (.inr (.inl s2))
    else
      some (.inl (IntKind.i64.wrap (s2 + 1)))
  else
    some (.inr (.inr ()))
def slices_IndexFunc_Firing_isWritable_c1 (s : List Firing) : Option (Int) :=
  (loopM (slices_IndexFunc_Firing_isWritable_c1_L1 s) 0).bind fun o1 =>
  Sum.elim
    (fun s6 =>
    some s6)
    (fun _ =>
    some (-1)) o1

def slices_ContainsFunc_Firing_isWritable_c1 (s : List Firing) : Option (Bool) :=
  (slices_IndexFunc_Firing_isWritable_c1 s).bind fun o1 =>
  some (decide (o1 ≥ 0))

def impl_isWritable (run : List Firing) : Option (Bool) :=
  (bif (decide ((List.length run : Int) ≤ 500)) then
    (slices_ContainsFunc_Firing_isWritable_c1 run).bind fun o2 =>
    some (!o2)
  else
    some false).bind fun q1 =>
  some q1

def impl_traceLine (f : Firing) (chain : Int) : Option (List UInt8 × Int) :=
  letT (Int.tmod (IntKind.i64.wrap ((IntKind.i64.wrap ((IntKind.i64.wrap (31 * chain)) + (IntKind.i64.wrap (7 * f.Event)))) + f.Time)) 9973) fun chain2 =>
  (impl_decimal f.Event).bind fun o3 =>
  (catO o3 ([32] : List UInt8)).bind fun z4 =>
  (impl_decimal f.Time).bind fun o5 =>
  (catO z4 o5).bind fun z6 =>
  (catO z6 ([32] : List UInt8)).bind fun z7 =>
  (impl_decimal chain2).bind fun o8 =>
  (catO z7 o8).bind fun z9 =>
  (catO z9 ([10] : List UInt8)).bind fun z10 =>
  some (z10, chain2)

def impl_recoverTrace_L1 (s : List UInt8) (s5 : (List Firing) × (List Int) × Int × Int) : Option (Sum ((List Firing) × (List Int) × Int × Int) ((List Firing) × Int)) :=
  bif (decide ((List.length s5.1 : Int) < 500)) then
    (subO s s5.2.2.2 (List.length s : Int)).bind fun z7 =>
    (strings_Cut z7 ([10] : List UInt8)).bind fun o8 =>
    (strings_Split o8.1 ([32] : List UInt8)).bind fun o9 =>
    bif ((!o8.2.2) || ((List.length o9 : Int) != 3)) then
      some (.inr (s5.1, s5.2.2.2))
    else
      (idxO o9 0).bind fun x12 =>
      (impl_readNumber x12).bind fun o14 =>
      (idxO o9 1).bind fun x15 =>
      (impl_readNumber x15).bind fun o17 =>
      (bif ((!o14.2) || (!o17.2)) then
        some true
      else
        (impl_isWritable [(⟨o14.1, 0, o17.1⟩ : Firing)]).bind fun o22 =>
        some (!o22)).bind fun q19 =>
      bif q19 then
        some (.inr (s5.1, s5.2.2.2))
      else
        (impl_traceLine (⟨o14.1, 0, o17.1⟩ : Firing) s5.2.2.1).bind fun o23 =>
        (catO o8.1 ([10] : List UInt8)).bind fun z24 =>
        bif (!(o23.1 == z24)) then
          some (.inr (s5.1, s5.2.2.2))
        else
          (idxO s5.2.1 o14.1).bind fun x25 =>
          (idxO s5.2.1 o14.1).bind fun _ =>
          letT (List.set s5.2.1 (Int.toNat o14.1) (IntKind.i64.wrap (x25 + 1))) fun u29 =>
          (idxO u29 o14.1).bind fun x30 =>
          (appO 24 s5.1 [(⟨o14.1, x30, o17.1⟩ : Firing)]).bind fun z34 =>
          letT (IntKind.i64.wrap (s5.2.2.2 + (List.length o23.1 : Int))) fun long37 =>
          some (.inl (z34, u29, o23.2, long37))
  else
    some (.inr (s5.1, s5.2.2.2))
def impl_recoverTrace (s : List UInt8) : Option (List Firing × Int) :=
  (mkO 8 0 10).bind fun z1 =>
  (loopM (impl_recoverTrace_L1 s) ([], z1, 1, 0)).bind fun o4 =>
  some (o4.1, o4.2)

def impl_RecoverTrace (s : List UInt8) : Option (List Firing × Int) :=
  bif (decide ((List.length s : Int) > 20000)) then
    some (([] : List Firing), 3)
  else
    (impl_recoverTrace s).bind fun o1 =>
    some (o1.1, 0)

def laws_eqFiring (a_v : Firing) (b : Firing) : Bool :=
  bif (a_v.Event != b.Event) then
    false
  else
    bif (a_v.Number != b.Number) then
      false
    else
      bif (a_v.Time != b.Time) then
        false
      else
        true

def laws_eqFiringS_L1 (a_v : List Firing) (b : List Firing) (s2 : Int) : Option (Sum (Int) (Sum Unit Unit)) :=
  bif (decide (s2 < (List.length a_v : Int))) then
    (idxO a_v s2).bind fun x4 =>
    (idxO b s2).bind fun x6 =>
    bif (!(laws_eqFiring x4 x6)) then
      some (.inr (.inl ()))
    else
      some (.inl (IntKind.i64.wrap (s2 + 1)))
  else
    some (.inr (.inr ()))
def laws_eqFiringS (a_v : List Firing) (b : List Firing) : Option (Bool) :=
  bif ((List.length a_v : Int) != (List.length b : Int)) then
    some false
  else
    (loopM (laws_eqFiringS_L1 a_v b) 0).bind fun o1 =>
    Sum.elim
      (fun _ =>
      some false)
      (fun _ =>
      some true) o1

def laws_markFiringS_L1 (a_v : List Firing) (s2 : (List Firing) × Int × Int) : Option (Sum ((List Firing) × Int × Int) (Int × (List Firing))) :=
  bif (decide (s2.2.2 < (List.length a_v : Int))) then
    (idxO s2.1 s2.2.2).bind fun x4 =>
    letT (List.set s2.1 (Int.toNat s2.2.2) (⟨s2.2.1, x4.Number, x4.Time⟩ : Firing)) fun u6 =>
    (idxO u6 s2.2.2).bind fun x7 =>
    letT (List.set u6 (Int.toNat s2.2.2) (⟨x7.Event, IntKind.i64.wrap (s2.2.1 + 1), x7.Time⟩ : Firing)) fun u9 =>
    letT (IntKind.i64.wrap ((IntKind.i64.wrap (s2.2.1 + 1)) + 1)) fun k10 =>
    (idxO u9 s2.2.2).bind fun x11 =>
    letT (List.set u9 (Int.toNat s2.2.2) (⟨x11.Event, x11.Number, k10⟩ : Firing)) fun u13 =>
    some (.inl (u13, IntKind.i64.wrap (k10 + 1), IntKind.i64.wrap (s2.2.2 + 1)))
  else
    some (.inr (s2.2.1, s2.1))
def laws_markFiringS (a_v : List Firing) (k : Int) : Option (Int × List Firing) :=
  (loopM (laws_markFiringS_L1 a_v) (a_v, k, 0)).bind fun o1 =>
  some (o1.1, o1.2)

def laws_heldFiringS_L1 (a_v : List Firing) (s2 : Int × Int) : Option (Sum (Int × Int) (Sum Unit Int)) :=
  bif (decide (s2.2 < (List.length a_v : Int))) then
    (idxO a_v s2.2).bind fun x4 =>
    bif (x4.Event != s2.1) then
      some (.inr (.inl ()))
    else
      (idxO a_v s2.2).bind fun x6 =>
      bif (x6.Number != (IntKind.i64.wrap (s2.1 + 1))) then
        some (.inr (.inl ()))
      else
        letT (IntKind.i64.wrap ((IntKind.i64.wrap (s2.1 + 1)) + 1)) fun k8 =>
        (idxO a_v s2.2).bind fun x9 =>
        bif (x9.Time != k8) then
          some (.inr (.inl ()))
        else
          some (.inl (IntKind.i64.wrap (k8 + 1), IntKind.i64.wrap (s2.2 + 1)))
  else
    some (.inr (.inr s2.1))
def laws_heldFiringS (a_v : List Firing) (k : Int) : Option (Int) :=
  (loopM (laws_heldFiringS_L1 a_v) (k, 0)).bind fun o1 =>
  Sum.elim
    (fun _ =>
    some (-1))
    (fun s12 =>
    some s12) o1

def laws_FnExactRecoverTrace (aS : List UInt8) : Option (Bool) :=
  bif (decide ((List.length aS : Int) > 1048576)) then
    some true
  else
    (spec_RecoverTrace aS).bind fun o1 =>
    (impl_RecoverTrace aS).bind fun o4 =>
    (laws_eqFiringS o4.1 o1.1).bind fun o7 =>
    bif ((!o7) || (o4.2 != o1.2)) then
      some false
    else
      (laws_markFiringS o4.1 1).bind fun o8 =>
      (laws_heldFiringS o8.2 1).bind fun o10 =>
      bif (decide (o10 < 0)) then
        some false
      else
        bif (o10 != o8.1) then
          some false
        else
          (impl_RecoverTrace aS).bind fun o11 =>
          (laws_eqFiringS o11.1 o1.1).bind fun o14 =>
          bif ((!o14) || (o11.2 != o1.2)) then
            some false
          else
            (laws_heldFiringS o8.2 1).bind fun o15 =>
            bif (decide (o15 < 0)) then
              some false
            else
              bif (o15 != o8.1) then
                some false
              else
                some true

def laws_toFiring (a_v : Firing) : Firing :=
  a_v

def spec_l28All_L1 (run : List Firing) (s2 : Int) : Option (Sum (Int) (Sum Unit Unit)) :=
  bif (decide (s2 < (List.length run : Int))) then
    (idxO run s2).bind fun x4 =>
    bif (!(spec_l28Writable x4)) then
      some (.inr (.inl ()))
    else
      some (.inl (IntKind.i64.wrap (s2 + 1)))
  else
    some (.inr (.inr ()))
def spec_l28All (run : List Firing) : Option (Bool) :=
  (loopM (spec_l28All_L1 run) 0).bind fun o1 =>
  Sum.elim
    (fun _ =>
    some false)
    (fun _ =>
    some (decide ((List.length run : Int) ≤ 500))) o1

def spec_ChainAfter_L1 (run : List Firing) (s3 : Int × Int) : Option (Sum (Int × Int) (Int)) :=
  bif (decide (s3.2 < (List.length run : Int))) then
    (idxO run s3.2).bind fun x5 =>
    some (.inl ((spec_l28Next s3.1 x5), IntKind.i64.wrap (s3.2 + 1)))
  else
    some (.inr s3.1)
def spec_ChainAfter (run : List Firing) : Option (Int × Int) :=
  (spec_l28All run).bind fun o1 =>
  bif (!o1) then
    some (0, 2)
  else
    (loopM (spec_ChainAfter_L1 run) (1, 0)).bind fun o2 =>
    some (o2, 0)

def spec_l28Line (f : Firing) (chain : Int) : Option (List UInt8) :=
  (spec_l01Dec f.Event).bind fun o2 =>
  (catO o2 ([32] : List UInt8)).bind fun z3 =>
  (spec_l01Dec f.Time).bind fun o4 =>
  (catO z3 o4).bind fun z5 =>
  (catO z5 ([32] : List UInt8)).bind fun z6 =>
  (spec_l01Dec chain).bind fun o7 =>
  (catO z6 o7).bind fun z8 =>
  some z8

def spec_AppendFiring (s : List UInt8) (f : Firing) : Option (List UInt8 × Int) :=
  (spec_l28Recover s).bind fun o2 =>
  bif (o2.2 != (List.length s : Int)) then
    some (([] : List UInt8), 6)
  else
    bif (!(spec_l28Writable f)) then
      some (([] : List UInt8), 2)
    else
      bif ((List.length o2.1 : Int) == 500) then
        some (([] : List UInt8), 3)
      else
        (spec_ChainAfter o2.1).bind fun o5 =>
        (spec_l28Line f (spec_l28Next o5.1 f)).bind fun o6 =>
        (catO s o6).bind fun z7 =>
        (catO z7 ([10] : List UInt8)).bind fun z8 =>
        some (z8, 0)

def strings_Builder_WriteString (x : List UInt8) (s : List UInt8) : Option (Int × Unit × List UInt8) :=
  if (toBytes x).length + s.length ≤ 140737488355328 then some ((s.length : Int), (), x ++ s) else none

def strings_Builder_String (x : List UInt8) : List UInt8 := x

def impl_traceText_L1 (run : List Firing) (s3 : (List UInt8) × Int × Int) : Option (Sum ((List UInt8) × Int × Int) ((List UInt8) × Int)) :=
  bif (decide (s3.2.2 < (List.length run : Int))) then
    (idxO run s3.2.2).bind fun x5 =>
    (impl_traceLine x5 s3.2.1).bind fun o8 =>
    (strings_Builder_WriteString s3.1 o8.1).bind fun o9 =>
    some (.inl (o9.2.2, o8.2, IntKind.i64.wrap (s3.2.2 + 1)))
  else
    some (.inr (s3.1, s3.2.1))
def impl_traceText (run : List Firing) : Option (List UInt8 × Int) :=
  (loopM (impl_traceText_L1 run) ([], 1, 0)).bind fun o2 =>
  some ((strings_Builder_String o2.1), o2.2)

def impl_AppendFiring (s : List UInt8) (f : Firing) : Option (List UInt8 × Int) :=
  (impl_recoverTrace s).bind fun o2 =>
  bif (o2.2 != (List.length s : Int)) then
    some (([] : List UInt8), 6)
  else
    (impl_isWritable [f]).bind fun o7 =>
    bif (!o7) then
      some (([] : List UInt8), 2)
    else
      bif ((List.length o2.1 : Int) == 500) then
        some (([] : List UInt8), 3)
      else
        (appO 24 o2.1 [f]).bind fun z10 =>
        (impl_traceText z10).bind fun o13 =>
        some (o13.1, 0)

def laws_FnExactAppendFiring (aS : List UInt8) (aF : Firing) : Option (Bool) :=
  bif (decide ((List.length aS : Int) > 1048576)) then
    some true
  else
    letT (laws_toFiring aF) fun o2 =>
    (spec_AppendFiring aS o2).bind fun o3 =>
    letT (laws_toFiring aF) fun o4 =>
    (impl_AppendFiring aS o4).bind fun o5 =>
    bif ((!(o5.1 == o3.1)) || (o5.2 != o3.2)) then
      some false
    else
      some true

def spec_FirstDifference_L1 (o1 : List Firing × Int) (o4 : List Firing × Int) (s8 : Int) : Option (Sum (Int) (Sum Int Unit)) :=
  bif ((decide (s8 < (List.length o1.1 : Int))) || (decide (s8 < (List.length o4.1 : Int)))) then
    (
      (bif (decide (s8 ≥ (List.length o1.1 : Int))) then
        some true
      else
        bif (decide (s8 ≥ (List.length o4.1 : Int))) then
          some true
        else
          (idxO o1.1 s8).bind fun x13 =>
          (idxO o4.1 s8).bind fun x15 =>
          bif (x13.Event != x15.Event) then
            some true
          else
            (idxO o1.1 s8).bind fun x18 =>
            (idxO o4.1 s8).bind fun x20 =>
            some (x18.Time != x20.Time) : Option (Bool))).bind fun o10 =>
    bif o10 then
      some (.inr (.inl s8))
    else
      some (.inl (IntKind.i64.wrap (s8 + 1)))
  else
    some (.inr (.inr ()))
def spec_FirstDifference (s : List UInt8) (t : List UInt8) : Option (Int × Int) :=
  bif ((decide ((List.length s : Int) > 20000)) || (decide ((List.length t : Int) > 20000))) then
    some (0, 3)
  else
    (spec_l28Recover s).bind fun o1 =>
    (spec_l28Recover t).bind fun o4 =>
    (loopM (spec_FirstDifference_L1 o1 o4) 0).bind fun o7 =>
    Sum.elim
      (fun s22 =>
      some (s22, 0))
      (fun _ =>
      some ((-1), 0)) o7

def impl_FirstDifference_L1 (o1 : List Firing × Int) (o4 : List Firing × Int) (s8 : Int) : Option (Sum (Int) (Sum Int Unit)) :=
  bif (decide (s8 < (if (List.length o4.1 : Int) > (List.length o1.1 : Int) then (List.length o4.1 : Int) else (List.length o1.1 : Int)))) then
    (
      (bif (decide (s8 ≥ (List.length o1.1 : Int))) then
        some true
      else
        bif (decide (s8 ≥ (List.length o4.1 : Int))) then
          some true
        else
          (idxO o1.1 s8).bind fun x13 =>
          (idxO o4.1 s8).bind fun x15 =>
          bif (x13.Event != x15.Event) then
            some true
          else
            (idxO o1.1 s8).bind fun x18 =>
            (idxO o4.1 s8).bind fun x20 =>
            some (x18.Time != x20.Time) : Option (Bool))).bind fun o10 =>
    bif o10 then
      some (.inr (.inl s8))
    else
      some (.inl (IntKind.i64.wrap (s8 + 1)))
  else
    some (.inr (.inr ()))
def impl_FirstDifference (s : List UInt8) (t : List UInt8) : Option (Int × Int) :=
  (impl_RecoverTrace s).bind fun o1 =>
  bif (o1.2 != 0) then
    some (0, o1.2)
  else
    (impl_RecoverTrace t).bind fun o4 =>
    bif (o4.2 != 0) then
      some (0, o4.2)
    else
      (loopM (impl_FirstDifference_L1 o1 o4) 0).bind fun o7 =>
      Sum.elim
        (fun s22 =>
        some (s22, 0))
        (fun _ =>
        some ((-1), 0)) o7

def laws_FnExactFirstDifference (aS : List UInt8) (aT : List UInt8) : Option (Bool) :=
  bif (decide ((List.length aS : Int) > 1048576)) then
    some true
  else
    bif (decide ((List.length aT : Int) > 1048576)) then
      some true
    else
      (spec_FirstDifference aS aT).bind fun o1 =>
      (impl_FirstDifference aS aT).bind fun o2 =>
      bif ((o2.1 != o1.1) || (o2.2 != o1.2)) then
        some false
      else
        some true

def spec_l30Parse_L1 (line : List UInt8) (s2 : Int) : Option (Sum (Int) ((List UInt8) × (List UInt8) × Bool)) :=
  bif (decide (s2 < (List.length line : Int))) then
    (idxO line s2).bind fun y4 =>
    bif ((y4.toNat : Int) == 32) then
      (subO line 0 s2).bind fun z5 =>
      (subO line (IntKind.i64.wrap (s2 + 1)) (List.length line : Int)).bind fun z6 =>
      some (.inr (z5, z6, true))
    else
      some (.inl (IntKind.i64.wrap (s2 + 1)))
  else
    some (.inr (line, [], false))
def spec_l30Parse (line : List UInt8) : Option (List UInt8 × List UInt8 × List Int × Bool) :=
  (loopM (spec_l30Parse_L1 line) 0).bind fun o1 =>
  (
    (bif (o1.1 == ([103, 114, 97, 112, 104] : List UInt8)) then
      some (o1.1 == ([103, 114, 97, 112, 104] : List UInt8))
    else
      bif (o1.1 == ([108, 105, 110, 101, 115] : List UInt8)) then
        some (o1.1 == ([108, 105, 110, 101, 115] : List UInt8))
      else
        bif (o1.1 == ([101, 100, 105, 116] : List UInt8)) then
          some (o1.1 == ([101, 100, 105, 116] : List UInt8))
        else
          some (o1.1 == ([109, 101, 97, 110] : List UInt8)) : Option (Bool))).bind fun o7 =>
  bif o7 then
    some (o1.1, o1.2.1, ([] : List Int), o1.2.2)
  else
    (
      (bif (o1.1 == ([117, 110, 100, 111] : List UInt8)) then
        some (o1.1 == ([117, 110, 100, 111] : List UInt8))
      else
        bif (o1.1 == ([116, 101, 120, 116] : List UInt8)) then
          some (o1.1 == ([116, 101, 120, 116] : List UInt8))
        else
          bif (o1.1 == ([108, 105, 118, 101] : List UInt8)) then
            some (o1.1 == ([108, 105, 118, 101] : List UInt8))
          else
            bif (o1.1 == ([116, 105, 109, 101] : List UInt8)) then
              some (o1.1 == ([116, 105, 109, 101] : List UInt8))
            else
              bif (o1.1 == ([99, 105, 114, 99, 117, 105, 116] : List UInt8)) then
                some (o1.1 == ([99, 105, 114, 99, 117, 105, 116] : List UInt8))
              else
                bif (o1.1 == ([112, 101, 114, 105, 111, 100] : List UInt8)) then
                  some (o1.1 == ([112, 101, 114, 105, 111, 100] : List UInt8))
                else
                  some (o1.1 == ([109, 97, 114, 103, 105, 110, 115] : List UInt8)) : Option (Bool))).bind fun o8 =>
    bif o8 then
      some (o1.1, ([] : List UInt8), ([] : List Int), !o1.2.2)
    else
      (spec_l01Split o1.2.1 32).bind fun o9 =>
      (spec_l01Numbers o9).bind fun o12 =>
      (
        (bif (o1.1 == ([114, 117, 110] : List UInt8)) then
          some (o1.1 == ([114, 117, 110] : List UInt8))
        else
          some (o1.1 == ([115, 116, 97, 114, 116] : List UInt8)) : Option (Bool))).bind fun o15 =>
      bif o15 then
        some (o1.1, ([] : List UInt8), o12.1, o12.2 && ((List.length o12.1 : Int) == 1))
      else
        bif (o1.1 == ([102, 105, 114, 101] : List UInt8)) then
          some (o1.1, ([] : List UInt8), o12.1, o12.2 && ((List.length o12.1 : Int) == 2))
        else
          bif (o1.1 == ([114, 111, 111, 109] : List UInt8)) then
            some (o1.1, ([] : List UInt8), o12.1, o12.2 && ((List.length o12.1 : Int) == 3))
          else
            some (([] : List UInt8), ([] : List UInt8), ([] : List Int), false)

def spec_IsDeskCommand (line : List UInt8) : Option (Bool) :=
  (spec_l30Parse line).bind fun o1 =>
  some o1.2.2.2

def impl_commandForm (name : List UInt8) : Int :=
  letT (
    (bif (name == ([103, 114, 97, 112, 104] : List UInt8)) then
      name == ([103, 114, 97, 112, 104] : List UInt8)
    else
      bif (name == ([108, 105, 110, 101, 115] : List UInt8)) then
        name == ([108, 105, 110, 101, 115] : List UInt8)
      else
        bif (name == ([101, 100, 105, 116] : List UInt8)) then
          name == ([101, 100, 105, 116] : List UInt8)
        else
          name == ([109, 101, 97, 110] : List UInt8) : Bool)) fun o1 =>
  bif o1 then
    (-1)
  else
    letT (
      (bif (name == ([117, 110, 100, 111] : List UInt8)) then
        name == ([117, 110, 100, 111] : List UInt8)
      else
        bif (name == ([116, 101, 120, 116] : List UInt8)) then
          name == ([116, 101, 120, 116] : List UInt8)
        else
          bif (name == ([108, 105, 118, 101] : List UInt8)) then
            name == ([108, 105, 118, 101] : List UInt8)
          else
            bif (name == ([116, 105, 109, 101] : List UInt8)) then
              name == ([116, 105, 109, 101] : List UInt8)
            else
              bif (name == ([99, 105, 114, 99, 117, 105, 116] : List UInt8)) then
                name == ([99, 105, 114, 99, 117, 105, 116] : List UInt8)
              else
                bif (name == ([112, 101, 114, 105, 111, 100] : List UInt8)) then
                  name == ([112, 101, 114, 105, 111, 100] : List UInt8)
                else
                  name == ([109, 97, 114, 103, 105, 110, 115] : List UInt8) : Bool)) fun o2 =>
    bif o2 then
      0
    else
      letT (
        (bif (name == ([114, 117, 110] : List UInt8)) then
          name == ([114, 117, 110] : List UInt8)
        else
          name == ([115, 116, 97, 114, 116] : List UInt8) : Bool)) fun o3 =>
      bif o3 then
        1
      else
        bif (name == ([102, 105, 114, 101] : List UInt8)) then
          2
        else
          bif (name == ([114, 111, 111, 109] : List UInt8)) then
            3
          else
            (-2)

def internal_stringslite_HasPrefix (s : List UInt8) (prefix_v : List UInt8) : Option (Bool) :=
  (bif (decide ((List.length s : Int) ≥ (List.length prefix_v : Int))) then
    (subO s 0 (List.length prefix_v : Int)).bind fun z2 =>
    some (z2 == prefix_v)
  else
    some false).bind fun q1 =>
  some q1

def internal_stringslite_TrimPrefix (s : List UInt8) (prefix_v : List UInt8) : Option (List UInt8) :=
  (internal_stringslite_HasPrefix s prefix_v).bind fun o1 =>
  bif o1 then
    (subO s (List.length prefix_v : Int) (List.length s : Int)).bind fun z2 =>
    some z2
  else
    some s

def strings_TrimPrefix (s : List UInt8) (prefix_v : List UInt8) : Option (List UInt8) :=
  (internal_stringslite_TrimPrefix s prefix_v).bind fun o1 =>
  some o1

def impl_readCommand_L1 (o2 : List (List UInt8)) (s6 : (List Int) × Int) : Option (Sum ((List Int) × Int) (Sum Unit (List Int))) :=
  bif (decide (s6.2 < (List.length o2 : Int))) then
    (idxO o2 s6.2).bind fun x8 =>
    (impl_readNumber x8).bind fun o10 =>
    (bif (!o10.2) then
      some true
    else
      (strings_TrimPrefix x8 ([45] : List UInt8)).bind fun o12 =>
      some (decide ((List.length o12 : Int) > 10))).bind fun q11 =>
    bif q11 then
      some (.inr (.inl ()))
    else
      (appO 8 s6.1 [o10.1]).bind fun z15 =>
      some (.inl (z15, IntKind.i64.wrap (s6.2 + 1)))
  else
    some (.inr (.inr s6.1))
def impl_readCommand (line : List UInt8) : Option (List UInt8 × List Int × Bool) :=
  (strings_Cut line ([32] : List UInt8)).bind fun o1 =>
  bif ((impl_commandForm o1.1) == (-2)) then
    some (([] : List UInt8), ([] : List Int), false)
  else
    bif ((impl_commandForm o1.1) == (-1)) then
      some (o1.2.1, ([] : List Int), o1.2.2)
    else
      bif (((impl_commandForm o1.1) == 0) || (!o1.2.2)) then
        some (([] : List UInt8), ([] : List Int), ((impl_commandForm o1.1) == 0) && (!o1.2.2))
      else
        (strings_Split o1.2.1 ([32] : List UInt8)).bind fun o2 =>
        (loopM (impl_readCommand_L1 o2) ([], 0)).bind fun o5 =>
        Sum.elim
          (fun _ =>
          some (([] : List UInt8), ([] : List Int), false))
          (fun s19 =>
          some (([] : List UInt8), s19, (List.length o2 : Int) == (impl_commandForm o1.1))) o5

def impl_IsDeskCommand (line : List UInt8) : Option (Bool) :=
  (impl_readCommand line).bind fun o1 =>
  some o1.2.2

def laws_FnExactIsDeskCommand (aLine : List UInt8) : Option (Bool) :=
  bif (decide ((List.length aLine : Int) > 1048576)) then
    some true
  else
    (spec_IsDeskCommand aLine).bind fun o1 =>
    (impl_IsDeskCommand aLine).bind fun o2 =>
    bif (o2 != o1) then
      some false
    else
      some true

end
end Go.Proofs.YtneifoepoccjaaaDoor
