/-
  What the functions compute, in plain Lean on lists and integers (none: where Go would panic, or never end). Written by a program of ours from the form of the code.
-/
import Derived.Test.YtneifoepoccjaaaDoorS
namespace Go.Proofs.YtneifoepoccjaaaDoor
noncomputable section
def spec_l01Split_L1 (s : List UInt8) (by_v : Int) (s4 : (List (List UInt8)) × Int × Int) : Option (Sum ((List (List UInt8)) × Int × Int) ((List (List UInt8)))) :=
  bif (decide (s4.2.2 ≤ (List.length s : Int))) then
    (
      ((bif (s4.2.2 == (List.length s : Int)) then
        some true
      else
        (idxO s s4.2.2).bind fun y8 =>
        some ((y8.toNat : Int) == by_v)).bind fun q7 =>
      bif q7 then
        (subO s s4.2.1 s4.2.2).bind fun z9 =>
        (appO 16 s4.1 [z9]).bind fun z12 =>
        some (z12, IntKind.i64.wrap (s4.2.2 + 1))
      else
        some (s4.1, s4.2.1) : Option ((List (List UInt8)) × Int))).bind fun o6 =>
    some (.inl (o6.1, o6.2, IntKind.i64.wrap (s4.2.2 + 1)))
  else
    some (.inr s4.1)
def spec_l01Split (s : List UInt8) (by_v : Int) : Option (List (List UInt8)) :=
  (loopM (spec_l01Split_L1 s by_v) ([], 0, 0)).bind fun o3 =>
  some o3

def spec_l01Dec_F : Nat → Int → Option (List UInt8)
  | 0, _ => none
  | kf + 1, n_v =>
    bif (decide (n_v < 10)) then
      some (toStr [IntKind.u8.wrap (IntKind.i64.wrap (48 + n_v))])
    else
      (spec_l01Dec_F kf (IntKind.i64.wrap (Int.tdiv n_v 10))).bind fun o3 =>
      (catO o3 (toStr [IntKind.u8.wrap (IntKind.i64.wrap (48 + (Int.tmod n_v 10)))])).bind fun z6 =>
      some z6
def spec_l01Dec (n_v : Int) : Option (List UInt8) := lim (fun kf => spec_l01Dec_F kf n_v)

def spec_l01Digits_L1 (s : List UInt8) (s2 : Int × Int) : Option (Sum (Int × Int) (Sum Unit Int)) :=
  bif (decide (s2.2 < (List.length s : Int))) then
    (idxO s s2.2).bind fun y4 =>
    (bif (decide ((y4.toNat : Int) < 48)) then
      some true
    else
      (idxO s s2.2).bind fun y6 =>
      some (decide ((y6.toNat : Int) > 57))).bind fun q5 =>
    bif q5 then
      some (.inr (.inl ()))
    else
      (idxO s s2.2).bind fun y7 =>
      letT (IntKind.i64.wrap ((IntKind.i64.wrap (10 * s2.1)) + (IntKind.i64.wrap (IntKind.u8.wrap ((y7.toNat : Int) - 48))))) fun n_v8 =>
      some (.inl (n_v8, IntKind.i64.wrap (s2.2 + 1)))
  else
    some (.inr (.inr s2.1))
def spec_l01Digits (s : List UInt8) : Option (Int × Bool) :=
  bif ((decide ((List.length s : Int) < 1)) || (decide ((List.length s : Int) > 10))) then
    some (0, false)
  else
    (loopM (spec_l01Digits_L1 s) (0, 0)).bind fun o1 =>
    Sum.elim
      (fun _ =>
      some (0, false))
      (fun s10 =>
      (spec_l01Dec s10).bind fun o11 =>
      some (s10, o11 == s)) o1

def spec_l29Sign (kind : Int) : Option (List UInt8) :=
  (subO ([43, 45, 61] : List UInt8) (IntKind.i64.wrap (kind - 1)) kind).bind fun z1 =>
  some z1

def spec_l01Signed (s : List UInt8) : Option (Int × Bool) :=
  (bif (decide ((List.length s : Int) > 0)) then
    (idxO s 0).bind fun y2 =>
    some ((y2.toNat : Int) == 45)
  else
    some false).bind fun q1 =>
  bif q1 then
    (subO s 1 (List.length s : Int)).bind fun z3 =>
    (spec_l01Digits z3).bind fun o4 =>
    some (IntKind.i64.wrap (0 - o4.1), o4.2 && (decide (o4.1 > 0)))
  else
    (spec_l01Digits s).bind fun o5 =>
    some (o5.1, o5.2)

def spec_l01Numbers_L1 (words : List (List UInt8)) (s4 : (List Int) × Int) : Option (Sum ((List Int) × Int) (Sum Unit (List Int))) :=
  bif (decide (s4.2 < (List.length words : Int))) then
    (idxO words s4.2).bind fun x6 =>
    (spec_l01Signed x6).bind fun o8 =>
    bif (!o8.2) then
      some (.inr (.inl ()))
    else
      (appO 8 s4.1 [o8.1]).bind fun z11 =>
      some (.inl (z11, IntKind.i64.wrap (s4.2 + 1)))
  else
    some (.inr (.inr s4.1))
def spec_l01Numbers (words : List (List UInt8)) : Option (List Int × Bool) :=
  (loopM (spec_l01Numbers_L1 words) ([], 0)).bind fun o3 =>
  Sum.elim
    (fun _ =>
    some (([] : List Int), false))
    (fun s15 =>
    some (s15, true)) o3

def spec_l11Read (s : List UInt8) : Option (Place × Bool) :=
  (spec_l01Split s 62).bind fun o2 =>
  bif ((List.length o2 : Int) != 2) then
    some ((⟨0, 0, 0, 0⟩ : Place), false)
  else
    (idxO o2 1).bind fun x5 =>
    (spec_l01Split x5 58).bind fun o7 =>
    bif ((List.length o7 : Int) != 2) then
      some ((⟨0, 0, 0, 0⟩ : Place), false)
    else
      (idxO o2 0).bind fun x10 =>
      (idxO o7 0).bind fun x12 =>
      (idxO o7 1).bind fun x16 =>
      (spec_l01Split x16 42).bind fun o18 =>
      (appO 16 [x10, x12] o18).bind fun z21 =>
      (spec_l01Numbers z21).bind fun o24 =>
      bif ((!o24.2) || ((List.length o24.1 : Int) != 4)) then
        some ((⟨0, 0, 0, 0⟩ : Place), false)
      else
        (idxO o24.1 0).bind fun x27 =>
        (idxO o24.1 1).bind fun x29 =>
        (idxO o24.1 2).bind fun x31 =>
        (idxO o24.1 3).bind fun x33 =>
        some ((⟨x27, x29, x31, x33⟩ : Place), true)

def spec_l01In (n_v : Int) (low : Int) (high : Int) : Bool :=
  (decide (n_v ≥ low)) && (decide (n_v ≤ high))

def spec_l11Place (p : Place) (events : Int) : Bool :=
  (((spec_l01In p.From 0 (IntKind.i64.wrap (events - 1))) && (spec_l01In p.To 0 (IntKind.i64.wrap (events - 1)))) && (spec_l01In p.Delay 0 1000)) && (spec_l01In p.Tokens 0 5)

def spec_EditText (e_v : Edit) : Option (List UInt8) :=
  bif (((!(spec_l01In e_v.Kind 1 3)) || (!(spec_l01In e_v.Index 0 30))) || (!(spec_l11Place e_v.Place 10))) then
    some ([] : List UInt8)
  else
    bif (e_v.Kind == 2) then
      bif (!((e_v.Place.From == 0) && ((e_v.Place.To == 0) && ((e_v.Place.Delay == 0) && ((e_v.Place.Tokens == 0) && true))))) then
        some ([] : List UInt8)
      else
        (spec_l01Dec e_v.Index).bind fun o3 =>
        (catO ([45] : List UInt8) o3).bind fun z4 =>
        some z4
    else
      (spec_l29Sign e_v.Kind).bind fun o5 =>
      (spec_l01Dec e_v.Index).bind fun o6 =>
      (catO o5 o6).bind fun z7 =>
      (catO z7 ([32] : List UInt8)).bind fun z8 =>
      (spec_l01Dec e_v.Place.From).bind fun o9 =>
      (catO z8 o9).bind fun z10 =>
      (catO z10 ([62] : List UInt8)).bind fun z11 =>
      (spec_l01Dec e_v.Place.To).bind fun o12 =>
      (catO z11 o12).bind fun z13 =>
      (catO z13 ([58] : List UInt8)).bind fun z14 =>
      (spec_l01Dec e_v.Place.Delay).bind fun o15 =>
      (catO z14 o15).bind fun z16 =>
      (catO z16 ([42] : List UInt8)).bind fun z17 =>
      (spec_l01Dec e_v.Place.Tokens).bind fun o18 =>
      (catO z17 o18).bind fun z19 =>
      some z19

def spec_ReadEdit_L1 (s : List UInt8) (s11 : Int × Int) : Option (Sum (Int × Int) (Int)) :=
  bif (decide (s11.2 ≤ 3)) then
    (
      ((subO s 0 1).bind fun z14 =>
      (spec_l29Sign s11.2).bind fun o15 =>
      bif (z14 == o15) then
        some s11.2
      else
        some s11.1 : Option (Int))).bind fun o13 =>
    some (.inl (o13, IntKind.i64.wrap (s11.2 + 1)))
  else
    some (.inr s11.1)
def spec_ReadEdit (s : List UInt8) : Option (Edit × Bool) :=
  bif (s == ([] : List UInt8)) then
    some ((⟨0, 0, (⟨0, 0, 0, 0⟩ : Place)⟩ : Edit), false)
  else
    (subO s 1 (List.length s : Int)).bind fun z2 =>
    (spec_l01Split z2 32).bind fun o3 =>
    (idxO o3 0).bind fun x6 =>
    (spec_l01Digits x6).bind fun o8 =>
    (loopM (spec_ReadEdit_L1 s) (0, 1)).bind fun o10 =>
    (
      (bif ((List.length o3 : Int) == 2) then
        (idxO o3 1).bind fun x17 =>
        (spec_l11Read x17).bind fun o19 =>
        some (o8.2 && o19.2, o19.1.From, o19.1.To, o19.1.Delay, o19.1.Tokens)
      else
        some (o8.2, 0, 0, 0, 0) : Option (Bool × Int × Int × Int × Int))).bind fun o16 =>
    (bif (!o16.1) then
      some true
    else
      (spec_EditText (⟨o10, o8.1, (⟨o16.2.1, o16.2.2.1, o16.2.2.2.1, o16.2.2.2.2⟩ : Place)⟩ : Edit)).bind fun o22 =>
      some (!(o22 == s))).bind fun q21 =>
    bif q21 then
      some ((⟨0, 0, (⟨0, 0, 0, 0⟩ : Place)⟩ : Edit), false)
    else
      some ((⟨o10, o8.1, (⟨o16.2.1, o16.2.2.1, o16.2.2.2.1, o16.2.2.2.2⟩ : Place)⟩ : Edit), true)

def strings_Cut (s : List UInt8) (sep : List UInt8) : Option (List UInt8 × List UInt8 × Bool) := if s.length < 4294967281 then some (Lib.cut s sep) else none

def strconv_ParseInt (s : List UInt8) (base : Int) (bitSize : Int) : Option (Int × Bool) := if base = 10 ∧ bitSize = 64 ∧ s.length ≤ 281474976710656 then some (match Lib.parseIntB 64 s with | .ok v => (v, false) | .range => (Lib.intSat 64 s, true) | _ => (0, true)) else none

def strconv_FormatInt (i : Int) (base : Int) : Option (List UInt8) := if base = 10 ∧ -9223372036854775808 ≤ i ∧ i ≤ 9223372036854775807 then some (Lib.itoa i) else none

def impl_decimal (n_v : Int) : Option (List UInt8) :=
  (strconv_FormatInt n_v 10).bind fun o1 =>
  some o1

def impl_readNumber (s : List UInt8) : Option (Int × Bool) :=
  (strconv_ParseInt s 10 64).bind fun o1 =>
  (bif o1.2 then
    some true
  else
    (impl_decimal o1.1).bind fun o4 =>
    some (!(o4 == s))).bind fun q3 =>
  bif q3 then
    some (0, false)
  else
    some (o1.1, true)

def impl_readPlace_L1 (o2 : List UInt8 × List UInt8 × Bool) (o3 : List UInt8 × List UInt8 × Bool) (o4 : List UInt8 × List UInt8 × Bool) (s7 : Int × Int × Int × Int × Int) : Option (Sum (Int × Int × Int × Int × Int) (Sum Unit (Int × Int × Int × Int))) :=
  bif (decide (s7.2.2.2.2 < 4)) then
    (idxO ([o2.1, o3.1, o4.1, o4.2.1] : List (List UInt8)) s7.2.2.2.2).bind fun y9 =>
    (impl_readNumber y9).bind fun o10 =>
    bif (!o10.2) then
      some (.inr (.inl ()))
    else
      bif s7.2.2.2.2 == 0 then
        some (.inl (o10.1, s7.2.1, s7.2.2.1, s7.2.2.2.1, IntKind.i64.wrap (s7.2.2.2.2 + 1)))
      else
        bif s7.2.2.2.2 == 1 then
          some (.inl (s7.1, o10.1, s7.2.2.1, s7.2.2.2.1, IntKind.i64.wrap (s7.2.2.2.2 + 1)))
        else
          bif s7.2.2.2.2 == 2 then
            some (.inl (s7.1, s7.2.1, o10.1, s7.2.2.2.1, IntKind.i64.wrap (s7.2.2.2.2 + 1)))
          else
            bif s7.2.2.2.2 == 3 then
              some (.inl (s7.1, s7.2.1, s7.2.2.1, o10.1, IntKind.i64.wrap (s7.2.2.2.2 + 1)))
            else
              none
  else
    some (.inr (.inr (s7.1, s7.2.1, s7.2.2.1, s7.2.2.2.1)))
def impl_readPlace (s : List UInt8) : Option (Place × Bool) :=
  (strings_Cut s ([62] : List UInt8)).bind fun o2 =>
  (strings_Cut o2.2.1 ([58] : List UInt8)).bind fun o3 =>
  (strings_Cut o3.2.1 ([42] : List UInt8)).bind fun o4 =>
  (loopM (impl_readPlace_L1 o2 o3 o4) (0, 0, 0, 0, 0)).bind fun o6 =>
  Sum.elim
    (fun _ =>
    some ((⟨0, 0, 0, 0⟩ : Place), false))
    (fun s16 =>
    some ((⟨s16.1, s16.2.1, s16.2.2.1, s16.2.2.2⟩ : Place), true)) o6

def impl_within (n_v : Int) (low : Int) (high : Int) : Bool :=
  (decide (n_v ≥ low)) && (decide (n_v ≤ high))

def impl_isEvent (g : EventGraph) (event : Int) : Bool :=
  (impl_within event 0 (IntKind.i64.wrap (g.Events - 1)))

def impl_isPlace (g : EventGraph) (p : Place) : Bool :=
  (((impl_isEvent g p.From) && (impl_isEvent g p.To)) && (impl_within p.Delay 0 1000)) && (impl_within p.Tokens 0 5)

def impl_isEdit (e_v : Edit) : Bool :=
  bif ((!(impl_within e_v.Kind 1 3)) || (!(impl_within e_v.Index 0 30))) then
    false
  else
    bif (e_v.Kind == 2) then
      (e_v.Place.From == 0) && ((e_v.Place.To == 0) && ((e_v.Place.Delay == 0) && ((e_v.Place.Tokens == 0) && true)))
    else
      letT (impl_isPlace (⟨10, ([] : List Place)⟩ : EventGraph) e_v.Place) fun o2 =>
      o2

def impl_ReadEdit (s : List UInt8) : Option (Edit × Bool) :=
  bif (s == ([] : List UInt8)) then
    some ((⟨0, 0, (⟨0, 0, 0, 0⟩ : Place)⟩ : Edit), false)
  else
    (subO s 1 (List.length s : Int)).bind fun z3 =>
    (strings_Cut z3 ([32] : List UInt8)).bind fun o4 =>
    (impl_readNumber o4.1).bind fun o5 =>
    (
      ((idxO s 0).bind fun y7 =>
      bif ((y7.toNat : Int) == 45) then
        some (2, 0, 0, 0, 0, o5.2 && (!o4.2.2))
      else
        (
          (bif ((y7.toNat : Int) == 43) then
            some ((y7.toNat : Int) == 43)
          else
            some ((y7.toNat : Int) == 61) : Option (Bool))).bind fun o8 =>
        bif o8 then
          (
            ((idxO s 0).bind fun y10 =>
            bif ((y10.toNat : Int) == 61) then
              some 3
            else
              some 1 : Option (Int))).bind fun o9 =>
          (impl_readPlace o4.2.1).bind fun o11 =>
          some (o9, o11.1.From, o11.1.To, o11.1.Delay, o11.1.Tokens, (o5.2 && o4.2.2) && o11.2)
        else
          some (0, 0, 0, 0, 0, o5.2) : Option (Int × Int × Int × Int × Int × Bool))).bind fun o6 =>
    (bif (!o6.2.2.2.2.2) then
      some true
    else
      letT (impl_isEdit (⟨o6.1, o5.1, (⟨o6.2.1, o6.2.2.1, o6.2.2.2.1, o6.2.2.2.2.1⟩ : Place)⟩ : Edit)) fun o14 =>
      some (!o14)).bind fun q13 =>
    bif q13 then
      some ((⟨0, 0, (⟨0, 0, 0, 0⟩ : Place)⟩ : Edit), false)
    else
      some ((⟨o6.1, o5.1, (⟨o6.2.1, o6.2.2.1, o6.2.2.2.1, o6.2.2.2.2.1⟩ : Place)⟩ : Edit), true)

def laws_eqPlace (a_v : Place) (b : Place) : Bool :=
  bif (a_v.From != b.From) then
    false
  else
    bif (a_v.To != b.To) then
      false
    else
      bif (a_v.Delay != b.Delay) then
        false
      else
        bif (a_v.Tokens != b.Tokens) then
          false
        else
          true

def laws_eqEdit (a_v : Edit) (b : Edit) : Bool :=
  bif (a_v.Kind != b.Kind) then
    false
  else
    bif (a_v.Index != b.Index) then
      false
    else
      bif (!(laws_eqPlace a_v.Place b.Place)) then
        false
      else
        true

def laws_FnExactReadEdit (aS : List UInt8) : Option (Bool) :=
  bif (decide ((List.length aS : Int) > 1048576)) then
    some true
  else
    (spec_ReadEdit aS).bind fun o1 =>
    (impl_ReadEdit aS).bind fun o3 =>
    bif ((!(laws_eqEdit o3.1 o1.1)) || (o3.2 != o1.2)) then
      some false
    else
      some true

end
end Go.Proofs.YtneifoepoccjaaaDoor
