/-
  What the functions compute, in plain Lean on lists and integers (none: where Go would panic, or never end). Written by a program of ours from the form of the code.
-/
import Derived.Test.YtneifoepoccjaaaDoorS
namespace Go.Proofs.YtneifoepoccjaaaDoor
noncomputable section
def laws_szFiringS (a_v : List Firing) (left : Int) : Int :=
  letT (IntKind.i64.wrap (left - (List.length a_v : Int))) fun left1 =>
  bif (decide (left1 < 0)) then
    (-1)
  else
    left1

def laws_toFiring (a_v : Firing) : Firing :=
  a_v

def laws_toFiringS_L1 (a_v : List Firing) (s5 : (List Firing) × Int) : Option (Sum ((List Firing) × Int) ((List Firing))) :=
  bif (decide (s5.2 < (List.length a_v : Int))) then
    (idxO a_v s5.2).bind fun x7 =>
    letT (laws_toFiring x7) fun o9 =>
    (idxO s5.1 s5.2).bind fun _ =>
    letT (List.set s5.1 (Int.toNat s5.2) o9) fun u12 =>
    some (.inl (u12, IntKind.i64.wrap (s5.2 + 1)))
  else
    some (.inr s5.1)
def laws_toFiringS (a_v : List Firing) : Option (List Firing) :=
  (mkO 24 (⟨0, 0, 0⟩ : Firing) (List.length a_v : Int)).bind fun z1 =>
  (loopM (laws_toFiringS_L1 a_v) (z1, 0)).bind fun o4 =>
  some o4

def spec_l01In (n_v : Int) (low : Int) (high : Int) : Bool :=
  (decide (n_v ≥ low)) && (decide (n_v ≤ high))

def spec_l28Writable (f : Firing) : Bool :=
  (spec_l01In f.Event 0 9) && (spec_l01In f.Time 0 1000000)

def spec_l28All_L1 (run : List Firing) (s2 : Int) : Option (Sum (Int) (Sum Unit Unit)) :=
  bif (decide (s2 < (List.length run : Int))) then
    (idxO run s2).bind fun x4 =>
    bif (!(spec_l28Writable x4)) then
      some (.inr (.inl ()))
    else
      some (.inl (IntKind.i64.wrap (s2 + 1)))
  else
    some (.inr (.inr ()))
def spec_l28All (run : List Firing) : Option (Bool) :=
  (loopM (spec_l28All_L1 run) 0).bind fun o1 =>
  Sum.elim
    (fun _ =>
    some false)
    (fun _ =>
    some (decide ((List.length run : Int) ≤ 500))) o1

def spec_l28Next (chain : Int) (f : Firing) : Int :=
  Int.tmod (IntKind.i64.wrap ((IntKind.i64.wrap ((IntKind.i64.wrap (31 * chain)) + (IntKind.i64.wrap (7 * f.Event)))) + f.Time)) 9973

def spec_l01Dec_F : Nat → Int → Option (List UInt8)
  | 0, _ => none
  | kf + 1, n_v =>
    bif (decide (n_v < 10)) then
      some (toStr [IntKind.u8.wrap (IntKind.i64.wrap (48 + n_v))])
    else
      (spec_l01Dec_F kf (IntKind.i64.wrap (Int.tdiv n_v 10))).bind fun o3 =>
      (catO o3 (toStr [IntKind.u8.wrap (IntKind.i64.wrap (48 + (Int.tmod n_v 10)))])).bind fun z6 =>
      some z6
def spec_l01Dec (n_v : Int) : Option (List UInt8) := lim (fun kf => spec_l01Dec_F kf n_v)

def spec_l28Line (f : Firing) (chain : Int) : Option (List UInt8) :=
  (spec_l01Dec f.Event).bind fun o2 =>
  (catO o2 ([32] : List UInt8)).bind fun z3 =>
  (spec_l01Dec f.Time).bind fun o4 =>
  (catO z3 o4).bind fun z5 =>
  (catO z5 ([32] : List UInt8)).bind fun z6 =>
  (spec_l01Dec chain).bind fun o7 =>
  (catO z6 o7).bind fun z8 =>
  some z8

def spec_TraceText_L1 (run : List Firing) (s5 : Int × (List Int) × Int) : Option (Sum (Int × (List Int) × Int) ((List Int))) :=
  bif (decide (s5.2.2 < (List.length run : Int))) then
    (idxO run s5.2.2).bind fun x7 =>
    (idxO run s5.2.2).bind fun x9 =>
    (spec_l28Line x9 (spec_l28Next s5.1 x7)).bind fun o11 =>
    (catO o11 ([10] : List UInt8)).bind fun z12 =>
    (appsO s5.2.1 z12).bind fun z13 =>
    some (.inl ((spec_l28Next s5.1 x7), z13, IntKind.i64.wrap (s5.2.2 + 1)))
  else
    some (.inr s5.2.1)
def spec_TraceText (run : List Firing) : Option (List UInt8 × Int) :=
  (spec_l28All run).bind fun o1 =>
  bif (!o1) then
    some (([] : List UInt8), 2)
  else
    (loopM (spec_TraceText_L1 run) (1, [], 0)).bind fun o4 =>
    some ((toStr o4), 0)

def impl_within (n_v : Int) (low : Int) (high : Int) : Bool :=
  (decide (n_v ≥ low)) && (decide (n_v ≤ high))

def impl_isWritable_c1 (f : Firing) : Bool :=
  (!(impl_within f.Event 0 9)) || (!(impl_within f.Time 0 1000000))

def slices_IndexFunc_Firing_isWritable_c1_L1 (s : List Firing) (s2 : Int) : Option (Sum (Int) (Sum Int Unit)) :=
  bif (decide (s2 < (List.length s : Int))) then
    (idxO s s2).bind fun x4 =>
    bif (impl_isWritable_c1 x4) then
      some (.inr (.inl s2))
    else
      some (.inl (IntKind.i64.wrap (s2 + 1)))
  else
    some (.inr (.inr ()))
def slices_IndexFunc_Firing_isWritable_c1 (s : List Firing) : Option (Int) :=
  (loopM (slices_IndexFunc_Firing_isWritable_c1_L1 s) 0).bind fun o1 =>
  Sum.elim
    (fun s6 =>
    some s6)
    (fun _ =>
    some (-1)) o1

def slices_ContainsFunc_Firing_isWritable_c1 (s : List Firing) : Option (Bool) :=
  (slices_IndexFunc_Firing_isWritable_c1 s).bind fun o1 =>
  some (decide (o1 ≥ 0))

def impl_isWritable (run : List Firing) : Option (Bool) :=
  (bif (decide ((List.length run : Int) ≤ 500)) then
    (slices_ContainsFunc_Firing_isWritable_c1 run).bind fun o2 =>
    some (!o2)
  else
    some false).bind fun q1 =>
  some q1

def strconv_FormatInt (i : Int) (base : Int) : Option (List UInt8) := if base = 10 ∧ -9223372036854775808 ≤ i ∧ i ≤ 9223372036854775807 then some (Lib.itoa i) else none

def impl_decimal (n_v : Int) : Option (List UInt8) :=
  (strconv_FormatInt n_v 10).bind fun o1 =>
  some o1

def impl_traceLine (f : Firing) (chain : Int) : Option (List UInt8 × Int) :=
  letT (Int.tmod (IntKind.i64.wrap ((IntKind.i64.wrap ((IntKind.i64.wrap (31 * chain)) + (IntKind.i64.wrap (7 * f.Event)))) + f.Time)) 9973) fun chain2 =>
  (impl_decimal f.Event).bind fun o3 =>
  (catO o3 ([32] : List UInt8)).bind fun z4 =>
  (impl_decimal f.Time).bind fun o5 =>
  (catO z4 o5).bind fun z6 =>
  (catO z6 ([32] : List UInt8)).bind fun z7 =>
  (impl_decimal chain2).bind fun o8 =>
  (catO z7 o8).bind fun z9 =>
  (catO z9 ([10] : List UInt8)).bind fun z10 =>
  some (z10, chain2)

def strings_Builder_WriteString (x : List UInt8) (s : List UInt8) : Option (Int × Unit × List UInt8) :=
  if (toBytes x).length + s.length ≤ 140737488355328 then some ((s.length : Int), (), x ++ s) else none

def strings_Builder_String (x : List UInt8) : List UInt8 := x

def impl_traceText_L1 (run : List Firing) (s3 : (List UInt8) × Int × Int) : Option (Sum ((List UInt8) × Int × Int) ((List UInt8) × Int)) :=
  bif (decide (s3.2.2 < (List.length run : Int))) then
    (idxO run s3.2.2).bind fun x5 =>
    (impl_traceLine x5 s3.2.1).bind fun o8 =>
    (strings_Builder_WriteString s3.1 o8.1).bind fun o9 =>
    some (.inl (o9.2.2, o8.2, IntKind.i64.wrap (s3.2.2 + 1)))
  else
    some (.inr (s3.1, s3.2.1))
def impl_traceText (run : List Firing) : Option (List UInt8 × Int) :=
  (loopM (impl_traceText_L1 run) ([], 1, 0)).bind fun o2 =>
  some ((strings_Builder_String o2.1), o2.2)

def impl_TraceText (run : List Firing) : Option (List UInt8 × Int) :=
  (impl_isWritable run).bind fun o1 =>
  bif (!o1) then
    some (([] : List UInt8), 2)
  else
    (impl_traceText run).bind fun o2 =>
    some (o2.1, 0)

def laws_eqFiring (a_v : Firing) (b : Firing) : Bool :=
  bif (a_v.Event != b.Event) then
    false
  else
    bif (a_v.Number != b.Number) then
      false
    else
      bif (a_v.Time != b.Time) then
        false
      else
        true

def laws_eqFiringS_L1 (a_v : List Firing) (b : List Firing) (s2 : Int) : Option (Sum (Int) (Sum Unit Unit)) :=
  bif (decide (s2 < (List.length a_v : Int))) then
    (idxO a_v s2).bind fun x4 =>
    (idxO b s2).bind fun x6 =>
    bif (!(laws_eqFiring x4 x6)) then
      some (.inr (.inl ()))
    else
      some (.inl (IntKind.i64.wrap (s2 + 1)))
  else
    some (.inr (.inr ()))
def laws_eqFiringS (a_v : List Firing) (b : List Firing) : Option (Bool) :=
  bif ((List.length a_v : Int) != (List.length b : Int)) then
    some false
  else
    (loopM (laws_eqFiringS_L1 a_v b) 0).bind fun o1 =>
    Sum.elim
      (fun _ =>
      some false)
      (fun _ =>
      some true) o1

def laws_FnExactTraceText (aRun : List Firing) : Option (Bool) :=
  bif (decide ((laws_szFiringS aRun 1048576) < 0)) then
    some true
  else
    (laws_toFiringS aRun).bind fun o1 =>
    (spec_TraceText o1).bind fun o4 =>
    (laws_toFiringS aRun).bind fun o5 =>
    (impl_TraceText o5).bind fun o8 =>
    bif ((!(o8.1 == o4.1)) || (o8.2 != o4.2)) then
      some false
    else
      (laws_toFiringS aRun).bind fun o9 =>
      (laws_eqFiringS o5 o9).bind fun o12 =>
      bif (!o12) then
        some false
      else
        some true

end
end Go.Proofs.YtneifoepoccjaaaDoor
