/-
  What the functions compute, in plain Lean on lists and integers (none: where Go would panic, or never end). Written by a program of ours from the form of the code.
-/
import Derived.Test.YtneifoepoccjaaaGreatDoorS
namespace Go.Proofs.YtneifoepoccjaaaGreatDoor
noncomputable section
def laws_big (code : List Int) : Bool :=
  decide ((List.length code : Int) > 4096)

def spec_l01From_L1 (code : List Int) (s3 : Int × Int) : Option (Sum (Int × Int) (Int)) :=
  bif ((decide (s3.2 < (List.length code : Int))) && (decide (s3.2 < 64))) then
    (idxO code s3.2).bind fun x5 =>
    some (.inl (Int.tmod (IntKind.i64.wrap ((IntKind.i64.wrap (s3.1 * 67)) + (IntKind.i64.wrap x5))) 2147483647, IntKind.i64.wrap (s3.2 + 1)))
  else
    some (.inr s3.1)
def spec_l01From (code : List Int) : Option (Src) :=
  (loopM (spec_l01From_L1 code) (61403, 0)).bind fun o2 =>
  some (⟨code, 0, o2⟩ : Src)

def spec_l01Next (s : Src) (n_v : Int) : Option (Int × Src) :=
  bif (decide (n_v ≤ 1)) then
    some (0, s)
  else
    letT (IntKind.i64.wrap (Int.tdiv (Int.tmod (IntKind.i64.wrap ((IntKind.i64.wrap (s.seed * 48271)) + 59)) 2147483647) 31)) fun x1 =>
    (
      (bif (decide (s.at_v < (List.length s.code : Int))) then
        (idxO s.code s.at_v).bind fun x3 =>
        bif ((decide (n_v ≤ 256)) && ((Int.tmod (IntKind.i64.wrap (s.at_v + 1)) 2) == 0)) then
          (idxO s.code (IntKind.i64.wrap ((IntKind.i64.wrap (s.at_v + 1)) - 1))).bind fun x5 =>
          some (IntKind.i64.wrap x5, IntKind.i64.wrap (s.at_v + 1))
        else
          some (IntKind.i64.wrap (x1 + (IntKind.i64.wrap x3)), IntKind.i64.wrap (s.at_v + 1))
      else
        some (x1, s.at_v) : Option (Int × Int))).bind fun o2 =>
    (remO .i64 o2.1 n_v).bind fun z7 =>
    some (z7, (⟨s.code, o2.2, Int.tmod (IntKind.i64.wrap ((IntKind.i64.wrap (s.seed * 48271)) + 59)) 2147483647⟩ : Src))

def spec_l01Pick (s : Src) (list : List Int) : Option (Int × Src) :=
  (spec_l01Next s (List.length list : Int)).bind fun o1 =>
  (idxO list o1.1).bind fun x2 =>
  some (x2, (⟨s.code, o1.2.at_v, o1.2.seed⟩ : Src))

def spec_l11Draw_L1 (s : Src) (o2 : Int × Src) (s8 : Int × Int × (List Place) × Int) : Option (Sum (Int × Int × (List Place) × Int) (Int × Int × (List Place))) :=
  bif (decide (s8.2.2.2 > 0)) then
    (spec_l01Next (⟨s.code, s8.1, s8.2.1⟩ : Src) (IntKind.i64.wrap (1 + o2.1))).bind fun o10 =>
    (spec_l01Next (⟨s.code, o10.2.at_v, o10.2.seed⟩ : Src) (IntKind.i64.wrap (1 + o2.1))).bind fun o11 =>
    (spec_l01Next (⟨s.code, o11.2.at_v, o11.2.seed⟩ : Src) 12).bind fun o12 =>
    (
      (((bif (decide (o10.1 ≥ o11.1)) then
        some (o12.2.at_v, o12.2.seed, true)
      else
        (spec_l01Next (⟨s.code, o12.2.at_v, o12.2.seed⟩ : Src) 4).bind fun o16 =>
        some (o16.2.at_v, o16.2.seed, o16.1 == 0) : Option (Int × Int × Bool))).bind fun q15 =>
      bif q15.2.2 then
        (spec_l01Next (⟨s.code, q15.1, q15.2.1⟩ : Src) 2).bind fun o17 =>
        (spec_l01Next (⟨s.code, o17.2.at_v, o17.2.seed⟩ : Src) 3).bind fun o18 =>
        some (o18.2.at_v, o18.2.seed, IntKind.i64.wrap (1 + (IntKind.i64.wrap (o17.1 * o18.1))))
      else
        some (q15.1, q15.2.1, 0) : Option (Int × Int × Int))).bind fun o14 =>
    (
      ((spec_l01Next (⟨s.code, o14.1, o14.2.1⟩ : Src) 30).bind fun o20 =>
      bif (o20.1 == 0) then
        some (o20.2.at_v, o20.2.seed, 0)
      else
        some (o20.2.at_v, o20.2.seed, o14.2.2) : Option (Int × Int × Int))).bind fun o19 =>
    (appO 32 s8.2.2.1 [(⟨o10.1, o11.1, o12.1, o19.2.2⟩ : Place)]).bind fun z23 =>
    letT (IntKind.i64.wrap (s8.2.2.2 - 1)) fun n_v26 =>
    some (.inl (o19.1, o19.2.1, z23, n_v26))
  else
    some (.inr (s8.1, s8.2.1, s8.2.2.1))
def spec_l11Draw_L2 (s : Src) (s52 : Int × Int × (List Place) × Int) : Option (Sum (Int × Int × (List Place) × Int) ((List Place) × Int × Int)) :=
  (spec_l01Next (⟨s.code, s52.1, s52.2.1⟩ : Src) 9).bind fun o54 =>
  bif (decide (s52.2.2.2 < (IntKind.i64.wrap (22 + o54.1)))) then
    (appO 32 s52.2.2.1 [(⟨0, 0, s52.2.2.2, 1⟩ : Place)]).bind fun z57 =>
    letT (IntKind.i64.wrap (s52.2.2.2 + 1)) fun k60 =>
    some (.inl (o54.2.at_v, o54.2.seed, z57, k60))
  else
    some (.inr (s52.2.2.1, o54.2.at_v, o54.2.seed))
def spec_l11Draw (s : Src) : Option (EventGraph × Src) :=
  (spec_l01Next s 5).bind fun o2 =>
  (spec_l01Next (⟨s.code, o2.2.at_v, o2.2.seed⟩ : Src) 9).bind fun o6 =>
  (loopM (spec_l11Draw_L1 s o2) (o6.2.at_v, o6.2.seed, [], o6.1)).bind fun o7 =>
  (
    ((spec_l01Next (⟨s.code, o7.1, o7.2.1⟩ : Src) 60).bind fun o28 =>
    bif (o28.1 == 0) then
      (spec_l01Pick (⟨s.code, o28.2.at_v, o28.2.seed⟩ : Src) [0, 10, 11]).bind fun o31 =>
      some (o31.1, o7.2.2, o31.2.at_v, o31.2.seed)
    else
      bif (o28.1 == 1) then
        (spec_l01Pick (⟨s.code, o28.2.at_v, o28.2.seed⟩ : Src) [(-1), 0, IntKind.i64.wrap (1 + o2.1)]).bind fun o34 =>
        (spec_l01Pick (⟨s.code, o34.2.at_v, o34.2.seed⟩ : Src) [(-1), 1000, 1001]).bind fun o37 =>
        (appO 32 o7.2.2 [(⟨o34.1, 0, o37.1, 1⟩ : Place)]).bind fun z40 =>
        some (IntKind.i64.wrap (1 + o2.1), z40, o37.2.at_v, o37.2.seed)
      else
        bif (o28.1 == 2) then
          (spec_l01Pick (⟨s.code, o28.2.at_v, o28.2.seed⟩ : Src) [5, 6, (-1)]).bind fun o45 =>
          (appO 32 o7.2.2 [(⟨0, 0, 0, o45.1⟩ : Place)]).bind fun z48 =>
          some (IntKind.i64.wrap (1 + o2.1), z48, o45.2.at_v, o45.2.seed)
        else
          bif (o28.1 == 3) then
            (loopM (spec_l11Draw_L2 s) (o28.2.at_v, o28.2.seed, o7.2.2, 0)).bind fun o51 =>
            some (IntKind.i64.wrap (1 + o2.1), o51.1, o51.2.1, o51.2.2)
          else
            some (IntKind.i64.wrap (1 + o2.1), o7.2.2, o28.2.at_v, o28.2.seed) : Option (Int × (List Place) × Int × Int))).bind fun o27 =>
  some ((⟨o27.1, o27.2.1⟩ : EventGraph), (⟨s.code, o27.2.2.1, o27.2.2.2⟩ : Src))

def spec_l01In (n_v : Int) (low : Int) (high : Int) : Bool :=
  (decide (n_v ≥ low)) && (decide (n_v ≤ high))

def spec_l11Place (p : Place) (events : Int) : Bool :=
  (((spec_l01In p.From 0 (IntKind.i64.wrap (events - 1))) && (spec_l01In p.To 0 (IntKind.i64.wrap (events - 1)))) && (spec_l01In p.Delay 0 1000)) && (spec_l01In p.Tokens 0 5)

def spec_IsEventGraph_L1 (g : EventGraph) (s3 : Int) : Option (Sum (Int) (Sum Unit Unit)) :=
  bif (decide (s3 < (List.length g.Places : Int))) then
    (idxO g.Places s3).bind fun x5 =>
    bif (!(spec_l11Place x5 g.Events)) then
      some (.inr (.inl ()))
    else
      some (.inl (IntKind.i64.wrap (s3 + 1)))
  else
    some (.inr (.inr ()))
def spec_IsEventGraph (g : EventGraph) : Option (Bool) :=
  (loopM (spec_IsEventGraph_L1 g) 0).bind fun o2 =>
  Sum.elim
    (fun _ =>
    some false)
    (fun _ =>
    some ((spec_l01In g.Events 1 10) && (decide ((List.length g.Places : Int) ≤ 30)))) o2

def spec_l14Count_L1 (run : List Firing) (event : Int) (s2 : Int × Int) : Option (Sum (Int × Int) (Int)) :=
  bif (decide (s2.2 < (List.length run : Int))) then
    (
      ((idxO run s2.2).bind fun x5 =>
      bif (x5.Event == event) then
        some (IntKind.i64.wrap (s2.1 + 1))
      else
        some s2.1 : Option (Int))).bind fun o4 =>
    some (.inl (o4, IntKind.i64.wrap (s2.2 + 1)))
  else
    some (.inr s2.1)
def spec_l14Count (run : List Firing) (event : Int) : Option (Int) :=
  (loopM (spec_l14Count_L1 run event) (0, 0)).bind fun o1 =>
  some o1

def spec_l14Find_L1 (run : List Firing) (event : Int) (number : Int) (s2 : Int) : Option (Sum (Int) (Sum Int Unit)) :=
  bif (decide (s2 < (List.length run : Int))) then
    (idxO run s2).bind fun x4 =>
    (bif (x4.Event == event) then
      (idxO run s2).bind fun x7 =>
      some (x7.Number == number)
    else
      some false).bind fun q6 =>
    bif q6 then
      (idxO run s2).bind fun x9 =>
      some (.inr (.inl x9.Time))
    else
      some (.inl (IntKind.i64.wrap (s2 + 1)))
  else
    some (.inr (.inr ()))
def spec_l14Find (run : List Firing) (event : Int) (number : Int) : Option (Int × Bool) :=
  (loopM (spec_l14Find_L1 run event number) 0).bind fun o1 =>
  Sum.elim
    (fun s11 =>
    some (s11, true))
    (fun _ =>
    some (0, false)) o1

def spec_l14Ready_L1 (g : EventGraph) (run : List Firing) (event : Int) (o2 : Int) (s4 : Int × Int) : Option (Sum (Int × Int) (Sum Unit Int)) :=
  bif (decide (s4.2 < (List.length g.Places : Int))) then
    (
      ((idxO g.Places s4.2).bind fun x7 =>
      bif ((x7.To != event) || (decide ((IntKind.i64.wrap (o2 + 1)) ≤ x7.Tokens))) then
        some (.inl s4.1)
      else
        (spec_l14Find run x7.From (IntKind.i64.wrap ((IntKind.i64.wrap (o2 + 1)) - x7.Tokens))).bind fun o10 =>
        bif (!o10.2) then
          some (.inr ())
        else
          letT (if (IntKind.i64.wrap (o10.1 + x7.Delay)) > s4.1 then (IntKind.i64.wrap (o10.1 + x7.Delay)) else s4.1) fun time11 =>
          some (.inl time11) : Option (Sum Int Unit))).bind fun o6 =>
    Sum.elim
      (fun s12 =>
      some (.inl (s12, IntKind.i64.wrap (s4.2 + 1))))
      (fun _ =>
      some (.inr (.inl ()))) o6
  else
    some (.inr (.inr s4.1))
def spec_l14Ready (g : EventGraph) (run : List Firing) (event : Int) : Option (Int × Bool) :=
  (spec_l14Count run event).bind fun o2 =>
  (loopM (spec_l14Ready_L1 g run event o2) (0, 0)).bind fun o3 =>
  Sum.elim
    (fun _ =>
    some (0, false))
    (fun s15 =>
    some (s15, true)) o3

def spec_l14Long_L1 (n_v : Int) (s4 : (List Firing) × Int) : Option (Sum ((List Firing) × Int) ((List Firing))) :=
  bif (decide (s4.2 ≤ n_v)) then
    (appO 24 s4.1 [(⟨0, s4.2, s4.2⟩ : Firing)]).bind fun z8 =>
    some (.inl (z8, IntKind.i64.wrap (s4.2 + 1)))
  else
    some (.inr s4.1)
def spec_l14Long (n_v : Int) : Option (List Firing) :=
  (loopM (spec_l14Long_L1 n_v) ([], 1)).bind fun o3 =>
  some o3

def spec_l14Draw_L1 (s : Src) (o2 : EventGraph × Src) (s11 : Int × Int × (List Firing) × Int × Int) : Option (Sum (Int × Int × (List Firing) × Int × Int) (Int × Int × (List Firing))) :=
  bif (decide (s11.2.2.2.2 > 0)) then
    (
      ((spec_l01Next (⟨s.code, s11.1, s11.2.1⟩ : Src) o2.1.Events).bind fun o14 =>
      (spec_l14Ready o2.1 s11.2.2.1 o14.1).bind fun o15 =>
      bif (!o15.2) then
        some (o14.2.at_v, o14.2.seed, s11.2.2.1, s11.2.2.2.1)
      else
        (spec_l01Next (⟨s.code, o14.2.at_v, o14.2.seed⟩ : Src) 8).bind fun o16 =>
        letT (if (IntKind.i64.wrap (o15.1 + (if (IntKind.i64.wrap (o16.1 - 4)) > 0 then (IntKind.i64.wrap (o16.1 - 4)) else 0))) > s11.2.2.2.1 then (IntKind.i64.wrap (o15.1 + (if (IntKind.i64.wrap (o16.1 - 4)) > 0 then (IntKind.i64.wrap (o16.1 - 4)) else 0))) else s11.2.2.2.1) fun now17 =>
        (spec_l14Count s11.2.2.1 o14.1).bind fun o18 =>
        (appO 24 s11.2.2.1 [(⟨o14.1, IntKind.i64.wrap (o18 + 1), now17⟩ : Firing)]).bind fun z21 =>
        some (o16.2.at_v, o16.2.seed, z21, now17) : Option (Int × Int × (List Firing) × Int))).bind fun o13 =>
    letT (IntKind.i64.wrap (s11.2.2.2.2 - 1)) fun k24 =>
    some (.inl (o13.1, o13.2.1, o13.2.2.1, o13.2.2.2, k24))
  else
    some (.inr (s11.1, s11.2.1, s11.2.2.1))
def spec_l14Draw (s : Src) : Option (EventGraph × List Firing × Src) :=
  (spec_l11Draw s).bind fun o2 =>
  (spec_IsEventGraph o2.1).bind fun o8 =>
  bif (!o8) then
    some (o2.1, ([] : List Firing), (⟨s.code, o2.2.at_v, o2.2.seed⟩ : Src))
  else
    (spec_l01Next (⟨s.code, o2.2.at_v, o2.2.seed⟩ : Src) 16).bind fun o9 =>
    (loopM (spec_l14Draw_L1 s o2) (o9.2.at_v, o9.2.seed, [], 0, o9.1)).bind fun o10 =>
    (
      (bif (decide ((List.length o10.2.2 : Int) > 0)) then
        (spec_l01Next (⟨s.code, o10.1, o10.2.1⟩ : Src) (List.length o10.2.2 : Int)).bind fun o26 =>
        (spec_l01Next (⟨s.code, o26.2.at_v, o26.2.seed⟩ : Src) 16).bind fun o27 =>
        bif (o27.1 == 0) then
          (idxO o10.2.2 o26.1).bind fun x28 =>
          (idxO o10.2.2 o26.1).bind fun x30 =>
          letT (List.set o10.2.2 (Int.toNat o26.1) (⟨x30.Event, x30.Number, IntKind.i64.wrap (x28.Time - 1)⟩ : Firing)) fun u32 =>
          some (o27.2.at_v, o27.2.seed, u32)
        else
          bif (o27.1 == 1) then
            (idxO o10.2.2 o26.1).bind fun x33 =>
            (spec_l01Pick (⟨s.code, o27.2.at_v, o27.2.seed⟩ : Src) [0, IntKind.i64.wrap (x33.Number + 1)]).bind fun o37 =>
            (idxO o10.2.2 o26.1).bind fun x38 =>
            letT (List.set o10.2.2 (Int.toNat o26.1) (⟨x38.Event, o37.1, x38.Time⟩ : Firing)) fun u40 =>
            some (o37.2.at_v, o37.2.seed, u40)
          else
            bif (o27.1 == 2) then
              (spec_l01Pick (⟨s.code, o27.2.at_v, o27.2.seed⟩ : Src) [(-1), o2.1.Events, 0]).bind fun o43 =>
              (idxO o10.2.2 o26.1).bind fun x44 =>
              letT (List.set o10.2.2 (Int.toNat o26.1) (⟨o43.1, x44.Number, x44.Time⟩ : Firing)) fun u46 =>
              some (o43.2.at_v, o43.2.seed, u46)
            else
              bif (o27.1 == 3) then
                (spec_l01Pick (⟨s.code, o27.2.at_v, o27.2.seed⟩ : Src) [1000000, 1000001, 9223372036854775807]).bind fun o49 =>
                (idxO o10.2.2 (IntKind.i64.wrap ((List.length o10.2.2 : Int) - 1))).bind fun x50 =>
                letT (List.set o10.2.2 (Int.toNat (IntKind.i64.wrap ((List.length o10.2.2 : Int) - 1))) (⟨x50.Event, x50.Number, o49.1⟩ : Firing)) fun u52 =>
                some (o49.2.at_v, o49.2.seed, u52)
              else
                some (o27.2.at_v, o27.2.seed, o10.2.2)
      else
        some (o10.1, o10.2.1, o10.2.2) : Option (Int × Int × (List Firing)))).bind fun o25 =>
    (spec_l01Next (⟨s.code, o25.1, o25.2.1⟩ : Src) 60).bind fun o53 =>
    bif (o53.1 == 0) then
      (spec_l01Pick (⟨s.code, o53.2.at_v, o53.2.seed⟩ : Src) [50, 51, 500, 501]).bind fun o58 =>
      (spec_l14Long o58.1).bind fun o59 =>
      some ((⟨1, ([] : List Place)⟩ : EventGraph), o59, (⟨s.code, o58.2.at_v, o58.2.seed⟩ : Src))
    else
      some (o2.1, o25.2.2, (⟨s.code, o53.2.at_v, o53.2.seed⟩ : Src))

def spec_l28Draw (s : Src) : Option (List Firing × Src) :=
  (spec_l14Draw s).bind fun o1 =>
  (
    ((spec_l01Next (⟨s.code, o1.2.2.at_v, o1.2.2.seed⟩ : Src) 24).bind fun o8 =>
    bif (o8.1 == 0) then
      (appO 24 ([] : List Firing) o1.2.1).bind fun z11 =>
      (spec_l01Pick (⟨s.code, o8.2.at_v, o8.2.seed⟩ : Src) [9, 10, 0]).bind fun o16 =>
      (spec_l01Pick (⟨s.code, o16.2.at_v, o16.2.seed⟩ : Src) [1000000, 1000001, (-1)]).bind fun o19 =>
      (appO 24 z11 [(⟨o16.1, 0, o19.1⟩ : Firing)]).bind fun z22 =>
      some (z22, o19.2.at_v, o19.2.seed)
    else
      some (o1.2.1, o8.2.at_v, o8.2.seed) : Option ((List Firing) × Int × Int))).bind fun o7 =>
  some (o7.1, (⟨s.code, o7.2.1, o7.2.2⟩ : Src))

def spec_DrawTraceText (code : List Int) : Option (List Firing) :=
  (spec_l01From code).bind fun o1 =>
  (spec_l28Draw (⟨code, o1.at_v, o1.seed⟩ : Src)).bind fun o3 =>
  some o3.1

def impl_within (n_v : Int) (low : Int) (high : Int) : Bool :=
  (decide (n_v ≥ low)) && (decide (n_v ≤ high))

def impl_isWritable_c1 (f : Firing) : Bool :=
  (!(impl_within f.Event 0 9)) || (!(impl_within f.Time 0 1000000))

def slices_IndexFunc_Firing_isWritable_c1_L1 (s : List Firing) (s2 : Int) : Option (Sum (Int) (Sum Int Unit)) :=
  bif (decide (s2 < (List.length s : Int))) then
    (idxO s s2).bind fun x4 =>
    bif (impl_isWritable_c1 x4) then
      some (.inr (.inl s2))
    else
      some (.inl (IntKind.i64.wrap (s2 + 1)))
  else
    some (.inr (.inr ()))
def slices_IndexFunc_Firing_isWritable_c1 (s : List Firing) : Option (Int) :=
  (loopM (slices_IndexFunc_Firing_isWritable_c1_L1 s) 0).bind fun o1 =>
  Sum.elim
    (fun s6 =>
    some s6)
    (fun _ =>
    some (-1)) o1

def slices_ContainsFunc_Firing_isWritable_c1 (s : List Firing) : Option (Bool) :=
  (slices_IndexFunc_Firing_isWritable_c1 s).bind fun o1 =>
  some (decide (o1 ≥ 0))

def impl_isWritable (run : List Firing) : Option (Bool) :=
  (bif (decide ((List.length run : Int) ≤ 500)) then
    (slices_ContainsFunc_Firing_isWritable_c1 run).bind fun o2 =>
    some (!o2)
  else
    some false).bind fun q1 =>
  some q1

def strconv_FormatInt (i : Int) (base : Int) : Option (List UInt8) := if base = 10 ∧ -9223372036854775808 ≤ i ∧ i ≤ 9223372036854775807 then some (Lib.itoa i) else none

def impl_decimal (n_v : Int) : Option (List UInt8) :=
  (strconv_FormatInt n_v 10).bind fun o1 =>
  some o1

def impl_traceLine (f : Firing) (chain : Int) : Option (List UInt8 × Int) :=
  letT (Int.tmod (IntKind.i64.wrap ((IntKind.i64.wrap ((IntKind.i64.wrap (31 * chain)) + (IntKind.i64.wrap (7 * f.Event)))) + f.Time)) 9973) fun chain2 =>
  (impl_decimal f.Event).bind fun o3 =>
  (catO o3 ([32] : List UInt8)).bind fun z4 =>
  (impl_decimal f.Time).bind fun o5 =>
  (catO z4 o5).bind fun z6 =>
  (catO z6 ([32] : List UInt8)).bind fun z7 =>
  (impl_decimal chain2).bind fun o8 =>
  (catO z7 o8).bind fun z9 =>
  (catO z9 ([10] : List UInt8)).bind fun z10 =>
  some (z10, chain2)

def strings_Builder_WriteString (x : List UInt8) (s : List UInt8) : Option (Int × Unit × List UInt8) :=
  if (toBytes x).length + s.length ≤ 140737488355328 then some ((s.length : Int), (), x ++ s) else none

def strings_Builder_String (x : List UInt8) : List UInt8 := x

def impl_traceText_L1 (run : List Firing) (s3 : (List UInt8) × Int × Int) : Option (Sum ((List UInt8) × Int × Int) ((List UInt8) × Int)) :=
  bif (decide (s3.2.2 < (List.length run : Int))) then
    (idxO run s3.2.2).bind fun x5 =>
    (impl_traceLine x5 s3.2.1).bind fun o8 =>
    (strings_Builder_WriteString s3.1 o8.1).bind fun o9 =>
    some (.inl (o9.2.2, o8.2, IntKind.i64.wrap (s3.2.2 + 1)))
  else
    some (.inr (s3.1, s3.2.1))
def impl_traceText (run : List Firing) : Option (List UInt8 × Int) :=
  (loopM (impl_traceText_L1 run) ([], 1, 0)).bind fun o2 =>
  some ((strings_Builder_String o2.1), o2.2)

def impl_TraceText (run : List Firing) : Option (List UInt8 × Int) :=
  (impl_isWritable run).bind fun o1 =>
  bif (!o1) then
    some (([] : List UInt8), 2)
  else
    (impl_traceText run).bind fun o2 =>
    some (o2.1, 0)

def spec_l28Writable (f : Firing) : Bool :=
  (spec_l01In f.Event 0 9) && (spec_l01In f.Time 0 1000000)

def spec_l28All_L1 (run : List Firing) (s2 : Int) : Option (Sum (Int) (Sum Unit Unit)) :=
  bif (decide (s2 < (List.length run : Int))) then
    (idxO run s2).bind fun x4 =>
    bif (!(spec_l28Writable x4)) then
      some (.inr (.inl ()))
    else
      some (.inl (IntKind.i64.wrap (s2 + 1)))
  else
    some (.inr (.inr ()))
def spec_l28All (run : List Firing) : Option (Bool) :=
  (loopM (spec_l28All_L1 run) 0).bind fun o1 =>
  Sum.elim
    (fun _ =>
    some false)
    (fun _ =>
    some (decide ((List.length run : Int) ≤ 500))) o1

def spec_l28Next (chain : Int) (f : Firing) : Int :=
  Int.tmod (IntKind.i64.wrap ((IntKind.i64.wrap ((IntKind.i64.wrap (31 * chain)) + (IntKind.i64.wrap (7 * f.Event)))) + f.Time)) 9973

def spec_l01Dec_F : Nat → Int → Option (List UInt8)
  | 0, _ => none
  | kf + 1, n_v =>
    bif (decide (n_v < 10)) then
      some (toStr [IntKind.u8.wrap (IntKind.i64.wrap (48 + n_v))])
    else
      (spec_l01Dec_F kf (IntKind.i64.wrap (Int.tdiv n_v 10))).bind fun o3 =>
      (catO o3 (toStr [IntKind.u8.wrap (IntKind.i64.wrap (48 + (Int.tmod n_v 10)))])).bind fun z6 =>
      some z6
def spec_l01Dec (n_v : Int) : Option (List UInt8) := lim (fun kf => spec_l01Dec_F kf n_v)

def spec_l28Line (f : Firing) (chain : Int) : Option (List UInt8) :=
  (spec_l01Dec f.Event).bind fun o2 =>
  (catO o2 ([32] : List UInt8)).bind fun z3 =>
  (spec_l01Dec f.Time).bind fun o4 =>
  (catO z3 o4).bind fun z5 =>
  (catO z5 ([32] : List UInt8)).bind fun z6 =>
  (spec_l01Dec chain).bind fun o7 =>
  (catO z6 o7).bind fun z8 =>
  some z8

def spec_TraceText_L1 (run : List Firing) (s5 : Int × (List Int) × Int) : Option (Sum (Int × (List Int) × Int) ((List Int))) :=
  bif (decide (s5.2.2 < (List.length run : Int))) then
    (idxO run s5.2.2).bind fun x7 =>
    (idxO run s5.2.2).bind fun x9 =>
    (spec_l28Line x9 (spec_l28Next s5.1 x7)).bind fun o11 =>
    (catO o11 ([10] : List UInt8)).bind fun z12 =>
    (appsO s5.2.1 z12).bind fun z13 =>
    some (.inl ((spec_l28Next s5.1 x7), z13, IntKind.i64.wrap (s5.2.2 + 1)))
  else
    some (.inr s5.2.1)
def spec_TraceText (run : List Firing) : Option (List UInt8 × Int) :=
  (spec_l28All run).bind fun o1 =>
  bif (!o1) then
    some (([] : List UInt8), 2)
  else
    (loopM (spec_TraceText_L1 run) (1, [], 0)).bind fun o4 =>
    some ((toStr o4), 0)

def impl_ChainAfter (run : List Firing) : Option (Int × Int) :=
  (impl_isWritable run).bind fun o1 =>
  bif (!o1) then
    some (0, 2)
  else
    (impl_traceText run).bind fun o2 =>
    some (o2.2, 0)

def spec_ChainAfter_L1 (run : List Firing) (s3 : Int × Int) : Option (Sum (Int × Int) (Int)) :=
  bif (decide (s3.2 < (List.length run : Int))) then
    (idxO run s3.2).bind fun x5 =>
    some (.inl ((spec_l28Next s3.1 x5), IntKind.i64.wrap (s3.2 + 1)))
  else
    some (.inr s3.1)
def spec_ChainAfter (run : List Firing) : Option (Int × Int) :=
  (spec_l28All run).bind fun o1 =>
  bif (!o1) then
    some (0, 2)
  else
    (loopM (spec_ChainAfter_L1 run) (1, 0)).bind fun o2 =>
    some (o2, 0)

def spec_l01Damage (s : Src) (t : List UInt8) : Option (List UInt8 × Src) :=
  (spec_l01Next s (IntKind.i64.wrap ((List.length t : Int) + 1))).bind fun o1 =>
  (
    ((spec_l01Next (⟨s.code, o1.2.at_v, o1.2.seed⟩ : Src) 8).bind fun o3 =>
    bif (o3.1 == 0) then
      (subO t 0 o1.1).bind fun z4 =>
      some (.inr (z4, o3.2.at_v, o3.2.seed))
    else
      bif (o3.1 == 1) then
        (subO t 0 o1.1).bind fun z5 =>
        (spec_l01Next (⟨s.code, o3.2.at_v, o3.2.seed⟩ : Src) 8).bind fun o8 =>
        (idxO [[48], [49], [32], [45], [46], [44], [10], [59]] o8.1).bind fun x9 =>
        (catO z5 x9).bind fun z11 =>
        (subO t o1.1 (List.length t : Int)).bind fun z12 =>
        (catO z11 z12).bind fun z13 =>
        some (.inr (z13, o8.2.at_v, o8.2.seed))
      else
        bif (o3.1 == 2) then
          bif (decide (o1.1 < (List.length t : Int))) then
            (subO t 0 o1.1).bind fun z14 =>
            (subO t (IntKind.i64.wrap (o1.1 + 1)) (List.length t : Int)).bind fun z15 =>
            (catO z14 z15).bind fun z16 =>
            some (.inr (z16, o3.2.at_v, o3.2.seed))
          else
            some (.inl (o3.2.at_v, o3.2.seed))
        else
          some (.inl (o3.2.at_v, o3.2.seed)) : Option (Sum (Int × Int) ((List UInt8) × Int × Int)))).bind fun o2 =>
  Sum.elim
    (fun s17 =>
    some (t, (⟨s.code, s17.1, s17.2⟩ : Src)))
    (fun s18 =>
    some (s18.1, (⟨s.code, s18.2.1, s18.2.2⟩ : Src))) o2

def spec_l28DrawText (s : Src) : Option (List UInt8 × Src) :=
  (spec_l28Draw s).bind fun o1 =>
  (spec_TraceText o1.1).bind fun o4 =>
  (spec_l01Next (⟨s.code, o1.2.at_v, o1.2.seed⟩ : Src) 3).bind fun o5 =>
  bif (o5.1 == 0) then
    (spec_l01Damage (⟨s.code, o5.2.at_v, o5.2.seed⟩ : Src) o4.1).bind fun o6 =>
    some (o6.1, (⟨s.code, o6.2.at_v, o6.2.seed⟩ : Src))
  else
    (spec_l01Next (⟨s.code, o5.2.at_v, o5.2.seed⟩ : Src) 60).bind fun o7 =>
    bif (o7.1 == 0) then
      (spec_l01Next (⟨s.code, o7.2.at_v, o7.2.seed⟩ : Src) 2).bind fun o8 =>
      (mkO 1 0 (IntKind.i64.wrap (20000 + o8.1))).bind fun z9 =>
      some ((toStr z9), (⟨s.code, o8.2.at_v, o8.2.seed⟩ : Src))
    else
      some (o4.1, (⟨s.code, o7.2.at_v, o7.2.seed⟩ : Src))

def spec_DrawRecoverTrace (code : List Int) : Option (List UInt8) :=
  (spec_l01From code).bind fun o1 =>
  (spec_l28DrawText (⟨code, o1.at_v, o1.seed⟩ : Src)).bind fun o3 =>
  some o3.1

def strings_Cut (s : List UInt8) (sep : List UInt8) : Option (List UInt8 × List UInt8 × Bool) := if s.length < 4294967281 then some (Lib.cut s sep) else none

def strings_Split (s : List UInt8) (sep : List UInt8) : Option (List (List UInt8)) := if s.length < 4294967281 ∧ 1 ≤ sep.length ∧ (Lib.splitB ⟨sep.toArray⟩ 0 (Lib.countB ⟨s.toArray⟩ ⟨sep.toArray⟩) ⟨s.toArray⟩).length = Lib.countB ⟨s.toArray⟩ ⟨sep.toArray⟩ + 1 ∧ Lib.countB ⟨s.toArray⟩ ⟨sep.toArray⟩ < 4294967290 then some ((Lib.splitB ⟨sep.toArray⟩ 0 (Lib.countB ⟨s.toArray⟩ ⟨sep.toArray⟩) ⟨s.toArray⟩).map (·.data.toList)) else none

def strconv_ParseInt (s : List UInt8) (base : Int) (bitSize : Int) : Option (Int × Bool) := if base = 10 ∧ bitSize = 64 ∧ s.length ≤ 281474976710656 then some (match Lib.parseIntB 64 s with | .ok v => (v, false) | .range => (Lib.intSat 64 s, true) | _ => (0, true)) else none

def impl_readNumber (s : List UInt8) : Option (Int × Bool) :=
  (strconv_ParseInt s 10 64).bind fun o1 =>
  (bif o1.2 then
    some true
  else
    (impl_decimal o1.1).bind fun o4 =>
    some (!(o4 == s))).bind fun q3 =>
  bif q3 then
    some (0, false)
  else
    some (o1.1, true)

def impl_recoverTrace_L1 (s : List UInt8) (s5 : (List Firing) × (List Int) × Int × Int) : Option (Sum ((List Firing) × (List Int) × Int × Int) ((List Firing) × Int)) :=
  bif (decide ((List.length s5.1 : Int) < 500)) then
    (subO s s5.2.2.2 (List.length s : Int)).bind fun z7 =>
    (strings_Cut z7 ([10] : List UInt8)).bind fun o8 =>
    (strings_Split o8.1 ([32] : List UInt8)).bind fun o9 =>
    bif ((!o8.2.2) || ((List.length o9 : Int) != 3)) then
      some (.inr (s5.1, s5.2.2.2))
    else
      (idxO o9 0).bind fun x12 =>
      (impl_readNumber x12).bind fun o14 =>
      (idxO o9 1).bind fun x15 =>
      (impl_readNumber x15).bind fun o17 =>
      (bif ((!o14.2) || (!o17.2)) then
        some true
      else
        (impl_isWritable [(⟨o14.1, 0, o17.1⟩ : Firing)]).bind fun o22 =>
        some (!o22)).bind fun q19 =>
      bif q19 then
        some (.inr (s5.1, s5.2.2.2))
      else
        (impl_traceLine (⟨o14.1, 0, o17.1⟩ : Firing) s5.2.2.1).bind fun o23 =>
        (catO o8.1 ([10] : List UInt8)).bind fun z24 =>
        bif (!(o23.1 == z24)) then
          some (.inr (s5.1, s5.2.2.2))
        else
          (idxO s5.2.1 o14.1).bind fun x25 =>
          (idxO s5.2.1 o14.1).bind fun _ =>
          letT (List.set s5.2.1 (Int.toNat o14.1) (IntKind.i64.wrap (x25 + 1))) fun u29 =>
          (idxO u29 o14.1).bind fun x30 =>
          (appO 24 s5.1 [(⟨o14.1, x30, o17.1⟩ : Firing)]).bind fun z34 =>
          letT (IntKind.i64.wrap (s5.2.2.2 + (List.length o23.1 : Int))) fun long37 =>
          some (.inl (z34, u29, o23.2, long37))
  else
    some (.inr (s5.1, s5.2.2.2))
def impl_recoverTrace (s : List UInt8) : Option (List Firing × Int) :=
  (mkO 8 0 10).bind fun z1 =>
  (loopM (impl_recoverTrace_L1 s) ([], z1, 1, 0)).bind fun o4 =>
  some (o4.1, o4.2)

def impl_RecoverTrace (s : List UInt8) : Option (List Firing × Int) :=
  bif (decide ((List.length s : Int) > 20000)) then
    some (([] : List Firing), 3)
  else
    (impl_recoverTrace s).bind fun o1 =>
    some (o1.1, 0)

def spec_l01Split_L1 (s : List UInt8) (by_v : Int) (s4 : (List (List UInt8)) × Int × Int) : Option (Sum ((List (List UInt8)) × Int × Int) ((List (List UInt8)))) :=
  bif (decide (s4.2.2 ≤ (List.length s : Int))) then
    (
      ((bif (s4.2.2 == (List.length s : Int)) then
        some true
      else
        (idxO s s4.2.2).bind fun y8 =>
        some ((y8.toNat : Int) == by_v)).bind fun q7 =>
      bif q7 then
        (subO s s4.2.1 s4.2.2).bind fun z9 =>
        (appO 16 s4.1 [z9]).bind fun z12 =>
        some (z12, IntKind.i64.wrap (s4.2.2 + 1))
      else
        some (s4.1, s4.2.1) : Option ((List (List UInt8)) × Int))).bind fun o6 =>
    some (.inl (o6.1, o6.2, IntKind.i64.wrap (s4.2.2 + 1)))
  else
    some (.inr s4.1)
def spec_l01Split (s : List UInt8) (by_v : Int) : Option (List (List UInt8)) :=
  (loopM (spec_l01Split_L1 s by_v) ([], 0, 0)).bind fun o3 =>
  some o3

def spec_l01Digits_L1 (s : List UInt8) (s2 : Int × Int) : Option (Sum (Int × Int) (Sum Unit Int)) :=
  bif (decide (s2.2 < (List.length s : Int))) then
    (idxO s s2.2).bind fun y4 =>
    (bif (decide ((y4.toNat : Int) < 48)) then
      some true
    else
      (idxO s s2.2).bind fun y6 =>
      some (decide ((y6.toNat : Int) > 57))).bind fun q5 =>
    bif q5 then
      some (.inr (.inl ()))
    else
      (idxO s s2.2).bind fun y7 =>
      letT (IntKind.i64.wrap ((IntKind.i64.wrap (10 * s2.1)) + (IntKind.i64.wrap (IntKind.u8.wrap ((y7.toNat : Int) - 48))))) fun n_v8 =>
      some (.inl (n_v8, IntKind.i64.wrap (s2.2 + 1)))
  else
    some (.inr (.inr s2.1))
def spec_l01Digits (s : List UInt8) : Option (Int × Bool) :=
  bif ((decide ((List.length s : Int) < 1)) || (decide ((List.length s : Int) > 10))) then
    some (0, false)
  else
    (loopM (spec_l01Digits_L1 s) (0, 0)).bind fun o1 =>
    Sum.elim
      (fun _ =>
      some (0, false))
      (fun s10 =>
      (spec_l01Dec s10).bind fun o11 =>
      some (s10, o11 == s)) o1

def spec_l01Signed (s : List UInt8) : Option (Int × Bool) :=
  (bif (decide ((List.length s : Int) > 0)) then
    (idxO s 0).bind fun y2 =>
    some ((y2.toNat : Int) == 45)
  else
    some false).bind fun q1 =>
  bif q1 then
    (subO s 1 (List.length s : Int)).bind fun z3 =>
    (spec_l01Digits z3).bind fun o4 =>
    some (IntKind.i64.wrap (0 - o4.1), o4.2 && (decide (o4.1 > 0)))
  else
    (spec_l01Digits s).bind fun o5 =>
    some (o5.1, o5.2)

def spec_l01Numbers_L1 (words : List (List UInt8)) (s4 : (List Int) × Int) : Option (Sum ((List Int) × Int) (Sum Unit (List Int))) :=
  bif (decide (s4.2 < (List.length words : Int))) then
    (idxO words s4.2).bind fun x6 =>
    (spec_l01Signed x6).bind fun o8 =>
    bif (!o8.2) then
      some (.inr (.inl ()))
    else
      (appO 8 s4.1 [o8.1]).bind fun z11 =>
      some (.inl (z11, IntKind.i64.wrap (s4.2 + 1)))
  else
    some (.inr (.inr s4.1))
def spec_l01Numbers (words : List (List UInt8)) : Option (List Int × Bool) :=
  (loopM (spec_l01Numbers_L1 words) ([], 0)).bind fun o3 =>
  Sum.elim
    (fun _ =>
    some (([] : List Int), false))
    (fun s15 =>
    some (s15, true)) o3

def spec_l28Recover_L1 (o1 : List (List UInt8)) (s7 : Int × Int × (List Firing) × Int) : Option (Sum (Int × Int × (List Firing) × Int) (Int × (List Firing))) :=
  bif ((decide ((IntKind.i64.wrap (s7.2.2.2 + 1)) < (List.length o1 : Int))) && (decide ((List.length s7.2.2.1 : Int) < 500))) then
    (idxO o1 s7.2.2.2).bind fun x9 =>
    (spec_l01Split x9 32).bind fun o11 =>
    (spec_l01Numbers o11).bind fun o14 =>
    bif ((!o14.2) || ((List.length o14.1 : Int) != 3)) then
      some (.inr (s7.2.1, s7.2.2.1))
    else
      (idxO o14.1 0).bind fun x17 =>
      (idxO o14.1 0).bind fun x19 =>
      (spec_l14Count s7.2.2.1 x19).bind fun o21 =>
      (idxO o14.1 1).bind fun x22 =>
      (
        (letT (spec_l28Writable (⟨x17, IntKind.i64.wrap (o21 + 1), x22⟩ : Firing)) fun o26 =>
        bif (!o26) then
          some true
        else
          (idxO o14.1 2).bind fun x28 =>
          letT (spec_l28Next s7.1 (⟨x17, IntKind.i64.wrap (o21 + 1), x22⟩ : Firing)) fun o30 =>
          some (x28 != o30) : Option (Bool))).bind fun o25 =>
      bif o25 then
        some (.inr (s7.2.1, s7.2.2.1))
      else
        (idxO o14.1 2).bind fun x31 =>
        (idxO o1 s7.2.2.2).bind fun x33 =>
        letT (IntKind.i64.wrap ((IntKind.i64.wrap (s7.2.1 + (List.length x33 : Int))) + 1)) fun size35 =>
        (appO 24 s7.2.2.1 [(⟨x17, IntKind.i64.wrap (o21 + 1), x22⟩ : Firing)]).bind fun z38 =>
        letT (IntKind.i64.wrap (s7.2.2.2 + 1)) fun i41 =>
        some (.inl (x31, size35, z38, i41))
  else
    some (.inr (s7.2.1, s7.2.2.1))
def spec_l28Recover (s : List UInt8) : Option (List Firing × Int) :=
  (spec_l01Split s 10).bind fun o1 =>
  (loopM (spec_l28Recover_L1 o1) (1, 0, [], 0)).bind fun o6 =>
  some (o6.2, o6.1)

def spec_RecoverTrace (s : List UInt8) : Option (List Firing × Int) :=
  bif (decide ((List.length s : Int) > 20000)) then
    some (([] : List Firing), 3)
  else
    (spec_l28Recover s).bind fun o1 =>
    some (o1.1, 0)

def laws_likeRuns9_L1 (a_v : List Firing) (b : List Firing) (s2 : Int) : Option (Sum (Int) (Sum Unit Unit)) :=
  bif (decide (s2 < (List.length a_v : Int))) then
    (idxO a_v s2).bind fun x4 =>
    (idxO b s2).bind fun x6 =>
    bif (!((x4.Event == x6.Event) && ((x4.Number == x6.Number) && ((x4.Time == x6.Time) && true)))) then
      some (.inr (.inl ()))
    else
      some (.inl (IntKind.i64.wrap (s2 + 1)))
  else
    some (.inr (.inr ()))
def laws_likeRuns9 (a_v : List Firing) (b : List Firing) : Option (Bool) :=
  bif ((List.length a_v : Int) != (List.length b : Int)) then
    some false
  else
    (loopM (laws_likeRuns9_L1 a_v b) 0).bind fun o1 =>
    Sum.elim
      (fun _ =>
      some false)
      (fun _ =>
      some true) o1

def laws_roll_L1 (code : List Int) (s3 : Int × Int) : Option (Sum (Int × Int) (Int)) :=
  bif (decide (s3.2 < (List.length code : Int))) then
    (idxO code s3.2).bind fun x5 =>
    some (.inl (IntKind.u64.wrap ((IntKind.u64.wrap ((IntKind.u64.wrap (s3.1 * 1099511628211)) + (IntKind.u64.wrap x5))) + 5), IntKind.i64.wrap (s3.2 + 1)))
  else
    some (.inr s3.1)
def laws_roll (code : List Int) (seed : Int) : Option (Dice) :=
  (loopM (laws_roll_L1 code) (IntKind.u64.wrap ((IntKind.u64.wrap (seed * 9103)) + (IntKind.u64.wrap (List.length code : Int))), 0)).bind fun o2 =>
  some (⟨code, 0, o2⟩ : Dice)

def laws_dice_below (d : Dice) (n_v : Int) : Option (Int × Dice) :=
  letT (IntKind.i64.wrap (IntKind.u64.wrap (((BitVec.ofInt 64 (Int.fdiv (IntKind.u64.wrap ((IntKind.u64.wrap (d.h_v * 6364136223846793005)) + 1442695040888963407)) (2 ^ 33)) &&& BitVec.ofInt 64 16777215).toNat : Nat) : Int))) fun x1 =>
  (
    (bif (decide (d.i < (List.length d.b : Int))) then
      (idxO d.b d.i).bind fun x3 =>
      some (IntKind.i64.wrap (x1 + (IntKind.i64.wrap x3)), IntKind.i64.wrap (d.i + 1))
    else
      some (x1, d.i) : Option (Int × Int))).bind fun o2 =>
  (remO .i64 o2.1 n_v).bind fun z5 =>
  some (z5, (⟨d.b, o2.2, IntKind.u64.wrap ((IntKind.u64.wrap (d.h_v * 6364136223846793005)) + 1442695040888963407)⟩ : Dice))

def laws_FnTraces_L1 (o4 : List UInt8 × Int) (o19 : Int × Dice) (s21 : Int × Int) : Option (Sum (Int × Int) (Int)) :=
  bif (decide (s21.2 < o19.1)) then
    (
      ((idxO o4.1 s21.2).bind fun y24 =>
      bif ((y24.toNat : Int) == 10) then
        some (IntKind.i64.wrap (s21.1 + 1))
      else
        some s21.1 : Option (Int))).bind fun o23 =>
    some (.inl (o23, IntKind.i64.wrap (s21.2 + 1)))
  else
    some (.inr s21.1)
def laws_FnTraces_L2 (o1 : List Firing) (o25 : List Firing × Int) (s38 : Int) : Option (Sum (Int) (Sum Unit Unit)) :=
  bif (decide (s38 < (List.length o25.1 : Int))) then
    (
      ((idxO o25.1 s38).bind fun x41 =>
      (idxO o1 s38).bind fun x43 =>
      bif (x41.Event != x43.Event) then
        some true
      else
        (idxO o25.1 s38).bind fun x46 =>
        (idxO o1 s38).bind fun x48 =>
        some (x46.Time != x48.Time) : Option (Bool))).bind fun o40 =>
    bif o40 then
      some (.inr (.inl ()))
    else
      some (.inl (IntKind.i64.wrap (s38 + 1)))
  else
    some (.inr (.inr ()))
def laws_FnTraces (code : List Int) : Option (Bool) :=
  bif (laws_big code) then
    some true
  else
    (spec_DrawTraceText code).bind fun o1 =>
    (impl_TraceText o1).bind fun o4 =>
    (spec_TraceText o1).bind fun o5 =>
    (impl_ChainAfter o1).bind fun o6 =>
    (spec_ChainAfter o1).bind fun o7 =>
    (spec_DrawRecoverTrace code).bind fun o8 =>
    (impl_RecoverTrace o8).bind fun o9 =>
    (spec_RecoverTrace o8).bind fun o12 =>
    (bif (((((o4.2 != o5.2) || (!(o4.1 == o5.1))) || (o6.2 != o7.2)) || (o6.1 != o7.1)) || (o9.2 != o12.2)) then
      some true
    else
      (laws_likeRuns9 o9.1 o12.1).bind fun o16 =>
      some (!o16)).bind fun q15 =>
    bif (q15 || (o6.2 != o4.2)) then
      some false
    else
      bif (o4.2 != 0) then
        some true
      else
        (laws_roll code 2801).bind fun o17 =>
        (laws_dice_below (⟨code, o17.i, o17.h_v⟩ : Dice) (IntKind.i64.wrap ((List.length o4.1 : Int) + 1))).bind fun o19 =>
        (loopM (laws_FnTraces_L1 o4 o19) (0, 0)).bind fun o20 =>
        (impl_RecoverTrace o4.1).bind fun o25 =>
        (subO o4.1 0 o19.1).bind fun z28 =>
        (impl_RecoverTrace z28).bind fun o29 =>
        (bif (((o25.2 != 0) || (o29.2 != 0)) || ((List.length o25.1 : Int) != (List.length o1 : Int))) then
          some true
        else
          (subO o25.1 0 o20).bind fun z33 =>
          (laws_likeRuns9 o29.1 z33).bind fun o36 =>
          some (!o36)).bind fun q32 =>
        bif q32 then
          some false
        else
          (loopM (laws_FnTraces_L2 o1 o25) 0).bind fun o37 =>
          Sum.elim
            (fun _ =>
            some false)
            (fun _ =>
            some ((decide (o6.1 ≥ 0)) && (decide (o6.1 < 9973)))) o37

end
end Go.Proofs.YtneifoepoccjaaaGreatDoor
