/-
  The data of the program as plain structures, and how they lie in cells.
-/
import Derived.Test.YtneifoepoccjaaaGreatDoorB1
import Derived.Test.YtneifoepoccjaaaGreatDoorV13
import Derived.Lib.ItoaNum
import Derived.Lib.IndexMore
import Derived.Lib.SplitLaws
import Derived.Lib.ParseIntB
namespace Go.Proofs.YtneifoepoccjaaaGreatDoor
structure Ratio where
  Num : Int
  Den : Int
abbrev RatioE (x : Ratio) : List Value := [.int .i64 x.Num, .int .i64 x.Den]
abbrev RatioS : Shape Ratio := flatS 2 RatioE (fun _ => rfl)
structure Place where
  From : Int
  To : Int
  Delay : Int
  Tokens : Int
abbrev PlaceE (x : Place) : List Value := [.int .i64 x.From, .int .i64 x.To, .int .i64 x.Delay, .int .i64 x.Tokens]
abbrev PlaceS : Shape Place := flatS 4 PlaceE (fun _ => rfl)
structure EventGraph where
  Events : Int
  Places : List Place
structure Firing where
  Event : Int
  Number : Int
  Time : Int
abbrev FiringE (x : Firing) : List Value := [.int .i64 x.Event, .int .i64 x.Number, .int .i64 x.Time]
abbrev FiringS : Shape Firing := flatS 3 FiringE (fun _ => rfl)
structure Timetable where
  Period : Int
  Starts : List Int
structure Window where
  Low : Int
  High : Int
abbrev WindowE (x : Window) : List Value := [.int .i64 x.Low, .int .i64 x.High]
abbrev WindowS : Shape Window := flatS 2 WindowE (fun _ => rfl)
structure Bond where
  From : Int
  To : Int
  Least : Int
abbrev BondE (x : Bond) : List Value := [.int .i64 x.From, .int .i64 x.To, .int .i64 x.Least]
abbrev BondS : Shape Bond := flatS 3 BondE (fun _ => rfl)
structure System where
  A : List (List Int)
  B : List Int
  C : List Int
structure Edit where
  Kind : Int
  Index : Int
  Place : Place
abbrev EditE (x : Edit) : List Value := [.int .i64 x.Kind, .int .i64 x.Index, .int .i64 x.Place.From, .int .i64 x.Place.To, .int .i64 x.Place.Delay, .int .i64 x.Place.Tokens]
abbrev EditS : Shape Edit := flatS 6 EditE (fun _ => rfl)
structure Desk where
  Graph : EventGraph
  Back : List Edit
structure Src where
  code : List Int
  at_v : Int
  seed : Int
structure Dice where
  b : List Int
  i : Int
  h_v : Int
end Go.Proofs.YtneifoepoccjaaaGreatDoor
