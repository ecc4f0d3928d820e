/-
  The library's Split, at a byte. No program in sight.
-/
import Derived.Test.YtneifoepoccjaaaGreatDoorQS
namespace Go.Proofs.YtneifoepoccjaaaGreatDoor

theorem strings_Split_eq (s : List UInt8) (b : UInt8) (hs : s.length ≤ 4294967000) : strings_Split s [b] = some (cutS b s) := by
  unfold strings_Split
  have h1 : 1 ≤ (ByteArray.mk [b].toArray).size := Nat.le_refl _
  have hc : Lib.countB ⟨s.toArray⟩ ⟨[b].toArray⟩ = s.count b := Lib.count_one b s
  have hle : s.count b ≤ s.length := List.count_le_length
  rw [if_pos ⟨by omega, Nat.le_refl _, Lib.splitB_all _ h1 0 _ _ rfl, by rw [hc]; omega⟩]
  have hd := Lib.splitB_data ⟨[b].toArray⟩ 0 (Lib.countB ⟨s.toArray⟩ ⟨[b].toArray⟩) ⟨s.toArray⟩
  rw [hd, hc]
  exact congrArg some (splitK_cut _ s rfl)
end Go.Proofs.YtneifoepoccjaaaGreatDoor
