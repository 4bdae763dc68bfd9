/- The laid package variables (printed by wip/tools/glbs.py). -/
import Derived.Test.YtikfefjaeejeeaaGreatDoorChecked
import Derived.Below
namespace Go.Proofs.YtikfefjaeejeeaaGreatDoor
open Go.RowKit

/-- block, and its cells ('none': an interface that holds something) -/
def glbs : List (Nat × Option (List Value)) := [(3, some [.int .u8 0, .int .u8 1, .int .u8 28, .int .u8 2, .int .u8 29, .int .u8 14, .int .u8 24, .int .u8 3, .int .u8 30, .int .u8 22, .int .u8 20, .int .u8 15, .int .u8 25, .int .u8 17, .int .u8 4, .int .u8 8, .int .u8 31, .int .u8 27, .int .u8 13, .int .u8 23, .int .u8 21, .int .u8 19, .int .u8 16, .int .u8 7, .int .u8 26, .int .u8 12, .int .u8 18, .int .u8 6, .int .u8 11, .int .u8 5, .int .u8 10, .int .u8 9]), (4, some [.int .u8 0, .int .u8 1, .int .u8 56, .int .u8 2, .int .u8 57, .int .u8 49, .int .u8 28, .int .u8 3, .int .u8 61, .int .u8 58, .int .u8 42, .int .u8 50, .int .u8 38, .int .u8 29, .int .u8 17, .int .u8 4, .int .u8 62, .int .u8 47, .int .u8 59, .int .u8 36, .int .u8 45, .int .u8 43, .int .u8 51, .int .u8 22, .int .u8 53, .int .u8 39, .int .u8 33, .int .u8 30, .int .u8 24, .int .u8 18, .int .u8 12, .int .u8 5, .int .u8 63, .int .u8 55, .int .u8 48, .int .u8 27, .int .u8 60, .int .u8 41, .int .u8 37, .int .u8 16, .int .u8 46, .int .u8 35, .int .u8 44, .int .u8 21, .int .u8 52, .int .u8 32, .int .u8 23, .int .u8 11, .int .u8 54, .int .u8 26, .int .u8 40, .int .u8 15, .int .u8 34, .int .u8 20, .int .u8 31, .int .u8 10, .int .u8 25, .int .u8 14, .int .u8 19, .int .u8 9, .int .u8 13, .int .u8 8, .int .u8 7, .int .u8 6]), (0, some [.int .u64 1, .int .u64 10, .int .u64 100, .int .u64 1000, .int .u64 10000, .int .u64 100000, .int .u64 1000000, .int .u64 10000000, .int .u64 100000000, .int .u64 1000000000, .int .u64 10000000000, .int .u64 100000000000, .int .u64 1000000000000, .int .u64 10000000000000, .int .u64 100000000000000, .int .u64 1000000000000000, .int .u64 10000000000000000, .int .u64 100000000000000000, .int .u64 1000000000000000000, .int .u64 10000000000000000000]), (2, none), (1, none)]
def glbOK (w : World) (p : Nat × Option (List Value)) : Prop := match p.2 with
  | some vs => ∃ t q, w.heap[p.1]? = some (.cells vs.toArray t q)
  | none => ∃ t q te a, w.heap[p.1]? = some (.cells #[.iface te a] t q)
def LaidW (B : Nat) (w : World) : Prop := ∀ p ∈ glbs, p.1 < B ∧ glbOK w p
theorem LaidW.below {B B' : Nat} {w w' : World} (h : LaidW B w) (hb : Below B w w') (hB : B ≤ B') : LaidW B' w' := by
  intro p hp
  obtain ⟨h1, h2⟩ := h p hp
  refine ⟨Nat.lt_of_lt_of_le h1 hB, ?_⟩
  unfold glbOK at h2 ⊢
  split
  · rename_i vs hv
    rw [hv] at h2
    simp only at h2
    rw [hb.block p.1 h1]; exact h2
  · rename_i hv
    rw [hv] at h2
    simp only at h2
    rw [hb.block p.1 h1]; exact h2
end Go.Proofs.YtikfefjaeejeeaaGreatDoor
