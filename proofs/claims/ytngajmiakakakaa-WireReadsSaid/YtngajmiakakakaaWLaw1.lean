/- Walk of the statement WireNil. -/
import Derived.Test.YtngajmiakakakaaWWalk6
namespace Go.Proofs.Ytngajmiakakakaa
open Go.RowKit

theorem zero_cur (w : World) : Cur (w.alloc (.cells #[.slice none 0 0, .int .i64 0] 57)) w.heap.size none 0 [] 0 :=
  ⟨heap_alloc_new w _, Nat.le_refl _, Nat.le_refl _, Nat.zero_le _, by simp, fun _ => rfl, fun ad h => by cases h⟩

theorem bd {a b : World} {n : Nat} (h : Below (a.drewN n).heap.size (a.drewN n) b) : Below a.heap.size a b := ⟨h.os, h.tape, h.output, h.size, h.block⟩
set_option maxHeartbeats 1000000 in
theorem walk_nil (w : World) (n : Int) (_h0 : -9223372036854775808 ≤ n) (_h1 : n ≤ 9223372036854775807) :
    Calls Try.prog 8 #[.int .i64 n] w fun e w' => e = .returned (.bool true) ∧ Below w.heap.size w w' := by
  go_enter Try.func8, Try.ntmps8
  have z0 := zero_cur w
  have Z0 := Lib.hid z0
  clear z0
  go_wp2_with fail
  refine (byte_nil _).mono ?_
  rintro e w' ⟨rfl, rfl⟩
  go_wp2_with fail
  refine (uv_nil _).mono ?_
  rintro e w1 ⟨rfl, hb1⟩
  go_wp2_with fail
  refine (zig_nil _).mono ?_
  rintro e w2 ⟨rfl, hb2⟩
  go_wp2_with fail
  refine (take_nil n _).mono ?_
  rintro e w' ⟨rfl, rfl⟩
  go_wp2_with fail
  refine (block_nil n _).mono ?_
  rintro e w3 ⟨rfl, hb3⟩
  have hb := bt (bt hb1 hb2) hb3
  have Z3 := Lib.hid (Z0.out.kept (gb_below (r := none) hb) (by simp) (by simp))
  have HB := Lib.hid hb
  clear hb1 hb2 hb3 hb
  go_wp2_with fail
  refine (byte_end Z3.out rfl).mono ?_
  rintro e w' ⟨rfl, nq, rfl⟩
  go_wp2_with fail
  refine (uv_any (Z3.out.drewN nq) 0 0 3 rfl).mono ?_
  rintro e w4 ⟨rfl, hC4, hG4⟩
  have HC := Lib.hid hC4
  have HG := Lib.hid hG4
  clear hC4 hG4
  go_wp2_with fail
  refine (at_nil _).mono ?_
  rintro e w' ⟨rfl, rfl⟩
  go_wp2_with fail
  refine (left_nil _).mono ?_
  rintro e w' ⟨rfl, rfl⟩
  go_wp2_with fail
  refine (end_nil _).mono ?_
  rintro e w' ⟨rfl, rfl⟩
  go_wp2_with fail
  refine (end_any HC.out).mono ?_
  rintro e w' ⟨rfl, nq4, rfl⟩
  rw [show endE (0 + 0) ([] : List Int).length = 0 from rfl]
  go_wp2_with fail
  refine (known_any _).mono ?_
  rintro e w5 ⟨rfl, hb5⟩
  go_wp2
  go_ret
  have h3 : Below w.heap.size w w3 := bt (ba _ _) HB.out
  have hz3 : w.heap.size + 1 ≤ w3.heap.size := by have := HB.out.size; simpa using this
  have h4 : Below w.heap.size w w4 := below_of_gb h3 (gb_trans (gb_drewN (gb_refl _ _) nq) HG.out) (by omega) (Nat.le_refl _)
  exact ⟨rfl, bt h4 (bd hb5)⟩

end Go.Proofs.Ytngajmiakakakaa
