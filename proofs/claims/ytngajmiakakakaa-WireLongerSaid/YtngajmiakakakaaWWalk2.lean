/- Walks: the cursor's small methods. -/
import Derived.Test.YtngajmiakakakaaWWalk1
import Derived.Deep.QuietTactic
import Derived.BigQuiet
import Derived.Recover
import Derived.StillTailTactics
namespace Go.Proofs.Ytngajmiakakakaa
open Go.RowKit

section
variable {w : World} {B : Nat} {ao : Option Addr} {c : Nat} {l : List Int} {k : Nat}
theorem Cur.c0 (h : Cur w B ao c l k) : w.cell? ⟨B, 0, none⟩ = some (.slice ao l.length c) := by simp [World.cell?, h.blk]
theorem Cur.c1 (h : Cur w B ao c l k) : w.cell? ⟨B, 1, none⟩ = some (.int .i64 k) := by simp [World.cell?, h.blk]
theorem Cur.f1 (h : Cur w B ao c l k) : w.frozen? ⟨B, 1, none⟩ = false := by simp [World.frozen?, h.blk]
theorem Cur.lt (h : Cur w B ao c l k) : B < w.heap.size := by
  have := h.blk
  rw [Array.getElem?_eq_some_iff] at this
  exact this.1
theorem Cur.moved {w' : World} (h : Cur w B ao c l k) (hg : w.grownBy w' (some B)) (k' : Nat) (hk : k' ≤ l.length) (hb : w'.heap[B]? = some (.cells #[.slice ao l.length c, .int .i64 k'] 57 (0, 0))) : Cur w' B ao c l k' :=
  ⟨hb, hk, h.lc, h.small, h.rng, h.none_, fun ad had => by
    obtain ⟨g, rfl, h1, h2, h3⟩ := h.some_ ad had
    exact ⟨g, rfl, h1, Nat.lt_of_lt_of_le h2 hg.size, fun j u hj => by
      have := h3 j u hj
      rw [← this]
      exact World.cell?_of_block (hg.block g h2 (by simpa using h1))⟩⟩
theorem Cur.kept {w' : World} {r : Option Nat} (h : Cur w B ao c l k) (hg : w.grownBy w' r) (hr : some B ≠ r) (hr' : ∀ ad, ao = some ad → some ad.block ≠ r) : Cur w' B ao c l k :=
  ⟨(hg.block B h.lt hr).trans h.blk, h.le, h.lc, h.small, h.rng, h.none_, fun ad had => by
    obtain ⟨g, rfl, h1, h2, h3⟩ := h.some_ ad had
    exact ⟨g, rfl, h1, Nat.lt_of_lt_of_le h2 hg.size, fun j u hj => by
      rw [← h3 j u hj]
      exact World.cell?_of_block (hg.block g h2 (hr' _ had))⟩⟩
theorem Cur.rd (h : Cur w B ao c l k) : Rd w (.slice ao l.length c) l.length (by8 l) 1 :=
  ⟨ao, c, rfl, h.lc, by simp [by8], h.none_, fun ad had j u hj => by
    obtain ⟨g, rfl, _, _, h3⟩ := h.some_ ad had
    rw [Addr.add_lit, Nat.zero_add]
    exact h3 j u hj⟩
theorem Cur.alloc (h : Cur w B ao c l k) (o : Obj) : Cur (w.alloc o) B ao c l k := h.kept (r := none) (World.grownBy_alloc w o _) (by simp) (by simp)
theorem Cur.drew (h : Cur w B ao c l k) : Cur w.drew B ao c l k := h.kept (r := none) (gb_drew (gb_refl _ _)) (by simp) (by simp)
theorem by8_cut (l : List Int) (i n : Nat) : ((by8 l).drop i).take n = by8 ((l.drop i).take n) := by simp [by8, List.map_drop, List.map_take]
theorem Cur.setAt (h : Cur w B ao c l k) (k' : Nat) (hk : k' ≤ l.length) : Cur (w.setCell ⟨B, 1, none⟩ (.int .i64 k')) B ao c l k' := by
  refine h.moved (gb_setCell (gb_refl _ _) (.inl rfl) _) k' hk ?_
  simp [World.setCell, Array.getElem?_modify, h.blk]
end

set_option maxHeartbeats 400000 in
theorem at_any {w : World} {B : Nat} {ao : Option Addr} {c : Nat} {l : List Int} {k : Nat} (h : Cur w B ao c l k) :
    Calls Try.prog 21 #[.pointer (some ⟨B, 0, none⟩)] w fun e w' => e = .returned (.int .i64 k) ∧ w = w' := by
  have c1 := h.c1
  go_enter Try.func21, Try.ntmps21
  go_wp2
  go_ret
  exact ⟨rfl, rfl⟩
set_option maxHeartbeats 400000 in
theorem at_nil (w : World) :
    Calls Try.prog 21 #[.pointer none] w fun e w' => e = .returned (.int .i64 0) ∧ w = w' := by
  go_enter Try.func21, Try.ntmps21
  go_wp2
  go_ret
  exact ⟨rfl, rfl⟩

set_option maxHeartbeats 400000 in
theorem left_any {w : World} {B : Nat} {ao : Option Addr} {c : Nat} {l : List Int} {k : Nat} (h : Cur w B ao c l k) :
    Calls Try.prog 30 #[.pointer (some ⟨B, 0, none⟩)] w fun e w' => e = .returned (.int .i64 ((l.length : Int) - k)) ∧ ∃ nq, w' = w.drewN nq := by
  have c0 := h.c0
  have c1 := h.c1
  have hle := h.le
  have hs := h.small
  go_enter Try.func30, Try.ntmps30
  go_wp2_with fail
  go_quiet (fail)
  go_wp2
  go_ret
  exact ⟨rfl, nq, rfl⟩
set_option maxHeartbeats 400000 in
theorem left_nil (w : World) :
    Calls Try.prog 30 #[.pointer none] w fun e w' => e = .returned (.int .i64 0) ∧ w = w' := by
  go_enter Try.func30, Try.ntmps30
  go_wp2
  go_ret
  exact ⟨rfl, rfl⟩

set_option maxHeartbeats 400000 in
theorem byte_nil (w : World) :
    Calls Try.prog 23 #[.pointer none] w fun e w' => e = .returned (.tuple #[.int .u8 0, .int .i64 1]) ∧ w = w' := by
  go_enter Try.func23, Try.ntmps23
  go_wp2
  go_ret2
  exact ⟨rfl, rfl⟩

theorem gb_drewN {a w : World} {r : Option Nat} (h : a.grownBy w r) (n : Nat) : a.grownBy (w.drewN n) r := ⟨h.os, h.tape, h.output, h.size, h.block⟩
theorem Cur.drewN {w : World} {B : Nat} {ao : Option Addr} {c : Nat} {l : List Int} {k : Nat} (h : Cur w B ao c l k) (n : Nat) : Cur (w.drewN n) B ao c l k :=
  h.kept (r := none) (gb_drewN (gb_refl _ _) n) (by simp) (by simp)

set_option maxHeartbeats 400000 in
theorem byte_end {w : World} {B : Nat} {ao : Option Addr} {c : Nat} {l : List Int} {k : Nat} (h : Cur w B ao c l k) (hk : k = l.length) :
    Calls Try.prog 23 #[.pointer (some ⟨B, 0, none⟩)] w fun e w' => e = .returned (.tuple #[.int .u8 0, .int .i64 3]) ∧ ∃ nq, w' = w.drewN nq := by
  have c0 := h.c0
  have c1 := h.c1
  have hb : ((k : Int) == (l.length : Int)) = true := beq_iff_eq.2 (by omega)
  clear hk
  go_enter Try.func23, Try.ntmps23
  go_wp2_with fail
  go_quiet (fail)
  go_wp2
  go_ret2
  exact ⟨rfl, nq, rfl⟩

set_option maxHeartbeats 800000 in
theorem byte_ok {w : World} {B : Nat} {ao : Option Addr} {c : Nat} {l : List Int} {k : Nat} (h : Cur w B ao c l k) (hk : k < l.length) :
    Calls Try.prog 23 #[.pointer (some ⟨B, 0, none⟩)] w fun e w' => e = .returned (.tuple #[.int .u8 (l.getD k 0), .int .i64 0]) ∧ Cur w' B ao c l (k + 1) ∧ w.grownBy w' (some B) := by
  obtain ⟨ad, rfl⟩ : ∃ ad, ao = some ad := by
    cases ao with
    | none => have := h.none_ rfl; have := h.lc; omega
    | some ad => exact ⟨ad, rfl⟩
  obtain ⟨g, rfl, hg1, hg2, hg3⟩ := h.some_ ad rfl
  have c0 := h.c0
  have c1 := h.c1
  have f1 := h.f1
  have hle := h.le
  have hs := h.small
  have hlc := h.lc
  have hx : w.cell? ⟨g, k, none⟩ = some (.int .u8 (l.getD k 0)) := hg3 k _ (by simp [by8, List.getElem?_eq_getElem hk, List.getD])
  have hb : ((k : Int) == (l.length : Int)) = false := beq_eq_false_iff_ne.2 (by omega)
  have hx2 : (w.setCell ⟨B, 1, none⟩ (.int .i64 ((k : Int) + 1))).cell? ⟨g, k, none⟩ = some (.int .u8 (l.getD k 0)) := by
    rw [← hx]; exact World.cell?_of_block (Below.heap_setCell _ _ _ _ hg1)
  have HG := Lib.hid hg3
  clear hg3
  obtain ⟨x, hxx⟩ : ∃ x, x = l.getD k 0 := ⟨_, rfl⟩
  rw [← hxx] at hx hx2 ⊢
  clear hxx
  go_enter Try.func23, Try.ntmps23
  go_wp2_with fail
  go_quiet (fail)
  go_wp2_with fail
  go_quiet (fail)
  go_wp2
  go_ret2
  exact ⟨rfl, ((h.drewN _).setAt (k + 1) (by omega)).drewN _, gb_drewN (gb_setCell (gb_drewN (gb_refl _ _) _) (.inl rfl) _) _⟩

set_option maxHeartbeats 400000 in
theorem end_nil (w : World) :
    Calls Try.prog 29 #[.pointer none] w fun e w' => e = .returned (.int .i64 1) ∧ w = w' := by
  go_enter Try.func29, Try.ntmps29
  go_wp2
  go_ret
  exact ⟨rfl, rfl⟩
/-- what End answers -/
def endE (k n : Nat) : Int := if k < n then 5 else 0
set_option maxHeartbeats 400000 in
theorem end_any {w : World} {B : Nat} {ao : Option Addr} {c : Nat} {l : List Int} {k : Nat} (h : Cur w B ao c l k) :
    Calls Try.prog 29 #[.pointer (some ⟨B, 0, none⟩)] w fun e w' => e = .returned (.int .i64 (endE k l.length)) ∧ ∃ nq, w' = w.drewN nq := by
  have hle := h.le
  by_cases hk : k < l.length
  all_goals
    go_enter Try.func29, Try.ntmps29
    go_wp2_with fail
    refine (left_any h).mono ?_
    rintro e w' ⟨rfl, nq, rfl⟩
    go_wp2
    go_ret
    first
    | exact ⟨by unfold endE; rw [if_pos (by assumption)]; rfl, nq, rfl⟩
    | exact ⟨by unfold endE; rw [if_neg (by assumption)]; rfl, nq, rfl⟩

set_option maxHeartbeats 400000 in
theorem take_nil (n : Int) (w : World) :
    Calls Try.prog 22 #[.pointer none, .int .i64 n] w fun e w' => e = .returned (.tuple #[.slice none 0 0, .int .i64 1]) ∧ w = w' := by
  go_enter Try.func22, Try.ntmps22
  go_wp2
  go_ret2
  exact ⟨rfl, rfl⟩
set_option maxHeartbeats 400000 in
theorem take_neg {B : Nat} (n : Int) (w : World) (hn : n < 0) :
    Calls Try.prog 22 #[.pointer (some ⟨B, 0, none⟩), .int .i64 n] w fun e w' => e = .returned (.tuple #[.slice none 0 0, .int .i64 2]) ∧ w = w' := by
  go_enter Try.func22, Try.ntmps22
  go_wp2
  go_ret2
  exact ⟨rfl, rfl⟩
set_option maxHeartbeats 400000 in
theorem take_short {w : World} {B : Nat} {ao : Option Addr} {c : Nat} {l : List Int} {k : Nat} (h : Cur w B ao c l k) (n : Int) (hn : 0 ≤ n) (hn' : (l.length : Int) - k < n) :
    Calls Try.prog 22 #[.pointer (some ⟨B, 0, none⟩), .int .i64 n] w fun e w' => e = .returned (.tuple #[.slice none 0 0, .int .i64 3]) ∧ ∃ nq, w' = w.drewN nq := by
  have hle := h.le
  go_enter Try.func22, Try.ntmps22
  go_wp2_with fail
  refine (left_any h).mono ?_
  rintro e w' ⟨rfl, nq, rfl⟩
  go_wp2
  go_ret2
  exact ⟨rfl, nq, rfl⟩

set_option maxHeartbeats 800000 in
theorem take_ok {w : World} {B : Nat} {ao : Option Addr} {c : Nat} {l : List Int} {k : Nat} (h : Cur w B ao c l k) (n : Nat) (hn : n ≤ l.length - k) :
    Calls Try.prog 22 #[.pointer (some ⟨B, 0, none⟩), .int .i64 n] w fun e w' => ∃ v, e = .returned (.tuple #[v, .int .i64 0]) ∧ w'.ownsRow w.heap.size 5 1 v n (by8 ((l.drop k).take n)) ∧ Cur w' B ao c l (k + n) ∧ w.grownBy w' (some B) := by
  have hle := h.le
  have hs := h.small
  have hlc := h.lc
  have c0 := h.c0
  have c1 := h.c1
  have f1 := h.f1
  have b1 : ¬ ((l.length : Int) - k < n) := by omega
  go_enter Try.func22, Try.ntmps22
  go_wp2_with fail
  refine (left_any h).mono ?_
  rintro e w' ⟨rfl, nq, rfl⟩
  go_wp2_with fail
  refine wp_still_tail 15 (by kernel_rfl) (by kernel_rfl) ?_
  simp only [List.take_succ_cons, List.take_zero, List.drop_succ_cons, List.drop_zero]
  have hw1 : IntKind.i64.wrap (k : Int) = k := IntWalk.i64_in _ (by omega)
  have hw2 : (0 : Int) ≤ (k : Int) + n := by omega
  have hw3 : (k : Int) + n ≤ c := by omega
  have hw4 : (k : Int) ≤ (k : Int) + n := by omega
  have hw5 : ((k : Int) + n).toNat = k + n := by omega
  repeat still_step
  refine wpStill_nil ?_
  clear hw1 hw2 hw3 hw4 hw5
  have hC2 : Cur ((w.drewN nq).setCell ⟨B, 1, none⟩ (.int .i64 ((k : Int) + n))).drew B ao c l (k + n) := ((h.drewN nq).setAt (k + n) (by omega)).drew
  have HC := Lib.hid hC2
  clear hC2
  go_wp2_with fail
  all_goals
    have R := rd_cut HC.out.rd k (k + n) (by omega) (by omega)
    rw [Nat.add_sub_cancel_left, by8_cut] at R
    first
    | rw [if_pos (by assumption), show c - k = 0 from by omega] at R
    | rw [if_neg (by assumption)] at R
    refine (clone_any _ n (by8 ((l.drop k).take n)) _ R (by omega) (by8_one _)).mono ?_
    rintro e w1 ⟨v1, rfl, hown1, hb1⟩
    clear R
    go_wp2
    go_ret2
    exact ⟨_, rfl, by simpa using hown1, HC.out.kept (r := none) (gb_below hb1) (by simp) (by simp), gb_trans (gb_drew (gb_setCell (gb_drewN (gb_refl _ _) _) (.inl rfl) _)) (gb_below hb1)⟩
end Go.Proofs.Ytngajmiakakakaa
