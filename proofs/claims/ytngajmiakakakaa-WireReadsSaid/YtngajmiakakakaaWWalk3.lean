/- Walks: what is put back by the deferred functions; Uvarint. -/
import Derived.Test.YtngajmiakakakaaWWalk2
import Derived.Defers
namespace Go.Proofs.Ytngajmiakakakaa
open Go.RowKit

set_option maxHeartbeats 400000 in
theorem undo_ok (u : FrameMode) (pc pf pe : Addr) (co : Option Addr) (from_ : Int) (w : World) (hc : w.cell? pc = some (.pointer co)) (hf : w.cell? pf = some (.int .i64 from_)) (he : w.cell? pe = some (.int .i64 0)) :
    CallsD Try.prog 34 #[.pointer (some pc), .pointer (some pf), .pointer (some pe)] u w fun e u' w' => u' = u ∧ (e = .returned (.tuple #[]) ∧ w = w') := by
  cases co
  all_goals
    go_enter_d Try.func34, Try.ntmps34
    go_wp2
    go_end0
    exact ⟨rfl, rfl⟩
set_option maxHeartbeats 400000 in
theorem undo_nil (u : FrameMode) (pc pf pe : Addr) (v : Value) (w : World) (hc : w.cell? pc = some (.pointer none)) (hf : w.cell? pf = some v) :
    CallsD Try.prog 34 #[.pointer (some pc), .pointer (some pf), .pointer (some pe)] u w fun e u' w' => u' = u ∧ (e = .returned (.tuple #[]) ∧ w = w') := by
  go_enter_d Try.func34, Try.ntmps34
  go_wp2
  go_end0
  exact ⟨rfl, rfl⟩
set_option maxHeartbeats 400000 in
theorem undo_err (u : FrameMode) (pc pf pe : Addr) (B : Nat) (v1 : Value) (from_ x : Int) (w : World) (hc : w.cell? pc = some (.pointer (some ⟨B, 0, none⟩))) (hf : w.cell? pf = some (.int .i64 from_)) (he : w.cell? pe = some (.int .i64 x)) (hx : (x != 0) = true)
    (h1 : w.cell? ⟨B, 1, none⟩ = some v1) (hz : w.frozen? ⟨B, 1, none⟩ = false) :
    CallsD Try.prog 34 #[.pointer (some pc), .pointer (some pf), .pointer (some pe)] u w fun e u' w' => u' = u ∧ (e = .returned (.tuple #[]) ∧ w' = w.setCell ⟨B, 1, none⟩ (.int .i64 from_)) := by
  go_enter_d Try.func34, Try.ntmps34
  go_wp2
  go_end0
  exact ⟨rfl, rfl⟩

section
variable {w wr : World} {B : Nat} {ao : Option Addr} {c : Nat} {l : List Int} {k k' : Nat}
/-- behind a failed read: the place is put back -/
theorem undone (hB : B < w.heap.size) (hC : Cur wr B ao c l k') (hle : k ≤ l.length) (hG : w.grownBy wr (some B)) (x : Int) (b : Nat) (hb : w.heap.size ≤ b) (hb' : ∀ ad, ao = some ad → ad.block < w.heap.size) (_hC0 : Cur w B ao c l k) :
    Cur ((wr.setCell ⟨b, 0, none⟩ (.int .i64 x)).setCell ⟨B, 1, none⟩ (.int .i64 k)) B ao c l k ∧ w.grownBy ((wr.setCell ⟨b, 0, none⟩ (.int .i64 x)).setCell ⟨B, 1, none⟩ (.int .i64 k)) (some B) := by
  have h1 : Cur (wr.setCell ⟨b, 0, none⟩ (.int .i64 x)) B ao c l k' := by
    refine hC.kept (r := some b) (gb_setCell (gb_refl _ _) (.inl rfl) _) (by simp; omega) ?_
    intro ad had
    have := hb' ad had
    simp; omega
  exact ⟨h1.setAt k hle, gb_setCell (gb_setCell hG (.inr hb) _) (.inl rfl) _⟩
theorem Cur.adlt (h : Cur w B ao c l k) : ∀ ad, ao = some ad → ad.block < w.heap.size := by
  intro ad had
  obtain ⟨g, rfl, _, h2, _⟩ := h.some_ ad had
  exact h2

set_option maxHeartbeats 400000 in
theorem uv_door_err (hC0 : Cur w B ao c l k) (hC : Cur wr B ao c l k') (hG : w.grownBy wr (some B))
    (hb0 : wr.heap[w.heap.size]? = some (.cells #[.pointer (some ⟨B, 0, none⟩)] 37 (0, 0))) (hb1 : wr.heap[w.heap.size + 1]? = some (.cells #[.int .i64 0] 26 (0, 0))) (hb2 : wr.heap[w.heap.size + 1 + 1]? = some (.cells #[.int .i64 k] 3 (0, 0)))
    (x : Int) (hx : (x != 0) = true) (tmps : Array Value) (h2 : tmps.getD 2 undef = .int .u64 0) (h3 : tmps.getD 3 undef = .pointer (some ⟨w.heap.size + 1, 0, none⟩)) :
    bodyPostD Try.prog Try.f24 (fun e w' => e = .returned (.tuple #[.int .u64 0, .int .i64 x]) ∧ Cur w' B ao c l (k + 0) ∧ w.grownBy w' (some B)) Exit.ret
      { tmps := tmps, defers := [{ target := .fn (.func 34) #[.pointer (some ⟨w.heap.size, 0, none⟩), .pointer (some ⟨w.heap.size + 1 + 1, 0, none⟩), .pointer (some ⟨w.heap.size + 1, 0, none⟩)], args := #[] }] } (wr.setCell ⟨w.heap.size + 1, 0, none⟩ (.int .i64 x)) := by
  have hB := hC0.lt
  have hu := undone hB hC hC0.le hG x (w.heap.size + 1) (by omega) hC0.adlt hC0
  refine leaves_cons (f := 34) (args := #[.pointer (some ⟨w.heap.size, 0, none⟩), .pointer (some ⟨w.heap.size + 1 + 1, 0, none⟩), .pointer (some ⟨w.heap.size + 1, 0, none⟩)]) (by simp) (by simp [go_sem]) ?_
  refine (undo_err _ _ _ _ B (.int .i64 k') k x _ ?_ ?_ (cell_of_one (one_setCell hb1)) hx ?_ ?_).mono ?_
  · exact (World.cell?_of_block (Below.heap_setCell _ _ _ _ (by simp))).trans (cell_of_one hb0)
  · exact (World.cell?_of_block (Below.heap_setCell _ _ _ _ (by simp))).trans (cell_of_one hb2)
  · exact (World.cell?_of_block (Below.heap_setCell _ _ _ _ (by simp; omega))).trans hC.c1
  · exact (World.frozen?_of_block (Below.heap_setCell _ _ _ _ (by simp; omega))).trans hC.f1
  rintro e u' w'' ⟨rfl, rfl, rfl⟩
  have he : ((wr.setCell ⟨w.heap.size + 1, 0, none⟩ (.int .i64 x)).setCell ⟨B, 1, none⟩ (.int .i64 k)).cell? ⟨w.heap.size + 1, 0, none⟩ = some (.int .i64 x) :=
    (World.cell?_of_block (Below.heap_setCell _ _ _ _ (by simp; omega))).trans (cell_of_one (one_setCell hb1))
  generalize (wr.setCell ⟨w.heap.size + 1, 0, none⟩ (.int .i64 x)).setCell ⟨B, 1, none⟩ (.int .i64 k) = W at he hu
  simp only [Array.getD_eq_getD_getElem?] at h2 h3
  simp [Leaves, settle, results, Try.results24, go_sem, he, h2, h3, hu.1, hu.2]

set_option maxHeartbeats 400000 in
theorem uv_door_ok (hC : Cur wr B ao c l k') (hG : w.grownBy wr (some B))
    (hb0 : wr.heap[w.heap.size]? = some (.cells #[.pointer (some ⟨B, 0, none⟩)] 37 (0, 0))) (hb1 : wr.heap[w.heap.size + 1]? = some (.cells #[.int .i64 0] 26 (0, 0))) (hb2 : wr.heap[w.heap.size + 1 + 1]? = some (.cells #[.int .i64 k] 3 (0, 0)))
    (y : Int) (tmps : Array Value) (h2 : tmps.getD 2 undef = .int .u64 y) (h3 : tmps.getD 3 undef = .pointer (some ⟨w.heap.size + 1, 0, none⟩)) :
    bodyPostD Try.prog Try.f24 (fun e w' => e = .returned (.tuple #[.int .u64 y, .int .i64 0]) ∧ Cur w' B ao c l k' ∧ w.grownBy w' (some B)) Exit.ret
      { tmps := tmps, defers := [{ target := .fn (.func 34) #[.pointer (some ⟨w.heap.size, 0, none⟩), .pointer (some ⟨w.heap.size + 1 + 1, 0, none⟩), .pointer (some ⟨w.heap.size + 1, 0, none⟩)], args := #[] }] } wr := by
  refine leaves_cons (f := 34) (args := #[.pointer (some ⟨w.heap.size, 0, none⟩), .pointer (some ⟨w.heap.size + 1 + 1, 0, none⟩), .pointer (some ⟨w.heap.size + 1, 0, none⟩)]) (by simp) (by simp [go_sem]) ?_
  refine (undo_ok _ _ _ _ _ k _ (cell_of_one hb0) (cell_of_one hb2) (cell_of_one hb1)).mono ?_
  rintro e u' w'' ⟨rfl, rfl, rfl⟩
  have he := cell_of_one hb1
  simp only [Array.getD_eq_getD_getElem?] at h2 h3
  simp [Leaves, settle, results, Try.results24, go_sem, he, h2, h3, hC, hG]
end

set_option maxHeartbeats 1000000 in
theorem uv_any {w : World} {B : Nat} {ao : Option Addr} {c : Nat} {l : List Int} {k : Nat} (h : Cur w B ao c l k) (r1 : Int) (r2 : Nat) (r3 : Int) (hR : rdn (l.drop k) = (r1, r2, r3)) :
    Calls Try.prog 24 #[.pointer (some ⟨B, 0, none⟩)] w fun e w' => e = .returned (.tuple #[.int .u64 r1, .int .i64 r3]) ∧ Cur w' B ao c l (k + r2) ∧ w.grownBy w' (some B) := by
  have HR := Lib.hid hR
  clear hR
  have hmf : ∀ (fn : Fn) (first cap : Array Value) (w : World), (Instr.makeFunc fn first cap).run Try.prog w = .ok (.func fn first cap) w := fun _ _ _ _ => rfl
  go_enter_defers Try.func24, Try.ntmps24
  go_wp2_with fail
  go_step3
  go_wp2_with fail
  refine (at_any ((h.alloc _).alloc _)).mono ?_
  rintro e w' ⟨rfl, rfl⟩
  go_wp2_with fail
  go_step3
  go_wp2_with fail
  have hB := h.lt
  have hle := h.le
  have hs := h.small
  go_loopw [2, 11] (fun n x wr => ∃ (i : Nat) (acc : Int), x = .int .i64 i ∧ i ≤ 10 ∧ n = .int .u64 acc ∧ (i ≤ 9 → 0 ≤ acc ∧ acc < 128 ^ i) ∧ k + i ≤ l.length ∧ uv (10 - i) i (l.drop (k + i)) acc = (r1, r2, r3) ∧ Cur wr B ao c l (k + i) ∧ w.grownBy wr (some B) ∧
      wr.heap[w.heap.size]? = some (.cells #[.pointer (some ⟨B, 0, none⟩)] 37 (0, 0)) ∧ wr.heap[w.heap.size + 1]? = some (.cells #[.int .i64 0] 26 (0, 0)) ∧ wr.heap[w.heap.size + 1 + 1]? = some (.cells #[.int .i64 k] 3 (0, 0)))
    (fun _ x _ => 10 - (intOf x).toNat)
  case atStart =>
    refine ⟨0, 0, rfl, by omega, rfl, fun _ => by simp, by omega, HR.out, ((h.alloc _).alloc _).alloc _, gb_alloc (gb_alloc (gb_alloc (gb_refl _ _) _) _) _, ?_, ?_, ?_⟩
    · rw [Below.heap_alloc _ _ _ (by simp; omega), Below.heap_alloc _ _ _ (by simp), heap_alloc_new]
    · rw [Below.heap_alloc _ _ _ (by simp)]
      have := heap_alloc_new (w.alloc (.cells #[.pointer (some ⟨B, 0, none⟩)] 37)) (.cells #[.int .i64 0] 26)
      simpa using this
    · have := heap_alloc_new ((w.alloc (.cells #[.pointer (some ⟨B, 0, none⟩)] 37)).alloc (.cells #[.int .i64 0] 26)) (.cells #[.int .i64 k] 3)
      simpa using this
  case round =>
    obtain ⟨i, acc, rfl, hi, rfl, hacc, hki, huv, hC, hG, hb0, hb1, hb2⟩ := hrel
    have HU := Lib.hid huv
    have HC := Lib.hid hC
    have HG := Lib.hid hG
    have HA := Lib.hid hacc
    clear huv hC hG hacc
    have cc := cell_of_one hb0
    have ce := cell_of_one hb1
    have cf := cell_of_one hb2
    have fe := free_of_one hb1
    have HB0 := Lib.hid hb0
    have HB1 := Lib.hid hb1
    have HB2 := Lib.hid hb2
    clear hb0 hb1 hb2
    by_cases hi10 : i = 10
    · subst hi10
      have hu := HU.out
      simp [uv] at hu
      obtain ⟨rfl, rfl, rfl⟩ := hu
      go_wp2_with fail
      rw [Exit.noGoto_ret]
      exact uv_door_err h HC.out HG.out HB0.out HB1.out HB2.out 4 rfl _ rfl rfl
    · by_cases hend : k + i = l.length
      · have hu := HU.out
        rw [show 10 - i = (9 - i) + 1 from by omega, List.drop_of_length_le (by omega)] at hu
        simp [uv] at hu
        obtain ⟨rfl, rfl, rfl⟩ := hu
        have hi10' : i < 10 := by omega
        clear hi10
        go_wp2_with fail
        refine (byte_end HC.out hend).mono ?_
        rintro e w' ⟨rfl, nq, rfl⟩
        go_wp2_with fail
        rw [Exit.noGoto_ret]
        exact uv_door_err h (HC.out.drewN nq) (gb_drewN HG.out nq) HB0.out HB1.out HB2.out 3 rfl _ rfl rfl
      · have hlt : k + i < l.length := by omega
        have hi10' : i < 10 := by omega
        clear hi10 hend
        obtain ⟨x, hx⟩ : ∃ x, x = l.getD (k + i) 0 := ⟨_, rfl⟩
        have hbt := byte_ok HC.out hlt
        rw [← hx] at hbt
        have hxr : 0 ≤ x ∧ x < 256 := h.rng x (by rw [hx]; simp [List.getD, List.getElem?_eq_getElem hlt])
        have hdrop : l.drop (k + i) = x :: l.drop (k + (i + 1)) := by
          rw [List.drop_eq_getElem_cons hlt, hx]
          simp [List.getD, List.getElem?_eq_getElem hlt, Nat.add_assoc]
        have hu := HU.out
        rw [show 10 - i = (9 - i) + 1 from by omega, hdrop] at hu
        simp only [uv] at hu
        obtain ⟨hx0, hx1⟩ := hxr
        have HBT := Lib.hid hbt
        have hsz := HG.out.size
        clear hbt hx hdrop HU ce cf fe
        by_cases hbig : 128 ≤ x
        · rw [if_pos hbig] at hu
          have HU := Lib.hid hu
          clear hu
          go_wp2_with fail
          refine HBT.out.mono ?_
          rintro e w2 ⟨rfl, hC2, hG2⟩
          have hb0 := (hG2.block _ (lt_of_block HB0.out) (by simp; omega)).trans HB0.out
          have hb1 := (hG2.block _ (lt_of_block HB1.out) (by simp; omega)).trans HB1.out
          have hb2 := (hG2.block _ (lt_of_block HB2.out) (by simp; omega)).trans HB2.out
          have hGG := gb_trans HG.out hG2
          have K1 := Lib.hid hb0
          have K2 := Lib.hid hb1
          have K3 := Lib.hid hb2
          have K4 := Lib.hid hGG
          have K5 := Lib.hid hC2
          clear hb0 hb1 hb2 hGG hC2 hG2
          go_wp2_with fail
          go_roundw
          case rel =>
            have hl9 : (10 : Nat) - (i + 1) = 9 - i := by omega
            by_cases h9 : i ≤ 8
            · have ha := HA.out (by omega)
              refine ⟨i + 1, acc + (x - 128) * 128 ^ i, by go_num, by omega, ?_, fun _ => ?_, by omega, by rw [hl9]; exact HU.out, K5.out, K4.out, K1.out, K2.out, K3.out⟩
              · rw [and127 x (by omega) hx1, show x % 128 = x - 128 from by omega, ors i acc (x - 128) ha.1 ha.2 (by omega) (by omega) (.inl h9)]
              · have hp : (0 : Int) < 128 ^ i := Int.pow_pos (by decide)
                have hm : (x - 128) * 128 ^ i ≤ 127 * 128 ^ i := Int.mul_le_mul_of_nonneg_right (by omega) (by omega)
                have hm0 : (0 : Int) ≤ (x - 128) * 128 ^ i := Int.mul_nonneg (by omega) (by omega)
                rw [Int.pow_succ]
                omega
            · obtain rfl : i = 9 := by omega
              have hu := HU.out
              refine ⟨9 + 1, _, by go_num, by omega, rfl, fun h => by omega, by omega, ?_, K5.out, K4.out, K1.out, K2.out, K3.out⟩
              simp only [Nat.sub_self, uv] at hu ⊢
              exact hu
          case measure => simp [intOf]; omega
        · rw [if_neg hbig] at hu
          have hnb : x < 128 := by omega
          by_cases hbad : (x = 0 ∧ 0 < i) ∨ (1 < x ∧ i = 9)
          · rw [if_pos hbad] at hu
            simp at hu
            obtain ⟨rfl, rfl, rfl⟩ := hu
            rcases hbad with ⟨rfl, hi0⟩ | ⟨h1x, rfl⟩
            all_goals
              go_wp2_with fail
              refine HBT.out.mono ?_
              rintro e w2 ⟨rfl, hC2, hG2⟩
              have hb0 := (hG2.block _ (lt_of_block HB0.out) (by simp; omega)).trans HB0.out
              have hb1 := (hG2.block _ (lt_of_block HB1.out) (by simp; omega)).trans HB1.out
              have hb2 := (hG2.block _ (lt_of_block HB2.out) (by simp; omega)).trans HB2.out
              have hGG := gb_trans HG.out hG2
              have K1 := Lib.hid hb0
              have K2 := Lib.hid hb1
              have K3 := Lib.hid hb2
              have K4 := Lib.hid hGG
              have K5 := Lib.hid hC2
              have ce := cell_of_one hb1
              have fe := free_of_one hb1
              clear hb0 hb1 hb2 hGG hC2 hG2
              go_wp2_with fail
              rw [Exit.noGoto_ret]
              exact uv_door_err h K5.out K4.out K1.out K2.out K3.out 4 rfl _ rfl rfl
          · rw [if_neg hbad] at hu
            simp at hu
            obtain ⟨rfl, rfl, rfl⟩ := hu
            have hA := HA.out
            have hors : bits .or .u64 acc (IntKind.u64.wrap (IntKind.u64.wrap x * 2 ^ (7 * i))) = acc + x * 128 ^ i := by
              have ha := hA (by omega)
              exact ors i acc x ha.1 ha.2 (by omega) hnb (by omega)
            have hwx : IntKind.u64.wrap x = x := IntWalk.u64_in x ⟨hx0, by omega⟩
            rw [hwx] at hors
            have hors0 : i = 0 → bits .or .u64 acc x = acc + x * 128 ^ i := by
              rintro rfl
              rw [show IntKind.u64.wrap (x * 2 ^ (7 * 0)) = x from by simpa using hwx] at hors
              exact hors
            have HO := Lib.hid hors
            have HO0 := Lib.hid hors0
            have HR' := Lib.hid HR.out
            have HH := Lib.hid h
            clear hors hors0 hwx HA HR hA h
            have h3 : (x = 0 ∧ i = 0) ∨ x = 1 ∨ (1 < x ∧ i < 9) := by omega
            have h4 : ((x == 0) = true ∧ ¬ 1 < x ∧ i ≤ 0) ∨ ((x == 0) = false ∧ ¬ 1 < x ∧ i ≤ 9) ∨ ((x == 0) = false ∧ 1 < x ∧ ((i : Int) == 9) = false) := by
              rcases h3 with ⟨rfl, rfl⟩ | rfl | ⟨h1x, h9⟩
              · exact .inl ⟨rfl, by omega, by omega⟩
              · exact .inr (.inl ⟨rfl, by omega, by omega⟩)
              · exact .inr (.inr ⟨beq_eq_false_iff_ne.2 (by omega), h1x, beq_eq_false_iff_ne.2 (by omega)⟩)
            clear hbad hbig h3
            rcases h4 with ⟨t1, t2, t3⟩ | ⟨t1, t2, t3⟩ | ⟨t1, t2, t3⟩
            all_goals
              go_wp2_with fail
              refine HBT.out.mono ?_
              rintro e w2 ⟨rfl, hC2, hG2⟩
              have hb0 := (hG2.block _ (lt_of_block HB0.out) (by simp; omega)).trans HB0.out
              have hb1 := (hG2.block _ (lt_of_block HB1.out) (by simp; omega)).trans HB1.out
              have hb2 := (hG2.block _ (lt_of_block HB2.out) (by simp; omega)).trans HB2.out
              have hGG := gb_trans HG.out hG2
              have K1 := Lib.hid hb0
              have K2 := Lib.hid hb1
              have K3 := Lib.hid hb2
              have K4 := Lib.hid hGG
              have K5 := Lib.hid hC2
              have ce := cell_of_one hb1
              have fe := free_of_one hb1
              clear hb0 hb1 hb2 hGG hC2 hG2
              go_wp2_with fail
              try rw [Exit.noGoto_ret]
              have hC5 := K5.out.kept (r := some (w.heap.size + 1)) (gb_setCell (p := ⟨w.heap.size + 1, 0, none⟩) (gb_refl _ _) (.inl rfl) (.int .i64 0)) (by simp; omega) (by intro ad had; have := HH.out.adlt ad had; simp; omega)
              refine uv_door_ok (k := k) hC5 (gb_setCell K4.out (.inr (by simp)) _) ?_ (one_setCell K2.out) ?_ _ _ ?_ rfl
              · exact (Below.heap_setCell _ _ _ _ (by simp)).trans K1.out
              · exact (Below.heap_setCell _ _ _ _ (by simp)).trans K3.out
              · first
                | exact congrArg (Value.int .u64) HO.out
                | exact congrArg (Value.int .u64) (HO0.out (by omega))
end Go.Proofs.Ytngajmiakakakaa
