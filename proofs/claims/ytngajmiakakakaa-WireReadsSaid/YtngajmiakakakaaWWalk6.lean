/- Walks: Block. -/
import Derived.Test.YtngajmiakakakaaWWalk5
namespace Go.Proofs.Ytngajmiakakakaa
open Go.RowKit

/-- what the bytes l are read as a block, of most bytes at most: its bytes, how many bytes in all, the error -/
def blk (l : List Int) (most : Int) : List Int × Nat × Int :=
  if (rdn l).2.2 ≠ 0 then ([], 0, (rdn l).2.2)
  else if max most 0 < (rdn l).1 then ([], 0, 14)
  else if (l.length : Int) - (rdn l).2.1 < (rdn l).1 then ([], 0, 3)
  else ((l.drop (rdn l).2.1).take (rdn l).1.toNat, (rdn l).2.1 + (rdn l).1.toNat, 0)

set_option maxHeartbeats 400000 in
theorem undoB_ok (u : FrameMode) (pc pf pe : Addr) (co : Option Addr) (from_ : Int) (w : World) (hc : w.cell? pc = some (.pointer co)) (hf : w.cell? pf = some (.int .i64 from_)) (he : w.cell? pe = some (.int .i64 0)) :
    CallsD Try.prog 36 #[.pointer (some pc), .pointer (some pf), .pointer (some pe)] u w fun e u' w' => u' = u ∧ (e = .returned (.tuple #[]) ∧ w = w') := by
  cases co
  all_goals
    go_enter_d Try.func36, Try.ntmps36
    go_wp2
    go_end0
    exact ⟨rfl, rfl⟩
set_option maxHeartbeats 400000 in
theorem undoB_nil (u : FrameMode) (pc pf pe : Addr) (v : Value) (w : World) (hc : w.cell? pc = some (.pointer none)) (hf : w.cell? pf = some v) :
    CallsD Try.prog 36 #[.pointer (some pc), .pointer (some pf), .pointer (some pe)] u w fun e u' w' => u' = u ∧ (e = .returned (.tuple #[]) ∧ w = w') := by
  go_enter_d Try.func36, Try.ntmps36
  go_wp2
  go_end0
  exact ⟨rfl, rfl⟩
set_option maxHeartbeats 400000 in
theorem undoB_err (u : FrameMode) (pc pf pe : Addr) (B : Nat) (v1 : Value) (from_ x : Int) (w : World) (hc : w.cell? pc = some (.pointer (some ⟨B, 0, none⟩))) (hf : w.cell? pf = some (.int .i64 from_)) (he : w.cell? pe = some (.int .i64 x)) (hx : (x != 0) = true)
    (h1 : w.cell? ⟨B, 1, none⟩ = some v1) (hz : w.frozen? ⟨B, 1, none⟩ = false) :
    CallsD Try.prog 36 #[.pointer (some pc), .pointer (some pf), .pointer (some pe)] u w fun e u' w' => u' = u ∧ (e = .returned (.tuple #[]) ∧ w' = w.setCell ⟨B, 1, none⟩ (.int .i64 from_)) := by
  go_enter_d Try.func36, Try.ntmps36
  go_wp2
  go_end0
  exact ⟨rfl, rfl⟩


section
variable {R : Ending → World → Prop} {W : World} {pc pf pe : Addr} {v : Value}
set_option maxHeartbeats 400000 in
/-- the end of Block, the place kept -/
theorem blk_door_keep (co : Option Addr) (from_ x : Int) (v : Value) (tmps : Array Value) (h4 : tmps.getD 4 undef = v) (h5 : tmps.getD 5 undef = .pointer (some pe)) (hx : x = 0 ∨ co = none)
    (hc : W.cell? pc = some (.pointer co)) (hf : W.cell? pf = some (.int .i64 from_)) (he : W.cell? pe = some (.int .i64 x)) (hR : R (.returned (.tuple #[v, .int .i64 x])) W) :
    bodyPostD Try.prog Try.f27 R Exit.ret { tmps := tmps, defers := [{ target := .fn (.func 36) #[.pointer (some pc), .pointer (some pf), .pointer (some pe)], args := #[] }] } W := by
  refine leaves_cons (f := 36) (args := #[.pointer (some pc), .pointer (some pf), .pointer (some pe)]) (by simp) (by simp [go_sem]) ?_
  have key : CallsD Try.prog 36 #[.pointer (some pc), .pointer (some pf), .pointer (some pe)] .returning W fun e u' w' => u' = .returning ∧ (e = .returned (.tuple #[]) ∧ W = w') := by
    rcases hx with rfl | rfl
    · exact undoB_ok _ _ _ _ co from_ W hc hf he
    · exact undoB_nil _ _ _ _ _ W hc hf
  refine key.mono ?_
  rintro e u' w'' ⟨rfl, rfl, rfl⟩
  simp only [Array.getD_eq_getD_getElem?] at h4 h5
  simp [Leaves, settle, results, Try.results27, go_sem, he, h4, h5, hR]
set_option maxHeartbeats 400000 in
/-- the end of Block, the place put back -/
theorem blk_door_back (B : Nat) (v1 : Value) (from_ x : Int) (v : Value) (tmps : Array Value) (h4 : tmps.getD 4 undef = v) (h5 : tmps.getD 5 undef = .pointer (some pe)) (hx : (x != 0) = true) (hB : pe.block ≠ B)
    (hc : W.cell? pc = some (.pointer (some ⟨B, 0, none⟩))) (hf : W.cell? pf = some (.int .i64 from_)) (he : W.cell? pe = some (.int .i64 x)) (h1 : W.cell? ⟨B, 1, none⟩ = some v1) (hz : W.frozen? ⟨B, 1, none⟩ = false)
    (hR : R (.returned (.tuple #[v, .int .i64 x])) (W.setCell ⟨B, 1, none⟩ (.int .i64 from_))) :
    bodyPostD Try.prog Try.f27 R Exit.ret { tmps := tmps, defers := [{ target := .fn (.func 36) #[.pointer (some pc), .pointer (some pf), .pointer (some pe)], args := #[] }] } W := by
  refine leaves_cons (f := 36) (args := #[.pointer (some pc), .pointer (some pf), .pointer (some pe)]) (by simp) (by simp [go_sem]) ?_
  refine (undoB_err _ _ _ _ B v1 from_ x W hc hf he hx h1 hz).mono ?_
  rintro e u' w'' ⟨rfl, rfl, rfl⟩
  have he' : (W.setCell ⟨B, 1, none⟩ (.int .i64 from_)).cell? pe = some (.int .i64 x) := (World.cell?_of_block (Below.heap_setCell _ _ _ _ hB)).trans he
  generalize W.setCell ⟨B, 1, none⟩ (.int .i64 from_) = W' at he' hR
  simp only [Array.getD_eq_getD_getElem?] at h4 h5
  simp [Leaves, settle, results, Try.results27, go_sem, he', h4, h5, hR]
end

set_option maxHeartbeats 400000 in
theorem block_nil (n : Int) (w : World) :
    Calls Try.prog 27 #[.pointer none, .int .i64 n] w fun e w' => e = .returned (.tuple #[.slice none 0 0, .int .i64 1]) ∧ Below w.heap.size w w' := by
  have hmf : ∀ (fn : Fn) (first cap : Array Value) (w : World), (Instr.makeFunc fn first cap).run Try.prog w = .ok (.func fn first cap) w := fun _ _ _ _ => rfl
  go_enter_defers Try.func27, Try.ntmps27
  go_wp2_with fail
  refine (at_nil _).mono ?_
  rintro e w' ⟨rfl, rfl⟩
  go_wp2_with fail
  refine (uv_nil _).mono ?_
  rintro e w1 ⟨rfl, hb⟩
  simp at hb
  have c0 : w1.cell? ⟨w.heap.size, 0, none⟩ = some (.pointer none) := (hb.cell (p := ⟨w.heap.size, 0, none⟩) (by simp; omega)).trans (by simp [go_sem])
  have c1 : w1.cell? ⟨w.heap.size + 1, 0, none⟩ = some (.int .i64 0) := (hb.cell (p := ⟨w.heap.size + 1, 0, none⟩) (by simp)).trans (by simp [go_sem])
  have f1 : w1.frozen? ⟨w.heap.size + 1, 0, none⟩ = false := (hb.frozen (p := ⟨w.heap.size + 1, 0, none⟩) (by simp)).trans (by simp [go_sem])
  have c2 : w1.cell? ⟨w.heap.size + 1 + 1, 0, none⟩ = some (.int .i64 0) := (hb.cell (p := ⟨w.heap.size + 1 + 1, 0, none⟩) (by simp)).trans (by simp [go_sem])
  go_wp2_with fail
  go_region
  all_goals
    go_wp2_with fail
    refine blk_door_keep none 0 1 _ _ rfl rfl (.inr rfl) ?_ ?_ ?_ ⟨rfl, ?_⟩
    · rw [World.cell?_of_block (w := w1)]
      · exact c0
      · rw [show ∀ W : World, W.drew.heap = W.heap from fun _ => rfl, Below.heap_setCell _ _ _ _ (by simp), Below.heap_setCell _ _ _ _ (by simp)]
    · rw [World.cell?_of_block (w := w1)]
      · exact c2
      · rw [show ∀ W : World, W.drew.heap = W.heap from fun _ => rfl, Below.heap_setCell _ _ _ _ (by simp), Below.heap_setCell _ _ _ _ (by simp)]
    · simp [go_sem, c1]
    · exact (((((((Below.refl _ w).alloc (Nat.le_refl _) _).alloc (by simp) _).alloc (by simp; omega) _).trans (hb.mono (by omega))).setCell (by simp) _).setCell (by simp) _).drew

theorem Cur.setO {w : World} {B : Nat} {ao : Option Addr} {c : Nat} {l : List Int} {k : Nat} (h : Cur w B ao c l k) (b : Nat) (hb : B ≠ b) (hb' : ∀ ad, ao = some ad → ad.block < b) (u : Value) : Cur (w.setCell ⟨b, 0, none⟩ u) B ao c l k :=
  h.kept (r := some b) (gb_setCell (gb_refl _ _) (.inl rfl) _) (by simpa using hb) (fun ad had => by have := hb' ad had; simp; omega)

/-- where Block stands behind its three variables: what they hold; the cursor -/
structure Bxs (w W : World) (B : Nat) (ao : Option Addr) (c : Nat) (l : List Int) (k k' : Nat) (x : Int) : Prop where
  q0 : W.heap[w.heap.size]? = some (.cells #[.pointer (some ⟨B, 0, none⟩)] 37 (0, 0))
  q1 : W.heap[w.heap.size + 1]? = some (.cells #[.int .i64 x] 26 (0, 0))
  q2 : W.heap[w.heap.size + 1 + 1]? = some (.cells #[.int .i64 k] 3 (0, 0))
  cur : Cur W B ao c l k'
  g : w.grownBy W (some B)
  hB : B < w.heap.size
  had : ∀ ad, ao = some ad → ad.block < w.heap.size
section
variable {w W : World} {B : Nat} {ao : Option Addr} {c : Nat} {l : List Int} {k k' : Nat} {x : Int}
theorem Bxs.set (h : Bxs w W B ao c l k k' x) (y : Int) : Bxs w (W.setCell ⟨w.heap.size + 1, 0, none⟩ (.int .i64 y)) B ao c l k k' y :=
  ⟨(Below.heap_setCell _ _ _ _ (by simp)).trans h.q0, one_setCell h.q1, (Below.heap_setCell _ _ _ _ (by simp)).trans h.q2,
   h.cur.setO _ (by have := h.hB; omega) (fun ad ha => by have := h.had ad ha; omega) _, gb_setCell h.g (.inr (by simp)) _, h.hB, h.had⟩
theorem Bxs.drew (h : Bxs w W B ao c l k k' x) : Bxs w W.drew B ao c l k k' x := ⟨h.q0, h.q1, h.q2, h.cur.drew, gb_drew h.g, h.hB, h.had⟩
theorem Bxs.drewN (h : Bxs w W B ao c l k k' x) (n : Nat) : Bxs w (W.drewN n) B ao c l k k' x := ⟨h.q0, h.q1, h.q2, h.cur.drewN n, gb_drewN h.g n, h.hB, h.had⟩
theorem Bxs.moved {W' : World} {k'' : Nat} (h : Bxs w W B ao c l k k' x) (hg : W.grownBy W' (some B)) (hC : Cur W' B ao c l k'') : Bxs w W' B ao c l k k'' x :=
  have hB := h.hB
  ⟨(hg.block _ (lt_of_block h.q0) (by simp; omega)).trans h.q0, (hg.block _ (lt_of_block h.q1) (by simp; omega)).trans h.q1, (hg.block _ (lt_of_block h.q2) (by simp; omega)).trans h.q2, hC, gb_trans h.g hg, h.hB, h.had⟩
theorem Bxs.fail (h : Bxs w W B ao c l k k' x) (hx : (x != 0) = true) (hk : k ≤ l.length) (tmps : Array Value) (h4 : tmps.getD 4 undef = .slice none 0 0) (h5 : tmps.getD 5 undef = .pointer (some ⟨w.heap.size + 1, 0, none⟩)) :
    bodyPostD Try.prog Try.f27 (fun e w' => ∃ v, e = .returned (.tuple #[v, .int .i64 x]) ∧ Rd w' v 0 (by8 []) 1 ∧ Cur w' B ao c l k ∧ w.grownBy w' (some B)) Exit.ret
      { tmps := tmps, defers := [{ target := .fn (.func 36) #[.pointer (some ⟨w.heap.size, 0, none⟩), .pointer (some ⟨w.heap.size + 1 + 1, 0, none⟩), .pointer (some ⟨w.heap.size + 1, 0, none⟩)], args := #[] }] } W :=
  blk_door_back B (.int .i64 k') k x _ tmps h4 h5 hx (by have := h.hB; simp; omega) (cell_of_one h.q0) (cell_of_one h.q2) (cell_of_one h.q1) h.cur.c1 h.cur.f1
    ⟨_, rfl, rd_nil _ _, h.cur.setAt k hk, gb_setCell h.g (.inl rfl) _⟩
end

theorem take_ok' {w : World} {B : Nat} {ao : Option Addr} {c : Nat} {l : List Int} {k : Nat} (h : Cur w B ao c l k) (r : Int) (h0 : 0 ≤ r) (hn : r ≤ (l.length : Int) - k) :
    Calls Try.prog 22 #[.pointer (some ⟨B, 0, none⟩), .int .i64 r] w fun e w' => ∃ v, e = .returned (.tuple #[v, .int .i64 0]) ∧ w'.ownsRow w.heap.size 5 1 v r.toNat (by8 ((l.drop k).take r.toNat)) ∧ Cur w' B ao c l (k + r.toNat) ∧ w.grownBy w' (some B) := by
  obtain ⟨n, rfl⟩ : ∃ n : Nat, r = n := ⟨r.toNat, by omega⟩
  exact take_ok h n (by omega)
set_option maxHeartbeats 1000000 in
theorem block_any {w : World} {B : Nat} {ao : Option Addr} {c : Nat} {l : List Int} {k : Nat} (h : Cur w B ao c l k) (most : Int) (hm0 : -9223372036854775808 ≤ most) (hm1 : most ≤ 9223372036854775807) (b1 : List Int) (b2 : Nat) (b3 : Int) (hR : blk (l.drop k) most = (b1, b2, b3)) :
    Calls Try.prog 27 #[.pointer (some ⟨B, 0, none⟩), .int .i64 most] w fun e w' => ∃ v, e = .returned (.tuple #[v, .int .i64 b3]) ∧ Rd w' v b1.length (by8 b1) 1 ∧ Cur w' B ao c l (k + b2) ∧ w.grownBy w' (some B) := by
  have hmf : ∀ (fn : Fn) (first cap : Array Value) (w : World), (Instr.makeFunc fn first cap).run Try.prog w = .ok (.func fn first cap) w := fun _ _ _ _ => rfl
  obtain ⟨r1, r2, r3, hrd⟩ : ∃ r1 r2 r3, rdn (l.drop k) = (r1, r2, r3) := ⟨_, _, _, rfl⟩
  have hrr := rdn_rng (l.drop k) (fun x hx => h.rng x (List.mem_of_mem_drop hx))
  rw [hrd] at hrr
  obtain ⟨hr0, hr1⟩ := hrr
  simp only at hr0 hr1
  have HB := Lib.hid hR
  have HR := Lib.hid hrd
  have hB := h.lt
  have hle := h.le
  have hs := h.small
  have hadl := Lib.hid h.adlt
  clear hR hrd
  go_enter_defers Try.func27, Try.ntmps27
  go_wp2_with fail
  refine (at_any ((h.alloc _).alloc _)).mono ?_
  rintro e w' ⟨rfl, rfl⟩
  go_wp2_with fail
  refine (uv_any (((h.alloc _).alloc _).alloc _) r1 r2 r3 HR.out).mono ?_
  rintro e w1 ⟨rfl, hC, hG⟩
  have hG0 : w.grownBy w1 (some B) := gb_trans (gb_alloc (gb_alloc (gb_alloc (gb_refl _ _) _) _) _) hG
  have q0 : w1.heap[w.heap.size]? = some (.cells #[.pointer (some ⟨B, 0, none⟩)] 37 (0, 0)) := by
    rw [hG.block _ (by simp; omega) (by simp; omega), Below.heap_alloc _ _ _ (by simp; omega), Below.heap_alloc _ _ _ (by simp), heap_alloc_new]
  have q1 : w1.heap[w.heap.size + 1]? = some (.cells #[.int .i64 0] 26 (0, 0)) := by
    rw [hG.block _ (by simp) (by simp; omega), Below.heap_alloc _ _ _ (by simp)]
    have := heap_alloc_new (w.alloc (.cells #[.pointer (some ⟨B, 0, none⟩)] 37)) (.cells #[.int .i64 0] 26)
    simpa using this
  have q2 : w1.heap[w.heap.size + 1 + 1]? = some (.cells #[.int .i64 k] 3 (0, 0)) := by
    rw [hG.block _ (by simp) (by simp; omega)]
    have := heap_alloc_new ((w.alloc (.cells #[.pointer (some ⟨B, 0, none⟩)] 37)).alloc (.cells #[.int .i64 0] 26)) (.cells #[.int .i64 k] 3)
    simpa using this
  have c0 := cell_of_one q0
  have c1 := cell_of_one q1
  have f1 := free_of_one q1
  have c2 := cell_of_one q2
  have hX : Bxs w w1 B ao c l k (k + r2) 0 := ⟨q0, q1, q2, hC, hG0, hB, h.adlt⟩
  have HX := Lib.hid hX
  have HLE := Lib.hid hle
  clear hC hG hG0 q0 q1 q2 hX hle hadl h
  by_cases h3 : r3 = 0
  · have hb := HB.out
    unfold blk at hb
    rw [HR.out] at hb
    simp only [h3, ne_eq, not_true, if_false] at hb
    obtain rfl : r3 = 0 := h3
    by_cases hmx : max most 0 < r1
    · rw [if_pos hmx] at hb
      simp only [Prod.mk.injEq] at hb
      obtain ⟨rfl, rfl, rfl⟩ := hb
      clear HB
      go_wp2_with fail
      all_goals first
        | exact ((HX.out.set 0).set 14).fail rfl HLE.out _ rfl rfl
        | (exfalso; omega)
    · rw [if_neg hmx] at hb
      have hr63 : r1 ≤ 9223372036854775807 := by omega
      by_cases hsh : (((l.drop k).length : Nat) : Int) - r2 < r1
      · rw [if_pos hsh] at hb
        simp only [Prod.mk.injEq] at hb
        obtain ⟨rfl, rfl, rfl⟩ := hb
        clear HB
        have hsh' : (l.length : Int) - (k + r2 : Nat) < r1 := by simp at hsh; omega
        clear hsh
        go_wp2_with fail
        all_goals first
          | (exfalso; omega)
          | (refine (take_short (HX.out.set 0).cur r1 hr0 hsh').mono ?_
             rintro e w' ⟨rfl, nq, rfl⟩
             have := cell_of_one ((HX.out.set 0).drewN nq).q1
             have := free_of_one ((HX.out.set 0).drewN nq).q1
             go_wp2_with fail
             exact (((HX.out.set 0).drewN nq).set 3).fail rfl HLE.out _ rfl rfl)
      · rw [if_neg hsh] at hb
        simp only [Prod.mk.injEq] at hb
        obtain ⟨rfl, rfl, rfl⟩ := hb
        clear HB
        have hsh' : r1 ≤ (l.length : Int) - (k + r2 : Nat) := by have := HLE.out; simp at hsh; omega
        have hl : ((l.drop (k + r2)).take r1.toNat).length = r1.toNat := by simp; omega
        have HL := Lib.hid hl
        clear hsh hl
        go_wp2_with fail
        all_goals first
          | (exfalso; omega)
          | (refine (take_ok' (HX.out.set 0).cur r1 hr0 hsh').mono ?_
             rintro e w2 ⟨v, rfl, hown, hC2, hG2⟩
             have hx2 := (HX.out.set 0).moved hG2 hC2
             have hX2 := Lib.hid hx2
             have := cell_of_one hx2.q1
             have := free_of_one hx2.q1
             have HO := Lib.hid hown
             clear hown hC2 hG2 hx2
             go_wp2_with fail
             have hx3 := hX2.out.set 0
             refine blk_door_keep (some ⟨B, 0, none⟩) k 0 v _ rfl rfl (.inl rfl) (cell_of_one hx3.q0) (cell_of_one hx3.q2) (cell_of_one hx3.q1) ⟨v, rfl, ?_, ?_, hx3.g⟩
             · have hr := rd_own HO.out
               rw [List.drop_drop]
               rw [HL.out]
               have hlt := HO.out.lt
               obtain ⟨ao', c', rfl, _, _, hnone, hcl⟩ := hr
               refine ⟨ao', c', rfl, by assumption, by assumption, hnone, fun ad had j u hj => ?_⟩
               refine (World.cell?_of_block (Below.heap_setCell _ _ _ _ ?_)).trans (hcl ad had j u hj)
               have h6 : w1.heap.size ≤ ad.block := by have := (hlt ad.block (by rw [had]; rfl)).1; simpa using this
               have h7 := lt_of_block HX.out.q1
               have h8 : (ad.add j).block = ad.block := by unfold Addr.add; split <;> rfl
               rw [h8]
               show ad.block ≠ w.heap.size + 1
               omega
             · simpa [Nat.add_assoc] using hx3.cur)
  · have e3 : (r3 != 0) = true := by simp [h3]
    have hb := HB.out
    unfold blk at hb
    rw [HR.out] at hb
    simp only [ne_eq, h3, not_false_eq_true, if_true, Prod.mk.injEq] at hb
    obtain ⟨rfl, rfl, rfl⟩ := hb
    clear h3 HB
    go_wp2_with fail
    go_region
    all_goals
      go_wp2_with fail
      exact ((HX.out.set _).set _).drew.fail e3 HLE.out _ rfl rfl
end Go.Proofs.Ytngajmiakakakaa
