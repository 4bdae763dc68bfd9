/- Walks: slices.Clone at bytes, PutUvarint, PutZigzag, PutBlock, New. -/
import Derived.Test.YtngajmiakakakaaWBase
import Derived.Test.YtngajmiakakakaaWMath
namespace Go.Proofs.Ytngajmiakakakaa
open Go.RowKit

theorem sT_u8 : SliceT Try.prog 23 5 1 1 := sliceT_of (z := .int .u8 0) Try.underlying23 (by kernel_rfl) rfl (by decide)

def by8 (l : List Int) : List Value := l.map (Value.int .u8)
theorem by8_len (l : List Int) : (by8 l).length = l.length := by simp [by8]
theorem by8_app (a b : List Int) : by8 (a ++ b) = by8 a ++ by8 b := by simp [by8]
theorem by8_one (l : List Int) : ∀ u ∈ by8 l, u.oneCell' = true := by
  intro u hu; simp [by8] at hu; obtain ⟨x, _, rfl⟩ := hu; rfl

set_option maxHeartbeats 400000 in
theorem clone_any (v : Value) (n : Nat) (cs : List Value) (w : World) (h : Rd w v n cs 1) (hb : n ≤ 140737488355328) (h1 : ∀ u ∈ cs, u.oneCell' = true) :
    Calls Try.prog 31 #[v] w fun e w' => ∃ v', e = .returned v' ∧ w'.ownsRow w.heap.size 5 1 v' n cs ∧ Below w.heap.size w w' := by
  have q : ∀ (w : World) (a : Option Addr) (n c n' c' : Nat), (binOp .eql 23 (.slice a n c) (.slice none n' c')).run Try.prog w = .ok (.bool a.isNone) w := fun w a n c n' c' => Lib.run_eql_slice_nil w _ _ a n c n' c' Try.underlying23
  obtain ⟨ao, c, rfl, hnc, hlen, hnone, hcells⟩ := h
  cases ao with
  | none =>
    obtain rfl : c = 0 := hnone rfl
    obtain rfl : n = 0 := by omega
    obtain rfl : cs = [] := List.eq_nil_of_length_eq_zero (by simpa using hlen)
    clear hcells hnone h1
    go_enter Try.func31, Try.ntmps31
    go_wp2
    go_ret
    exact ⟨_, rfl, World.ownsRow_nil _ _ _ _, Below.refl _ _⟩
  | some ad =>
    have A := Lib.hid (hcells ad rfl)
    have B := Lib.hid h1
    have L := Lib.hid hlen
    clear hcells hnone h1 hlen
    go_enter Try.func31, Try.ntmps31
    have hR : Rd w (.slice (some ad) n c) n cs 1 := ⟨_, _, rfl, hnc, L.out, fun h => by simp at h, fun a ha => by cases ha; exact A.out⟩
    have HR := Lib.hid hR
    clear hR
    go_wp2_with (at_builtin; refine wpList_append_slice rfl _ _ 23 5 1 1 sT_u8 rfl w.heap.size _ 0 [] rfl (World.ownsRow_made _ #[] 0 (Nat.le_refl _) (Nat.zero_le _) rfl) _ n cs rfl (rd_kept HR.out (fun a u h => Lib.cell?_alloc_some _ h)) B.out ?qc4 ?qc5 ?qc6 ?_)
    case qc4 => unfold maxLen; omega
    case qc5 => omega
    case qc6 => simp
    intro v' w1 hown hb1 _
    go_wp2
    go_ret
    exact ⟨v', rfl, by simpa using hown, ((Below.refl _ w).alloc (Nat.le_refl _) _).trans hb1⟩

set_option maxHeartbeats 1000000 in
theorem put_any (v : Value) (n : Nat) (cs : List Value) (k : Nat) (w : World) (h : Rd w v n cs 1) (hb : n + 10 ≤ 140737488355328) (h1 : ∀ u ∈ cs, u.oneCell' = true) (hk : k < 18446744073709551616) :
    Calls Try.prog 10 #[v, .int .u64 k] w fun e w' => ∃ v', e = .returned v' ∧ w'.ownsRow w.heap.size 5 1 v' (n + (enc k).length) (cs ++ by8 (enc k)) ∧ Below w.heap.size w w' := by
  have hl10 := enc_len64 hk
  have H1 := Lib.hid h1
  have HR := Lib.hid h
  clear h1 h
  go_enter Try.func10, Try.ntmps10
  go_wp2_with fail
  refine (clone_any v n cs _ HR.out (by omega) H1.out).mono ?_
  rintro e w1 ⟨v1, rfl, hown1, hb1⟩
  go_wp2_with fail
  have hsz := hb1.size
  go_loopw [1, 5] (fun x u wr => ∃ (m : Nat) (pre : List Int), x = .int .u64 m ∧ m < 18446744073709551616 ∧ pre ++ enc m = enc k ∧ wr.ownsRow w.heap.size 5 1 u (n + pre.length) (cs ++ by8 pre) ∧ Below w.heap.size w wr)
    (fun x _ _ => (intOf x).toNat)
  case atStart => exact ⟨k, [], rfl, hk, rfl, by simpa [by8] using hown1, hb1⟩
  case round =>
    obtain ⟨m, pre, rfl, hm, hpre, hown, hb⟩ := hrel
    have HP := Lib.hid hpre
    have hpl : pre.length + (enc m).length ≤ 10 := by have := congrArg List.length hpre; simp at this; omega
    have hep := enc_pos m
    clear hpre
    have hszr := hb.size
    by_cases hlt : m < 128
    · have hge : ¬ (128 ≤ (m : Int)) := by omega
      go_wp2_with (at_builtin; refine wpList_append_elem rfl _ _ 23 5 1 1 sT_u8 rfl w.heap.size _ _ _ rfl hown rfl rfl (by simp [Value.oneCell']) (by unfold maxLen; omega) (by omega) (by omega) ?_)
      intro v' w2 hown2 hb2 _ _
      go_wp2
      go_ret
      have hp2 := HP.out
      rw [enc_small hlt] at hp2
      have hmm : (m : Int) % 256 = m := by omega
      have hl : (enc k).length = pre.length + 1 := by rw [← hp2]; simp
      refine ⟨v', rfl, ?_, hb.trans hb2⟩
      rw [← hp2, by8_app]
      simpa [by8, hmm, Nat.add_assoc] using hown2
    · have hge : 128 ≤ (m : Int) := by omega
      go_wp2_with (at_builtin; refine wpList_append_elem rfl _ _ 23 5 1 1 sT_u8 rfl w.heap.size _ _ _ rfl hown rfl rfl (by simp [Value.oneCell']) (by unfold maxLen; omega) (by omega) (by omega) ?_)
      intro v' w2 hown2 hb2 _ _
      go_wp2
      go_roundw
      case rel => 
        rw [or128] at hown2
        have hp2 := HP.out
        rw [enc_big hlt] at hp2
        exact ⟨m / 128, pre ++ [((m % 128 + 128 : Nat) : Int)], by congr 1, by omega, by simpa using hp2, by simpa [by8, Nat.add_assoc] using hown2, hb.trans hb2⟩
      case measure => simp [intOf]; omega

set_option maxHeartbeats 400000 in
theorem putz_any (v : Value) (n : Nat) (cs : List Value) (k : Int) (w : World) (h : Rd w v n cs 1) (hb : n + 10 ≤ 140737488355328) (h1 : ∀ u ∈ cs, u.oneCell' = true) (hk0 : -9223372036854775808 ≤ k) (hk1 : k ≤ 9223372036854775807) :
    Calls Try.prog 14 #[v, .int .i64 k] w fun e w' => ∃ v', e = .returned v' ∧ w'.ownsRow w.heap.size 5 1 v' (n + (enc (zz k)).length) (cs ++ by8 (enc (zz k))) ∧ Below w.heap.size w w' := by
  have H1 := Lib.hid h1
  have HR := Lib.hid h
  clear h1 h
  go_enter Try.func14, Try.ntmps14
  go_wp2_with fail
  rw [zig hk0 hk1]
  refine (put_any v n cs (zz k) _ HR.out (by omega) H1.out (zz_lt hk0 hk1)).mono ?_
  rintro e w1 ⟨v1, rfl, hown1, hb1⟩
  go_wp2
  go_ret
  exact ⟨_, rfl, hown1, hb1⟩

set_option maxHeartbeats 400000 in
theorem putb_any (v : Value) (n : Nat) (cs : List Value) (b : Value) (m : Nat) (bs : List Value) (w : World) (h : Rd w v n cs 1) (h' : Rd w b m bs 1) (hb : n + 10 + m ≤ 140737488355328) (h1 : ∀ u ∈ cs, u.oneCell' = true) (h2 : ∀ u ∈ bs, u.oneCell' = true) :
    Calls Try.prog 15 #[v, b] w fun e w' => ∃ v', e = .returned v' ∧ w'.ownsRow w.heap.size 5 1 v' (n + (enc m).length + m) (cs ++ by8 (enc m) ++ bs) ∧ Below w.heap.size w w' := by
  have H1 := Lib.hid h1
  have H2 := Lib.hid h2
  have HR := Lib.hid h
  have HR' := Lib.hid h'
  have hl := enc_len64 (n := m) (by omega)
  obtain ⟨ao, c, rfl, hmc, _, _, _⟩ := h'
  clear h1 h h2
  go_enter Try.func15, Try.ntmps15
  go_wp2_with fail
  refine (put_any v n cs m _ HR.out (by omega) H1.out (by omega)).mono ?_
  rintro e w1 ⟨v1, rfl, hown1, hb1⟩
  have hR1 : Rd w1 (.slice ao m c) m bs 1 := rd_kept HR'.out (fun a u h => cell_later hb1 h)
  have HR1 := Lib.hid hR1
  have hsz := hb1.size
  clear hR1
  go_wp2_with (at_builtin; refine wpList_append_slice rfl _ _ 23 5 1 1 sT_u8 rfl w.heap.size _ _ _ rfl hown1 _ m bs rfl HR1.out H2.out (by unfold maxLen; omega) (by omega) (by omega) ?_)
  intro v2 w2 hown2 hb2 _
  go_wp2
  go_ret
  exact ⟨_, rfl, by simpa using hown2, hb1.trans hb2⟩

/-- a cursor in block B: over the bytes l, k of them behind it -/
structure Cur (w : World) (B : Nat) (ao : Option Addr) (c : Nat) (l : List Int) (k : Nat) : Prop where
  blk : w.heap[B]? = some (.cells #[.slice ao l.length c, .int .i64 k] 57 (0, 0))
  le : k ≤ l.length
  lc : l.length ≤ c
  small : l.length ≤ 140737488355328
  rng : ∀ x ∈ l, 0 ≤ x ∧ x < 256
  none_ : ao = none → c = 0
  some_ : ∀ ad, ao = some ad → ∃ g, ad = ⟨g, 0, none⟩ ∧ g ≠ B ∧ g < w.heap.size ∧ ∀ j u, (by8 l)[j]? = some u → w.cell? ⟨g, j, none⟩ = some u

set_option maxHeartbeats 400000 in
theorem new_more (v : Value) (l : List Int) (w : World) (h : Rd w v l.length (by8 l) 1) (hb : l.length ≤ 140737488355328) (hr : ∀ x ∈ l, 0 ≤ x ∧ x < 256) :
    Calls Try.prog 19 #[v] w fun e w' => ∃ B ao c, e = .returned (.pointer (some ⟨B, 0, none⟩)) ∧ w.heap.size ≤ B ∧ B < w'.heap.size ∧ Cur w' B ao c l 0 ∧ (∀ ad, ao = some ad → w.heap.size ≤ ad.block) ∧ Below w.heap.size w w' := by
  have HR := Lib.hid h
  have HG := Lib.hid hr
  clear h hr
  go_enter Try.func19, Try.ntmps19
  go_wp2_with fail
  refine (clone_any v l.length (by8 l) _ HR.out hb (by8_one l)).mono ?_
  rintro e w1 ⟨v1, rfl, hown1, hb1⟩
  obtain ⟨ao, c, rfl, hnc, -, hnone, hcl⟩ := rd_own hown1
  have HO := Lib.hid hown1
  have HC := Lib.hid hcl
  have HN := Lib.hid hnone
  clear hown1 hcl hnone
  go_wp2
  go_ret
  refine ⟨w1.heap.size, ao, c, rfl, hb1.size, by simp, ?_, ?_, (hb1.alloc hb1.size _)⟩
  rotate_left
  · intro ad had
    obtain ⟨g, rfl, h1, _, _⟩ := own_addr HO.out ad had
    exact h1
  refine ⟨heap_alloc_new w1 _, Nat.zero_le _, hnc, hb, HG.out, HN.out, ?_⟩
  intro ad had
  obtain ⟨g, rfl, h1, h2, h3⟩ := own_addr HO.out ad had
  exact ⟨g, rfl, by omega, by simp; omega, fun j u hj => Lib.cell?_alloc_some _ (h3 j u hj)⟩
set_option maxHeartbeats 400000 in
theorem new_any (v : Value) (l : List Int) (w : World) (h : Rd w v l.length (by8 l) 1) (hb : l.length ≤ 140737488355328) (hr : ∀ x ∈ l, 0 ≤ x ∧ x < 256) :
    Calls Try.prog 19 #[v] w fun e w' => ∃ B ao c, e = .returned (.pointer (some ⟨B, 0, none⟩)) ∧ w.heap.size ≤ B ∧ B < w'.heap.size ∧ Cur w' B ao c l 0 ∧ Below w.heap.size w w' :=
  (new_more v l w h hb hr).mono fun _ _ ⟨B, ao, c, h1, h2, h3, h4, _, h6⟩ => ⟨B, ao, c, h1, h2, h3, h4, h6⟩
end Go.Proofs.Ytngajmiakakakaa
