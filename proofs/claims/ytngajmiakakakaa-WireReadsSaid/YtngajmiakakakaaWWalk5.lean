/- Walks: Block; the document's functions; what all statements end with. -/
import Derived.Test.YtngajmiakakakaaWWalk4
import Derived.Lib.Bytes
namespace Go.Proofs.Ytngajmiakakakaa
open Go.RowKit

theorem rd_str {w : World} {v : Value} {n : Nat} {l : List Int} (h : Rd w v n (by8 l) 1) (dst : TypeId) (hd : Try.prog.underlying dst = some .string) :
    (convert 23 dst v).run Try.prog w = .ok (.string (strOfNums l)) w := by
  obtain ⟨ao, c, rfl, hnc, hlen, hnone, hcells⟩ := h
  simp only [by8_len, Nat.mul_one] at hlen
  have hz : n = 0 → (convert 23 dst (.slice ao n c)).run Try.prog w = .ok (.string (strOfNums l)) w := by
    rintro rfl
    obtain rfl : l = [] := List.eq_nil_of_length_eq_zero hlen
    rw [run_convert_bytes_string w _ dst _ ao 0 c Try.underlying23 Try.underlying5 hd]
    cases ao <;> simp [Conv.bytesToString, loadCells]
    all_goals rfl
  rcases Nat.eq_zero_or_pos n with h0 | h0
  · exact hz h0
  · cases ao with
    | none => have := hnone rfl; omega
    | some ad =>
      have h1 := hcells ad rfl 0 (.int .u8 (l.getD 0 0)) (by cases l with | nil => simp at hlen; omega | cons x r => simp [by8])
      have hs : ad.spot = none := by
        by_cases h' : ad.spot = none
        · exact h'
        · simp [Addr.add, World.cell?] at h1
          split at h1
          · split at h1
            · simp at h1
            · rename_i hh; simp at hh; exact hh
          · simp at h1
      obtain ⟨b, off, sp⟩ := ad
      simp only at hs
      subst hs
      refine run_convert_bytes_arg w _ _ Try.underlying23 Try.underlying5 b off n c l hlen ?_ dst hd
      intro i hi
      have := hcells _ rfl i (.int .u8 (l.getD i 0)) (by simp [by8, List.getD, List.getElem?_eq_getElem (show i < l.length by omega)])
      rwa [Addr.add_lit] at this

def sameB (a b : List Int) : Bool := decide (a = b)
theorem same_eq (a b : List Int) (ha : ∀ x ∈ a, 0 ≤ x ∧ x < 256) (hb : ∀ x ∈ b, 0 ≤ x ∧ x < 256) : ((strOfNums a).toList == (strOfNums b).toList) = sameB a b := by
  have inj : ∀ (a b : List Int), (∀ x ∈ a, 0 ≤ x ∧ x < 256) → (∀ x ∈ b, 0 ≤ x ∧ x < 256) → Lib.bytesOf a = Lib.bytesOf b → a = b := by
    intro a
    induction a with
    | nil => intro b _ _ h; cases b with | nil => rfl | cons y s => simp [Lib.bytesOf] at h
    | cons x r ih =>
      intro b ha hb h
      cases b with
      | nil => simp [Lib.bytesOf] at h
      | cons y s =>
        simp only [Lib.bytesOf, List.map_cons, List.cons.injEq] at h
        have hx := ha x (by simp)
        have hy := hb y (by simp)
        have e : x = y := by
          have := congrArg UInt8.toNat h.1
          simp at this
          omega
        rw [e, ih s (fun z hz => ha z (by simp [hz])) (fun z hz => hb z (by simp [hz])) h.2]
  rw [Lib.strOfNums_toList, Lib.strOfNums_toList]
  unfold sameB
  by_cases h : a = b
  · subst h; simp
  · simp only [h, decide_false, beq_eq_false_iff_ne]
    exact fun h' => h (inj a b ha hb h')

set_option maxHeartbeats 400000 in
theorem same_any (va vb : Value) (n m : Nat) (la lb : List Int) (w : World) (h1 : Rd w va n (by8 la) 1) (h2 : Rd w vb m (by8 lb) 1) (ha : ∀ x ∈ la, 0 ≤ x ∧ x < 256) (hb : ∀ x ∈ lb, 0 ≤ x ∧ x < 256) :
    Calls Try.prog 16 #[va, vb] w fun e w' => e = .returned (.bool (sameB la lb)) ∧ w = w' := by
  have e1 := rd_str h1 9 Try.underlying9
  have e2 := rd_str h2 9 Try.underlying9
  have HS := Lib.hid (same_eq la lb ha hb)
  clear h1 h2 ha hb
  go_enter Try.func16, Try.ntmps16
  go_wp2
  go_ret
  exact ⟨by rw [← HS.out]; rfl, rfl⟩

set_option maxHeartbeats 400000 in
theorem same_true (va vb : Value) (n m : Nat) (l : List Int) (w : World) (h1 : Rd w va n (by8 l) 1) (h2 : Rd w vb m (by8 l) 1) (hl : ∀ x ∈ l, 0 ≤ x ∧ x < 256) :
    Calls Try.prog 16 #[va, vb] w fun e w' => e = .returned (.bool true) ∧ w = w' :=
  (same_any va vb n m l l w h1 h2 hl hl).mono fun e w' ⟨h, h'⟩ => ⟨by rw [h]; simp [sameB], h'⟩
set_option maxHeartbeats 400000 in
theorem own_any (v : Value) (n : Nat) (cs : List Value) (w : World) (h : Rd w v n cs 1) (hb : n ≤ 140737488355328) (h1 : ∀ u ∈ cs, u.oneCell' = true) :
    Calls Try.prog 13 #[v] w fun e w' => ∃ v', e = .returned v' ∧ w'.ownsRow w.heap.size 5 1 v' n cs ∧ Below w.heap.size w w' := by
  have HR := Lib.hid h
  have H1 := Lib.hid h1
  clear h h1
  go_enter Try.func13, Try.ntmps13
  go_wp2_with (at_builtin; refine wpList_append_slice rfl _ _ 23 5 1 1 sT_u8 rfl w.heap.size _ 0 [] rfl (World.ownsRow_nil _ _ _ _) _ n cs rfl HR.out H1.out (by unfold maxLen; omega) (by omega) (Nat.le_refl _) ?_)
  intro v' w1 hown hb1 _
  go_wp2
  go_ret
  exact ⟨v', rfl, by simpa using hown, hb1⟩

set_option maxHeartbeats 1000000 in
theorem number_any (k : Nat) (w : World) (hk : k < 18446744073709551616) :
    Calls Try.prog 17 #[.int .u64 k] w fun e w' => ∃ v', e = .returned v' ∧ w'.ownsRow w.heap.size 5 1 v' (enc k).length (by8 (enc k)) ∧ Below w.heap.size w w' := by
  have hl10 := enc_len64 hk
  go_enter Try.func17, Try.ntmps17
  go_wp2_with fail
  go_loopw [0, 3] (fun x u wr => ∃ (m : Nat) (pre : List Int), x = .int .u64 m ∧ m < 18446744073709551616 ∧ pre ++ enc m = enc k ∧ wr.ownsRow w.heap.size 5 1 u pre.length (by8 pre) ∧ Below w.heap.size w wr)
    (fun x _ _ => (intOf x).toNat)
  case atStart => exact ⟨k, [], rfl, hk, rfl, World.ownsRow_nil _ _ _ _, Below.refl _ _⟩
  case round =>
    obtain ⟨m, pre, rfl, hm, hpre, hown, hb⟩ := hrel
    have HP := Lib.hid hpre
    have hpl : pre.length + (enc m).length ≤ 10 := by have := congrArg List.length hpre; simp at this; omega
    have hep := enc_pos m
    clear hpre
    have hszr := hb.size
    by_cases hlt : m < 128
    · have hge : ¬ (128 ≤ (m : Int)) := by omega
      go_wp2_with (at_builtin; refine wpList_append_elem rfl _ _ 23 5 1 1 sT_u8 rfl w.heap.size _ _ _ rfl hown rfl rfl (by simp [Value.oneCell']) (by unfold maxLen; omega) (by omega) (by omega) ?_)
      intro v' w2 hown2 hb2 _ _
      go_wp2
      go_ret
      have hp2 := HP.out
      rw [enc_small hlt] at hp2
      have hmm : (m : Int) % 256 = m := by omega
      have hl : (enc k).length = pre.length + 1 := by rw [← hp2]; simp
      refine ⟨v', rfl, ?_, hb.trans hb2⟩
      rw [← hp2, by8_app]
      simpa [by8, hmm, Nat.add_assoc] using hown2
    · have hge : 128 ≤ (m : Int) := by omega
      go_wp2_with (at_builtin; refine wpList_append_elem rfl _ _ 23 5 1 1 sT_u8 rfl w.heap.size _ _ _ rfl hown rfl rfl (by simp [Value.oneCell']) (by unfold maxLen; omega) (by omega) (by omega) ?_)
      intro v' w2 hown2 hb2 _ _
      go_wp2
      go_roundw
      case rel =>
        have hp2 := HP.out
        rw [enc_big hlt] at hp2
        have hmm : ((m : Int) % 128 + 128) % 256 = (m : Int) % 128 + 128 := by omega
        exact ⟨m / 128, pre ++ [((m % 128 + 128 : Nat) : Int)], by congr 1, by omega, by simpa using hp2, by simpa [by8, hmm] using hown2, hb.trans hb2⟩
      case measure => simp [intOf]; omega

theorem zz_neg {k : Int} (h : k < 0) : (zz k : Int) = 2 * -(k + 1) + 1 := by unfold zz; rw [if_neg (by omega)]; omega
theorem zz_nn {k : Int} (h : 0 ≤ k) : (zz k : Int) = 2 * k := by unfold zz; rw [if_pos h]; omega
set_option maxHeartbeats 400000 in
theorem signed_any (k : Int) (w : World) (hk0 : -9223372036854775808 ≤ k) (hk1 : k ≤ 9223372036854775807) :
    Calls Try.prog 18 #[.int .i64 k] w fun e w' => e = .returned (.int .u64 (zz k)) ∧ w = w' := by
  by_cases hk : k < 0
  all_goals
    go_enter Try.func18, Try.ntmps18
    go_wp2
    go_ret
    exact ⟨by first | (rw [zz_neg hk]; rfl) | (rw [zz_nn (by omega)]; rfl), rfl⟩

set_option maxHeartbeats 400000 in
theorem reads_any (v : Value) (l : List Int) (w : World) (h : Rd w v l.length (by8 l) 1) (hb : l.length ≤ 140737488355328) (hr : ∀ x ∈ l, 0 ≤ x ∧ x < 256) (r1 : Int) (r2 : Nat) (r3 : Int) (hR : rdn l = (r1, r2, r3)) :
    Calls Try.prog 12 #[v] w fun e w' => e = .returned (.tuple #[.int .u64 r1, .int .i64 r3]) ∧ Below w.heap.size w w' := by
  have HR := Lib.hid hR
  have HV := Lib.hid h
  have HG := Lib.hid hr
  clear h hr hR
  have h0 : r3 ≠ 0 → r2 = 0 := fun h3 => by have := uv_err 10 0 l 0 (by have e := HR.out; unfold rdn at e; rw [e]; exact h3); have e := HR.out; unfold rdn at e; rw [e] at this; exact this.2
  by_cases h3 : r3 = 0
  · have e3 : (r3 != 0) = false := by simp [h3]
    have H0 := Lib.hid h0
    clear h0 h3
    go_enter Try.func12, Try.ntmps12
    go_wp2_with fail
    refine (new_any v l _ HV.out hb HG.out).mono ?_
    rintro e w1 ⟨B, ao, c, rfl, hB0, hB1, hC, hb1⟩
    go_wp2_with fail
    refine (uv_any hC r1 r2 r3 (by simpa using HR.out)).mono ?_
    rintro e w2 ⟨rfl, hC2, hG⟩
    go_wp2
    go_ret2
    exact ⟨rfl, below_of_gb hb1 hG hb1.size hB0⟩
  · have e3 : (r3 != 0) = true := by simp [h3]
    obtain rfl : r2 = 0 := h0 h3
    clear h0 h3
    go_enter Try.func12, Try.ntmps12
    go_wp2_with fail
    refine (new_any v l _ HV.out hb HG.out).mono ?_
    rintro e w1 ⟨B, ao, c, rfl, hB0, hB1, hC, hb1⟩
    go_wp2_with fail
    refine (uv_any hC r1 0 r3 (by simpa using HR.out)).mono ?_
    rintro e w2 ⟨rfl, hC2, hG⟩
    go_wp2_with fail
    refine (at_any hC2).mono ?_
    rintro e w3 ⟨rfl, rfl⟩
    go_wp2
    go_ret2
    exact ⟨rfl, below_of_gb hb1 hG hb1.size hB0⟩

theorem bt {a b c : World} (h : Below a.heap.size a b) (k : Below b.heap.size b c) : Below a.heap.size a c := h.trans (k.mono h.size)
theorem ba (w : World) (o : Obj) : Below w.heap.size w (w.alloc o) := (Below.refl _ _).alloc (Nat.le_refl _) _
theorem rd_lit (w : World) (cs : List Value) (e : TypeId) (n size : Nat) (h : cs.length = n * size) : Rd (w.alloc (.cells cs.toArray e)) (.slice (some ⟨w.heap.size, 0, none⟩) n n) n cs size :=
  ⟨_, _, rfl, Nat.le_refl _, h, fun h => by simp at h, fun ad had j u hj => by cases had; exact toList_cell w cs.toArray e j u (by simpa using hj)⟩

set_option maxHeartbeats 1000000 in
theorem known_any (w : World) :
    Calls Try.prog 11 #[] w fun e w' => e = .returned (.bool true) ∧ Below w.heap.size w w' := by
  have k1 : rdn [128, 0] = (0, 0, 4) := by decide
  have k2 : rdn [128] = (0, 0, 3) := by decide
  have k3 : rdn [128, 128, 128, 128, 128, 128, 128, 128, 128, 128] = (0, 0, 4) := by decide
  have k4 : enc 300 = [172, 2] := by rw [enc_big (by decide), enc_small (by decide)]; rfl
  have k5 : enc (zz (-3)) = [5] := by rw [show zz (-3) = 5 from by decide, enc_small (by decide)]; rfl
  have K4 := Lib.hid k4
  have K5 := Lib.hid k5
  clear k4 k5
  go_enter Try.func11, Try.ntmps11
  go_wp2_with fail
  refine (reads_any _ [128, 0] _ (rd_lit w _ _ 2 1 rfl) (by decide) (by decide) 0 0 4 k1).mono ?_
  rintro e w1 ⟨rfl, hb1⟩
  go_wp2_with fail
  refine (reads_any _ [128] _ (rd_lit w1 _ _ 1 1 rfl) (by decide) (by decide) 0 0 3 k2).mono ?_
  rintro e w2 ⟨rfl, hb2⟩
  go_wp2_with fail
  refine (reads_any _ [128, 128, 128, 128, 128, 128, 128, 128, 128, 128] _ (rd_lit w2 _ _ 10 1 rfl) (by decide) (by decide) 0 0 4 k3).mono ?_
  rintro e w3 ⟨rfl, hb3⟩
  clear k1 k2 k3
  go_wp2_with fail
  refine (put_any _ 0 [] 300 _ (rd_nil _ _) (by decide) (by simp) (by decide)).mono ?_
  rintro e w4 ⟨v4, rfl, hown4, hb4⟩
  rw [K4.out] at hown4
  go_wp2_with fail
  refine (same_true _ _ 2 2 [172, 2] _ (rd_kept (rd_own hown4) (fun a u h => Lib.cell?_alloc_some _ h)) (rd_lit w4 _ _ 2 1 rfl) (by decide)).mono ?_
  rintro e w5 ⟨rfl, rfl⟩
  go_wp2_with fail
  refine (putz_any _ 0 [] (-3) _ (rd_nil _ _) (by decide) (by simp) (by decide) (by decide)).mono ?_
  rintro e w6 ⟨v6, rfl, hown6, hb6⟩
  rw [K5.out] at hown6
  go_wp2_with fail
  refine (same_true _ _ 1 1 [5] _ (rd_kept (rd_own hown6) (fun a u h => Lib.cell?_alloc_some _ h)) (rd_lit w6 _ _ 1 1 rfl) (by decide)).mono ?_
  rintro e w7 ⟨rfl, rfl⟩
  go_wp2
  go_ret
  exact ⟨rfl, bt (bt (bt (bt (bt (bt (bt (bt (ba _ _) hb1) (bt (ba _ _) hb2)) (ba _ _)) hb3) hb4) (ba _ _)) hb6) (ba _ _)⟩
end Go.Proofs.Ytngajmiakakakaa
