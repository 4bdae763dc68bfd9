/- Walk of the statement WireLonger. -/
import Derived.Test.YtngajmiakakakaaWLaw3
namespace Go.Proofs.Ytngajmiakakakaa
open Go.RowKit

theorem enc_form (k : Nat) : ∀ n, n < 128 ^ (k + 1) → ∃ I x, enc n = I ++ [x] ∧ (∀ y ∈ I, 128 ≤ y ∧ y < 256) ∧ 0 ≤ x ∧ x < 128 := by
  induction k with
  | zero => intro n h; exact ⟨[], n, by rw [enc_small (by simpa using h)]; rfl, by simp, by omega, by simp at h; omega⟩
  | succ k ih =>
    intro n h
    by_cases hn : n < 128
    · exact ⟨[], n, by rw [enc_small hn]; rfl, by simp, by omega, by omega⟩
    · obtain ⟨I, x, h1, h2, h3⟩ := ih (n / 128) (by rw [Nat.pow_succ] at h; omega)
      refine ⟨((n % 128 + 128 : Nat) : Int) :: I, x, by rw [enc_big hn, h1]; rfl, ?_, h3⟩
      intro y hy
      rcases List.mem_cons.1 hy with rfl | hy
      · omega
      · exact h2 y hy

theorem uv_big (f : Nat) : ∀ i l acc, (∀ x ∈ l, 128 ≤ x ∧ x < 256) → l.length < f → uv f i l acc = (0, 0, 3) := by
  induction f with
  | zero => intro i l acc _ h; omega
  | succ f ih =>
    intro i l acc hl h
    cases l with
    | nil => rfl
    | cons x r =>
      show (if 128 ≤ x then uv f (i + 1) r _ else _) = _
      rw [if_pos (hl x (by simp)).1]
      exact ih _ _ _ (fun y hy => hl y (by simp [hy])) (by simpa using h)
theorem uv_bigz (f : Nat) : ∀ i l acc, (∀ x ∈ l, 128 ≤ x ∧ x < 256) → l.length < f → 0 < i + l.length → uv f i (l ++ [0]) acc = (0, 0, 4) := by
  induction f with
  | zero => intro i l acc _ h; omega
  | succ f ih =>
    intro i l acc hl h hi
    cases l with
    | nil =>
      have : 0 < i := by simpa using hi
      simp only [List.nil_append, uv]
      rw [if_neg (by omega), if_pos (.inl ⟨by trivial, this⟩)]
    | cons x r =>
      show (if 128 ≤ x then uv f (i + 1) (r ++ [0]) _ else _) = _
      rw [if_pos (hl x (by simp)).1]
      exact ih _ _ _ (fun y hy => hl y (by simp [hy])) (by simpa using h) (by omega)
theorem or128' {x : Int} (h0 : 0 ≤ x) (h1 : x < 128) : bits .or .u8 x 128 = x + 128 := by
  obtain ⟨a, rfl⟩ : ∃ a : Nat, x = a := ⟨x.toNat, by omega⟩
  have := or128 a
  rw [show ((a : Int) % 256) = a from by omega] at this
  rw [this]
  omega
theorem rng_big {l : List Int} (h : ∀ x ∈ l, 128 ≤ x ∧ x < 256) : ∀ x ∈ l, 0 ≤ x ∧ x < 256 := fun x hx => by have := h x hx; omega

set_option maxHeartbeats 2000000 in
theorem walk_longer (w : World) (n : Nat) (hn : n < 18446744073709551616) (more : Int) (h0 : -9223372036854775808 ≤ more) (h1 : more ≤ 9223372036854775807) :
    Calls Try.prog 3 #[.int .u64 n, .int .i64 more] w fun e w' => e = .returned (.bool true) ∧ Below w.heap.size w w' := by
  have N := Lib.hid hn
  have el := enc_len64 hn
  have ep := enc_pos n
  obtain ⟨I, x, hI, hIb, hx0, hx1⟩ := enc_form 9 n (by omega)
  have hIl : (enc n).length = I.length + 1 := by rw [hI]; simp
  have HI := Lib.hid hI
  have HIB := Lib.hid hIb
  have HIL := Lib.hid hIl
  clear hn hI hIb hIl
  by_cases hsmall : more < 1 ∨ 9 < (enc n).length ∨ 9 - ((enc n).length : Int) < more
  · have hs3 : more < 1 ∨ (1 ≤ more ∧ 9 < (enc n).length) ∨ (1 ≤ more ∧ (enc n).length ≤ 9 ∧ 9 - ((enc n).length : Int) < more) := by omega
    clear hsmall
    rcases hs3 with hs | ⟨hs, hs'⟩ | ⟨hs, hs', hs''⟩
    all_goals
      go_enter Try.func3, Try.ntmps3
      go_wp2_with fail
      refine (put_any _ 0 [] n _ (rd_nil _ _) (by decide) (by simp) N.out).mono ?_
      rintro e w1 ⟨v1, rfl, o1, b1⟩
      simp only [Nat.zero_add, List.nil_append] at o1
      obtain ⟨a1, c1, rfl, -, -, -, -⟩ := rd_own o1
      have B1 := Lib.hid b1
      clear o1 b1
      go_wp2_with fail
      refine (known_any _).mono ?_
      rintro e w7 ⟨rfl, b7⟩
      go_wp2
      go_ret
      exact ⟨rfl, bt B1.out b7⟩
  · have m1 : 1 ≤ more := by omega
    have m2 : (enc n).length ≤ 9 := by omega
    have m3 : more ≤ 9 - ((enc n).length : Int) := by omega
    clear hsmall
    go_enter Try.func3, Try.ntmps3
    go_wp2_with fail
    refine (put_any _ 0 [] n _ (rd_nil _ _) (by decide) (by simp) N.out).mono ?_
    rintro e w1 ⟨v1, rfl, o1, b1⟩
    simp only [Nat.zero_add, List.nil_append] at o1
    obtain ⟨g, cap, rfl, hg1, hg2⟩ : ∃ g cap, v1 = .slice (some ⟨g, 0, none⟩) (enc n).length cap ∧ w.heap.size ≤ g ∧ (enc n).length ≤ cap := by
      rcases o1.2 with ⟨_, h⟩ | ⟨g, cap, cur, h, h', _, h'', _⟩
      · omega
      · exact ⟨g, cap, h, h', h''⟩
    have x1 : w1.cell? ⟨g, (enc n).length - 1, none⟩ = some (.int .u8 x) := by
      have := o1.cells (g := g) rfl ((enc n).length - 1) (.int .u8 x) (by rw [HIL.out, HI.out]; simp [by8])
      rwa [Addr.add_lit, Nat.zero_add] at this
    have f1 := o1.frozenAt ((enc n).length - 1)
    have hidx : (((enc n).length : Int) - 1).toNat = (enc n).length - 1 := by omega
    have O1 := Lib.hid o1
    have B1 := Lib.hid b1
    clear o1 b1
    go_wp2_with fail
    have st := O1.out.stored ((enc n).length - 1) (.int .u8 (bits .or .u8 x 128)) |>.1
    have hset : (by8 (enc n)).set ((enc n).length - 1) (.int .u8 (bits .or .u8 x 128)) = by8 (I ++ [x + 128]) := by
      rw [HIL.out, HI.out, or128' hx0 hx1]
      simp [by8]
    rw [hset] at st
    have ST := Lib.hid st
    have hbig : ∀ y ∈ I ++ [x + 128], 128 ≤ y ∧ y < 256 := by
      intro y hy
      rcases List.mem_append.1 hy with h | h
      · exact HIB.out y h
      · simp at h; omega
    have HBIG := Lib.hid hbig
    have B1' := Lib.hid (B1.out.setCell (p := ⟨g, (enc n).length - 1, none⟩) hg1 (.int .u8 (bits .or .u8 x 128)))
    clear st hset hbig x1 f1 hidx O1
    go_loopw [5, 6] (fun v y wr => ∃ (k : Nat) (L : List Int), y = .int .i64 k ∧ 1 ≤ k ∧ (k : Int) ≤ more ∧ L.length = (enc n).length + k - 1 ∧ (∀ z ∈ L, 128 ≤ z ∧ z < 256) ∧ wr.ownsRow w.heap.size 5 1 v ((enc n).length + k - 1) (by8 L) ∧ Below w.heap.size w wr)
      (fun _ y _ => (more - intOf y).toNat)
    case atStart => exact ⟨1, I ++ [x + 128], rfl, Nat.le_refl _, by omega, by rw [HIL.out]; simp, HBIG.out, by simpa using ST.out, B1'.out⟩
    case round =>
      obtain ⟨k, L, rfl, hk1, hk2, hL, hLb, hown, hB⟩ := hrel
      have LL := Lib.hid hL
      have LB := Lib.hid hLb
      have BR := Lib.hid hB
      have hsz := hB.size
      clear hL hLb hB
      by_cases hlt : (k : Int) < more
      · go_wp2_with (at_builtin; refine wpList_append_elem rfl _ _ 23 5 1 1 sT_u8 rfl w.heap.size _ _ _ rfl hown rfl rfl (by simp [Value.oneCell']) (by unfold maxLen; omega) (by omega) (by omega) ?_)
        intro v' w2 o2 b2 _ _
        have O2 := Lib.hid o2
        have B2 := Lib.hid (BR.out.trans b2)
        clear o2 b2
        go_wp2_with fail
        go_roundw
        case rel => exact ⟨k + 1, L ++ [128], by go_num, by omega, by omega, by rw [List.length_append, LL.out]; simp; omega, (by intro z hz; rcases List.mem_append.1 hz with h | h; exact LB.out z h; simp at h; omega), by have := O2.out; rw [show (enc n).length + k - 1 + 1 = (enc n).length + (k + 1) - 1 from by omega] at this; simpa [by8] using this, B2.out⟩
        case measure => simp [intOf]; omega
      · have hke : (k : Int) = more := by omega
        have hR := rd_own hown
        rw [← LL.out] at hR
        have RR := Lib.hid hR
        have hl8 : L.length < 10 := by rw [LL.out]; omega
        have hl0 : 0 < L.length := by rw [LL.out]; omega
        have U1 := Lib.hid (show rdn L = (0, 0, 3) from uv_big 10 0 L 0 LB.out hl8)
        have U2 := Lib.hid (show rdn (L ++ [0]) = (0, 0, 4) from uv_bigz 10 0 L 0 LB.out hl8 (by omega))
        clear hown hke hR
        go_wp2_with fail
        refine (own_any _ _ _ _ RR.out (by omega) (by8_one L)).mono ?_
        rintro e w3 ⟨v3, rfl, o3, b3⟩
        have s3 := b3.size
        go_wp2_with (at_builtin; refine wpList_append_elem rfl _ _ 23 5 1 1 sT_u8 rfl wr.heap.size _ _ _ rfl o3 rfl rfl (by simp [Value.oneCell']) (by unfold maxLen; omega) (by omega) (by omega) ?_)
        intro v4 w4 o4 b4 _ _
        have B4 := b3.trans b4
        have r4 : Rd w4 v4 (L ++ [0]).length (by8 (L ++ [0])) 1 := by
          have := rd_own o4
          rw [by8_app, List.length_append]
          exact this
        have R4 := Lib.hid r4
        clear o3 o4 b3 b4 s3 r4
        go_wp2_with fail
        refine (reads_any _ (L ++ [0]) _ R4.out (by simp; omega) (rng_app (rng_big LB.out) (by simp)) 0 0 4 U2.out).mono ?_
        rintro e w5 ⟨rfl, b5⟩
        go_wp2_with fail
        refine (reads_any _ L _ (rd_below RR.out (bt B4 b5)) (by omega) (rng_big LB.out) 0 0 3 U1.out).mono ?_
        rintro e w6 ⟨rfl, b6⟩
        go_wp2_with fail
        refine (known_any _).mono ?_
        rintro e w7 ⟨rfl, b7⟩
        go_wp2
        go_ret
        exact ⟨rfl, bt BR.out (bt (bt B4 b5) (bt b6 b7))⟩
end Go.Proofs.Ytngajmiakakakaa
