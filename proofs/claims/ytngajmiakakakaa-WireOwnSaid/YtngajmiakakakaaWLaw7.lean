/- Walk of the statement WireOwn. -/
import Derived.Test.YtngajmiakakakaaWLaw3
import Derived.Laws.CopyOwn
namespace Go.Proofs.Ytngajmiakakakaa
open Go.RowKit

theorem zeros_get : ∀ k : Fin 16, (List.replicate 16 (0 : Int)).getD k.1 0 = 0 := by decide
theorem made_u8 (n : Nat) : (madeCells #[.int .u8 0] n).toList = by8 (List.replicate n 0) := by
  rw [toList_madeCells_one]; simp [by8]

section
variable {w : World} {g : Nat} {L : List Int} {t : TypeId}
theorem row_cell (h : w.heap[g]? = some (.cells (by8 L).toArray t (0, 0))) (k : Nat) (hk : k < L.length) : w.cell? ⟨g, k, none⟩ = some (.int .u8 (L.getD k 0)) := by
  simp only [World.cell?, h]
  simp [by8, hk, List.getD]
theorem row_free (h : w.heap[g]? = some (.cells (by8 L).toArray t (0, 0))) (k : Nat) : w.frozen? ⟨g, k, none⟩ = false := by simp [World.frozen?, h]
theorem row_set (h : w.heap[g]? = some (.cells (by8 L).toArray t (0, 0))) (k : Nat) (y : Int) : (w.setCell ⟨g, k, none⟩ (.int .u8 y)).heap[g]? = some (.cells (by8 (L.set k y)).toArray t (0, 0)) := by
  simp [World.setCell, Array.getElem?_modify, h, by8, List.map_set]
end
set_option maxHeartbeats 4000000 in
set_option maxRecDepth 100000 in
theorem walk_own (w : World) (ao : Option Addr) (c : Nat) (l : List Int) (h : Rd w (.slice ao l.length c) l.length (by8 l) 1) (hb : l.length ≤ 140737488351232) (hr : ∀ x ∈ l, 0 ≤ x ∧ x < 256) :
    Calls Try.prog 6 #[.slice ao l.length c] w fun e w' => e = .returned (.bool true) ∧ Below w.heap.size w w' := by
  have hmk : ∀ u : World, (Instr.makeSlice 23 (.int .i64 (l.length : Int)) (.int .i64 ((l.length : Int) + 16))).run Try.prog u = .ok (.slice (some ⟨u.heap.size, 0, none⟩) l.length (l.length + 16)) (u.alloc (.cells (madeCells #[.int .u8 0] (l.length + 16)) 5)) := fun u => by
    obtain ⟨i, z, hi, hz, hsz, hby, hzs⟩ := sT_u8.ex
    have hzz : z = .int .u8 0 := by
      have : (Try.prog.info? 5).map (·.zero) = some (some (.int .u8 0)) := by kernel_rfl
      rw [hi] at this
      simp [hz] at this
      exact this
    have h := run_make (P := Try.prog) u 23 5 i z sT_u8.und hi hz .i64 .i64 (l.length : Int) ((l.length : Int) + 16) (by omega) (by omega) (by rw [hby]; omega) (by omega)
    rw [hsz, hzz] at h
    have e : ((l.length : Int) + 16).toNat = l.length + 16 := by omega
    simpa [e, Value.cells] using h
  have V := Lib.hid h
  have G := Lib.hid hr
  have hlc : l.length ≤ c := by obtain ⟨_, _, he, hh, _⟩ := h; cases he; exact hh
  have hsp : 0 < l.length → ∃ ad, ao = some ad ∧ ∀ j v, (by8 l)[j]? = some v → w.cell? (ad.add j) = some v := by
    intro hp
    obtain ⟨ao', c', he, h1, h2, h3, h4⟩ := h
    cases he
    cases ao with
    | none => have := h3 rfl; omega
    | some ad => exact ⟨ad, rfl, h4 ad rfl⟩
  have SP := Lib.hid hsp
  clear h hr hsp
  go_enter Try.func6, Try.ntmps6
  go_wp2_with (with_reducible refine wpList_copy_splice rfl _ _ 23 23 rfl 5 Try.underlying23 (by kernel_rfl) _ _ _ _ _ _ rfl rfl w.heap.size 0 (madeCells #[.int .u8 0] (l.length + 16)).toList 5 (heap_alloc_new w _) (by8 l) ?c1 ?c2 ?c3 (by8_one l) w.heap.size w (ba w _) (Nat.le_refl _) ?_)
  case c1 => simp [by8]
  case c2 =>
    intro hp
    obtain ⟨ad, rfl, hc⟩ := SP.out (by simpa [by8] using hp)
    exact ⟨ad, rfl, fun j v hj => Lib.cell?_alloc_some _ (hc j v hj)⟩
  case c3 => simp [by8, made_u8]
  intro w2 hrow b2
  have hrow2 : w2.heap[w.heap.size]? = some (.cells (by8 (l ++ List.replicate 16 0)).toArray 5 (0, 0)) := by
    have := hrow.out
    rw [made_u8] at this
    rw [this]
    congr 2
    simp [splice, by8]
  have hown2 : w2.ownsRow w.heap.size 5 1 (.slice (some ⟨w.heap.size, 0, none⟩) l.length (l.length + 16)) l.length (by8 l) :=
    ⟨by simp [by8], .inr ⟨w.heap.size, _, _, rfl, Nat.le_refl _, hrow2, by omega, by unfold maxLen; omega, by simp [by8], by simp [by8]⟩⟩
  have HROW := Lib.hid hrow2
  have HOWN := Lib.hid hown2
  have B2 := Lib.hid b2
  have hlt2 := lt_of_block hrow2
  clear hrow hrow2 hown2 b2 hmk
  have e7 : enc 7 = [7] := by rw [enc_small (by decide)]; rfl
  have e14 : enc (zz 7) = [14] := by rw [show zz 7 = 14 from by decide, enc_small (by decide)]; rfl
  have e1 : enc 1 = [1] := by rw [enc_small (by decide)]; rfl
  have E7 := Lib.hid e7
  have E14 := Lib.hid e14
  have E1 := Lib.hid e1
  clear e7 e14 e1
  go_wp2_with fail
  refine (put_any _ _ _ 7 _ (rd_own HOWN.out) (by omega) (by8_one l) (by decide)).mono ?_
  rintro e w3 ⟨v3, rfl, o3, b3⟩
  rw [E7.out] at o3
  go_wp2_with fail
  refine (putz_any _ _ _ 7 _ (rd_below (rd_own HOWN.out) b3) (by omega) (by8_one l) (by decide) (by decide)).mono ?_
  rintro e w4 ⟨v4, rfl, o4, b4⟩
  rw [E14.out] at o4
  have b24 := bt b3 b4
  have o3' := Lib.hid (ownsRow_below o3 b4)
  go_wp2_with fail
  have b25 := bt b24 (ba w4 (.cells #[.int .u8 7] 5))
  refine (putb_any _ _ _ _ 1 (by8 [7]) _ (rd_below (rd_own HOWN.out) b25) (rd_lit w4 _ _ 1 1 rfl) (by omega) (by8_one l) (by8_one _)).mono ?_
  rintro e w6 ⟨v6, rfl, o6, b6⟩
  rw [E1.out] at o6
  have b46 := bt (ba w4 (.cells #[.int .u8 7] 5)) b6
  have b26 := bt b24 b46
  have O3 := Lib.hid (ownsRow_below o3'.out b46)
  have O4 := Lib.hid (ownsRow_below o4 b46)
  have O6 := Lib.hid o6
  have s24 := b24.size
  have s3 := b3.size
  have B26 := Lib.hid b26
  simp only [List.length_cons, List.length_nil, Nat.zero_add] at O3 O4 O6
  obtain ⟨q3, d3, rfl, -, -, -, -⟩ := rd_own O3.out
  obtain ⟨q4, d4, rfl, -, -, -, -⟩ := rd_own O4.out
  obtain ⟨q6, d6, rfl, -, -, -, -⟩ := rd_own O6.out
  clear o3 o4 o6 b3 b4 b6 b24 b25 b46 b26 o3'
  go_wp2_with fail
  refine (new_more _ l _ (rd_below (rd_own HOWN.out) B26.out) (by omega) G.out).mono ?_
  rintro e w7 ⟨B, ac, cc, rfl, hB0, hB1, C7, had, b7⟩
  have C := Lib.hid C7
  have AD := Lib.hid had
  have B7 := Lib.hid b7
  have s26 := B26.out.size
  have s67 := b7.size
  have BW := Lib.hid (bt (bt B2.out B26.out) b7)
  have P3 := Lib.hid (ownsRow_below O3.out b7)
  have P4 := Lib.hid (ownsRow_below O4.out b7)
  have P6 := Lib.hid (ownsRow_below O6.out b7)
  have ROW7 : w7.heap[w.heap.size]? = some (.cells (by8 (l ++ List.replicate 16 0)).toArray 5 (0, 0)) := by
    rw [b7.block _ (by omega), B26.out.block _ hlt2]
    exact HROW.out
  have ROW7' := Lib.hid ROW7
  clear C7 had b7 ROW7
  go_wp2_with fail
  go_loopw [8] (fun x wr => ∃ (k : Nat) (L : List Int), x = .int .i64 k ∧ k ≤ l.length ∧ L.length = l.length + 16 ∧ (∀ y ∈ L, 0 ≤ y ∧ y < 256) ∧ L.drop l.length = List.replicate 16 0 ∧ wr.heap[w.heap.size]? = some (.cells (by8 L).toArray 5 (0, 0)) ∧ w7.grownBy wr (some w.heap.size))
    (fun x _ => l.length - (intOf x).toNat)
  case atStart => exact ⟨0, l ++ List.replicate 16 0, rfl, Nat.zero_le _, by simp, rng_app G.out (by intro y hy; have := List.eq_of_mem_replicate hy; omega), by simp, ROW7'.out, gb_refl _ _⟩
  case round =>
    obtain ⟨k, L, rfl, hk, hL, hLr, hLd, hrow, hg⟩ := hrel
    have LL := Lib.hid hL
    have LR := Lib.hid hLr
    have LD := Lib.hid hLd
    have RW := Lib.hid hrow
    have GG := Lib.hid hg
    clear hL hLr hLd hrow hg
    by_cases hlt : k < l.length
    · have c1 := row_cell RW.out k (by rw [LL.out]; omega)
      have f1 := row_free RW.out k
      have hy := LR.out (L.getD k 0) (by simp [List.getD, List.getElem?_eq_getElem (show k < L.length by rw [LL.out]; omega)])
      have RS := Lib.hid (row_set RW.out k (IntKind.u8.wrap (L.getD k 0 + 1)))
      obtain ⟨y, hyy⟩ : ∃ y, y = L.getD k 0 := ⟨_, rfl⟩
      rw [← hyy] at c1 hy RS
      obtain ⟨y0, y1⟩ := hy
      clear hyy
      go_wp2_with fail
      go_roundw
      case rel =>
        refine ⟨k + 1, L.set k (IntKind.u8.wrap (y + 1)), by go_num, by omega, by simp [LL.out], ?_, ?_, ?_, gb_setCell GG.out (.inl rfl) _⟩
        · intro z hz
          rcases List.mem_or_eq_of_mem_set hz with h | h
          · exact LR.out z h
          · rw [h, IntKind.wrap_u8']; omega
        · rw [List.drop_set_of_lt hlt]; exact LD.out
        · first
          | exact RS.out
          | (rw [IntKind.wrap_u8'] at RS; exact RS.out)
      case measure => simp [intOf]; omega
    · obtain rfl : k = l.length := by omega
      clear hlt hk
      have hgl : w.heap.size < w6.heap.size := by omega
      have hBg : some B ≠ some w.heap.size := by simp; omega
      have CR := Lib.hid (C.out.kept GG.out hBg (fun ad ha => by have := AD.out ad ha; simp; omega))
      have BR := Lib.hid (below_of_gb BW.out GG.out (by omega) (Nat.le_refl _))
      have K3 := Lib.hid ((P3.out.kept GG.out (.inr (fun e => by have := (P3.out.lt _ e).1; omega))))
      have K4 := Lib.hid ((P4.out.kept GG.out (.inr (fun e => by have := (P4.out.lt _ e).1; omega))))
      have K6 := Lib.hid ((P6.out.kept GG.out (.inr (fun e => by have := (P6.out.lt _ e).1; simp at this; omega))))
      have hsr : w.heap.size ≤ wr.heap.size := BR.out.size
      have hz : ∀ k, k < 16 → wr.cell? ⟨w.heap.size, l.length + k, none⟩ = some (.int .u8 0) := by
        intro k hk
        have := row_cell RW.out (l.length + k) (by rw [LL.out]; omega)
        have e : L.getD (l.length + k) 0 = (L.drop l.length).getD k 0 := by simp [List.getD, List.getElem?_drop]
        rw [e, LD.out] at this
        rw [this]
        exact congrArg (fun z => some (Value.int .u8 z)) (zeros_get ⟨k, hk⟩)
      have HZ := Lib.hid hz
      clear hz
      go_wp2_with fail
      go_loop [78] (fun x => ∃ k : Nat, x = .int .i64 k ∧ k ≤ 16) (fun x => 16 - (intOf x).toNat)
      case atStart => exact ⟨0, rfl, by omega⟩
      case round =>
        obtain ⟨k, rfl, hk⟩ := hrel
        by_cases hlt : k < 16
        · have hc := HZ.out k hlt
          go_wp2_with fail
          go_round
          case rel => exact ⟨k + 1, by go_num, by omega⟩
          case measure => simp [intOf]; omega
        · have hk16 : 16 ≤ k := by omega
          clear hlt
          go_wp2_with fail
          refine (take_ok CR.out l.length (by omega)).mono ?_
          rintro e w8 ⟨v8, rfl, o8, C8, g8⟩
          rw [List.drop_zero, List.take_of_length_le (Nat.le_refl _)] at o8
          have B8 := Lib.hid (below_of_gb BR.out g8 hsr (by omega))
          have D8 := Lib.hid (rd_own o8)
          have V8 := Lib.hid (rd_below V.out B8.out)
          have J3 := rd_pre (rd_own (K3.out.kept g8 (.inr (fun e => by have := (O3.out.lt _ e).2; omega)))) l.length (by omega)
          have J4 := rd_pre (rd_own (K4.out.kept g8 (.inr (fun e => by have := (O4.out.lt _ e).2; omega)))) l.length (by omega)
          have J6 := rd_pre (rd_own (K6.out.kept g8 (.inr (fun e => by have := (O6.out.lt _ e).2; omega)))) l.length (by omega)
          rw [show (by8 l ++ by8 [7]).take l.length = by8 l from by simp [by8]] at J3
          rw [show (by8 l ++ by8 [14]).take l.length = by8 l from by simp [by8]] at J4
          rw [show (by8 l ++ by8 [1] ++ by8 [7]).take l.length = by8 l from by simp [by8]] at J6
          have J3' := Lib.hid J3
          have J4' := Lib.hid J4
          have J6' := Lib.hid J6
          have hd3 : l.length ≤ d3 := by obtain ⟨_, _, he, hh, _⟩ := J3; cases he; exact hh
          have hd4 : l.length ≤ d4 := by obtain ⟨_, _, he, hh, _⟩ := J4; cases he; exact hh
          have hd6 : l.length ≤ d6 := by obtain ⟨_, _, he, hh, _⟩ := J6; cases he; exact hh
          clear o8 C8 g8 J3 J4 J6
          go_wp2_with fail
          refine (same_true _ _ _ _ l _ D8.out V8.out G.out).mono ?_
          rintro e w9 ⟨rfl, rfl⟩
          go_wp2_with fail
          refine (same_true _ _ _ _ l _ J3'.out V8.out G.out).mono ?_
          rintro e w9 ⟨rfl, rfl⟩
          go_wp2_with fail
          refine (same_true _ _ _ _ l _ J4'.out V8.out G.out).mono ?_
          rintro e w9 ⟨rfl, rfl⟩
          go_wp2_with fail
          refine (same_true _ _ _ _ l _ J6'.out V8.out G.out).mono ?_
          rintro e w9 ⟨rfl, rfl⟩
          go_wp2_with fail
          refine (known_any _).mono ?_
          rintro e w10 ⟨rfl, b10⟩
          go_wp2
          go_ret
          exact ⟨rfl, bt B8.out b10⟩
end Go.Proofs.Ytngajmiakakakaa
