/- Walks: a cotangent's name (the library's functions by their contracts). -/
import Derived.Test.YtmhpccchgbdiiaaGreatDoorWaC
namespace Go.Proofs.YtmhpccchgbdiiaaGreatDoor
open Go.RowKit
set_option maxRecDepth 100000
theorem laid_iface {w : World} (h : LaidW w.heap.size w) {g : Nat} (hg : (g, none) ∈ glbs) : g < w.heap.size ∧ ∃ te pe, w.cell? ⟨g, 0, none⟩ = some (.iface te pe) := by
  obtain ⟨h1, t, q, te, a, h2⟩ := h _ hg
  exact ⟨h1, te, a, by simp [World.cell?, h2]⟩
theorem cut_calls (s : ByteArray) (hs : s.size ≤ 9223372036854775806) (w : World) (hlw : LaidW w.heap.size w) :
    Calls Tryz.prog 108 #[.string s, .string ⟨#[126]⟩] w fun e w' => e = .returned (.tuple #[.string (cutR s), .bool (cutB s)]) ∧ Below w.heap.size w w' :=
  calls_of_pure (cutPrefix_pure s hs) rfl rfl rfl rfl w hlw
theorem bytes_below {w w' : World} (h : w' = w ∨ ∃ t, w' = Lib.bytesWorld w 5 t) : Below w.heap.size w w' := by
  rcases h with rfl | ⟨t, rfl⟩
  · exact Below.refl _ _
  · exact Lib.bytesWorld_below _ _ _
theorem cut_size (s : ByteArray) : (cutR s).size ≤ s.size := by
  unfold cutR
  split
  · simp [ByteArray.size_extract]
  · exact Nat.le_refl _
set_option maxHeartbeats 1000000 in
theorem cot_calls (s : ByteArray) (hs : s.size ≤ 281474976710656) (w : World) (hlw : LaidW w.heap.size w) :
    Calls Tryz.prog 85 #[.string s] w fun e w' => e = .returned (.bool (cotM s)) ∧ Below w.heap.size w w' := by
  have hcut := cut_calls s (by omega) w hlw
  have hsz := cut_size s
  obtain ⟨hg1, te1, pe1, hc1⟩ := laid_iface hlw (g := 0) (by simp [glbs])
  obtain ⟨hg2, te2, pe2, hc2⟩ := laid_iface hlw (g := 1) (by simp [glbs])
  obtain ⟨r, hr⟩ : ∃ r, r = cutR s := ⟨_, rfl⟩
  obtain ⟨b, hb⟩ : ∃ b, b = cutB s := ⟨_, rfl⟩
  rw [← hr, ← hb] at hcut
  rw [← hr] at hsz
  have Hr := Lib.hid hr
  have Hb := Lib.hid hb
  clear hr hb
  cases ha : Lib.atoiAll r.data.toList with
  | range =>
    have hM : cotM s = false := cot_fail fun hh v hv => by
      have hrr := Hr.out
      unfold cutR at hrr
      rw [if_pos hh] at hrr
      rw [← hrr, ha] at hv; cases hv
    rw [hM]
    have Ha := Lib.hid ha
    clear ha hM
    cases b
    all_goals
      go_enter Tryz.func85, Tryz.ntmps85
      go_wp2_with fail
      refine hcut.mono ?_
      clear hcut
      rintro e w1 ⟨rfl, hb1⟩
      have hc2' := (hb1.cell (p := ⟨1, 0, none⟩) hg2).trans hc2
      go_wp2_with fail
      refine (Tryz.strconv_Atoi_range r (by omega) Ha.out _ _ hc2' (.inr ⟨_, _, rfl⟩)).mono ?_
      rintro e w2 ⟨N, rfl, -, -, hb2⟩
      have hb3 := hb1.trans (hb2.mono hb1.size)
      clear hb1 hb2 hc2' hc1 hc2
      go_wp2
      go_ret
      exact ⟨rfl, hb3⟩
  | ok v =>
    have Ha := Lib.hid ha
    clear ha
    cases b with
    | false =>
      have hM : cotM s = false := cot_fail fun hh v hv => by
        have := Hb.out
        unfold cutB at this
        rw [decide_eq_true hh] at this; cases this
      rw [hM]
      clear hM
      go_enter Tryz.func85, Tryz.ntmps85
      go_wp2_with fail
      refine hcut.mono ?_
      clear hcut
      rintro e w1 ⟨rfl, hb1⟩
      go_wp2_with fail
      refine (Tryz.strconv_Atoi_ok r (by omega) v Ha.out _).mono ?_
      rintro e w2 ⟨rfl, hw2⟩
      have hb3 := hb1.trans ((bytes_below hw2).mono hb1.size)
      clear hb1 hw2 hc1 hc2
      go_wp2
      go_ret
      exact ⟨rfl, hb3⟩
    | true =>
      have hh : s.data.toList.head? = some 126 := by
        have := Hb.out
        unfold cutB at this
        simpa using this.symm
      have hre : r = s.extract 1 s.size := by
        have hrr := Hr.out
        unfold cutR at hrr
        rwa [if_pos hh] at hrr
      by_cases h0 : 0 ≤ v ∧ v < 64
      · have hM := cot_case hh (by rw [← hre]; exact Ha.out) h0.1 h0.2
        rw [← hre] at hM
        rw [hM]
        obtain ⟨k, rfl⟩ : ∃ k : Nat, v = k := ⟨v.toNat, by omega⟩
        have hk : k < 64 := by omega
        have hk0 : (0 : Int) ≤ (k : Int) := by omega
        have hk1 : (k : Int) < 64 := by omega
        have HM := Lib.hid hM
        have Hre := Lib.hid hre
        clear hM hre h0
        go_enter Tryz.func85, Tryz.ntmps85
        go_wp2_with fail
        refine hcut.mono ?_
        clear hcut
        rintro e w1 ⟨rfl, hb1⟩
        go_wp2_with fail
        refine (Tryz.strconv_Atoi_ok r (by omega) k Ha.out _).mono ?_
        rintro e w2 ⟨rfl, hw2⟩
        have hb3 := hb1.trans ((bytes_below hw2).mono hb1.size)
        clear hb1 hw2 hc1 hc2
        go_wp2_with fail
        refine (Tryz.strconv_Itoa_small k (by omega) _).mono ?_
        rintro e w3 ⟨rfl, rfl⟩
        go_wp2
        go_ret
        refine ⟨?_, hb3⟩
        rw [← Lib.toList_data r]
        rfl
      · have hM : cotM s = false := cot_fail fun _ v' hv' => by
          rw [← hre, Ha.out] at hv'
          injection hv' with hv'
          rw [← hv']; exact h0
        rw [hM]
        have Hre := Lib.hid hre
        clear hM hre
        by_cases h1 : 0 ≤ v
        · have h2 : ¬ v < 64 := fun h => h0 ⟨h1, h⟩
          clear h0
          go_enter Tryz.func85, Tryz.ntmps85
          go_wp2_with fail
          refine hcut.mono ?_
          clear hcut
          rintro e w1 ⟨rfl, hb1⟩
          go_wp2_with fail
          refine (Tryz.strconv_Atoi_ok r (by omega) v Ha.out _).mono ?_
          rintro e w2 ⟨rfl, hw2⟩
          have hb3 := hb1.trans ((bytes_below hw2).mono hb1.size)
          clear hb1 hw2 hc1 hc2
          go_wp2
          go_ret
          exact ⟨rfl, hb3⟩
        · clear h0
          go_enter Tryz.func85, Tryz.ntmps85
          go_wp2_with fail
          refine hcut.mono ?_
          clear hcut
          rintro e w1 ⟨rfl, hb1⟩
          go_wp2_with fail
          refine (Tryz.strconv_Atoi_ok r (by omega) v Ha.out _).mono ?_
          rintro e w2 ⟨rfl, hw2⟩
          have hb3 := hb1.trans ((bytes_below hw2).mono hb1.size)
          clear hb1 hw2 hc1 hc2
          go_wp2
          go_ret
          exact ⟨rfl, hb3⟩
  | _ =>
    have hM : cotM s = false := cot_fail fun hh v hv => by
      have hrr := Hr.out
      unfold cutR at hrr
      rw [if_pos hh] at hrr
      rw [← hrr, ha] at hv; cases hv
    rw [hM]
    have Ha := Lib.hid (ha.trans (show _ = Lib.atoiAll [] from rfl))
    clear ha hM
    cases b
    all_goals
      go_enter Tryz.func85, Tryz.ntmps85
      go_wp2_with fail
      refine hcut.mono ?_
      clear hcut
      rintro e w1 ⟨rfl, hb1⟩
      have hc1' := (hb1.cell (p := ⟨0, 0, none⟩) hg1).trans hc1
      go_wp2_with fail
      refine (Tryz.strconv_Atoi_syntax r (by omega) Ha.out _ _ hc1' (.inr ⟨_, _, rfl⟩)).mono ?_
      rintro e w2 ⟨N, rfl, -, -, hb2⟩
      have hb3 := hb1.trans (hb2.mono hb1.size)
      clear hb1 hb2 hc1' hc1 hc2
      go_wp2
      go_ret
      exact ⟨rfl, hb3⟩
theorem cot_pure (s : ByteArray) (hs : s.size ≤ 281474976710656) : Pure Tryz.prog 85 [strP s] (.ret (boolP (cotM s))) :=
  pure_of_calls ⟨_, _, Callable.mk Tryz.func85 rfl rfl⟩ rfl rfl rfl rfl fun w hlw => cot_calls s hs w hlw
end Go.Proofs.YtmhpccchgbdiiaaGreatDoor
