/- The abstract machine, 5: what an operation does (slices, memory). -/
import Derived.Test.YtmhpccchgbdiiaaGreatDoorAe4
namespace Go.Proofs.YtmhpccchgbdiiaaGreatDoor
open Go.RowKit

theorem PRel.sub {Z : Nat → Nat → Prop} {w : World} {els : List PD} {A : Option Addr} {n c : Nat} (h : PRel Z w (.sl els) (.slice A n c)) {l k s : Nat} (hl : l ≤ k) (hk : k ≤ els.length) (hs : ∀ d ∈ els, d.cells.length = s) :
    PRel Z w (.sl ((els.drop l).take (k - l))) (.slice (if c = l then A else A.map (·.add (l * s))) (k - l) (c - l)) := by
  cases h with
  | sl els A c sz val hc hm hs' hA hr =>
  have hlen : ((els.drop l).take (k - l)).length = k - l := by rw [List.length_take, List.length_drop]; omega
  have hget : ∀ (i : Nat) (d : PD), ((els.drop l).take (k - l))[i]? = some d → i < k - l ∧ els[l + i]? = some d := by
    intro i d hd
    have hi := (List.getElem?_eq_some_iff.1 hd).1
    rw [hlen] at hi
    rw [List.getElem?_take, if_pos hi, List.getElem?_drop] at hd
    exact ⟨hi, hd⟩
  have key : PRel Z w (.sl ((els.drop l).take (k - l))) (.slice (if c = l then A else A.map (·.add (l * s))) ((els.drop l).take (k - l)).length (c - l)) := by
    refine .sl _ _ _ sz (fun q => val (l * sz + q)) (by omega) (by omega) (fun d hd => ?_) (fun i j d e hd he => ?_) (fun i j d e hd he => ?_)
    · exact hs' d (List.mem_of_mem_drop (List.mem_of_mem_take hd))
    · obtain ⟨hi, hd⟩ := hget i d hd
      have hsz : sz = s := (hs' d (List.mem_of_getElem? hd)).symm.trans (hs d (List.mem_of_getElem? hd))
      obtain ⟨g, o, h1, h2, h3, h4⟩ := hA (l + i) j d e hd he
      have hne : ¬ c = l := by omega
      rw [if_neg hne, h1]
      have e1 : l * sz + (i * sz + j) = (l + i) * sz + j := by rw [Nat.add_mul]; omega
      refine ⟨g, o + l * s, by simp [Addr.add_mid], ?_, ?_, ?_⟩
      · rw [← hsz, show o + l * sz + (i * sz + j) = o + ((l + i) * sz + j) by omega]; exact h2
      · rw [← hsz, show o + l * sz + (i * sz + j) = o + ((l + i) * sz + j) by omega, e1]; exact h3
      · simp only [e1]; exact h4
    · obtain ⟨hi, hd⟩ := hget i d hd
      have e1 : l * sz + (i * sz + j) = (l + i) * sz + j := by rw [Nat.add_mul]; omega
      simp only [e1]
      exact hr (l + i) j d e hd he
  rwa [hlen] at key

theorem natOf_v {d : DV} {n : Nat} (h : natOf d = some n) : ∃ k z, d = .p (.v (.int k z)) ∧ 0 ≤ z ∧ z.toNat = n := by
  unfold natOf at h
  split at h
  · split at h
    · rename_i k z h0; injection h with h; exact ⟨k, z, rfl, h0, h⟩
    · cases h
  · cases h
theorem natOf_val {G : Gh} {w : World} {d : DV} {n : Nat} (h : natOf d = some n) {x : Value} (hx : CRel G w d x) : ∃ k z, x = .int k z ∧ 0 ≤ z ∧ z.toNat = n := by
  obtain ⟨k, z, rfl, h0, h1⟩ := natOf_v h
  cases hx with
  | p d x hp => cases hp; exact ⟨k, z, rfl, h0, h1⟩
/-- a bound that may be left out -/
def ORel (G : Gh) (w : World) : Option DV → Option Value → Prop
  | none, none => True
  | some d, some x => CRel G w d x
  | _, _ => False
theorem sliceBound_run {P : Program} {w : World} {k : IntKind} {z : Int} {y n : Nat} (c : BoundsCode) (h0 : 0 ≤ z) (hn : z.toNat = n) (h1 : n ≤ y) : (Instr.sliceBound (.int k z) y c).run P w = .ok n w := by
  have : z ≤ y := by omega
  simp [Instr.sliceBound, asIntOf, h0, this, hn]

def BndV (n l : Nat) : Option Value → Prop
  | none => l = n
  | some x => ∃ k z, x = .int k z ∧ 0 ≤ z ∧ z.toNat = l
theorem sliceAt_slice {P : Program} {w : World} {t e : TypeId} (hu : P.underlying t = some (.slice e)) {s : Nat} (hs : szT P e = some s) (A : Option Addr) (n c l h : Nat) (lo hi : Option Value)
    (hlo : BndV 0 l lo) (hhi : BndV n h hi) (hlh : l ≤ h) (hhc : h ≤ c) :
    (Instr.sliceAt t (.slice A n c) lo hi none).run P w = .ok (.slice (if c = l then A else A.map (·.add (l * s))) (h - l) (c - l)) w := by
  cases lo with
  | none =>
    cases hi with
    | none => simp only [BndV] at hlo hhi; subst hlo; subst hhi; simp [Instr.sliceAt, Instr.slice, run_underlying hu, Instr.sliceBounds, sizeOf_run hs]
    | some x =>
      simp only [BndV] at hlo hhi
      obtain ⟨k, z, rfl, h0, h1⟩ := hhi
      subst hlo
      have := sliceBound_run (P := P) (w := w) (k := k) .sliceAcap h0 h1 hhc
      simp [Instr.sliceAt, Instr.slice, run_underlying hu, Instr.sliceBounds, sizeOf_run hs, this]
  | some y =>
    simp only [BndV] at hlo
    obtain ⟨ky, zy, rfl, y0, y1⟩ := hlo
    cases hi with
    | none =>
      simp only [BndV] at hhi
      subst hhi
      have := sliceBound_run (P := P) (w := w) (k := ky) .sliceB y0 y1 hlh
      simp [Instr.sliceAt, Instr.slice, run_underlying hu, Instr.sliceBounds, sizeOf_run hs, this]
    | some x =>
      simp only [BndV] at hhi
      obtain ⟨k, z, rfl, h0, h1⟩ := hhi
      have e1 := sliceBound_run (P := P) (w := w) (k := k) .sliceAcap h0 h1 hhc
      have e2 := sliceBound_run (P := P) (w := w) (k := ky) .sliceB y0 y1 hlh
      simp [Instr.sliceAt, Instr.slice, run_underlying hu, Instr.sliceBounds, sizeOf_run hs, e1, e2]
theorem sliceAt_string {P : Program} {w : World} {t : TypeId} (hu : P.underlying t = some .string) (q : ByteArray) (l h : Nat) (lo hi : Option Value)
    (hlo : BndV 0 l lo) (hhi : BndV q.size h hi) (hlh : l ≤ h) (hhc : h ≤ q.size) :
    (Instr.sliceAt t (.string q) lo hi none).run P w = .ok (.string (q.extract l h)) w := by
  cases lo with
  | none =>
    cases hi with
    | none => simp only [BndV] at hlo hhi; subst hlo; subst hhi; simp [Instr.sliceAt, Instr.slice, run_underlying hu, Instr.sliceBounds]
    | some x =>
      simp only [BndV] at hlo hhi
      obtain ⟨k, z, rfl, h0, h1⟩ := hhi
      subst hlo
      have := sliceBound_run (P := P) (w := w) (k := k) .sliceAlen h0 h1 hhc
      simp [Instr.sliceAt, Instr.slice, run_underlying hu, Instr.sliceBounds, this]
  | some y =>
    simp only [BndV] at hlo
    obtain ⟨ky, zy, rfl, y0, y1⟩ := hlo
    cases hi with
    | none =>
      simp only [BndV] at hhi
      subst hhi
      have := sliceBound_run (P := P) (w := w) (k := ky) .sliceB y0 y1 hlh
      simp [Instr.sliceAt, Instr.slice, run_underlying hu, Instr.sliceBounds, this]
    | some x =>
      simp only [BndV] at hhi
      obtain ⟨k, z, rfl, h0, h1⟩ := hhi
      have e1 := sliceBound_run (P := P) (w := w) (k := k) .sliceAlen h0 h1 hhc
      have e2 := sliceBound_run (P := P) (w := w) (k := ky) .sliceB y0 y1 hlh
      simp [Instr.sliceAt, Instr.slice, run_underlying hu, Instr.sliceBounds, e1, e2]
theorem sliceAt_none {P : Program} {w : World} {t e : TypeId} (hu : P.underlying t = some (.slice e)) {s : Nat} (hs : szT P e = some s) (A : Option Addr) (n c : Nat) (lo : Option Value) (k1 k2 : IntKind)
    (hlo : BndV 0 0 lo) :
    ∃ A', (Instr.sliceAt t (.slice A n c) lo (some (.int k1 0)) (some (.int k2 0))).run P w = .ok (.slice A' 0 0) w := by
  have e1 := sliceBound_run (P := P) (w := w) (k := k2) (z := 0) (y := c) (n := 0) .slice3Acap (by omega) rfl (by omega)
  have e2 := sliceBound_run (P := P) (w := w) (k := k1) (z := 0) (y := 0) (n := 0) .slice3B (by omega) rfl (by omega)
  cases lo with
  | none => exact ⟨A, by simp [Instr.sliceAt, Instr.slice, run_underlying hu, Instr.sliceBounds, sizeOf_run hs, e1, e2]⟩
  | some x =>
    simp only [BndV] at hlo
    obtain ⟨k, z, rfl, z0, z1⟩ := hlo
    obtain rfl : z = 0 := by omega
    have e3 := sliceBound_run (P := P) (w := w) (k := k) (z := 0) (y := 0) (n := 0) .slice3C (by omega) rfl (by omega)
    exact ⟨A, by simp [Instr.sliceAt, Instr.slice, run_underlying hu, Instr.sliceBounds, sizeOf_run hs, e1, e2, e3]⟩

theorem lo_fact {G : Gh} {w : World} {lo : Option DV} {vlo : Option Value} (h : ORel G w lo vlo) {l n : Nat} (hl : bnd n lo = some l) : BndV n l vlo := by
  cases lo with
  | none => cases vlo with
    | none => injection hl with hl; exact hl.symm
    | some x => exact h.elim
  | some d => cases vlo with
    | none => exact h.elim
    | some x => exact natOf_val hl h

theorem evSlice_sound {P : Program} {G : Gh} {w : World} {t : TypeId} {d e : DV} {lo hi mx : Option DV} {x : Value} {vlo vhi vmx : Option Value} (hx : CRel G w d x) (hlo : ORel G w lo vlo) (hhi : ORel G w hi vhi) (hmx : ORel G w mx vmx)
    (h : evSlice P t d lo hi mx = some e) (hpos : ∀ t', elT P t = some t' → ∃ s, szT P t' = some s) : ∃ v, (Instr.sliceAt t x vlo vhi vmx).run P w = .ok v w ∧ CRel G w e v := by
  have hsl : ∀ (els : List PD) (e' : TypeId) (l k : Nat), PRel G.Z w (.sl els) x → elT P t = some e' → bnd 0 lo = some l → bnd els.length hi = some k →
      (l ≤ k ∧ k ≤ els.length ∧ (∀ d ∈ els, some d.cells.length = szT P e')) → vmx = none → e = .p (.sl ((els.drop l).take (k - l))) → ∃ v, (Instr.sliceAt t x vlo vhi vmx).run P w = .ok v w ∧ CRel G w e v := by
    rintro els e' l k hp ht hl hk ⟨h1, h2, h3⟩ rfl rfl
    obtain ⟨A, c, rfl, hc, hm⟩ := hp.sl_slice
    obtain ⟨s, hs⟩ := hpos e' ht
    refine ⟨_, sliceAt_slice (elT_und ht) hs A els.length c l k vlo vhi (lo_fact hlo hl) (lo_fact hhi hk) h1 (by omega), .p _ _ (hp.sub h1 h2 (fun d hd => ?_))⟩
    have := h3 d hd
    rw [hs] at this
    injection this
  unfold evSlice at h
  split at h
  · rename_i l hl
    cases vmx with
    | some y => exact hmx.elim
    | none =>
    split at h
    · rename_i q
      split at h
      · rename_i k hu hk
        split at h
        · rename_i hc
          injection h with h; subst h
          cases hx with
          | p d x hp =>
          cases hp
          exact ⟨_, sliceAt_string hu q l k vlo vhi (lo_fact hlo hl) (lo_fact hhi hk) hc.1 hc.2, .p _ _ (.v _)⟩
        · cases h
      · cases h
    · split at h
      · rename_i e' k ht hk
        split at h
        · rename_i hc
          injection h with h
          cases hx with
          | p d x hp => exact hsl _ e' l k hp ht hl hk hc rfl h.symm
        · cases h
      · cases h
    · split at h
      · rename_i e' k ht hk
        split at h
        · rename_i hc
          injection h with h
          cases hx with
          | row t1 els x y m hp _ _ _ => exact hsl _ e' l k hp ht hl hk hc rfl h.symm
        · cases h
      · cases h
    · split at h
      · rename_i e' k ht hk
        split at h
        · rename_i hc
          injection h with h; subst h
          cases hx with
          | bsl b off sz len cap g hg hcap hm =>
          obtain ⟨c1, c2, c3, c4⟩ := hc
          refine ⟨_, sliceAt_slice (elT_und ht) c4 _ _ _ l k vlo vhi (lo_fact hlo hl) (lo_fact hhi hk) c1 (by omega), ?_⟩
          rw [if_neg (by omega)]
          simp only [Option.map_some, Addr.add_mid]
          exact .bsl _ _ _ _ _ g hg (by omega) (by omega)
        · cases h
      · cases h
    · cases h
  · rename_i m hl
    cases vmx with
    | none => exact hmx.elim
    | some y =>
    split at h
    · rename_i e' hh ht hm
      cases vhi with
      | none => exact hhi.elim
      | some z =>
      obtain ⟨km, zm, rfl, m0, m1⟩ := natOf_val hm hmx
      obtain rfl : zm = 0 := by omega
      obtain ⟨s, hs⟩ := hpos e' ht
      have hlo0 : BndV 0 0 vlo := lo_fact hlo hl
      have fin : ∀ A n c kz zz, x = .slice A n c → z = .int kz zz → 0 ≤ zz → zz.toNat = 0 → e = .cut0 → ∃ v, (Instr.sliceAt t x vlo (some z) (some (.int km 0))).run P w = .ok v w ∧ CRel G w e v := by
        rintro A n c kz zz rfl rfl z0 z1 rfl
        obtain rfl : zz = 0 := by omega
        obtain ⟨A', hA⟩ := sliceAt_none (P := P) (w := w) (elT_und ht) hs A n c vlo kz km hlo0
        exact ⟨_, hA, .cut0 A'⟩
      split at h
      · rename_i hz
        injection h with h
        obtain ⟨kz, zz, rfl, z0, z1⟩ := natOf_val hz hhi
        cases hx with
        | p d x hp => obtain ⟨A, c, rfl, _⟩ := hp.sl_slice; exact fin A _ c kz zz rfl rfl z0 z1 h.symm
      · rename_i hz
        injection h with h
        obtain ⟨kz, zz, rfl, z0, z1⟩ := natOf_val hz hhi
        cases hx with
        | row t1 els x y m hp _ _ _ => obtain ⟨A, c, rfl, _⟩ := hp.sl_slice; exact fin A _ c kz zz rfl rfl z0 z1 h.symm
      · rename_i hz
        injection h with h
        obtain ⟨kz, zz, rfl, z0, z1⟩ := natOf_val hz hhi
        cases hx with
        | bsl b off sz len cap g hg hcap hm => exact fin _ _ _ kz zz rfl rfl z0 z1 h.symm
      · cases h
    · cases h
  · cases h
end Go.Proofs.YtmhpccchgbdiiaaGreatDoor
