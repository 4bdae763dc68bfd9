/- The abstract machine, 5: what an operation does (slices, memory). -/
import Derived.Test.YtikfefjaeejeeaaGreatDoorAe4
import Derived.Laws.CopyRow
import Derived.Laws.IdiomCopy
namespace Go.Proofs.YtikfefjaeejeeaaGreatDoor
open Go.RowKit

theorem PRel.sub {Z : Nat → Nat → Prop} {w : World} {els : List PD} {A : Option Addr} {n c : Nat} (h : PRel Z w (.sl els) (.slice A n c)) {l k s : Nat} (hl : l ≤ k) (hk : k ≤ els.length) (hs : ∀ d ∈ els, d.cells.length = s) :
    PRel Z w (.sl ((els.drop l).take (k - l))) (.slice (if c = l then A else A.map (·.add (l * s))) (k - l) (c - l)) := by
  cases h with
  | sl els A c sz val hc hm hs' hA hr =>
  have hlen : ((els.drop l).take (k - l)).length = k - l := by rw [List.length_take, List.length_drop]; omega
  have hget : ∀ (i : Nat) (d : PD), ((els.drop l).take (k - l))[i]? = some d → i < k - l ∧ els[l + i]? = some d := by
    intro i d hd
    have hi := (List.getElem?_eq_some_iff.1 hd).1
    rw [hlen] at hi
    rw [List.getElem?_take, if_pos hi, List.getElem?_drop] at hd
    exact ⟨hi, hd⟩
  have key : PRel Z w (.sl ((els.drop l).take (k - l))) (.slice (if c = l then A else A.map (·.add (l * s))) ((els.drop l).take (k - l)).length (c - l)) := by
    refine .sl _ _ _ sz (fun q => val (l * sz + q)) (by omega) (by omega) (fun d hd => ?_) (fun i j d e hd he => ?_) (fun i j d e hd he => ?_)
    · exact hs' d (List.mem_of_mem_drop (List.mem_of_mem_take hd))
    · obtain ⟨hi, hd⟩ := hget i d hd
      have hsz : sz = s := (hs' d (List.mem_of_getElem? hd)).symm.trans (hs d (List.mem_of_getElem? hd))
      obtain ⟨g, o, h1, h2, h3, h4⟩ := hA (l + i) j d e hd he
      have hne : ¬ c = l := by omega
      rw [if_neg hne, h1]
      have e1 : l * sz + (i * sz + j) = (l + i) * sz + j := by rw [Nat.add_mul]; omega
      refine ⟨g, o + l * s, by simp [Addr.add_mid], ?_, ?_, ?_⟩
      · rw [← hsz, show o + l * sz + (i * sz + j) = o + ((l + i) * sz + j) by omega]; exact h2
      · rw [← hsz, show o + l * sz + (i * sz + j) = o + ((l + i) * sz + j) by omega, e1]; exact h3
      · simp only [e1]; exact h4
    · obtain ⟨hi, hd⟩ := hget i d hd
      have e1 : l * sz + (i * sz + j) = (l + i) * sz + j := by rw [Nat.add_mul]; omega
      simp only [e1]
      exact hr (l + i) j d e hd he
  rwa [hlen] at key

theorem natOf_v {d : DV} {n : Nat} (h : natOf d = some n) : ∃ k z, d = .p (.v (.int k z)) ∧ 0 ≤ z ∧ z.toNat = n := by
  unfold natOf at h
  split at h
  · split at h
    · rename_i k z h0; injection h with h; exact ⟨k, z, rfl, h0, h⟩
    · cases h
  · cases h
theorem natOf_val {G : Gh} {w : World} {d : DV} {n : Nat} (h : natOf d = some n) {x : Value} (hx : CRel G w d x) : ∃ k z, x = .int k z ∧ 0 ≤ z ∧ z.toNat = n := by
  obtain ⟨k, z, rfl, h0, h1⟩ := natOf_v h
  cases hx with
  | p d x hp => cases hp; exact ⟨k, z, rfl, h0, h1⟩
/-- a bound that may be left out -/
def ORel (G : Gh) (w : World) : Option DV → Option Value → Prop
  | none, none => True
  | some d, some x => CRel G w d x
  | _, _ => False
theorem sliceBound_run {P : Program} {w : World} {k : IntKind} {z : Int} {y n : Nat} (c : BoundsCode) (h0 : 0 ≤ z) (hn : z.toNat = n) (h1 : n ≤ y) : (Instr.sliceBound (.int k z) y c).run P w = .ok n w := by
  have : z ≤ y := by omega
  simp [Instr.sliceBound, asIntOf, h0, this, hn]

def BndV (n l : Nat) : Option Value → Prop
  | none => l = n
  | some x => ∃ k z, x = .int k z ∧ 0 ≤ z ∧ z.toNat = l
theorem sliceAt_slice {P : Program} {w : World} {t e : TypeId} (hu : P.underlying t = some (.slice e)) {s : Nat} (hs : szT P e = some s) (A : Option Addr) (n c l h : Nat) (lo hi : Option Value)
    (hlo : BndV 0 l lo) (hhi : BndV n h hi) (hlh : l ≤ h) (hhc : h ≤ c) :
    (Instr.sliceAt t (.slice A n c) lo hi none).run P w = .ok (.slice (if c = l then A else A.map (·.add (l * s))) (h - l) (c - l)) w := by
  cases lo with
  | none =>
    cases hi with
    | none => simp only [BndV] at hlo hhi; subst hlo; subst hhi; simp [Instr.sliceAt, Instr.slice, run_underlying hu, Instr.sliceBounds, sizeOf_run hs]
    | some x =>
      simp only [BndV] at hlo hhi
      obtain ⟨k, z, rfl, h0, h1⟩ := hhi
      subst hlo
      have := sliceBound_run (P := P) (w := w) (k := k) .sliceAcap h0 h1 hhc
      simp [Instr.sliceAt, Instr.slice, run_underlying hu, Instr.sliceBounds, sizeOf_run hs, this]
  | some y =>
    simp only [BndV] at hlo
    obtain ⟨ky, zy, rfl, y0, y1⟩ := hlo
    cases hi with
    | none =>
      simp only [BndV] at hhi
      subst hhi
      have := sliceBound_run (P := P) (w := w) (k := ky) .sliceB y0 y1 hlh
      simp [Instr.sliceAt, Instr.slice, run_underlying hu, Instr.sliceBounds, sizeOf_run hs, this]
    | some x =>
      simp only [BndV] at hhi
      obtain ⟨k, z, rfl, h0, h1⟩ := hhi
      have e1 := sliceBound_run (P := P) (w := w) (k := k) .sliceAcap h0 h1 hhc
      have e2 := sliceBound_run (P := P) (w := w) (k := ky) .sliceB y0 y1 hlh
      simp [Instr.sliceAt, Instr.slice, run_underlying hu, Instr.sliceBounds, sizeOf_run hs, e1, e2]
theorem sliceAt_string {P : Program} {w : World} {t : TypeId} (hu : P.underlying t = some .string) (q : ByteArray) (l h : Nat) (lo hi : Option Value)
    (hlo : BndV 0 l lo) (hhi : BndV q.size h hi) (hlh : l ≤ h) (hhc : h ≤ q.size) :
    (Instr.sliceAt t (.string q) lo hi none).run P w = .ok (.string (q.extract l h)) w := by
  cases lo with
  | none =>
    cases hi with
    | none => simp only [BndV] at hlo hhi; subst hlo; subst hhi; simp [Instr.sliceAt, Instr.slice, run_underlying hu, Instr.sliceBounds]
    | some x =>
      simp only [BndV] at hlo hhi
      obtain ⟨k, z, rfl, h0, h1⟩ := hhi
      subst hlo
      have := sliceBound_run (P := P) (w := w) (k := k) .sliceAlen h0 h1 hhc
      simp [Instr.sliceAt, Instr.slice, run_underlying hu, Instr.sliceBounds, this]
  | some y =>
    simp only [BndV] at hlo
    obtain ⟨ky, zy, rfl, y0, y1⟩ := hlo
    cases hi with
    | none =>
      simp only [BndV] at hhi
      subst hhi
      have := sliceBound_run (P := P) (w := w) (k := ky) .sliceB y0 y1 hlh
      simp [Instr.sliceAt, Instr.slice, run_underlying hu, Instr.sliceBounds, this]
    | some x =>
      simp only [BndV] at hhi
      obtain ⟨k, z, rfl, h0, h1⟩ := hhi
      have e1 := sliceBound_run (P := P) (w := w) (k := k) .sliceAlen h0 h1 hhc
      have e2 := sliceBound_run (P := P) (w := w) (k := ky) .sliceB y0 y1 hlh
      simp [Instr.sliceAt, Instr.slice, run_underlying hu, Instr.sliceBounds, e1, e2]
theorem sliceAt_none {P : Program} {w : World} {t e : TypeId} (hu : P.underlying t = some (.slice e)) {s : Nat} (hs : szT P e = some s) (A : Option Addr) (n c : Nat) (lo : Option Value) (k1 k2 : IntKind)
    (hlo : BndV 0 0 lo) :
    ∃ A', (Instr.sliceAt t (.slice A n c) lo (some (.int k1 0)) (some (.int k2 0))).run P w = .ok (.slice A' 0 0) w := by
  have e1 := sliceBound_run (P := P) (w := w) (k := k2) (z := 0) (y := c) (n := 0) .slice3Acap (by omega) rfl (by omega)
  have e2 := sliceBound_run (P := P) (w := w) (k := k1) (z := 0) (y := 0) (n := 0) .slice3B (by omega) rfl (by omega)
  cases lo with
  | none => exact ⟨A, by simp [Instr.sliceAt, Instr.slice, run_underlying hu, Instr.sliceBounds, sizeOf_run hs, e1, e2]⟩
  | some x =>
    simp only [BndV] at hlo
    obtain ⟨k, z, rfl, z0, z1⟩ := hlo
    obtain rfl : z = 0 := by omega
    have e3 := sliceBound_run (P := P) (w := w) (k := k) (z := 0) (y := 0) (n := 0) .slice3C (by omega) rfl (by omega)
    exact ⟨A, by simp [Instr.sliceAt, Instr.slice, run_underlying hu, Instr.sliceBounds, sizeOf_run hs, e1, e2, e3]⟩

theorem lo_fact {G : Gh} {w : World} {lo : Option DV} {vlo : Option Value} (h : ORel G w lo vlo) {l n : Nat} (hl : bnd n lo = some l) : BndV n l vlo := by
  cases lo with
  | none => cases vlo with
    | none => injection hl with hl; exact hl.symm
    | some x => exact h.elim
  | some d => cases vlo with
    | none => exact h.elim
    | some x => exact natOf_val hl h

theorem evSlice_sound {P : Program} {G : Gh} {w : World} {t : TypeId} {d e : DV} {lo hi mx : Option DV} {x : Value} {vlo vhi vmx : Option Value} (hx : CRel G w d x) (hlo : ORel G w lo vlo) (hhi : ORel G w hi vhi) (hmx : ORel G w mx vmx)
    (h : evSlice P t d lo hi mx = some e) (hpos : ∀ t', elT P t = some t' → ∃ s, szT P t' = some s) : ∃ v, (Instr.sliceAt t x vlo vhi vmx).run P w = .ok v w ∧ CRel G w e v := by
  have hsl : ∀ (els : List PD) (e' : TypeId) (l k : Nat), PRel G.Z w (.sl els) x → elT P t = some e' → bnd 0 lo = some l → bnd els.length hi = some k →
      (l ≤ k ∧ k ≤ els.length ∧ (∀ d ∈ els, some d.cells.length = szT P e')) → vmx = none → e = .p (.sl ((els.drop l).take (k - l))) → ∃ v, (Instr.sliceAt t x vlo vhi vmx).run P w = .ok v w ∧ CRel G w e v := by
    rintro els e' l k hp ht hl hk ⟨h1, h2, h3⟩ rfl rfl
    obtain ⟨A, c, rfl, hc, hm⟩ := hp.sl_slice
    obtain ⟨s, hs⟩ := hpos e' ht
    refine ⟨_, sliceAt_slice (elT_und ht) hs A els.length c l k vlo vhi (lo_fact hlo hl) (lo_fact hhi hk) h1 (by omega), .p _ _ (hp.sub h1 h2 (fun d hd => ?_))⟩
    have := h3 d hd
    rw [hs] at this
    injection this
  unfold evSlice at h
  split at h
  · rename_i l hl
    cases vmx with
    | some y => exact hmx.elim
    | none =>
    split at h
    · rename_i q
      split at h
      · rename_i k hu hk
        split at h
        · rename_i hc
          injection h with h; subst h
          cases hx with
          | p d x hp =>
          cases hp
          exact ⟨_, sliceAt_string hu q l k vlo vhi (lo_fact hlo hl) (lo_fact hhi hk) hc.1 hc.2, .p _ _ (.v _)⟩
        · cases h
      · cases h
    · split at h
      · rename_i e' k ht hk
        split at h
        · rename_i hc
          injection h with h
          cases hx with
          | p d x hp => exact hsl _ e' l k hp ht hl hk hc rfl h.symm
        · cases h
      · cases h
    · split at h
      · rename_i e' k ht hk
        split at h
        · rename_i hc
          injection h with h
          cases hx with
          | row t1 els x y m hp _ _ _ => exact hsl _ e' l k hp ht hl hk hc rfl h.symm
        · cases h
      · cases h
    · split at h
      · rename_i e' k ht hk
        split at h
        · rename_i hc
          injection h with h; subst h
          cases hx with
          | bsl b off sz len cap g hg hcap hm =>
          obtain ⟨c1, c2, c3, c4⟩ := hc
          refine ⟨_, sliceAt_slice (elT_und ht) c4 _ _ _ l k vlo vhi (lo_fact hlo hl) (lo_fact hhi hk) c1 (by omega), ?_⟩
          rw [if_neg (by omega)]
          simp only [Option.map_some, Addr.add_mid]
          exact .bsl _ _ _ _ _ g hg (by omega) (by omega)
        · cases h
      · cases h
    · cases h
  · rename_i m hl
    cases vmx with
    | none => exact hmx.elim
    | some y =>
    split at h
    · rename_i e' hh ht hm
      cases vhi with
      | none => exact hhi.elim
      | some z =>
      obtain ⟨km, zm, rfl, m0, m1⟩ := natOf_val hm hmx
      obtain rfl : zm = 0 := by omega
      obtain ⟨s, hs⟩ := hpos e' ht
      have hlo0 : BndV 0 0 vlo := lo_fact hlo hl
      have fin : ∀ A n c kz zz, x = .slice A n c → z = .int kz zz → 0 ≤ zz → zz.toNat = 0 → e = .cut0 → ∃ v, (Instr.sliceAt t x vlo (some z) (some (.int km 0))).run P w = .ok v w ∧ CRel G w e v := by
        rintro A n c kz zz rfl rfl z0 z1 rfl
        obtain rfl : zz = 0 := by omega
        obtain ⟨A', hA⟩ := sliceAt_none (P := P) (w := w) (elT_und ht) hs A n c vlo kz km hlo0
        exact ⟨_, hA, .cut0 A'⟩
      split at h
      · rename_i hz
        injection h with h
        obtain ⟨kz, zz, rfl, z0, z1⟩ := natOf_val hz hhi
        cases hx with
        | p d x hp => obtain ⟨A, c, rfl, _⟩ := hp.sl_slice; exact fin A _ c kz zz rfl rfl z0 z1 h.symm
      · rename_i hz
        injection h with h
        obtain ⟨kz, zz, rfl, z0, z1⟩ := natOf_val hz hhi
        cases hx with
        | row t1 els x y m hp _ _ _ => obtain ⟨A, c, rfl, _⟩ := hp.sl_slice; exact fin A _ c kz zz rfl rfl z0 z1 h.symm
      · rename_i hz
        injection h with h
        obtain ⟨kz, zz, rfl, z0, z1⟩ := natOf_val hz hhi
        cases hx with
        | bsl b off sz len cap g hg hcap hm => exact fin _ _ _ kz zz rfl rfl z0 z1 h.symm
      · cases h
    · cases h
  · cases h
end Go.Proofs.YtikfefjaeejeeaaGreatDoor

/- The abstract machine, 6: operations that make or write memory; an operation at all. -/
namespace Go.Proofs.YtikfefjaeejeeaaGreatDoor
open Go.RowKit

/-- an operation's answer: a value, or nothing -/
def Gives (G : Gh) (w : World) (d : DV) (μ' : Mem) (r : Result Next) : Prop := ∃ w' G' v, (r = .ok (.value v) w' ∨ (r = .ok .skip w' ∧ v = undef)) ∧ CRel G' w' d v ∧ MRel G' μ' w' ∧ Grw G w G' w'

theorem cellsV_rel (G : Gh) (w : World) (x : Value) : x.cells.size = (cellsV x).length ∧ ∀ (i : Nat) (d : DV) (y : Value), (cellsV x)[i]? = some d → x.cells[i]? = some y → CRel G w d y := by
  refine ⟨by simp [cellsV], fun i d y hd hy => ?_⟩
  simp only [cellsV, List.getElem?_map, Option.map_eq_some_iff, Array.getElem?_toList] at hd
  obtain ⟨z, hz, rfl⟩ := hd
  rw [hz] at hy
  injection hy with hy
  subst hy
  exact .p _ _ (.v _)
theorem allOne_get {x : Value} (h : allOne x = true) {i : Nat} {y : Value} (hy : x.cells[i]? = some y) : y.oneCell' = true := by
  unfold allOne at h
  exact List.all_eq_true.1 h y (by simpa using Array.mem_of_getElem? hy)
theorem okc_one {d : DV} (h : d.okc = true) {i : Nat} {e : DV} (he : d.cells[i]? = some e) : e.one = true := List.all_eq_true.1 h e (List.mem_of_getElem? he)

def evAlloc (P : Program) (t : TypeId) (μ : Mem) : Option (DV × Mem) :=
  match zrT P t with
  | some z => if allOne z = true then some (.loc μ.boxes.length 0, ⟨μ.boxes ++ [⟨t, cellsV z, false⟩], μ.toks, μ.objs⟩) else none
  | none => none
theorem new_loc {G : Gh} {μ : Mem} {w : World} (hM : MRel G μ w) (t : TypeId) (ds : List DV) (vs : Array Value) (hn : vs.size = ds.length) (hr : ∀ (i : Nat) (d : DV) (x : Value), ds[i]? = some d → vs[i]? = some x → CRel G w d x ∧ x.oneCell' = true) :
    MRel (G.push w.heap.size) ⟨μ.boxes ++ [⟨t, ds, false⟩], μ.toks, μ.objs⟩ (w.alloc (.cells vs t)) ∧ Grw G w (G.push w.heap.size) (w.alloc (.cells vs t)) ∧ (G.push w.heap.size).bs[μ.boxes.length]? = some w.heap.size := by
  refine ⟨hM.alloc t ds vs hn hr, Grw.alloc G w _ hM.zlt, ?_⟩
  show (G.bs ++ [w.heap.size])[μ.boxes.length]? = _
  rw [← hM.len]; simp
theorem evAlloc_sound {P : Program} {G : Gh} {μ μ' : Mem} {w : World} (hM : MRel G μ w) {t : TypeId} {d : DV} (h : evAlloc P t μ = some (d, μ')) :
    ∃ w' G' v, (Instr.alloc t true (.tuple #[])).run P w = .ok v w' ∧ CRel G' w' d v ∧ MRel G' μ' w' ∧ Grw G w G' w' := by
  unfold evAlloc at h
  split at h
  · rename_i z hz
    split at h
    · rename_i h1
      injection h with h; injection h with ha hb; subst ha; subst hb
      · obtain ⟨i, hi, hz⟩ := zrT_info hz
        obtain ⟨k1, k2⟩ := cellsV_rel G w z
        obtain ⟨m1, m2, m3⟩ := new_loc hM t (cellsV z) z.cells k1 (fun j d x hd hx => ⟨k2 j d x hd hx, allOne_get h1 hx⟩)
        exact ⟨_, _, .pointer (some ⟨w.heap.size, 0, none⟩), by simp [Instr.alloc, zeroValue, typeInfo, hi, hz, newVar, newRow], .loc _ _ _ m3, m1, m2⟩
    · cases h
  · cases h

def evBox (t : TypeId) (d : DV) (μ : Mem) : Option (DV × Mem) :=
  if d.okc = true then some (.loc μ.boxes.length 0, ⟨μ.boxes ++ [⟨t, d.cells, false⟩], μ.toks, μ.objs⟩) else none
theorem evBox_sound {P : Program} {G : Gh} {μ μ' : Mem} {w : World} (hM : MRel G μ w) {t : TypeId} {d e : DV} {x : Value} (hx : CRel G w d x) (h : evBox t d μ = some (e, μ')) :
    ∃ w' G' v, (Instr.box t x).run P w = .ok v w' ∧ CRel G' w' e v ∧ MRel G' μ' w' ∧ Grw G w G' w' := by
  unfold evBox at h
  split at h
  · rename_i hok
    injection h with h; injection h with ha hb; subst ha; subst hb
    obtain ⟨k1, k2⟩ := hx.cells hok
    obtain ⟨m1, m2, m3⟩ := new_loc hM t d.cells x.cells k1 (fun j q y hq hy => ⟨k2 j q y hq hy, (k2 j q y hq hy).one (okc_one hok hq)⟩)
    exact ⟨_, _, .pointer (some ⟨w.heap.size, 0, none⟩), by simp [Instr.box, newVar, newRow], .loc _ _ _ m3, m1, m2⟩
  · cases h

def evStore (P : Program) (t : TypeId) (a d : DV) (μ : Mem) : Option Mem :=
  match a with
  | .loc b o => match μ.boxes[b]? with
    | some B => if B.shut = false ∧ d.okc = true ∧ szT P t = some d.cells.length ∧ o + d.cells.length ≤ B.cells.length then
        some ⟨μ.boxes.set b ⟨B.t, B.cells.take o ++ d.cells ++ B.cells.drop (o + d.cells.length), false⟩, μ.toks, μ.objs⟩ else none
    | none => none
  | _ => none
theorem evStore_sound {P : Program} {G : Gh} {μ μ' : Mem} {w : World} (hM : MRel G μ w) {t : TypeId} {a d : DV} {x y : Value} (hx : CRel G w a x) (hy : CRel G w d y) (h : evStore P t a d μ = some μ') :
    ∃ w', (Instr.storeAt t x y).run P w = .ok () w' ∧ MRel G μ' w' ∧ Grw G w G w' := by
  cases hx with
  | loc b o g hg =>
    simp only [evStore] at h
    split at h
    · rename_i B hB
      split at h
      · rename_i hc
        obtain ⟨h1, h2, h3, h4⟩ := hc
        injection h with h; subst h
        obtain ⟨_, vs, g2, g3, g4, g5⟩ := hM.box b B g hB hg
        obtain ⟨k1, k2⟩ := hy.cells h2
        have hlen : y.cells.toList.length = d.cells.length := by simpa using k1
        have hst := run_storeCells_at P g o B.t y.cells.toList 0 vs w g2 (by omega) (fun v hv => by
          obtain ⟨i, hi⟩ := List.getElem?_of_mem hv
          have hi' : y.cells[i]? = some v := by simpa using hi
          have hil := (List.getElem?_eq_some_iff.1 hi).1
          exact (k2 i _ v (List.getElem?_eq_getElem (by omega)) hi').one (okc_one h2 (List.getElem?_eq_getElem (by omega))))
        simp only [Nat.add_zero, hlen] at hst
        refine ⟨_, ?_, hM.setRow hB hg h1 (B.cells.take o ++ d.cells ++ B.cells.drop (o + d.cells.length)) (vs.toList.take o ++ y.cells.toList ++ vs.toList.drop (o + d.cells.length)).toArray ?_ ?_, Grw.setRow _ (g5 h1)⟩
        · have hsz : y.cells.size = d.cells.length := k1
          simp only [Instr.storeAt, Instr.sureAddr, Sem.run_bind, Sem.run_pure, Result.andThen_ok]
          simp [storeVar, sizeOf_run h3, hsz, hst]
        · simp only [List.size_toArray, List.length_append, List.length_take, List.length_drop, Array.length_toList, hlen, g3]
        · intro i q z hq hz
          simp only [List.getElem?_toArray] at hz
          have lo : (B.cells.take o).length = o := by rw [List.length_take]; omega
          have lo' : (vs.toList.take o).length = o := by rw [List.length_take, Array.length_toList]; omega
          rcases Nat.lt_or_ge i o with hi | hi
          · rw [List.append_assoc, List.getElem?_append_left (by omega), List.getElem?_take, if_pos hi] at hq hz
            exact g4 i q z hq (by simpa using hz)
          · rcases Nat.lt_or_ge i (o + d.cells.length) with hj | hj
            · rw [List.getElem?_append_left (by rw [List.length_append]; omega), List.getElem?_append_right (by omega)] at hq hz
              rw [lo] at hq
              rw [lo'] at hz
              have := k2 (i - o) q z hq (by simpa using hz)
              exact ⟨this, this.one (okc_one h2 hq)⟩
            · rw [List.getElem?_append_right (by rw [List.length_append]; omega), List.getElem?_drop] at hq hz
              rw [List.length_append, lo] at hq
              rw [List.length_append, lo', hlen] at hz
              rw [show o + d.cells.length + (i - (o + d.cells.length)) = i by omega] at hq hz
              exact g4 i q z hq (by simpa using hz)
      · cases h
    · cases h
  | _ => simp [evStore] at h

/-- a struct's cells, filled part by part -/
def fillA (place : Nat → Option (Nat × Nat)) : List DV → List (Nat × DV) → Option (List DV)
  | cs, [] => some cs
  | cs, (i, d) :: r => match place i with
    | some (off, size) => if d.okc = true ∧ d.cells.length = size ∧ off + size ≤ cs.length then fillA place (cs.take off ++ d.cells ++ cs.drop (off + size)) r else none
    | none => none
theorem foldl_put : ∀ (vs : List Value) (off j0 : Nat) (cs : Array Value), off + j0 + vs.length ≤ cs.size →
    ((vs.zipIdx j0).foldl (fun cs (x : Value × Nat) => cs.setIfInBounds (off + x.2) x.1) cs).toList = cs.toList.take (off + j0) ++ vs ++ cs.toList.drop (off + j0 + vs.length)
  | [], off, j0, cs, h => by simp
  | v :: r, off, j0, cs, h => by
    simp only [List.length_cons] at h
    rw [List.zipIdx_cons, List.foldl_cons, foldl_put r off (j0 + 1) _ (by simp; omega)]
    simp only [Array.toList_setIfInBounds, List.length_cons]
    have e1 : off + (j0 + 1) = off + j0 + 1 := by omega
    rw [e1]
    apply List.ext_getElem?
    intro k
    have l0 : (cs.toList.take (off + j0)).length = off + j0 := by rw [List.length_take, Array.length_toList]; omega
    have l1 : ((cs.toList.set (off + j0) v).take (off + j0 + 1)).length = off + j0 + 1 := by rw [List.length_take, List.length_set, Array.length_toList]; omega
    rcases Nat.lt_trichotomy k (off + j0) with hk | hk | hk
    · rw [List.append_assoc, List.getElem?_append_left (by omega), List.getElem?_take, if_pos (by omega), List.getElem?_set_ne (by omega), List.append_assoc, List.getElem?_append_left (by omega), List.getElem?_take, if_pos hk]
    · subst hk
      rw [List.append_assoc, List.getElem?_append_left (by omega), List.getElem?_take, if_pos (by omega), List.getElem?_set_self (by rw [Array.length_toList]; omega), List.append_assoc, List.getElem?_append_right (by omega), l0]
      simp
    · have hL : ((cs.toList.set (off + j0) v).take (off + j0 + 1) ++ r ++ (cs.toList.set (off + j0) v).drop (off + j0 + 1 + r.length))[k]? = (r ++ (cs.toList.set (off + j0) v).drop (off + j0 + 1 + r.length))[k - (off + j0 + 1)]? := by
        rw [List.append_assoc, List.getElem?_append_right (by omega), l1]
      have hR : (cs.toList.take (off + j0) ++ (v :: r) ++ cs.toList.drop (off + j0 + (r.length + 1)))[k]? = (r ++ cs.toList.drop (off + j0 + (r.length + 1)))[k - (off + j0 + 1)]? := by
        rw [List.append_assoc, List.getElem?_append_right (by omega), l0, show k - (off + j0) = (k - (off + j0 + 1)) + 1 by omega, List.cons_append, List.getElem?_cons_succ]
      rw [hL, hR]
      rcases Nat.lt_or_ge (k - (off + j0 + 1)) r.length with hr | hr
      · rw [List.getElem?_append_left hr, List.getElem?_append_left hr]
      · rw [List.getElem?_append_right hr, List.getElem?_append_right hr, List.getElem?_drop, List.getElem?_drop, List.getElem?_set_ne (by omega)]
        congr 1
        omega
theorem fill_sound {G : Gh} {w : World} (place : Nat → Option (Nat × Nat)) : ∀ (ps : List (Nat × DV)) (pv : List (Nat × Value)) (cs cs' : List DV) (vs : Array Value), fillA place cs ps = some cs' → pv.length = ps.length →
    (∀ (i : Nat) (p : Nat × DV) (q : Nat × Value), ps[i]? = some p → pv[i]? = some q → p.1 = q.1 ∧ CRel G w p.2 q.2) → vs.size = cs.length → (∀ (i : Nat) (d : DV) (x : Value), cs[i]? = some d → vs[i]? = some x → CRel G w d x ∧ x.oneCell' = true) →
    ∃ vs', Instr.fill place vs pv = some vs' ∧ vs'.size = cs'.length ∧ (∀ (i : Nat) (d : DV) (x : Value), cs'[i]? = some d → vs'[i]? = some x → CRel G w d x ∧ x.oneCell' = true)
  | [], pv, cs, cs', vs, h, hl, _, hs, hr => by
    obtain rfl : pv = [] := List.eq_nil_of_length_eq_zero (by simpa using hl)
    injection h with h
    subst h
    exact ⟨vs, rfl, hs, hr⟩
  | (i, d) :: r, [], cs, cs', vs, h, hl, _, hs, hr => by simp at hl
  | (i, d) :: r, (i', x) :: rv, cs, cs', vs, h, hl, hp, hs, hr => by
    obtain ⟨e1, hdx⟩ := hp 0 (i, d) (i', x) rfl rfl
    have e1 : i = i' := e1
    subst e1
    simp only [fillA] at h
    split at h
    · rename_i off size hpl
      split at h
      · rename_i hc
        obtain ⟨h1, h2, h3⟩ := hc
        obtain ⟨k1, k2⟩ := CRel.cells hdx h1
        have k1 : x.cells.size = d.cells.length := k1
        have hfold : (x.cells.zipIdx.foldl (fun cs (c, j) => cs.setIfInBounds (off + j) c) vs).toList = vs.toList.take off ++ x.cells.toList ++ vs.toList.drop (off + size) := by
          rw [← Array.foldl_toList, Array.toList_zipIdx]
          have := foldl_put x.cells.toList off 0 vs (by rw [Array.length_toList]; omega)
          simp only [Nat.add_zero, Array.length_toList, k1, h2] at this
          exact this
        have hlen : x.cells.toList.length = size := by rw [Array.length_toList]; omega
        obtain ⟨vs', m1, m2, m3⟩ := fill_sound place r rv _ cs' (x.cells.zipIdx.foldl (fun cs (c, j) => cs.setIfInBounds (off + j) c) vs) h (by simpa using hl) (fun j p q hp' hq' => hp (j + 1) p q (by simpa using hp') (by simpa using hq')) (by
            rw [← Array.length_toList, hfold]
            simp only [List.length_append, List.length_take, List.length_drop, Array.length_toList, hs, k1]) (by
            intro j q z hq hz
            have hz : (vs.toList.take off ++ x.cells.toList ++ vs.toList.drop (off + size))[j]? = some z := by rw [← hfold]; simpa using hz
            have lo : (cs.take off).length = off := by rw [List.length_take]; omega
            have lo' : (vs.toList.take off).length = off := by rw [List.length_take, Array.length_toList]; omega
            rcases Nat.lt_or_ge j off with hi | hi
            · rw [List.append_assoc, List.getElem?_append_left (by omega), List.getElem?_take, if_pos hi] at hq hz
              exact hr j q z hq (by simpa using hz)
            · rcases Nat.lt_or_ge j (off + size) with hj | hj
              · rw [List.getElem?_append_left (by rw [List.length_append]; omega), List.getElem?_append_right (by omega)] at hq hz
                rw [lo] at hq
                rw [lo'] at hz
                have := k2 (j - off) q z hq (by simpa using hz)
                exact ⟨this, this.one (okc_one h1 hq)⟩
              · rw [List.getElem?_append_right (by rw [List.length_append]; omega), List.getElem?_drop] at hq hz
                rw [List.length_append, lo] at hq
                rw [List.length_append, lo', hlen] at hz
                rw [h2, show off + size + (j - (off + size)) = j by omega] at hq
                rw [show off + size + (j - (off + size)) = j by omega] at hz
                exact hr j q z hq (by simpa using hz))
        refine ⟨vs', ?_, m2, m3⟩
        have c1 : ¬ (x.cells.size ≠ size) := by omega
        have c2 : ¬ (vs.size < off + x.cells.size) := by omega
        simp only [Instr.fill, hpl]
        rw [if_neg (by simp only [Bool.or_eq_true, decide_eq_true_eq]; omega)]
        exact m1
      · cases h
    · cases h
end Go.Proofs.YtikfefjaeejeeaaGreatDoor

/- The abstract machine, 7: structs, slices made and appended to; an operation at all. -/
namespace Go.Proofs.YtikfefjaeejeeaaGreatDoor
open Go.RowKit

def placesA (P : Program) : List Field → Option (List (Nat × Nat))
  | [] => some []
  | f :: r => match szT P f.type, placesA P r with
    | some n, some l => some ((f.offset, n) :: l)
    | _, _ => none
theorem placesA_eq (P : Program) : ∀ (fs : List Field) (l : List (Nat × Nat)), placesA P fs = some l → fs.mapM (fun f => (P.info? f.type).map fun i => (f.offset, i.size)) = some l
  | [], l, h => by injection h with h; subst h; rfl
  | f :: r, l, h => by
    simp only [placesA] at h
    split at h
    · rename_i n l' hn hl
      injection h with h; subst h
      unfold szT at hn
      cases hi : P.info? f.type with
      | none => simp [hi] at hn
      | some i =>
        rw [hi] at hn
        injection hn with hn
        simp [List.mapM_cons, hi, placesA_eq P r l' hl, hn]
    · cases h
def evBuild (P : Program) (t : TypeId) (ps : List (Nat × DV)) : Option DV :=
  match zrT P t, P.underlying t with
  | some z, some (.struct fs) => match placesA P fs.toList with
    | some places => if allOne z = true then match fillA (fun i => places[i]?) (cellsV z) ps with
      | some cs => some (.agg cs)
      | none => none
      else none
    | none => none
  | _, _ => none
theorem evBuild_sound {P : Program} {G : Gh} {w : World} {t : TypeId} {ps : List (Nat × DV)} {pv : Array (Nat × Value)} {e : DV} (h : evBuild P t ps = some e) (hl : pv.size = ps.length)
    (hp : ∀ (i : Nat) (p : Nat × DV) (q : Nat × Value), ps[i]? = some p → pv[i]? = some q → p.1 = q.1 ∧ CRel G w p.2 q.2) : ∃ v, (Instr.build t pv).run P w = .ok v w ∧ CRel G w e v := by
  unfold evBuild at h
  split at h
  · rename_i z fs hz hu
    split at h
    · rename_i places hpl
      split at h
      · rename_i h1
        split at h
        · rename_i cs hf
          injection h with h; subst h
          · obtain ⟨it, hi, hz⟩ := zrT_info hz
            obtain ⟨k1, k2⟩ := cellsV_rel G w z
            obtain ⟨vs', m1, m2, m3⟩ := fill_sound (fun i => places[i]?) ps pv.toList (cellsV z) cs z.cells hf (by simpa using hl) (fun i p q a b => hp i p q a (by simpa using b)) k1 (fun j d x hd hx => ⟨k2 j d x hd hx, allOne_get h1 hx⟩)
            refine ⟨.agg vs', run_build w t pv vs' ?_, .agg _ _ m2 (fun i d x hd hx => (m3 i d x hd hx).1)⟩
            unfold Program.built
            simp only [hi, hu, hz, placesA_eq P _ _ hpl]
            simpa using m1
        · cases h
      · cases h
    · cases h
  · cases h

def evBuildSlice (P : Program) (t : TypeId) (n : Nat) (ps : List (Nat × DV)) (μ : Mem) : Option (DV × Mem) :=
  match elT P t with
  | some e => match szT P e, zrT P e with
    | some s, some z => if n = 0 ∧ ps.length = 0 then some (.cut0, ⟨μ.boxes ++ [⟨e, [], false⟩], μ.toks, μ.objs⟩) else if 0 < n * s ∧ n * s ≤ 16777216 ∧ z.cells.size = s ∧ allOne z = true then
        match fillA (fun i => some (i * s, s)) (List.replicate (n * s) .undef) ps with
        | some cs => some (.bsl μ.boxes.length 0 s n n, ⟨μ.boxes ++ [⟨e, cs, false⟩], μ.toks, μ.objs⟩)
        | none => none
      else none
    | _, _ => none
  | none => none
theorem evBuildSlice_sound {P : Program} {G : Gh} {μ μ' : Mem} {w : World} (hM : MRel G μ w) {t : TypeId} {n : Nat} {ps : List (Nat × DV)} {pv : Array (Nat × Value)} {d : DV} (h : evBuildSlice P t n ps μ = some (d, μ')) (hl : pv.size = ps.length)
    (hp : ∀ (i : Nat) (p : Nat × DV) (q : Nat × Value), ps[i]? = some p → pv[i]? = some q → p.1 = q.1 ∧ CRel G w p.2 q.2) :
    ∃ w' G' v, (Instr.buildSlice t n pv).run P w = .ok v w' ∧ CRel G' w' d v ∧ MRel G' μ' w' ∧ Grw G w G' w' := by
  unfold evBuildSlice at h
  split at h
  · rename_i e he
    split at h
    · rename_i s z hs hz
      split at h
      · rename_i hc
        obtain ⟨rfl, hps⟩ := hc
        injection h with h; injection h with ha hb; subst ha; subst hb
        obtain ⟨q1, q2, q3⟩ := new_loc hM e [] #[] rfl (fun i d x hd => by simp at hd)
        have hpv : pv = #[] := Array.size_eq_zero_iff.1 (by omega)
        subst hpv
        refine ⟨_, _, .slice (some ⟨w.heap.size, 0, none⟩) 0 0, ?_, .cut0 _, q1, q2⟩
        simp [Instr.buildSlice, run_underlying (elT_und he), sizeOf_run hs, Instr.fill, newRow]
        exact congrArg (fun c => w.alloc (Obj.cells c e)) (Array.eq_empty_of_size_eq_zero (by simp))
      split at h
      · rename_i hc
        obtain ⟨c1, c2, c3, c4⟩ := hc
        split at h
        · rename_i cs hf
          injection h with h; injection h with ha hb; subst ha; subst hb
          · obtain ⟨ie, hi, hz⟩ := zrT_info hz
            have hsz : ie.size = s := by unfold szT at hs; rw [hi] at hs; injection hs
            have hs0 : 0 < s := by rcases Nat.eq_zero_or_pos s with h0 | h0
                                   · rw [h0] at c1; simp at c1
                                   · exact h0
            obtain ⟨vs', m1, m2, m3⟩ := fill_sound (fun i => some (i * s, s)) ps pv.toList (List.replicate (n * s) .undef) cs ((Array.range (n * s)).map (z.cells[· % z.cells.size]!)) hf (by simpa using hl) (fun i p q a b => hp i p q a (by simpa using b)) (by simp) (fun j q x hq hx => by
              have hj := (List.getElem?_eq_some_iff.1 hq).1
              simp only [List.length_replicate] at hj
              rw [List.getElem?_replicate, if_pos hj] at hq
              injection hq with hq
              subst hq
              refine ⟨.undef _, ?_⟩
              simp only [Array.getElem?_map, Array.getElem?_range, hj, if_true, Option.map_some, Option.some.injEq] at hx
              subst hx
              have hm : j % z.cells.size < z.cells.size := Nat.mod_lt _ (by omega)
              exact allOne_get c4 (i := j % z.cells.size) (by rw [getElem!_pos z.cells (j % z.cells.size) hm]; exact Array.getElem?_eq_getElem hm))
            obtain ⟨q1, q2, q3⟩ := new_loc hM e cs vs' m2 m3
            have hbnd : n ≤ n * s := Nat.le_mul_of_pos_right n hs0
            refine ⟨_, _, .slice (some ⟨w.heap.size, 0, none⟩) n n, run_buildSlice w t e n pv vs' ie z (elT_und he) hi hz (by rw [hsz]; omega) (by rw [hsz]; omega) (by rw [hsz]; exact m1), .bsl _ _ _ _ _ _ q3 (Nat.le_refl _) (by omega), q1, q2⟩
        · cases h
      · cases h
    · cases h
  · cases h

/-- a made slice of whole cells -/
def evMake (P : Program) (t : TypeId) (l c : DV) (μ : Mem) : Option (DV × Mem) :=
  match elT P t, l, c with
  | some e, .p (.v (.int _ a)), .p (.v (.int _ b)) => match zrT P e, szT P e, byT P e with
    | some z, some n, some m => if n = 1 ∧ z.oneCell' = true ∧ 0 ≤ a ∧ a ≤ b ∧ b ≤ 1099511627776 ∧ m ≤ 128 then
          some (.bsl μ.boxes.length 0 1 a.toNat b.toNat, ⟨μ.boxes ++ [⟨e, List.replicate b.toNat (.p (.v z)), false⟩], μ.toks, μ.objs⟩) else none
    | _, _, _ => none
  | _, _, _ => none
theorem evMake_sound {P : Program} {G : Gh} {μ μ' : Mem} {w : World} (hM : MRel G μ w) {t : TypeId} {l c d : DV} {x y : Value} (hx : CRel G w l x) (hy : CRel G w c y) (h : evMake P t l c μ = some (d, μ')) :
    ∃ w' G' v, (Instr.makeSlice t x y).run P w = .ok v w' ∧ CRel G' w' d v ∧ MRel G' μ' w' ∧ Grw G w G' w' := by
  unfold evMake at h
  split at h
  · rename_i e ka a kb b he
    cases hx with
    | p d1 x hp1 =>
    cases hp1
    cases hy with
    | p d2 y hp2 =>
    cases hp2
    split at h
    · rename_i z n m hz hsn hbm
      · obtain ⟨i, hi, hz⟩ := zrT_info hz
        have hsn : i.size = n := by unfold szT at hsn; rw [hi] at hsn; injection hsn
        have hbm : i.bytes = m := by unfold byT at hbm; rw [hi] at hbm; injection hbm
        subst hsn; subst hbm
        split at h
        · rename_i hc
          obtain ⟨c1, c3, c4, c5, c6, c7⟩ := hc
          have c2 : z.cells = #[z] := by cases z <;> simp_all [Value.cells, Value.oneCell']
          injection h with h; injection h with ha hb; subst ha; subst hb
          obtain ⟨na, rfl⟩ := Int.eq_ofNat_of_zero_le c4
          obtain ⟨nb, rfl⟩ := Int.eq_ofNat_of_zero_le (Int.le_trans c4 c5)
          have w1 : IntKind.i64.wrap (na : Int) = na := by rw [IntKind.wrap_i64]; omega
          have w2 : IntKind.i64.wrap (nb : Int) = nb := by rw [IntKind.wrap_i64]; omega
          have hb48 : ¬ ((i.bytes : Int) * nb > 281474976710656) := by
            have : i.bytes * nb ≤ 128 * 1099511627776 := Nat.mul_le_mul c7 (by omega)
            have h2 : ((i.bytes * nb : Nat) : Int) ≤ 140737488355328 := by omega
            rw [Int.natCast_mul] at h2
            omega
          have hcells : (Array.range nb).map (fun k => z.cells[k % z.cells.size]!) = Array.replicate nb z := by
            apply Array.ext
            · simp
            · intro k h1 h2
              simp [c2, Nat.mod_one]
          obtain ⟨q1, q2, q3⟩ := new_loc hM e (List.replicate nb (.p (.v z))) (Array.replicate nb z) (by simp) (fun j q v hq hv => by
            have hj := (List.getElem?_eq_some_iff.1 hq).1
            simp only [List.length_replicate] at hj
            rw [List.getElem?_replicate, if_pos hj] at hq
            rw [Array.getElem?_replicate, if_pos hj] at hv
            injection hq with hq; injection hv with hv; subst hq; subst hv
            exact ⟨.p _ _ (.v _), c3⟩)
          refine ⟨_, _, .slice (some ⟨w.heap.size, 0, none⟩) na nb, ?_, .bsl _ _ _ _ _ _ q3 (by omega) (by omega), q1, q2⟩
          have hn : ¬ ((nb : Int) < 0) := by omega
          have ha' : ¬ ((na : Int) < 0) := by omega
          have hle : ¬ ((nb : Int) < na) := by omega
          have hsz : ¬ nb < na := by omega
          by_cases h0 : nb = 0
          · subst h0
            obtain rfl : na = 0 := by omega
            have w0 : IntKind.i64.wrap 0 = 0 := by rw [IntKind.wrap_i64]; rfl
            simp [Instr.makeSlice, run_underlying (elT_und he), asInt, asIntOf, typeInfo, hi, w0, sizeOf, c1, newRow]
            congr 2
            exact Array.eq_empty_of_size_eq_zero (by simp)
          · simp [Instr.makeSlice, run_underlying (elT_und he), asInt, asIntOf, typeInfo, zeroValue, hi, hz, w1, w2, hb48, hn, ha', hsz, sizeOf, c1, newRow, h0, hcells]
        · cases h
    · cases h
  · cases h

theorem append_cut0 {P : Program} {G : Gh} {μ : Mem} {w : World} (hM : MRel G μ w) {T ty e : TypeId} {i : TypeInfo} {z : Value} {s : Nat} (hT : P.underlying T = some (.slice e)) (hi : P.info? e = some i) (hz : i.zero = some z) (hsize : i.size = s) (hzs : z.cells.size = s) (hs0 : 0 < s)
    (A : Option Addr) {ys : List PD} {y : Value} {news : List Value} (hy : SrcOf G.Z w s ys y news) (hbytes : ys.length * i.bytes ≤ 140737488355328) (h63 : ys.length ≤ 9223372036854775807) :
    ∃ v' w' G', (Builtin.append_ #[T, T] ty #[.slice A 0 0, y]).run P w = .ok v' w' ∧ CRel G' w' (.p (.sl ys)) v' ∧ MRel G' μ w' ∧ Grw G w G' w' := by
  obtain ⟨A', c, hyv, hyc⟩ := hy.val
  by_cases hm : ys.length = 0
  · have hys : ys = [] := List.eq_nil_of_length_eq_zero hm
    subst hys
    refine ⟨.slice A 0 0, w, G, ?_, .p _ _ (.sl [] A 0 0 (fun _ => undef) (Nat.le_refl _) (by simp) (by simp) (by simp) (by simp)), hM, Grw.refl G w⟩
    rw [hyv]; exact run_append_none P w T ty e i hT hi _ _ _ _ _ (Nat.le_refl _)
  have hnl : 0 < news.length := by rw [hy.len]; exact Nat.mul_pos (by omega) hs0
  obtain ⟨ga, oa, hA0, _⟩ := hyc 0 news[0] (List.getElem?_eq_getElem hnl)
  have hcells : ∀ (j : Nat) (u : Value), news[j]? = some u → w.cell? ((⟨ga, oa, none⟩ : Addr).add j) = some u := by
    intro j u hu
    obtain ⟨g, o, h1, h2⟩ := hyc j u hu
    rw [hA0] at h1
    injection h1 with h1
    injection h1 with h1 h1'
    subst h1; subst h1'
    rw [Addr.add_mid]; exact h2
  subst hsize
  have hsrc : Src P i.size T (.slice (some ⟨ga, oa, none⟩) ys.length c) ys.length news w := Src.ofSlice w hT _ _ _ _ hy.len hcells hy.one
  have hold : (Builtin.firstCells i.size 0 (.slice A 0 0)).run P w.drew = .ok ([] : List Value).toArray w.drew := by
    cases A <;> simp [Builtin.firstCells, loadCells, loadCellsFrom]
  have hr := run_append_grow_src w T T ty e i z hT hi hz A 0 0 [] hold (.slice (some ⟨ga, oa, none⟩) ys.length c) ys.length news hsrc (by omega) (by omega) (by
    rw [Nat.zero_add, nextslicecap_zero (by omega)]; omega)
  simp only [Nat.zero_add, List.nil_append] at hr
  have hb : Below w.heap.size w (w.drew.alloc (.cells (news.toArray ++ Builtin.zeroCells z.cells (grownCap w ys.length 0 e - ys.length)) e)) := ((Below.refl _ _).drew).alloc (Nat.le_refl _) _
  have hge := grownCap_ge w ys.length 0 e
  have hblk := heap_alloc_new w.drew (.cells (news.toArray ++ Builtin.zeroCells z.cells (grownCap w ys.length 0 e - ys.length)) e)
  refine ⟨_, _, G.grown w _, by rw [hyv, hA0]; exact hr, ?_, hM.below hb, Grw.below hM.zlt hb⟩
  refine .p _ _ (.sl ys _ _ i.size (fun k => news.getD k undef) hge h63 hy.sz (fun a b d q hd hq => ?_) (fun a b d q hd hq => ?_))
  · have ha := (List.getElem?_eq_some_iff.1 hd).1
    have hb' := (List.getElem?_eq_some_iff.1 hq).1
    have hds := hy.sz d (List.mem_of_getElem? hd)
    have hk := mul_add_lt ha (show b < i.size by omega)
    have hkl : a * i.size + b < news.length := by rw [hy.len]; exact hk
    have hval : news.getD (a * i.size + b) undef = news[a * i.size + b] := by rw [List.getD_eq_getElem?_getD, List.getElem?_eq_getElem hkl]; rfl
    refine ⟨w.heap.size, 0, rfl, .inr ⟨Nat.le_refl _, by simp⟩, ?_, by simp only [hval]; exact hy.one _ (List.getElem_mem _)⟩
    rw [Nat.zero_add, hval, cell_of_row _ w.heap.size _ _ e (0, 0) hblk]
    rw [Array.getElem?_append_left (by simpa using hkl)]
    simp [hkl]
  · have ha := (List.getElem?_eq_some_iff.1 hd).1
    have hb' := (List.getElem?_eq_some_iff.1 hq).1
    have hds := hy.sz d (List.mem_of_getElem? hd)
    have hk := mul_add_lt ha (show b < i.size by omega)
    have hkl : a * i.size + b < news.length := by rw [hy.len]; exact hk
    have hval : news.getD (a * i.size + b) undef = news[a * i.size + b] := by rw [List.getD_eq_getElem?_getD, List.getElem?_eq_getElem hkl]; rfl
    simp only [hval]
    exact (hy.rel a b d q _ hd hq (List.getElem?_eq_getElem hkl)).grw (Grw.below hM.zlt hb)

/-- an append to what is full -/
theorem append_full {P : Program} {G : Gh} {μ : Mem} {w : World} (hM : MRel G μ w) {T ty e : TypeId} {i : TypeInfo} {z : Value} {s : Nat} (hT : P.underlying T = some (.slice e)) (hi : P.info? e = some i) (hz : i.zero = some z) (hsize : i.size = s) (hzs : z.cells.size = s) (hs0 : 0 < s)
    {els : List PD} {A : Option Addr} {xs : List Value} (hx : SrcOf G.Z w s els (.slice A els.length els.length) xs) (hxp : PRel G.Z w (.sl els) (.slice A els.length els.length)) {ys : List PD} {y : Value} {news : List Value} (hy : SrcOf G.Z w s ys y news) (hbytes : (els.length + ys.length) * i.bytes ≤ 140737488355328) (h63 : els.length + ys.length ≤ 9223372036854775807) (hel : 0 < els.length) :
    ∃ v' w' G', (Builtin.append_ #[T, T] ty #[.slice A els.length els.length, y]).run P w = .ok v' w' ∧ CRel G' w' (.p (.sl (els ++ ys))) v' ∧ MRel G' μ w' ∧ Grw G w G' w' := by
  obtain ⟨A', c, hyv, hyc⟩ := hy.val
  by_cases hm : ys.length = 0
  · have hys : ys = [] := List.eq_nil_of_length_eq_zero hm
    subst hys
    refine ⟨.slice A els.length els.length, w, G, ?_, .p _ _ (by rw [List.append_nil]; exact hxp), hM, Grw.refl G w⟩
    rw [hyv]; exact run_append_none P w T ty e i hT hi _ _ _ _ _ (Nat.le_refl _)
  have hnl : 0 < news.length := by rw [hy.len]; exact Nat.mul_pos (by omega) hs0
  have hxl : 0 < xs.length := by rw [hx.len]; exact Nat.mul_pos hel hs0
  obtain ⟨ga, oa, hA0, _⟩ := hyc 0 news[0] (List.getElem?_eq_getElem hnl)
  have hcells : ∀ (j : Nat) (u : Value), news[j]? = some u → w.cell? ((⟨ga, oa, none⟩ : Addr).add j) = some u := by
    intro j u hu
    obtain ⟨g, o, h1, h2⟩ := hyc j u hu
    rw [hA0] at h1
    injection h1 with h1
    injection h1 with h1 h1'
    subst h1; subst h1'
    rw [Addr.add_mid]; exact h2
  obtain ⟨B, cB, hBv, hBc⟩ := hx.val
  injection hBv with hBA _ _
  subst hBA
  obtain ⟨gb, ob, hB0, _⟩ := hBc 0 xs[0] (List.getElem?_eq_getElem hxl)
  have hxcells : ∀ (j : Nat) (u : Value), xs[j]? = some u → w.cell? ((⟨gb, ob, none⟩ : Addr).add j) = some u := by
    intro j u hu
    obtain ⟨g, o, h1, h2⟩ := hBc j u hu
    rw [hB0] at h1
    injection h1 with h1
    injection h1 with h1 h1'
    subst h1; subst h1'
    rw [Addr.add_mid]; exact h2
  subst hsize
  have hr := run_append_grow (P := P) w T ty e i z hT hi hz ⟨gb, ob, none⟩ els.length els.length xs hx.len hxcells ⟨ga, oa, none⟩ ys.length c news hy.len hcells (by omega) (by omega) (growslice_fits (by omega) hbytes)
  have hlen : (els ++ ys).length = els.length + ys.length := List.length_append
  rw [← hlen] at hr
  have hb : Below w.heap.size w (w.drew.alloc (.cells (xs.toArray ++ news.toArray ++ Builtin.zeroCells z.cells (grownCap w (els ++ ys).length els.length e - (els ++ ys).length)) e)) := ((Below.refl _ _).drew).alloc (Nat.le_refl _) _
  have hge := grownCap_ge w (els ++ ys).length els.length e
  have hblk := heap_alloc_new w.drew (.cells (xs.toArray ++ news.toArray ++ Builtin.zeroCells z.cells (grownCap w (els ++ ys).length els.length e - (els ++ ys).length)) e)
  refine ⟨_, _, G.grown w _, by rw [hyv, hA0, hB0]; exact hr, ?_, hM.below hb, Grw.below hM.zlt hb⟩
  have hall : (xs ++ news).length = (els ++ ys).length * i.size := by rw [List.length_append, hlen, hx.len, hy.len, Nat.add_mul]
  have hsz : ∀ d ∈ els ++ ys, d.cells.length = i.size := fun d hd => (List.mem_append.1 hd).elim (hx.sz d) (hy.sz d)
  refine .p _ _ (.sl (els ++ ys) _ _ i.size (fun k => ((xs ++ news)[k]?).getD undef) hge (by omega) hsz (fun a b d q hd hq => ?_) (fun a b d q hd hq => ?_))
  · have ha := (List.getElem?_eq_some_iff.1 hd).1
    have hb' := (List.getElem?_eq_some_iff.1 hq).1
    have hds := hsz d (List.mem_of_getElem? hd)
    have hk := mul_add_lt ha (show b < i.size by omega)
    have hkl : a * i.size + b < (xs ++ news).length := by rw [hall]; exact hk
    have hone : ((xs ++ news)[a * i.size + b]'hkl).oneCell' = true := by
      have hmem : (xs ++ news)[a * i.size + b]'hkl ∈ xs ++ news := List.getElem_mem hkl
      exact (List.mem_append.1 hmem).elim (hx.one _) (hy.one _)
    refine ⟨w.heap.size, 0, rfl, .inr ⟨Nat.le_refl _, by simp⟩, ?_, by simp only [List.getElem?_eq_getElem hkl, Option.getD_some]; exact hone⟩
    rw [Nat.zero_add, List.getElem?_eq_getElem hkl, Option.getD_some, cell_of_row _ w.heap.size _ _ e (0, 0) hblk]
    rw [Array.getElem?_append_left (by simpa using hkl)]
    have : (xs.toArray ++ news.toArray)[a * i.size + b]? = (xs ++ news)[a * i.size + b]? := by simp
    rw [this, List.getElem?_eq_getElem hkl]
  · have ha := (List.getElem?_eq_some_iff.1 hd).1
    have hb' := (List.getElem?_eq_some_iff.1 hq).1
    have hds := hsz d (List.mem_of_getElem? hd)
    have hk := mul_add_lt ha (show b < i.size by omega)
    have hkl : a * i.size + b < (xs ++ news).length := by rw [hall]; exact hk
    rcases Nat.lt_or_ge a els.length with hae | hae
    · rw [List.getElem?_append_left hae] at hd
      have hk2 := mul_add_lt hae (show b < i.size by omega)
      have hkx : a * i.size + b < xs.length := by rw [hx.len]; exact hk2
      simp only [List.getElem?_append_left hkx, List.getElem?_eq_getElem hkx, Option.getD_some]
      exact (hx.rel a b d q _ hd hq (List.getElem?_eq_getElem hkx)).grw (Grw.below hM.zlt hb)
    · rw [List.getElem?_append_right hae] at hd
      have hay := (List.getElem?_eq_some_iff.1 hd).1
      have hk2 := mul_add_lt hay (show b < i.size by omega)
      have he : a * i.size + b = xs.length + ((a - els.length) * i.size + b) := by
        rw [hx.len, ← Nat.add_assoc, ← Nat.add_mul]; congr 2; omega
      have hkn : (a - els.length) * i.size + b < news.length := by rw [hy.len]; exact hk2
      have hget : (xs ++ news)[a * i.size + b]? = some (news[(a - els.length) * i.size + b]'hkn) := by
        rw [he, List.getElem?_append_right (by omega), Nat.add_sub_cancel_left, List.getElem?_eq_getElem hkn]
      simp only [hget, Option.getD_some]
      exact (hy.rel (a - els.length) b d q _ hd hq (List.getElem?_eq_getElem hkn)).grw (Grw.below hM.zlt hb)

def sized (s : Nat) (l : List PD) : Prop := ∀ d ∈ l, d.cells.length = s
instance (s : Nat) (l : List PD) : Decidable (sized s l) := inferInstanceAs (Decidable (∀ d ∈ l, d.cells.length = s))
def evAppend (P : Program) (T : TypeId) (x y : DV) (μ : Mem) : Option (DV × Mem) :=
  match elT P T with
  | some e => match zrT P e, szT P e, byT P e with
    | some z, some sz, some by_ => match frz 200 μ y with
        | some (.sl ys, μ1) => if 0 < sz ∧ z.cells.size = sz ∧ sized sz ys then
            match x with
            | .row t els => match μ1.toks[t]? with
              | some (some (e', s', n)) => if e' = e ∧ s' = sz ∧ n = els.length ∧ sized sz els ∧ (els.length + ys.length) * by_ ≤ 140737488355328 ∧ els.length + ys.length ≤ 1099511627776 then
                  some (.row t (els ++ ys), ⟨μ1.boxes, μ1.toks.set t (some (e, sz, els.length + ys.length)), μ1.objs⟩) else none
              | _ => none
            | .p (.v (.slice none 0 0)) => if ys.length * by_ ≤ 140737488355328 ∧ ys.length ≤ 1099511627776 then
                some (.row μ1.toks.length ys, ⟨μ1.boxes, μ1.toks ++ [some (e, sz, ys.length)], μ1.objs⟩) else none
            | .cut0 => if ys.length * by_ ≤ 140737488355328 ∧ ys.length ≤ 1099511627776 then some (.p (.sl ys), μ1) else none
            | .bsl b off s' len cap => if len = cap ∧ 0 < len then match frz 200 μ1 (.bsl b off s' len cap) with
              | some (.sl els, μ2) => if sized sz els ∧ (els.length + ys.length) * by_ ≤ 140737488355328 ∧ els.length + ys.length ≤ 1099511627776 then some (.p (.sl (els ++ ys)), μ2) else none
              | _ => none
              else none
            | _ => none
          else none
        | _ => none
    | _, _, _ => none
  | none => none
theorem append_types {P : Program} {w : World} {T T' ty : TypeId} {x y : Value} {e e' : TypeId} (h : P.underlying T = some (.slice e)) (h' : P.underlying T' = some (.slice e')) : (Builtin.append_ #[T, T'] ty #[x, y]).run P w = (Builtin.append_ #[T, T] ty #[x, y]).run P w := by
  cases x <;> first
    | rfl
    | (simp [Builtin.append_, run_underlying h, run_underlying h']; done)
/-- two types of slices -/
def slTs (P : Program) (t t' : TypeId) : Bool := Nat.beq t t' || ((elT P t).isSome && (elT P t').isSome)
theorem slTs_run {P : Program} {w : World} {T T' ty : TypeId} {x y : Value} (h : slTs P T T' = true) : (Builtin.append_ #[T, T'] ty #[x, y]).run P w = (Builtin.append_ #[T, T] ty #[x, y]).run P w := by
  unfold slTs at h
  rw [Bool.or_eq_true, Bool.and_eq_true] at h
  rcases h with h | ⟨h, h'⟩
  · rw [Nat.eq_of_beq_eq_true h]
  · obtain ⟨e, he⟩ := Option.isSome_iff_exists.1 h
    obtain ⟨e', he'⟩ := Option.isSome_iff_exists.1 h'
    exact append_types (elT_und he) (elT_und he')
theorem evAppend_sound {P : Program} {G : Gh} {μ μ' : Mem} {w : World} (hM : MRel G μ w) {T ty : TypeId} {a b d : DV} {x y : Value} (hx : CRel G w a x) (hy : CRel G w b y) (h : evAppend P T a b μ = some (d, μ')) :
    ∃ w' G' v, (Builtin.append_ #[T, T] ty #[x, y]).run P w = .ok v w' ∧ CRel G' w' d v ∧ MRel G' μ' w' ∧ Grw G w G' w' := by
  unfold evAppend at h
  split at h
  case h_2 => cases h
  rename_i e he
  have hT := elT_und he
  split at h
  case h_2 => cases h
  rename_i z sz by_ hz hsn hbm
  obtain ⟨i, hi, hzz⟩ := zrT_info hz
  have hsn : i.size = sz := by unfold szT at hsn; rw [hi] at hsn; injection hsn
  have hbm : i.bytes = by_ := by unfold byT at hbm; rw [hi] at hbm; injection hbm
  subst hsn; subst hbm
  split at h
  case h_2 => cases h
  rename_i ys μ1 hf
  obtain ⟨G1, m1, m2, m3, _⟩ := (frz_sound 200).1 μ b _ μ1 hf G w y hM hy
  have hx1 := hx.grw m2
  split at h
  case isFalse => cases h
  rename_i hc
  obtain ⟨c1, c2, c3⟩ := hc
  obtain ⟨news, hsrc⟩ := SrcOf.sl m3 c3
  split at h
  · rename_i t els
    split at h
    · rename_i e' s' n ht
      split at h
      · rename_i hc2
        obtain ⟨rfl, rfl, rfl, k4, k5, k6⟩ := hc2
        injection h with h; injection h with ha hb; subst ha; subst hb
        obtain ⟨v', w', G', r1, r2, r3, r4⟩ := m1.append ht hx1 rfl hsrc k4 T ty i z hT hi hzz rfl c2 k5 (by omega)
        exact ⟨w', G', v', r1, r2, r3, m2.trans r4⟩
      · cases h
    · cases h
  · split at h
    · rename_i hc2
      injection h with h; injection h with ha hb; subst ha; subst hb
      cases hx1 with
      | p d x hp =>
      cases hp
      obtain ⟨G2, a1, a2, a3⟩ := m1.adopt e i.size c1
      have hsrc2 : SrcOf G2.Z w i.size ys y news := ⟨hsrc.val, hsrc.len, hsrc.one, hsrc.sz, fun a b d e u h1 h2 h3 => (hsrc.rel a b d e u h1 h2 h3).grw a2, hsrc.max⟩
      obtain ⟨v', w', G', r1, r2, r3, r4⟩ := a1.append (t := μ1.toks.length) (by simp) a3 rfl hsrc2 (by simp) T ty i z hT hi hzz rfl c2 (by simpa using hc2.1) (by simp; omega)
      refine ⟨w', G', v', r1, by simpa using r2, ?_, (m2.trans a2).trans r4⟩
      simpa using r3
    · cases h
  · split at h
    · rename_i hc2
      injection h with h; injection h with ha hb; subst ha; subst hb
      cases hx1 with
      | cut0 A =>
      obtain ⟨v', w', G', r1, r2, r3, r4⟩ := append_cut0 m1 (ty := ty) hT hi hzz rfl c2 c1 A hsrc hc2.1 (by omega)
      exact ⟨w', G', v', r1, r2, r3, m2.trans r4⟩
    · cases h
  · rename_i b off s' len cap
    split at h
    · rename_i hfull
      split at h
      · rename_i els μ2 hf2
        split at h
        · rename_i hc2
          injection h with h; injection h with ha hb; subst ha; subst hb
          obtain ⟨G2, n1, n2, n3, _⟩ := (frz_sound 200).1 μ1 _ _ μ2 hf2 G1 w x m1 hx1
          have hsrc2 : SrcOf G2.Z w i.size ys y news := ⟨hsrc.val, hsrc.len, hsrc.one, hsrc.sz, fun a b d e u h1 h2 h3 => (hsrc.rel a b d e u h1 h2 h3).grw n2, hsrc.max⟩
          cases hx1 with
          | bsl b off sz' len cap g hg hcap hmx =>
          obtain ⟨A, c, hA, hc0, hm0⟩ := n3.sl_slice
          injection hA with hA1 hA2 hA3
          have hce : c = els.length := by rw [← hA3, ← hA2]; exact hfull.1.symm
          have e1 : Value.slice (some ⟨g, off, none⟩) len cap = .slice (some ⟨g, off, none⟩) els.length els.length := by rw [hA3, hce, hA2]
          rw [e1] at n3 ⊢
          obtain ⟨xs, hxs⟩ := SrcOf.sl n3 hc2.1
          obtain ⟨v', w', G', r1, r2, r3, r4⟩ := append_full n1 (ty := ty) hT hi hzz rfl c2 c1 hxs n3 hsrc2 hc2.2.1 (by omega) (by omega)
          exact ⟨w', G', v', r1, r2, r3, (m2.trans n2).trans r4⟩
        · cases h
      · cases h
    · cases h
  · cases h

/-- an append to nil itself: pure data -/
def isNilC : Operand → Bool
  | .const (.slice none 0 0) => true
  | _ => false
def memLess : Option (PD × Mem) → Option (List PD)
  | some (.sl ys, ⟨[], [], []⟩) => some ys
  | _ => none
def evAppN (P : Program) (T : TypeId) (y : DV) : Option DV :=
  match elT P T, memLess (frz 200 ⟨[], [], []⟩ y) with
  | some e, some ys => match zrT P e, szT P e, byT P e with
    | some z, some sz, some by_ => if 0 < sz ∧ z.cells.size = sz ∧ sized sz ys ∧ ys.length * by_ ≤ 140737488355328 ∧ ys.length ≤ 1099511627776 then some (.p (.sl ys)) else none
    | _, _, _ => none
  | _, _ => none
theorem memLess_eq {r : Option (PD × Mem)} {ys : List PD} (h : memLess r = some ys) : r = some (.sl ys, ⟨[], [], []⟩) := by
  unfold memLess at h
  split at h
  · injection h with h; rw [h]
  · cases h
theorem frz_free : ∀ (k : Nat), (∀ (d : DV) (q : PD) (μ' : Mem), frz k ⟨[], [], []⟩ d = some (q, μ') → ∀ μ, frz k μ d = some (q, μ)) ∧ (∀ (ds : List DV) (l : List PD) (μ' : Mem), frzL k ⟨[], [], []⟩ ds = some (l, μ') → μ' = ⟨[], [], []⟩ ∧ ∀ μ, frzL k μ ds = some (l, μ)) := by
  intro k
  induction k with
  | zero => exact ⟨fun d q μ' h => by simp [frz] at h, fun ds l μ' h => by simp [frzL] at h⟩
  | succ k ih =>
    have keep : ∀ (d : DV) (q : PD) (μ' : Mem), frz k ⟨[], [], []⟩ d = some (q, μ') → μ' = ⟨[], [], []⟩ := fun d q μ' h => by
      have := ih.1 d q μ' h ⟨[], [], []⟩
      rw [h] at this
      injection this with this
      injection this
    refine ⟨fun d q μ' h μ => ?_, fun ds l μ' h => ?_⟩
    · cases d with
      | fn f cs => cases cs <;> simp [frz] at h ⊢; exact h.1
      | agg cs =>
        simp only [frz] at h ⊢
        split at h
        · rename_i l μ1 hl
          injection h with h; injection h with h _; subst h
          rw [(ih.2 _ _ _ hl).2 μ]
        · cases h
      | tup cs =>
        simp only [frz] at h ⊢
        split at h
        · rename_i l μ1 hl
          injection h with h; injection h with h _; subst h
          rw [(ih.2 _ _ _ hl).2 μ]
        · cases h
      | bsl b off sz len cap => simp [frz] at h
      | _ => simp [frz] at h <;> simp [frz, h]
    · cases ds with
      | nil =>
        simp only [frzL, Option.some.injEq, Prod.mk.injEq] at h
        obtain ⟨rfl, rfl⟩ := h
        exact ⟨rfl, fun μ => by simp [frzL]⟩
      | cons d r =>
        simp only [frzL] at h
        split at h
        · rename_i p μ1 h1
          split at h
          · rename_i l2 μ2 h2
            injection h with h; injection h with h h'; subst h; subst h'
            have := keep _ _ _ h1
            subst this
            refine ⟨(ih.2 _ _ _ h2).1, fun μ => ?_⟩
            simp only [frzL]
            rw [ih.1 _ _ _ h1 μ]
            simp only
            rw [(ih.2 _ _ _ h2).2 μ]
          · cases h
        · cases h
theorem evAppN_sound {P : Program} {G : Gh} {μ : Mem} {w : World} (hM : MRel G μ w) {T ty : TypeId} {b d : DV} {y : Value} (hy : CRel G w b y) (h : evAppN P T b = some d) :
    ∃ w' G' v, (Builtin.append_ #[T, T] ty #[.slice none 0 0, y]).run P w = .ok v w' ∧ CRel G' w' d v ∧ MRel G' μ w' ∧ Grw G w G' w' := by
  unfold evAppN at h
  split at h
  case h_2 => cases h
  rename_i e ys he hml
  have hT := elT_und he
  split at h
  case h_2 => cases h
  rename_i z sz by_ hz hsn hbm
  split at h
  case isFalse => cases h
  rename_i hc
  obtain ⟨c1, c2, c3, c4, c5⟩ := hc
  injection h with h; subst h
  obtain ⟨i, hi, hzz⟩ := zrT_info hz
  have hsn : i.size = sz := by unfold szT at hsn; rw [hi] at hsn; injection hsn
  have hbm : i.bytes = by_ := by unfold byT at hbm; rw [hi] at hbm; injection hbm
  subst hsn; subst hbm
  have hf := (frz_free 200).1 b _ _ (memLess_eq hml) μ
  obtain ⟨G1, m1, m2, m3, _⟩ := (frz_sound 200).1 μ b _ μ hf G w y hM hy
  obtain ⟨news, hsrc⟩ := SrcOf.sl m3 c3
  obtain ⟨v', w', G', r1, r2, r3, r4⟩ := append_cut0 m1 (ty := ty) hT hi hzz rfl c2 c1 none hsrc c4 (by omega)
  exact ⟨w', G', v', r1, r2, r3, m2.trans r4⟩

/-- the builtin copy, into a box of ours -/
def evCopy (P : Program) (T : TypeId) (x y : DV) (μ : Mem) : Option (DV × Mem) :=
  match x, elT P T, frz 200 μ y with
  | .bsl b off 1 len _, some e, some (.sl ys, μ1) => match szT P e, μ1.boxes[b]? with
    | some 1, some B => if B.shut = false ∧ ys.all PD.single = true ∧ off + min ys.length len ≤ B.cells.length then
        some (.p (.v (.int .i64 (min ys.length len : Nat))), ⟨μ1.boxes.set b ⟨B.t, B.cells.take off ++ (ys.take len).map DV.p ++ B.cells.drop (off + min ys.length len), false⟩, μ1.toks, μ1.objs⟩) else none
    | _, _ => none
  | _, _, _ => none
theorem evCopy_sound {P : Program} {G : Gh} {μ μ' : Mem} {w : World} (hM : MRel G μ w) {T T' ty : TypeId} {a b d : DV} {x y : Value} (hx : CRel G w a x) (hy : CRel G w b y) (h : evCopy P T a b μ = some (d, μ')) :
    ∃ w' G' v, (Builtin.copy_ #[T, T'] ty #[x, y]).run P w = .ok v w' ∧ CRel G' w' d v ∧ MRel G' μ' w' ∧ Grw G w G' w' := by
  unfold evCopy at h
  split at h
  case h_2 => cases h
  rename_i bb off len cap e ys μ1 he hf
  have hT := elT_und he
  split at h
  case h_2 => cases h
  rename_i B hsz hB
  split at h
  case isFalse => cases h
  rename_i hc
  obtain ⟨c1, c2, c3⟩ := hc
  injection h with h; injection h with ha hb; subst ha; subst hb
  obtain ⟨G1, m1, m2, m3, _⟩ := (frz_sound 200).1 μ b _ μ1 hf G w y hM hy
  have hx1 := hx.grw m2
  have hsing : ∀ d ∈ ys, d.cells = [d] := fun d hd => PD.single_cells (List.all_eq_true.1 c2 d hd)
  obtain ⟨news, hsrc⟩ := SrcOf.sl m3 (s := 1) (fun d hd => by rw [hsing d hd]; rfl)
  obtain ⟨A, c, hyv, hyc⟩ := hsrc.val
  have hinfo : (P.info? e).map (·.size) = some 1 := hsz
  cases hx1 with
  | bsl b off sz len cap g hg hcap hm =>
  obtain ⟨_, vs, g2, g3, g4, g5⟩ := m1.box bb B g hB hg
  have hnl : news.length = ys.length := by rw [hsrc.len, Nat.mul_one]
  obtain ⟨cs, hcs⟩ : ∃ cs, cs = news.take len := ⟨_, rfl⟩
  have hcl : cs.length = min ys.length len := by rw [hcs, List.length_take, hnl, Nat.min_comm]
  have hcget : ∀ (j : Nat) (u : Value), cs[j]? = some u → j < len ∧ news[j]? = some u := by
    intro j u hu
    have hj := (List.getElem?_eq_some_iff.1 hu).1
    rw [hcs, List.length_take] at hj
    rw [hcs, List.getElem?_take, if_pos (by omega)] at hu
    exact ⟨by omega, hu⟩
  have hrun : (Builtin.copy_ #[T, T'] ty #[.slice (some ⟨g, off, none⟩) len cap, y]).run P w = .ok (goInt cs.length) (if cs.length = 0 then w else w.setRow g (vs.toList.take off ++ cs ++ vs.toList.drop (off + cs.length)).toArray) := by
    by_cases h0 : cs.length = 0
    · rw [if_pos h0, h0, hyv]
      exact run_copy_none (P := P) w T T' ty e _ _ _ _ _ _ hT hinfo (by rw [hcl] at h0; exact h0)
    · rw [if_neg h0, hyv]
      have h00 : 0 < news.length := by rw [hnl]; rw [hcl] at h0; omega
      obtain ⟨ga, oa, hA0, _⟩ := hyc 0 news[0] (List.getElem?_eq_getElem h00)
      rw [hA0]
      refine run_copy_row (P := P) w T T' ty e g off len cap ⟨ga, oa, none⟩ ys.length c vs B.t cs hT hinfo g2 hcl (fun j u hu => ?_) (by rw [hcl, g3]; exact c3) (fun u hu => ?_)
      · obtain ⟨gj, oj, h1, h2⟩ := hyc j u (hcget j u hu).2
        rw [hA0] at h1
        injection h1 with h1
        injection h1 with h1 h1'
        subst h1; subst h1'
        rw [Addr.add_mid]; exact h2
      · exact hsrc.one u (List.mem_of_mem_take (hcs ▸ hu))
  obtain ⟨ds, hds⟩ : ∃ ds, ds = B.cells.take off ++ (ys.take len).map DV.p ++ B.cells.drop (off + min ys.length len) := ⟨_, rfl⟩
  have lo : (B.cells.take off).length = off := by rw [List.length_take]; omega
  have lo' : (vs.toList.take off).length = off := by rw [List.length_take, Array.length_toList]; omega
  have lm : ((ys.take len).map DV.p).length = min ys.length len := by rw [List.length_map, List.length_take, Nat.min_comm]
  have hrel : ∀ (i : Nat) (d : DV) (x : Value), ds[i]? = some d → (vs.toList.take off ++ cs ++ vs.toList.drop (off + cs.length)).toArray[i]? = some x → CRel G1 w d x ∧ x.oneCell' = true := by
    intro i q z hq hz
    rw [hds] at hq
    simp only [List.getElem?_toArray] at hz
    rcases Nat.lt_or_ge i off with hi | hi
    · rw [List.append_assoc, List.getElem?_append_left (by omega), List.getElem?_take, if_pos hi] at hq hz
      exact g4 i q z hq (by simpa using hz)
    · rcases Nat.lt_or_ge i (off + min ys.length len) with hj | hj
      · rw [List.getElem?_append_left (by rw [List.length_append]; omega), List.getElem?_append_right (by omega)] at hq hz
        rw [lo] at hq
        rw [lo'] at hz
        obtain ⟨_, hn⟩ := hcget _ _ hz
        rw [List.getElem?_map, List.getElem?_take, if_pos (by omega)] at hq
        obtain ⟨p, hp, rfl⟩ := Option.map_eq_some_iff.1 hq
        refine ⟨.p _ _ (hsrc.rel (i - off) 0 p p z hp (by rw [hsing p (List.mem_of_getElem? hp)]; rfl) (by rw [Nat.mul_one, Nat.add_zero]; exact hn)), hsrc.one z (List.mem_of_getElem? hn)⟩
      · rw [List.getElem?_append_right (by rw [List.length_append]; omega), List.getElem?_drop] at hq hz
        rw [List.length_append, lo, lm] at hq
        rw [List.length_append, lo', hcl] at hz
        rw [show off + min ys.length len + (i - (off + min ys.length len)) = i by omega] at hq hz
        exact g4 i q z hq (by simpa using hz)
  refine ⟨_, G1, _, hrun, by rw [hcl]; exact .p _ _ (.v _), ?_, m2.trans ?_⟩
  · by_cases h0 : cs.length = 0
    · rw [if_pos h0]
      have hm0 : min ys.length len = 0 := by rw [← hcl]; exact h0
      have e1 : (ys.take len).map DV.p = [] := List.eq_nil_of_length_eq_zero (by rw [lm]; exact hm0)
      have e2 : B.cells.take off ++ (ys.take len).map DV.p ++ B.cells.drop (off + min ys.length len) = B.cells := by
        rw [e1, hm0, List.append_nil, Nat.add_zero, List.take_append_drop]
      rw [e2]
      have e3 : μ1.boxes.set bb ⟨B.t, B.cells, false⟩ = μ1.boxes := by
        have : (⟨B.t, B.cells, false⟩ : Box) = B := by rw [← c1]
        rw [this]
        apply List.ext_getElem?
        intro k
        by_cases hk : k = bb
        · subst hk; rw [List.getElem?_set_self (List.getElem?_eq_some_iff.1 hB).1, hB]
        · rw [List.getElem?_set_ne (Ne.symm hk)]
      rw [e3]
      exact m1
    · rw [if_neg h0, ← hds]
      refine m1.setRow hB hg c1 ds _ ?_ hrel
      rw [hds]
      simp only [List.size_toArray, List.length_append, List.length_take, List.length_drop, List.length_map, Array.length_toList, hcl, g3]
      omega
  · by_cases h0 : cs.length = 0
    · rw [if_pos h0]; exact Grw.refl G1 w
    · rw [if_neg h0]; exact Grw.setRow _ (g5 c1)
end Go.Proofs.YtikfefjaeejeeaaGreatDoor
