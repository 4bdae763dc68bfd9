/- The abstract machine, 6: operations that make or write memory; an operation at all. -/
import Derived.Test.YtmhpccchgbdiiaaGreatDoorAe5
namespace Go.Proofs.YtmhpccchgbdiiaaGreatDoor
open Go.RowKit

/-- an operation's answer: a value, or nothing -/
def Gives (G : Gh) (w : World) (d : DV) (μ' : Mem) (r : Result Next) : Prop := ∃ w' G' v, (r = .ok (.value v) w' ∨ (r = .ok .skip w' ∧ v = undef)) ∧ CRel G' w' d v ∧ MRel G' μ' w' ∧ Grw G w G' w'

theorem cellsV_rel (G : Gh) (w : World) (x : Value) : x.cells.size = (cellsV x).length ∧ ∀ (i : Nat) (d : DV) (y : Value), (cellsV x)[i]? = some d → x.cells[i]? = some y → CRel G w d y := by
  refine ⟨by simp [cellsV], fun i d y hd hy => ?_⟩
  simp only [cellsV, List.getElem?_map, Option.map_eq_some_iff, Array.getElem?_toList] at hd
  obtain ⟨z, hz, rfl⟩ := hd
  rw [hz] at hy
  injection hy with hy
  subst hy
  exact .p _ _ (.v _)
theorem allOne_get {x : Value} (h : allOne x = true) {i : Nat} {y : Value} (hy : x.cells[i]? = some y) : y.oneCell' = true := by
  unfold allOne at h
  exact List.all_eq_true.1 h y (by simpa using Array.mem_of_getElem? hy)
theorem okc_one {d : DV} (h : d.okc = true) {i : Nat} {e : DV} (he : d.cells[i]? = some e) : e.one = true := List.all_eq_true.1 h e (List.mem_of_getElem? he)

def evAlloc (P : Program) (t : TypeId) (μ : Mem) : Option (DV × Mem) :=
  match zrT P t with
  | some z => if allOne z = true then some (.loc μ.boxes.length 0, ⟨μ.boxes ++ [⟨t, cellsV z, false⟩], μ.toks, μ.objs⟩) else none
  | none => none
theorem new_loc {G : Gh} {μ : Mem} {w : World} (hM : MRel G μ w) (t : TypeId) (ds : List DV) (vs : Array Value) (hn : vs.size = ds.length) (hr : ∀ (i : Nat) (d : DV) (x : Value), ds[i]? = some d → vs[i]? = some x → CRel G w d x ∧ x.oneCell' = true) :
    MRel (G.push w.heap.size) ⟨μ.boxes ++ [⟨t, ds, false⟩], μ.toks, μ.objs⟩ (w.alloc (.cells vs t)) ∧ Grw G w (G.push w.heap.size) (w.alloc (.cells vs t)) ∧ (G.push w.heap.size).bs[μ.boxes.length]? = some w.heap.size := by
  refine ⟨hM.alloc t ds vs hn hr, Grw.alloc G w _ hM.zlt, ?_⟩
  show (G.bs ++ [w.heap.size])[μ.boxes.length]? = _
  rw [← hM.len]; simp
theorem evAlloc_sound {P : Program} {G : Gh} {μ μ' : Mem} {w : World} (hM : MRel G μ w) {t : TypeId} {d : DV} (h : evAlloc P t μ = some (d, μ')) :
    ∃ w' G' v, (Instr.alloc t true (.tuple #[])).run P w = .ok v w' ∧ CRel G' w' d v ∧ MRel G' μ' w' ∧ Grw G w G' w' := by
  unfold evAlloc at h
  split at h
  · rename_i z hz
    split at h
    · rename_i h1
      injection h with h; injection h with ha hb; subst ha; subst hb
      · obtain ⟨i, hi, hz⟩ := zrT_info hz
        obtain ⟨k1, k2⟩ := cellsV_rel G w z
        obtain ⟨m1, m2, m3⟩ := new_loc hM t (cellsV z) z.cells k1 (fun j d x hd hx => ⟨k2 j d x hd hx, allOne_get h1 hx⟩)
        exact ⟨_, _, .pointer (some ⟨w.heap.size, 0, none⟩), by simp [Instr.alloc, zeroValue, typeInfo, hi, hz, newVar, newRow], .loc _ _ _ m3, m1, m2⟩
    · cases h
  · cases h

def evBox (t : TypeId) (d : DV) (μ : Mem) : Option (DV × Mem) :=
  if d.okc = true then some (.loc μ.boxes.length 0, ⟨μ.boxes ++ [⟨t, d.cells, false⟩], μ.toks, μ.objs⟩) else none
theorem evBox_sound {P : Program} {G : Gh} {μ μ' : Mem} {w : World} (hM : MRel G μ w) {t : TypeId} {d e : DV} {x : Value} (hx : CRel G w d x) (h : evBox t d μ = some (e, μ')) :
    ∃ w' G' v, (Instr.box t x).run P w = .ok v w' ∧ CRel G' w' e v ∧ MRel G' μ' w' ∧ Grw G w G' w' := by
  unfold evBox at h
  split at h
  · rename_i hok
    injection h with h; injection h with ha hb; subst ha; subst hb
    obtain ⟨k1, k2⟩ := hx.cells hok
    obtain ⟨m1, m2, m3⟩ := new_loc hM t d.cells x.cells k1 (fun j q y hq hy => ⟨k2 j q y hq hy, (k2 j q y hq hy).one (okc_one hok hq)⟩)
    exact ⟨_, _, .pointer (some ⟨w.heap.size, 0, none⟩), by simp [Instr.box, newVar, newRow], .loc _ _ _ m3, m1, m2⟩
  · cases h

def evStore (P : Program) (t : TypeId) (a d : DV) (μ : Mem) : Option Mem :=
  match a with
  | .loc b o => match μ.boxes[b]? with
    | some B => if B.shut = false ∧ d.okc = true ∧ szT P t = some d.cells.length ∧ o + d.cells.length ≤ B.cells.length then
        some ⟨μ.boxes.set b ⟨B.t, B.cells.take o ++ d.cells ++ B.cells.drop (o + d.cells.length), false⟩, μ.toks, μ.objs⟩ else none
    | none => none
  | _ => none
theorem evStore_sound {P : Program} {G : Gh} {μ μ' : Mem} {w : World} (hM : MRel G μ w) {t : TypeId} {a d : DV} {x y : Value} (hx : CRel G w a x) (hy : CRel G w d y) (h : evStore P t a d μ = some μ') :
    ∃ w', (Instr.storeAt t x y).run P w = .ok () w' ∧ MRel G μ' w' ∧ Grw G w G w' := by
  cases hx with
  | loc b o g hg =>
    simp only [evStore] at h
    split at h
    · rename_i B hB
      split at h
      · rename_i hc
        obtain ⟨h1, h2, h3, h4⟩ := hc
        injection h with h; subst h
        obtain ⟨_, vs, g2, g3, g4, g5⟩ := hM.box b B g hB hg
        obtain ⟨k1, k2⟩ := hy.cells h2
        have hlen : y.cells.toList.length = d.cells.length := by simpa using k1
        have hst := run_storeCells_at P g o B.t y.cells.toList 0 vs w g2 (by omega) (fun v hv => by
          obtain ⟨i, hi⟩ := List.getElem?_of_mem hv
          have hi' : y.cells[i]? = some v := by simpa using hi
          have hil := (List.getElem?_eq_some_iff.1 hi).1
          exact (k2 i _ v (List.getElem?_eq_getElem (by omega)) hi').one (okc_one h2 (List.getElem?_eq_getElem (by omega))))
        simp only [Nat.add_zero, hlen] at hst
        refine ⟨_, ?_, hM.setRow hB hg h1 (B.cells.take o ++ d.cells ++ B.cells.drop (o + d.cells.length)) (vs.toList.take o ++ y.cells.toList ++ vs.toList.drop (o + d.cells.length)).toArray ?_ ?_, Grw.setRow _ (g5 h1)⟩
        · have hsz : y.cells.size = d.cells.length := k1
          simp only [Instr.storeAt, Instr.sureAddr, Sem.run_bind, Sem.run_pure, Result.andThen_ok]
          simp [storeVar, sizeOf_run h3, hsz, hst]
        · simp only [List.size_toArray, List.length_append, List.length_take, List.length_drop, Array.length_toList, hlen, g3]
        · intro i q z hq hz
          simp only [List.getElem?_toArray] at hz
          have lo : (B.cells.take o).length = o := by rw [List.length_take]; omega
          have lo' : (vs.toList.take o).length = o := by rw [List.length_take, Array.length_toList]; omega
          rcases Nat.lt_or_ge i o with hi | hi
          · rw [List.append_assoc, List.getElem?_append_left (by omega), List.getElem?_take, if_pos hi] at hq hz
            exact g4 i q z hq (by simpa using hz)
          · rcases Nat.lt_or_ge i (o + d.cells.length) with hj | hj
            · rw [List.getElem?_append_left (by rw [List.length_append]; omega), List.getElem?_append_right (by omega)] at hq hz
              rw [lo] at hq
              rw [lo'] at hz
              have := k2 (i - o) q z hq (by simpa using hz)
              exact ⟨this, this.one (okc_one h2 hq)⟩
            · rw [List.getElem?_append_right (by rw [List.length_append]; omega), List.getElem?_drop] at hq hz
              rw [List.length_append, lo] at hq
              rw [List.length_append, lo', hlen] at hz
              rw [show o + d.cells.length + (i - (o + d.cells.length)) = i by omega] at hq hz
              exact g4 i q z hq (by simpa using hz)
      · cases h
    · cases h
  | _ => simp [evStore] at h

/-- a struct's cells, filled part by part -/
def fillA (place : Nat → Option (Nat × Nat)) : List DV → List (Nat × DV) → Option (List DV)
  | cs, [] => some cs
  | cs, (i, d) :: r => match place i with
    | some (off, size) => if d.okc = true ∧ d.cells.length = size ∧ off + size ≤ cs.length then fillA place (cs.take off ++ d.cells ++ cs.drop (off + size)) r else none
    | none => none
theorem foldl_put : ∀ (vs : List Value) (off j0 : Nat) (cs : Array Value), off + j0 + vs.length ≤ cs.size →
    ((vs.zipIdx j0).foldl (fun cs (x : Value × Nat) => cs.setIfInBounds (off + x.2) x.1) cs).toList = cs.toList.take (off + j0) ++ vs ++ cs.toList.drop (off + j0 + vs.length)
  | [], off, j0, cs, h => by simp
  | v :: r, off, j0, cs, h => by
    simp only [List.length_cons] at h
    rw [List.zipIdx_cons, List.foldl_cons, foldl_put r off (j0 + 1) _ (by simp; omega)]
    simp only [Array.toList_setIfInBounds, List.length_cons]
    have e1 : off + (j0 + 1) = off + j0 + 1 := by omega
    rw [e1]
    apply List.ext_getElem?
    intro k
    have l0 : (cs.toList.take (off + j0)).length = off + j0 := by rw [List.length_take, Array.length_toList]; omega
    have l1 : ((cs.toList.set (off + j0) v).take (off + j0 + 1)).length = off + j0 + 1 := by rw [List.length_take, List.length_set, Array.length_toList]; omega
    rcases Nat.lt_trichotomy k (off + j0) with hk | hk | hk
    · rw [List.append_assoc, List.getElem?_append_left (by omega), List.getElem?_take, if_pos (by omega), List.getElem?_set_ne (by omega), List.append_assoc, List.getElem?_append_left (by omega), List.getElem?_take, if_pos hk]
    · subst hk
      rw [List.append_assoc, List.getElem?_append_left (by omega), List.getElem?_take, if_pos (by omega), List.getElem?_set_self (by rw [Array.length_toList]; omega), List.append_assoc, List.getElem?_append_right (by omega), l0]
      simp
    · have hL : ((cs.toList.set (off + j0) v).take (off + j0 + 1) ++ r ++ (cs.toList.set (off + j0) v).drop (off + j0 + 1 + r.length))[k]? = (r ++ (cs.toList.set (off + j0) v).drop (off + j0 + 1 + r.length))[k - (off + j0 + 1)]? := by
        rw [List.append_assoc, List.getElem?_append_right (by omega), l1]
      have hR : (cs.toList.take (off + j0) ++ (v :: r) ++ cs.toList.drop (off + j0 + (r.length + 1)))[k]? = (r ++ cs.toList.drop (off + j0 + (r.length + 1)))[k - (off + j0 + 1)]? := by
        rw [List.append_assoc, List.getElem?_append_right (by omega), l0, show k - (off + j0) = (k - (off + j0 + 1)) + 1 by omega, List.cons_append, List.getElem?_cons_succ]
      rw [hL, hR]
      rcases Nat.lt_or_ge (k - (off + j0 + 1)) r.length with hr | hr
      · rw [List.getElem?_append_left hr, List.getElem?_append_left hr]
      · rw [List.getElem?_append_right hr, List.getElem?_append_right hr, List.getElem?_drop, List.getElem?_drop, List.getElem?_set_ne (by omega)]
        congr 1
        omega
theorem fill_sound {G : Gh} {w : World} (place : Nat → Option (Nat × Nat)) : ∀ (ps : List (Nat × DV)) (pv : List (Nat × Value)) (cs cs' : List DV) (vs : Array Value), fillA place cs ps = some cs' → pv.length = ps.length →
    (∀ (i : Nat) (p : Nat × DV) (q : Nat × Value), ps[i]? = some p → pv[i]? = some q → p.1 = q.1 ∧ CRel G w p.2 q.2) → vs.size = cs.length → (∀ (i : Nat) (d : DV) (x : Value), cs[i]? = some d → vs[i]? = some x → CRel G w d x ∧ x.oneCell' = true) →
    ∃ vs', Instr.fill place vs pv = some vs' ∧ vs'.size = cs'.length ∧ (∀ (i : Nat) (d : DV) (x : Value), cs'[i]? = some d → vs'[i]? = some x → CRel G w d x ∧ x.oneCell' = true)
  | [], pv, cs, cs', vs, h, hl, _, hs, hr => by
    obtain rfl : pv = [] := List.eq_nil_of_length_eq_zero (by simpa using hl)
    injection h with h
    subst h
    exact ⟨vs, rfl, hs, hr⟩
  | (i, d) :: r, [], cs, cs', vs, h, hl, _, hs, hr => by simp at hl
  | (i, d) :: r, (i', x) :: rv, cs, cs', vs, h, hl, hp, hs, hr => by
    obtain ⟨e1, hdx⟩ := hp 0 (i, d) (i', x) rfl rfl
    have e1 : i = i' := e1
    subst e1
    simp only [fillA] at h
    split at h
    · rename_i off size hpl
      split at h
      · rename_i hc
        obtain ⟨h1, h2, h3⟩ := hc
        obtain ⟨k1, k2⟩ := CRel.cells hdx h1
        have k1 : x.cells.size = d.cells.length := k1
        have hfold : (x.cells.zipIdx.foldl (fun cs (c, j) => cs.setIfInBounds (off + j) c) vs).toList = vs.toList.take off ++ x.cells.toList ++ vs.toList.drop (off + size) := by
          rw [← Array.foldl_toList, Array.toList_zipIdx]
          have := foldl_put x.cells.toList off 0 vs (by rw [Array.length_toList]; omega)
          simp only [Nat.add_zero, Array.length_toList, k1, h2] at this
          exact this
        have hlen : x.cells.toList.length = size := by rw [Array.length_toList]; omega
        obtain ⟨vs', m1, m2, m3⟩ := fill_sound place r rv _ cs' (x.cells.zipIdx.foldl (fun cs (c, j) => cs.setIfInBounds (off + j) c) vs) h (by simpa using hl) (fun j p q hp' hq' => hp (j + 1) p q (by simpa using hp') (by simpa using hq')) (by
            rw [← Array.length_toList, hfold]
            simp only [List.length_append, List.length_take, List.length_drop, Array.length_toList, hs, k1]) (by
            intro j q z hq hz
            have hz : (vs.toList.take off ++ x.cells.toList ++ vs.toList.drop (off + size))[j]? = some z := by rw [← hfold]; simpa using hz
            have lo : (cs.take off).length = off := by rw [List.length_take]; omega
            have lo' : (vs.toList.take off).length = off := by rw [List.length_take, Array.length_toList]; omega
            rcases Nat.lt_or_ge j off with hi | hi
            · rw [List.append_assoc, List.getElem?_append_left (by omega), List.getElem?_take, if_pos hi] at hq hz
              exact hr j q z hq (by simpa using hz)
            · rcases Nat.lt_or_ge j (off + size) with hj | hj
              · rw [List.getElem?_append_left (by rw [List.length_append]; omega), List.getElem?_append_right (by omega)] at hq hz
                rw [lo] at hq
                rw [lo'] at hz
                have := k2 (j - off) q z hq (by simpa using hz)
                exact ⟨this, this.one (okc_one h1 hq)⟩
              · rw [List.getElem?_append_right (by rw [List.length_append]; omega), List.getElem?_drop] at hq hz
                rw [List.length_append, lo] at hq
                rw [List.length_append, lo', hlen] at hz
                rw [h2, show off + size + (j - (off + size)) = j by omega] at hq
                rw [show off + size + (j - (off + size)) = j by omega] at hz
                exact hr j q z hq (by simpa using hz))
        refine ⟨vs', ?_, m2, m3⟩
        have c1 : ¬ (x.cells.size ≠ size) := by omega
        have c2 : ¬ (vs.size < off + x.cells.size) := by omega
        simp only [Instr.fill, hpl]
        rw [if_neg (by simp only [Bool.or_eq_true, decide_eq_true_eq]; omega)]
        exact m1
      · cases h
    · cases h
end Go.Proofs.YtmhpccchgbdiiaaGreatDoor
