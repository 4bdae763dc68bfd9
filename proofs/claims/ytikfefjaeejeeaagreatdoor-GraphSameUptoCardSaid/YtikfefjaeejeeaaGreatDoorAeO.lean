/- The abstract machine, 8a: maps, walks over strings. -/
import Derived.Test.YtikfefjaeejeeaaGreatDoorAe5
import Derived.WideMake
import Derived.Lib.OthersKept
namespace Go.Proofs.YtikfefjaeejeeaaGreatDoor
open Go.RowKit

/-! ### are two values the same? (what says yes is sure) -/
def vB : Value → Value → Bool
  | .bool a, .bool b => a == b
  | .int k n, .int k' n' => k == k' && n == n'
  | .string a, .string b => a.data.toList == b.data.toList
  | .slice none 0 0, .slice none 0 0 => true
  | .nilIface, .nilIface => true
  | .pointer none, .pointer none => true
  | _, _ => false
theorem vB_eq {a b : Value} (h : vB a b = true) : a = b := by
  unfold vB at h
  split at h
  · rw [beq_iff_eq] at h; rw [h]
  · rw [Bool.and_eq_true, beq_iff_eq, beq_iff_eq] at h; rw [h.1, h.2]
  · rename_i a b
    rw [beq_iff_eq] at h
    rw [show a = b from by cases a; cases b; simp only [ByteArray.mk.injEq]; exact Array.toList_inj.1 h]
  · rfl
  · rfl
  · rfl
  · cases h

def Gh.pushO (G : Gh) (g : Nat) : Gh := { G with mps := G.mps ++ [g] }
theorem Grw.allocO (G : Gh) (w : World) (o : Obj) (hz : ∀ b o, G.Z b o → b < w.heap.size) : Grw G w (G.pushO w.heap.size) (w.alloc o) := by
  refine ⟨rfl, rfl, rfl, fun _ _ h => h, fun b q v h hv => ?_, fun _ _ h => h, fun _ n x h => ⟨n, x, h, Nat.le_refl _, fun _ => rfl⟩, fun j g h => ?_, rfl, by simp, fun k q hk _ _ => (Below.heap_alloc w o k (Array.getElem?_eq_some_iff.1 hk).1).trans hk, fun j g hg => by
    rcases Nat.lt_or_ge j G.mps.length with hj | hj
    · left; simpa [Gh.pushO, List.getElem?_append_left hj] using hg
    · right
      simp only [Gh.pushO] at hg
      rw [List.getElem?_append_right hj] at hg
      have := List.mem_of_getElem? hg
      simp at this; omega⟩
  · exact (World.cell?_of_block (w := w) (Below.heap_alloc w o b (hz b q h))).trans hv
  · have hj := (List.getElem?_eq_some_iff.1 h).1
    show (G.mps ++ [w.heap.size])[j]? = some g
    rw [List.getElem?_append_left hj]; exact h
theorem MRel.allocO {G : Gh} {μ : Mem} {w : World} (h : MRel G μ w) {a : AO} {o : Obj} (hk : AOk a o) :
    MRel (G.pushO w.heap.size) ⟨μ.boxes, μ.toks, μ.objs ++ [a]⟩ (w.alloc o) ∧ Grw G w (G.pushO w.heap.size) (w.alloc o) ∧ (G.pushO w.heap.size).mps[μ.objs.length]? = some w.heap.size := by
  have hl := Grw.allocO G w o h.zlt
  have hnew := heap_alloc_new w o
  have hmp : ∀ (j g : Nat), G.mps[j]? = some g → g < w.heap.size := by
    intro j g hg
    have hj := (List.getElem?_eq_some_iff.1 hg).1
    obtain ⟨_, o', h2, _⟩ := h.mp.at_ j g (μ.objs[j]'(by rw [← h.mp.len]; exact hj)) (List.getElem?_eq_getElem _) hg
    exact (Array.getElem?_eq_some_iff.1 h2).1
  have hsplit : ∀ (j g : Nat), (G.mps ++ [w.heap.size])[j]? = some g → (G.mps[j]? = some g) ∨ (j = G.mps.length ∧ g = w.heap.size) := by
    intro j g hg
    rcases Nat.lt_trichotomy j G.mps.length with hj | hj | hj
    · left; rwa [List.getElem?_append_left hj] at hg
    · right; subst hj; simp at hg; exact ⟨rfl, hg.symm⟩
    · rw [List.getElem?_eq_none (by simp; omega)] at hg; cases hg
  refine ⟨⟨h.bel.alloc h.hb _, by simp; exact Nat.le_succ_of_le h.hb, fun b o hz => ?_, h.zsub, h.len, h.tlen, h.inj, ?_, ?_, h.tne, h.lw, ?_⟩, hl, ?_⟩
  · rw [World.size_alloc]; exact Nat.lt_succ_of_lt (h.zlt b o hz)
  · intro j B g hB hg
    obtain ⟨h1, vs', h2, h3, h4, h5⟩ := h.box j B g hB hg
    exact ⟨h1, vs', (Below.heap_alloc w _ g (Array.getElem?_eq_some_iff.1 h2).1).trans h2, h3, fun i d x hd hx => ⟨(h4 i d x hd hx).1.grw hl, (h4 i d x hd hx).2⟩, h5⟩
  · intro t' e s n ht
    obtain ⟨x, xs, h1, h2, h3, h4⟩ := h.tok t' e s n ht
    exact ⟨x, xs, h1, h2.alloc _, h3, h4⟩
  · refine ⟨by show (G.mps ++ [_]).length = (μ.objs ++ [a]).length; simp [h.mp.len], fun i j g hi hj => ?_, fun i g a' ha hg => ?_⟩
    · rcases hsplit i g hi with b | ⟨b, b'⟩ <;> rcases hsplit j g hj with c | ⟨c, c'⟩
      · exact h.mp.inj i j g b c
      · have := hmp i g b; omega
      · have := hmp j g c; omega
      · omega
    · rcases hsplit i g hg with b | ⟨b, b'⟩
      · have hil := (List.getElem?_eq_some_iff.1 b).1
        simp only at ha
        rw [List.getElem?_append_left (by rw [← h.mp.len]; exact hil)] at ha
        obtain ⟨k1, o', k2, k3⟩ := h.mp.at_ i g a' ha b
        exact ⟨k1, o', (Below.heap_alloc w _ g (Array.getElem?_eq_some_iff.1 k2).1).trans k2, k3⟩
      · subst b; subst b'
        simp only at ha
        rw [h.mp.len] at ha
        simp at ha
        subst ha
        exact ⟨h.hb, o, hnew, hk⟩
  · show (G.mps ++ [w.heap.size])[μ.objs.length]? = _
    rw [← h.mp.len]; simp
theorem MRel.setO {G : Gh} {μ : Mem} {w : World} (h : MRel G μ w) {m g : Nat} {a : AO} (hm : μ.objs[m]? = some a) (hg : G.mps[m]? = some g) {a' : AO} {o' : Obj} (hk : AOk a' o') :
    MRel G ⟨μ.boxes, μ.toks, μ.objs.set m a'⟩ { w with heap := w.heap.setIfInBounds g o' } ∧ Grw G w G { w with heap := w.heap.setIfInBounds g o' } := by
  obtain ⟨g1, o, g2, g3⟩ := h.mp.at_ m g a hm hg
  have hgl := (Array.getElem?_eq_some_iff.1 g2).1
  have hml := (List.getElem?_eq_some_iff.1 hm).1
  obtain ⟨w', hw'⟩ : ∃ w' : World, w' = { w with heap := w.heap.setIfInBounds g o' } := ⟨_, rfl⟩
  rw [← hw']
  have hnew : w'.heap[g]? = some o' := by subst hw'; exact Array.getElem?_setIfInBounds_self_of_lt hgl
  have hblk : ∀ k, k ≠ g → w'.heap[k]? = w.heap[k]? := fun k hk => by subst hw'; exact Array.getElem?_setIfInBounds_ne (Ne.symm hk)
  have hsz : w'.heap.size = w.heap.size := by subst hw'; simp
  have hne : ∀ (k : Nat) (cs : Array Value) (t : TypeId) (f : Nat × Nat), w.heap[k]? = some (.cells cs t f) → k ≠ g := by
    rintro k cs t f hk2 rfl
    rw [g2] at hk2
    injection hk2 with hk2
    have := g3.other
    rw [hk2] at this
    cases this
  have hcell : ∀ b q, w'.cell? ⟨b, q, none⟩ = w.cell? ⟨b, q, none⟩ := by
    intro b q
    by_cases hb : b = g
    · subst hb
      have k1 := g3.other
      have k2 := hk.other
      cases o <;> cases o' <;> first | (cases k1; done) | (cases k2; done) | simp [World.cell?, hnew, g2]
    · exact World.cell?_of_block (w := w) (hblk b hb)
  have hl : Grw G w G w' := ⟨rfl, rfl, rfl, fun _ _ h => h, fun b q v _ hv => (hcell b q).trans hv, fun _ _ h => h, fun _ n x h => ⟨n, x, h, Nat.le_refl _, fun _ => rfl⟩, fun _ _ h => h, rfl, by omega, fun k o hk hc hm => (hblk k (fun e => hm m (by rw [e]; exact hg))).trans hk, fun _ _ h => .inl h⟩
  refine ⟨⟨h.bel.trans ⟨by subst hw'; rfl, by subst hw'; rfl, by subst hw'; rfl, by omega, fun k hk => hblk k (by omega)⟩, by rw [hsz]; exact h.hb, fun b q hz => by rw [hsz]; exact h.zlt b q hz, h.zsub, h.len, h.tlen, h.inj, ?_, ?_, h.tne, h.lw, ?_⟩, hl⟩
  · intro j B g' hB hg'
    obtain ⟨k1, vs', k2, k3, k4, k5⟩ := h.box j B g' hB hg'
    exact ⟨k1, vs', (hblk g' (hne _ _ _ _ k2)).trans k2, k3, fun i d x hd hx => ⟨(k4 i d x hd hx).1.grw hl, (k4 i d x hd hx).2⟩, k5⟩
  · intro t e s n ht
    obtain ⟨x, xs, h1, h2, h3, h4⟩ := h.tok t e s n ht
    refine ⟨x, xs, h1, ?_, h3, h4⟩
    refine h2.kept (row := some g) ⟨by subst hw'; rfl, by subst hw'; rfl, by subst hw'; rfl, by omega, fun k _ hk => hblk k (fun e => hk (by rw [e]))⟩ (.inr ?_)
    intro e
    rcases h2.2 with ⟨hx, _⟩ | ⟨g3', c2, cur2, hx, _, hc2, _⟩
    · rw [hx] at e; cases e
    · rw [hx] at e
      have : g3' = g := by simpa [Value.ownBlock] using e
      exact hne _ _ _ _ hc2 this
  · refine ⟨by simp [h.mp.len], h.mp.inj, fun i gi ai hai hgi => ?_⟩
    by_cases hi : i = m
    · subst hi
      rw [hg] at hgi; injection hgi with hgi; subst hgi
      simp only [List.getElem?_set_self hml, Option.some.injEq] at hai
      subst hai
      exact ⟨g1, o', hnew, hk⟩
    · simp only [List.getElem?_set_ne (Ne.symm hi)] at hai
      obtain ⟨k1, oi, k2, k3⟩ := h.mp.at_ i gi ai hai hgi
      exact ⟨k1, oi, (hblk gi (fun e => hi (h.mp.inj i m g (by rw [← e]; exact hgi) hg))).trans k2, k3⟩

/-! ### the operations -/
def keyB : TypeDesc → Value → Bool
  | .bool, .bool _ => true
  | .int k, .int k' _ => k' == k
  | .string, .string _ => true
  | _, _ => false
theorem keyB_is {d : TypeDesc} {v : Value} (h : keyB d v = true) : MapKept.IsKey d v := by
  unfold keyB at h
  split at h
  · trivial
  · simpa [MapKept.IsKey] using h
  · trivial
  · cases h
theorem vB_self {d : TypeDesc} {v : Value} (h : keyB d v = true) : vB v v = true := by
  unfold keyB at h
  split at h <;> first
    | (cases h; done)
    | simp [vB]
def findV (k : Value) : List (Value × Value) → Option Value
  | [] => none
  | e :: r => if vB e.1 k = true then some e.2 else findV k r
def putV (k v : Value) : List (Value × Value) → List (Value × Value)
  | [] => [(k, v)]
  | e :: r => if vB e.1 k = true then (k, v) :: r else e :: putV k v r
def plainV : DV → Option Value
  | .p (.v x) => some x
  | .agg [] => some (.agg #[])
  | _ => none
theorem plainV_rel {G : Gh} {w : World} {d : DV} {x v : Value} (hx : CRel G w d x) (h : plainV d = some v) : x = v := by
  unfold plainV at h
  split at h
  · injection h with h; subst h
    cases hx with
    | p d x h1 => cases h1; rfl
  · injection h with h; subst h
    cases hx with
    | agg cs vs hl _ =>
      have : vs = #[] := Array.size_eq_zero_iff.1 hl
      rw [this]
  · cases h
def vOut : Value → DV
  | .agg cs => if cs.size = 0 then .agg [] else .p (.v (.agg cs))
  | v => .p (.v v)
theorem vOut_rel (G : Gh) (w : World) (v : Value) : CRel G w (vOut v) v := by
  unfold vOut
  split
  · rename_i cs
    split
    · rename_i h
      exact .agg [] cs (by simpa using h) (fun i d x hd => by simp at hd)
    · exact .p _ _ (.v _)
  · exact .p _ _ (.v _)
def evLookup (P : Program) (t : TypeId) (x i : DV) (ok : Bool) (μ : Mem) : Option DV :=
  match P.underlying t with
  | some (.map kt et) => match P.underlying kt, x, i with
    | some d, .mp m, .p (.v k) => match μ.objs[m]? with
      | some (.mp es) => if keyB d k = true ∧ es.all (fun e => keyB d e.1) = true then
          match findV k es with
          | some v => some (if ok = true then .tup [vOut v, .p (.v (.bool true))] else vOut v)
          | none => match zrT P et with
            | some z => some (if ok = true then .tup [vOut z, .p (.v (.bool false))] else vOut z)
            | none => none
        else none
      | _ => none
    | _, _, _ => none
  | _ => none
theorem findV_now {d : TypeDesc} {k : Value} (hk : keyB d k = true) : ∀ (l : List MapEntry) (i : Nat), (l.map fun e => (e.key, e.val)).all (fun e => keyB d e.1) = true →
    (findV k (l.map fun e => (e.key, e.val)) = none ∧ Instr.findNow d k l i = some none ∧ ∀ v, putV k v (l.map fun e => (e.key, e.val)) = (l.map fun e => (e.key, e.val)) ++ [(k, v)]) ∨
    ∃ j e, findV k (l.map fun e => (e.key, e.val)) = some e.val ∧ Instr.findNow d k l i = some (some (i + j, e.val)) ∧ l[j]? = some e ∧ e.key = k ∧ ∀ v, putV k v (l.map fun e => (e.key, e.val)) = (l.map fun e => (e.key, e.val)).set j (k, v)
  | [], i, _ => .inl ⟨rfl, rfl, fun v => rfl⟩
  | e :: es, i, h => by
    simp only [List.map_cons, List.all_cons, Bool.and_eq_true] at h
    obtain ⟨r, hr, hiff⟩ := MapKept.sameNow_of_keys (keyB_is hk) (keyB_is h.1)
    by_cases hv : vB e.key k = true
    · have he := vB_eq hv
      have hrt : r = true := hiff.2 he.symm
      subst hrt
      exact .inr ⟨0, e, by simp [findV, hv], by simp [Instr.findNow, hr], rfl, he, fun v => by simp [putV, hv]⟩
    · have hrf : r = false := by
        cases r with
        | false => rfl
        | true => exact absurd (by rw [hiff.1 rfl]; exact vB_self h.1) hv
      subst hrf
      rcases findV_now hk es (i + 1) h.2 with ⟨h1, h2, h3⟩ | ⟨j, e', h1, h2, h3, h4, h5⟩
      · exact .inl ⟨by simp only [List.map_cons, findV, if_neg hv]; exact h1, by simp [Instr.findNow, hr, h2], fun v => by simp only [List.map_cons, putV, if_neg hv, h3, List.cons_append]⟩
      · exact .inr ⟨j + 1, e', by simp only [List.map_cons, findV, if_neg hv]; exact h1, by simp [Instr.findNow, hr, h2]; omega, by simpa using h3, h4, fun v => by simp only [List.map_cons, putV, if_neg hv, h5, List.set_cons_succ]⟩
theorem mp_at {G : Gh} {μ : Mem} {w : World} (hM : MRel G μ w) {m g : Nat} (hg : G.mps[m]? = some g) {es : List (Value × Value)} (ho : μ.objs[m]? = some (.mp es)) : ∃ me clock, w.heap[g]? = some (.map me clock) ∧ me.toList.map (fun e => (e.key, e.val)) = es := by
  obtain ⟨_, o, h2, h3⟩ := hM.mp.at_ m g _ ho hg
  cases o <;> first | (exact h3.elim; done) | skip
  exact ⟨_, _, h2, h3⟩
theorem evLookup_sound {P : Program} {G : Gh} {μ : Mem} {w : World} (hM : MRel G μ w) {t : TypeId} {dx di e : DV} {x i : Value} (hx : CRel G w dx x) (hi : CRel G w di i) {ok : Bool} (h : evLookup P t dx di ok μ = some e) :
    ∃ v, (Instr.lookup t x i ok).run P w = .ok v w ∧ CRel G w e v := by
  unfold evLookup at h
  split at h
  case h_2 => cases h
  rename_i kt et hm
  split at h
  case h_2 => cases h
  rename_i d m k hd
  cases hx with
  | mp m g hg =>
  cases hi with
  | p dk k' hk' =>
  cases hk'
  split at h
  case h_2 => cases h
  rename_i es ho
  obtain ⟨me, clock, hb, rfl⟩ := mp_at hM hg ho
  split at h
  case isFalse => cases h
  rename_i hc
  have pair : ∀ (z : Value) (b : Bool), CRel G w (if ok = true then .tup [vOut z, .p (.v (.bool b))] else vOut z) (if ok = true then .tuple #[z, .bool b] else z) := by
    intro z b
    split
    · refine .tup _ _ rfl fun i d x hd hx => ?_
      match i with
      | 0 => simp at hd hx; subst hd; subst hx; exact vOut_rel G w _
      | 1 => simp at hd hx; subst hd; subst hx; exact .p _ _ (.v _)
      | i + 2 => simp at hd
    · exact vOut_rel G w _
  rcases findV_now hc.1 me.toList 0 hc.2 with ⟨h1, h2, _⟩ | ⟨j, e', h1, h2, _, _, _⟩
  · rw [h1] at h
    simp only at h
    split at h
    · rename_i z hz
      injection h with h; subst h
      obtain ⟨it, hit, hz⟩ := zrT_info hz
      refine ⟨_, ?_, pair z false⟩
      simp [Instr.lookup, run_underlying hm, MapKept.run_getObj_map hb, MapKept.run_checkKey hd (keyB_is hc.1), MapKept.run_findKey hd h2, zeroValue, typeInfo, hit, hz]
    · cases h
  · rw [h1] at h
    simp only at h
    injection h with h; subst h
    refine ⟨_, ?_, pair e'.val true⟩
    simp [Instr.lookup, run_underlying hm, MapKept.run_getObj_map hb, MapKept.run_checkKey hd (keyB_is hc.1), MapKept.run_findKey hd h2]
def evMapUpdate (P : Program) (t : TypeId) (x i y : DV) (μ : Mem) : Option Mem :=
  match P.underlying t with
  | some (.map kt _) => match P.underlying kt, x, i, plainV y with
    | some d, .mp m, .p (.v k), some v => match μ.objs[m]? with
      | some (.mp es) => if keyB d k = true ∧ es.all (fun e => keyB d e.1) = true then some ⟨μ.boxes, μ.toks, μ.objs.set m (.mp (putV k v es))⟩ else none
      | _ => none
    | _, _, _, _ => none
  | _ => none
theorem evMapUpdate_sound {P : Program} {G : Gh} {μ μ' : Mem} {w : World} (hM : MRel G μ w) {t : TypeId} {dx di dy : DV} {x i y : Value} (hx : CRel G w dx x) (hi : CRel G w di i) (hy : CRel G w dy y) (h : evMapUpdate P t dx di dy μ = some μ') :
    ∃ w', (Instr.mapUpdate t x i y).run P w = .ok () w' ∧ MRel G μ' w' ∧ Grw G w G w' := by
  unfold evMapUpdate at h
  split at h
  case h_2 => cases h
  rename_i kt et hm
  split at h
  case h_2 => cases h
  rename_i d m k v hd hv
  have hy' := plainV_rel hy hv
  subst hy'
  cases hx with
  | mp m g hg =>
  cases hi with
  | p dk k' hk' =>
  cases hk'
  split at h
  case h_2 => cases h
  rename_i es ho
  obtain ⟨me, clock, hb, rfl⟩ := mp_at hM hg ho
  split at h
  case isFalse => cases h
  rename_i hc
  injection h with h; subst h
  have hK := keyB_is hc.1
  rcases findV_now hc.1 me.toList 0 hc.2 with ⟨_, h2, h3⟩ | ⟨j, e', _, h2, h3, h4, h5⟩
  · refine ⟨_, ?_, MRel.setO hM ho hg (o' := .map (me.push { key := i, val := y, born := clock }) (clock + 1)) ?_⟩
    · simp [Instr.mapUpdate, run_underlying hm, MapKept.run_getObj_map hb, MapKept.run_checkKey hd hK, MapKept.run_findKey hd h2, MapKept.run_setObj_map _ hb, Result.andThen]
    · show (me.push _).toList.map _ = _
      rw [h3]; simp
  · have hj : me[j]? = some e' := by simpa using h3
    refine ⟨_, ?_, MRel.setO hM ho hg (o' := .map (me.modify j fun e => { e with key := i, val := y }) clock) ?_⟩
    · simp [Instr.mapUpdate, run_underlying hm, MapKept.run_getObj_map hb, MapKept.run_checkKey hd hK, MapKept.run_findKey hd h2, hj, h4, MapKept.run_keyThatStays hK, MapKept.run_setObj_map _ hb, Result.andThen]
    · show (me.modify j _).toList.map _ = _
      rw [h5]
      refine List.ext_getElem? fun q => ?_
      simp only [List.getElem?_map, Array.getElem?_toList, Array.getElem?_modify, List.getElem?_set, List.length_map, Array.length_toList]
      have hjl := (Array.getElem?_eq_some_iff.1 hj).1
      by_cases hq : j = q
      · subst hq; simp [hj, hjl]
      · simp [hq]
def evRange (P : Program) (t : TypeId) (x : DV) (μ : Mem) : Option (DV × Mem) :=
  match P.underlying t, x with
  | some .string, .p (.v (.string s)) => some (.it μ.objs.length, ⟨μ.boxes, μ.toks, μ.objs ++ [.it s 0]⟩)
  | _, _ => none
theorem evRange_sound {P : Program} {G : Gh} {μ μ' : Mem} {w : World} (hM : MRel G μ w) {t : TypeId} {dx e : DV} {x : Value} (hx : CRel G w dx x) (h : evRange P t dx μ = some (e, μ')) :
    ∃ w' G' v, (Instr.range t x).run P w = .ok v w' ∧ CRel G' w' e v ∧ MRel G' μ' w' ∧ Grw G w G' w' := by
  unfold evRange at h
  split at h
  case h_2 => cases h
  rename_i s hu
  injection h with h; injection h with h1 h2; subst h1; subst h2
  cases hx with
  | p d x hp =>
  cases hp
  obtain ⟨m1, m2, m3⟩ := hM.allocO (a := .it s 0) (o := .stringIter s 0) ⟨rfl, rfl⟩
  exact ⟨_, _, _, by simp [Instr.range, run_underlying hu, newObj, Sem.run], .it _ _ m3, m1, m2⟩
def evNext (x : DV) (isString : Bool) (μ : Mem) : Option (DV × Mem) :=
  match x, isString with
  | .it m, true => match μ.objs[m]? with
    | some (.it s pos) => if pos < s.size then some (.tup [.p (.v (.bool true)), .p (.v (.int .i64 pos)), .p (.v (.int .i32 (Utf8.decode s pos).1))], ⟨μ.boxes, μ.toks, μ.objs.set m (.it s (pos + (Utf8.decode s pos).2))⟩) else some (.tup [.p (.v (.bool false))], μ)
    | _ => none
  | _, _ => none
theorem evNext_sound {P : Program} {G : Gh} {μ μ' : Mem} {w : World} (hM : MRel G μ w) {b : Bool} {dx e : DV} {x : Value} (hx : CRel G w dx x) (h : evNext dx b μ = some (e, μ')) (ty : TypeId) :
    ∃ w' G' v, (Instr.next x b ty).run P w = .ok v w' ∧ CRel G' w' e v ∧ MRel G' μ' w' ∧ Grw G w G' w' := by
  unfold evNext at h
  split at h
  case h_2 => cases h
  rename_i m
  cases hx with
  | it _ g hg =>
  split at h
  case h_2 => cases h
  rename_i s pos ho
  obtain ⟨_, o, hb, hok⟩ := hM.mp.at_ m g _ ho hg
  cases o <;> first | (exact hok.elim; done) | skip
  obtain ⟨rfl, rfl⟩ := hok
  split at h
  · rename_i hp
    injection h with h; injection h with h1 h2; subst h1; subst h2
    rename_i s pos
    obtain ⟨m1, m2⟩ := hM.setO ho hg (a' := .it s (pos + (Utf8.decode s pos).2)) (o' := .stringIter s (pos + (Utf8.decode s pos).2)) ⟨rfl, rfl⟩
    refine ⟨_, G, _, Lib.run_next_any_at w g s pos ty hb hp, ?_, m1, m2⟩
    refine .tup _ _ rfl fun i d x hd hx => ?_
    match i with
    | 0 => simp at hd hx; subst hd; subst hx; exact .p _ _ (.v _)
    | 1 => simp at hd hx; subst hd; subst hx; exact .p _ _ (.v _)
    | 2 => simp at hd hx; subst hd; subst hx; exact .p _ _ (.v _)
    | i + 3 => simp at hd
  · rename_i hp
    injection h with h; injection h with h1 h2; subst h1; subst h2
    refine ⟨w, G, _, Lib.run_next_end_at w g _ _ ty hb hp, ?_, hM, Grw.refl G w⟩
    refine .tup _ _ rfl fun i d x hd hx => ?_
    match i with
    | 0 => simp at hd hx; subst hd; subst hx; exact .p _ _ (.v _)
    | i + 1 => simp at hd
end Go.Proofs.YtikfefjaeejeeaaGreatDoor
