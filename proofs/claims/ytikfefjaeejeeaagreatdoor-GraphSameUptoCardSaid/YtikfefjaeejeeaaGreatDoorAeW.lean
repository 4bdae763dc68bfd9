/- The abstract machine: ranges over functions. -/
import Derived.Test.YtikfefjaeejeeaaGreatDoorAeV
import Derived.RangeFuncNested
import Derived.RangeFuncCalls
import Derived.RangeFuncLeaves
namespace Go.Proofs.YtikfefjaeejeeaaGreatDoor
open Go.RowKit

theorem cell_cells {w : World} {b o : Nat} {v : Value} (h : w.cell? ⟨b, o, none⟩ = some v) : ∃ q, w.heap[b]? = some q ∧ cellsO q = true := by
  unfold World.cell? at h
  cases hb : w.heap[b]? with
  | none => simp [hb] at h
  | some q => cases q <;> first | exact ⟨_, rfl, rfl⟩ | (simp [hb] at h)
theorem CRel.same {G : Gh} {w w' : World} (hw : ∀ b o v, G.Z b o → w.cell? ⟨b, o, none⟩ = some v → w'.cell? ⟨b, o, none⟩ = some v) {d : DV} {x : Value} (h : CRel G w d x) : CRel G w' d x := by
  induction h with
  | undef x => exact .undef x
  | p d x h => exact .p d x (h.mono' (fun _ _ h => h) hw)
  | agg cs vs hn h ih => exact .agg cs vs hn ih
  | tup cs vs hn h ih => exact .tup cs vs hn ih
  | row t els x y n h ht hn he => exact .row t els x y n (h.mono' (fun _ _ h => h) hw) ht hn he
  | bsl b off sz len cap g h hc hm => exact .bsl b off sz len cap g h hc hm
  | fn f cs vs hn h ih => exact .fn f cs vs hn ih
  | loc b o g h => exact .loc b o g h
  | ep els i o g a c sz h hi hs => exact .ep els i o g a c sz (h.mono' (fun _ _ h => h) hw) hi hs
  | cut0 A => exact .cut0 A
  | mp m g h => exact .mp m g h
  | it m g h => exact .it m g h
theorem cell_grown {w w' : World} {row : Option Nat} (hg : w.grownBy w' row) (hr : ∀ r, row = some r → ∃ o, w.heap[r]? = some o ∧ cellsO o = false) {b o : Nat} {v : Value} (h : w.cell? ⟨b, o, none⟩ = some v) : w'.cell? ⟨b, o, none⟩ = some v := by
  obtain ⟨q, h1, h2⟩ := cell_cells h
  rw [World.cell?_of_block (w := w) (hg.block b (Array.getElem?_eq_some_iff.1 h1).1 (fun e => by
    obtain ⟨o', k1, k2⟩ := hr b e.symm
    rw [h1] at k1; injection k1 with k1; subst k1; rw [h2] at k2; cases k2))]
  exact h
/-- something that is no cells and not ours turns; the world grows -/
theorem MRel.grownO {G : Gh} {μ : Mem} {w w' : World} {row : Option Nat} (h : MRel G μ w) (hg : w.grownBy w' row) (hr : ∀ r, row = some r → G.base ≤ r ∧ (∀ j : Nat, G.mps[j]? ≠ some r) ∧ ∃ o, w.heap[r]? = some o ∧ cellsO o = false) : MRel G μ w' := by
  have hcell : ∀ b o v, G.Z b o → w.cell? ⟨b, o, none⟩ = some v → w'.cell? ⟨b, o, none⟩ = some v := fun b o v _ hv => cell_grown hg (fun r e => (hr r e).2.2) hv
  have hblk : ∀ (g : Nat) (q : Obj), w.heap[g]? = some q → cellsO q = true → w'.heap[g]? = some q := fun g q h1 h2 => (hg.block g (Array.getElem?_eq_some_iff.1 h1).1 (fun e => by
    obtain ⟨_, _, o', k1, k2⟩ := hr g e.symm
    rw [h1] at k1; injection k1 with k1; subst k1; rw [h2] at k2; cases k2)).trans h1
  refine ⟨h.bel.trans ⟨hg.os, hg.tape, hg.output, hg.size, fun k hk => hg.block k (Nat.lt_of_lt_of_le hk h.hb) (fun e => by have := (hr k e.symm).1; omega)⟩, Nat.le_trans h.hb hg.size, fun b o hz => Nat.lt_of_lt_of_le (h.zlt b o hz) hg.size, h.zsub, h.len, h.tlen, h.inj, ?_, ?_, h.tne, h.lw, h.mp.len, h.mp.inj, ?_⟩
  · intro j B g hB hb
    obtain ⟨h1, vs, h2, h3, h4, h5⟩ := h.box j B g hB hb
    exact ⟨h1, vs, hblk g _ h2 rfl, h3, fun i d x hd hx => ⟨(h4 i d x hd hx).1.same hcell, (h4 i d x hd hx).2⟩, h5⟩
  · intro t e s n ht
    obtain ⟨x, xs, h1, h2, h3, h4⟩ := h.tok t e s n ht
    refine ⟨x, xs, h1, h2.kept hg ?_, h3, h4⟩
    cases hv : x.ownBlock with
    | none => exact .inl rfl
    | some g =>
      right
      intro e'
      obtain ⟨_, _, o', k1, k2⟩ := hr g e'.symm
      rcases h2.2 with ⟨hx, _⟩ | ⟨g2, c2, cur2, hx, _, hc2, _⟩
      · rw [hx] at hv; cases hv
      · rw [hx] at hv
        have : g2 = g := by simpa [Value.ownBlock] using hv
        subst this
        rw [hc2] at k1; injection k1 with k1; subst k1; cases k2
  · intro i g a h1 h2
    obtain ⟨k1, o, k2, k3⟩ := h.mp.at_ i g a h1 h2
    exact ⟨k1, o, (hg.block g (Array.getElem?_eq_some_iff.1 k2).1 (fun e => (hr g e.symm).2.1 i h2)).trans k2, k3⟩
theorem Grw.grownO {G G' : Gh} {w w' w2 : World} {row : Option Nat} (h : Grw G w G' w') (hg : w'.grownBy w2 row) (hr : ∀ r, row = some r → w.heap.size ≤ r ∧ ∃ o, w'.heap[r]? = some o ∧ cellsO o = false) : Grw G w G' w2 :=
  ⟨h.base, h.w0, h.z0, h.z, fun b o v hz hv => cell_grown hg (fun r e => (hr r e).2) (h.cell b o v hz hv), h.bs, h.tv, h.mps, h.df, Nat.le_trans h.hsz hg.size, fun k o hk hc hm => by
    have h1 := h.oth k o hk hc hm
    refine (hg.block k (Array.getElem?_eq_some_iff.1 h1).1 (fun e => ?_)).trans h1
    have := (hr k e.symm).1
    have := (Array.getElem?_eq_some_iff.1 hk).1
    omega, h.mnew⟩
theorem Gh.dfr_self {G : Gh} {l : List Deferred} (h : G.df = l) : G.dfr l = G := by cases G; cases h; rfl

/-- cells that stay -/
def Stay (Z : Nat → Nat → Prop) (w w' : World) : Prop := w.heap.size ≤ w'.heap.size ∧ ∀ b o v, Z b o → w.cell? ⟨b, o, none⟩ = some v → w'.cell? ⟨b, o, none⟩ = some v
/-- what an iterator may lean on: J Z k: k rounds have run, the cells Z stay -/
structure JOK (J : (Nat → Nat → Prop) → Nat → World → Prop) : Prop where
  lw : ∀ Z k w, J Z k w → LaidW w.heap.size w
  zlt : ∀ Z k w, J Z k w → ∀ b o, Z b o → b < w.heap.size
  grow : ∀ Z k w w', J Z k w → Below w.heap.size w w' → J (fun b o => Z b o ∨ (w.heap.size ≤ b ∧ b < w'.heap.size)) k w'
/-- THE CONTRACT of an iterator with one captured variable: it yields the elements, one after the other -/
def ItOK (P : Program) (gf : FuncId) (c : PD) (xs : List (List PD)) : Prop :=
  ∀ (Z : Nat → Nat → Prop) (g l : Nat) (J : (Nat → Nat → Prop) → Nat → World → Prop) (Jx : Nat → World → Prop) (W : World),
    PRel Z W (.sl [c]) (.slice (some ⟨g, 0, none⟩) 1 1) → JOK J →
    (∀ Z k x ys w, J Z k w → xs[k]? = some x → PRelL Z w x ys → YieldAt (FF none) 0 P l ys w fun e w' =>
      (e = .returned (.bool true) ∧ J Z (k + 1) w' ∧ Stay Z w w') ∨ (e = .returned (.bool false) ∧ Jx k w')) →
    J Z 0 W → CallsIn (FF none) 0 P gf #[.func (.yield l) #[] #[], .pointer (some ⟨g, 0, none⟩)] W fun e w' =>
      ∃ v, e = .returned v ∧ ((∃ Z', J Z' xs.length w') ∨ ∃ k, k < xs.length ∧ Jx k w')

def setP : List DV → List Tmp → List PD → List DV
  | tm, p :: ps, x :: xs => setP (tm.set p (.p x)) ps xs
  | tm, _, _ => tm
theorem setP_rel {G : Gh} {w : World} : ∀ (ps : List Tmp) (x : List PD) (ys : List Value) (tm : List DV) (A : Array Value), ys.length = x.length → (∀ (i : Nat) (d : PD) (y : Value), x[i]? = some d → ys[i]? = some y → PRel G.Z w d y) →
    A.size = tm.length → (∀ (i : Nat) (d : DV) (v : Value), tm[i]? = some d → A[i]? = some v → CRel G w d v) →
    ((ps.zip ys).foldl (fun t (q : Tmp × Value) => t.setIfInBounds q.1 q.2) A).size = (setP tm ps x).length ∧
    ∀ (i : Nat) (d : DV) (v : Value), (setP tm ps x)[i]? = some d → ((ps.zip ys).foldl (fun t (q : Tmp × Value) => t.setIfInBounds q.1 q.2) A)[i]? = some v → CRel G w d v
  | [], x, ys, tm, A, hl, hr, hs, ht => by cases x <;> exact ⟨hs, ht⟩
  | p :: ps, [], ys, tm, A, hl, hr, hs, ht => by
    have : ys = [] := List.length_eq_zero_iff.1 hl
    subst this
    exact ⟨hs, ht⟩
  | p :: ps, x :: xs, [], tm, A, hl, hr, hs, ht => by simp at hl
  | p :: ps, x :: xs, y :: ys, tm, A, hl, hr, hs, ht => by
    refine setP_rel ps xs ys (tm.set p (.p x)) (A.setIfInBounds p y) (by simpa using hl) (fun i d v h1 h2 => hr (i + 1) d v (by simpa using h1) (by simpa using h2)) (by simp [hs]) ?_
    intro i d v h1 h2
    by_cases hi : p = i
    · subst hi
      by_cases hlt : p < tm.length
      · rw [List.getElem?_set_self hlt] at h1
        injection h1 with h1; subst h1
        rw [Array.getElem?_setIfInBounds_self_of_lt (hs ▸ hlt)] at h2
        injection h2 with h2; subst h2
        exact .p _ _ (hr 0 x y rfl rfl)
      · rw [List.set_eq_of_length_le (Nat.le_of_not_lt hlt)] at h1
        exact absurd (List.getElem?_eq_some_iff.1 h1).1 hlt
    · rw [List.getElem?_set_ne hi] at h1
      rw [Array.getElem?_setIfInBounds_ne hi] at h2
      exact ht i d v h1 h2

/-- the block for the rounds' deferred calls, untouched -/
def MarkAt (w0 : World) (D : Nat) (G : Gh) (W : World) : Prop := w0.heap.size ≤ D ∧ W.heap[D]? = some (.deferred (some [])) ∧ ∀ (j g : Nat), G.mps[j]? = some g → g ≠ D
abbrev mkD (D : Nat) : Deferred := { target := .collected D, args := #[] }

theorem round_norm {l : Nat} {P : Program} {c : Code} {Q : AX → St → Prop} {s : St} (h : AWP (some l) P c (fun e s' => e = .norm ∧ Q e s') s) {G : Gh} {a : Act} {w : World} (hs : SRel G s a w) {K : Act → World → Prop}
    (k : ∀ s' G' a' w', Q .norm s' → SRel G' s' a' w' → Grw G w G' w' → K a' w') : c.wpIn (FF (some l)) 0 P (Exit.then K (fun _ _ _ => False)) a w := by
  refine wpIn_mono (h G a w hs) ?_
  rintro e a' w' ⟨x, s', G', h1, ⟨rfl, h2⟩, h3, h4⟩
  cases e <;> first
    | (exact h1.elim; done)
    | exact k s' G' a' w' h2 h3 h4

theorem mps_lt {G : Gh} {μ : Mem} {w : World} (h : MRel G μ w) {j g : Nat} (hg : G.mps[j]? = some g) : g < w.heap.size := by
  have hj := (List.getElem?_eq_some_iff.1 hg).1
  rw [h.mp.len] at hj
  obtain ⟨_, o, h1, _⟩ := h.mp.at_ j g _ (List.getElem?_eq_getElem hj) hg
  exact (Array.getElem?_eq_some_iff.1 h1).1

/-- a state's memory, cut to what the loop began with -/
def CutTo (s s2 : St) (μ' : Mem) : Prop := ∃ nb nt no, s.μ.boxes.length ≤ nb ∧ s.μ.toks.length ≤ nt ∧ s.μ.objs.length ≤ no ∧ (s2.keep []).refs nb nt no 50 = true ∧ ((s2.keep []).cut nb nt no).μ = μ'
set_option maxHeartbeats 1000000 in
theorem range_run {P : Program} {gf : FuncId} {c : PD} {xs : List (List PD)} (hit : ItOK P gf c xs) (eg : ∀ args w, (callFunc gf args).run P w = .ok (.enter gf args) w)
    {s : St} {t b n : Nat} {ps : Array Tmp} {assign body : Code} {μ0 : Mem} (hg : getT s.tmps t = .fn gf [.loc b 0]) (hfz : frz 200 s.μ (.bsl b 0 n 1 1) = some (.sl [c], μ0))
    (μs : Nat → Mem) (h0 : μs 0 = μ0) (Iv : Nat → Prop) (hv0 : Iv 0) (Kx : Nat → St → Prop) (hps : ∀ x ∈ xs, x.length = ps.size)
    (hround : ∀ l k x, xs[k]? = some x → Iv k → AWP (some l) P assign (fun e s1 => e = .norm ∧ AWP (some l) P body (fun e s2 => match e with | .norm => CutTo s s2 (μs (k + 1)) ∧ Iv (k + 1) | .ret => Kx k s2 | _ => False) s1) ⟨setP s.tmps ps.toList x, μs k⟩)
    {G : Gh} {a : Act} {w : World} (hs : SRel G s a w) (hdf : G.df = []) {Q : Exit → Act → World → Prop}
    (hdone : ∀ D G' W, Iv xs.length → MarkAt w D G' W → SRel (G'.dfr [mkD D]) ⟨s.tmps, μs xs.length⟩ { a with defers := [mkD D] } W → Grw G w G' W → Q .normal { a with defers := [mkD D] } W)
    (hstop : ∀ D G' W k s2, k < xs.length → Kx k s2 → MarkAt w D G' W → SRel (G'.dfr [mkD D]) ⟨s.tmps, s2.μ⟩ { a with defers := [mkD D] } W → Grw G w G' W → Q .ret { a with defers := [mkD D] } W) :
    (Code.rangeFunc (.tmp t) ps assign body).wpIn (FF none) 0 P Q a w := by
  have hdef : a.defers = [] := hs.defers.trans hdf
  have hev := hs.ev (.tmp t)
  have hev' : CRel G w (.fn gf [.loc b 0]) (a.eval (.tmp t)) := by
    have h1 : s.ev (.tmp t) = .fn gf [.loc b 0] := hg
    rw [h1] at hev; exact hev
  obtain ⟨vs, hav, hvs, hvr⟩ : ∃ vs : Array Value, a.eval (.tmp t) = .func (.func gf) #[] vs ∧ vs.size = 1 ∧ ∀ (i : Nat) (d : DV) (x : Value), [DV.loc b 0][i]? = some d → vs[i]? = some x → CRel G w d x := by
    generalize a.eval (.tmp t) = y at hev'
    cases hev' with
    | fn f cs vs hl h => exact ⟨vs, rfl, by simpa using hl, h⟩
  obtain ⟨g, rfl, hgb⟩ : ∃ g, vs = #[.pointer (some ⟨g, 0, none⟩)] ∧ G.bs[b]? = some g := by
    obtain ⟨p, hp⟩ : ∃ p, vs = #[p] := Array.size_eq_one_iff.1 hvs
    subst hp
    have := hvr 0 _ p rfl rfl
    cases this with
    | loc b o g h => exact ⟨g, rfl, h⟩
  clear hvs hvr hev hev'
  obtain ⟨G1, m1, g1, p1, -⟩ := (frz_sound 200).1 _ _ _ _ hfz G w (.slice (some ⟨g, 0, none⟩) 1 1) hs.mem (.bsl b 0 n 1 1 g hgb (Nat.le_refl _) (by omega))
  refine wpIn_rangeFunc ?_
  intro fn _
  obtain ⟨rec, hrec⟩ : ∃ rec : LoopState → Option Code → Loop, rec = fun st pe => { state := st, pending := pe, fn, tmps := a.tmps, params := ps, assign, body, defers := w.heap.size } := ⟨_, rfl⟩
  obtain ⟨W1, hW1⟩ : ∃ W1, (w.alloc (.deferred (some []))).alloc (.loop (rec .ready none)) = W1 := ⟨_, rfl⟩
  have hL1 : W1.heap[w.heap.size + 1]? = some (.loop (rec .ready none)) := by
    rw [← hW1]; have := World.alloc_heap_new (w.alloc (.deferred (some []))) (.loop (rec .ready none)); rwa [World.size_alloc] at this
  have hK1 : W1.heap[w.heap.size]? = some (.deferred (some [])) := by
    rw [← hW1]; exact (Below.heap_alloc _ _ _ (by simp)).trans (World.alloc_heap_new w _)
  have hb1 : Below w.heap.size w W1 := by
    rw [← hW1]; exact (((Below.refl _ w).alloc (Nat.le_refl _) _).alloc (by simp) _)
  have m2 := m1.below hb1
  have g2 : Grw G w (G1.grown w W1) W1 := g1.trans (Grw.below m1.zlt hb1)
  have p2 : PRel (G1.grown w W1).Z W1 (.sl [c]) (.slice (some ⟨g, 0, none⟩) 1 1) := p1.grw (Grw.below m1.zlt hb1)
  obtain ⟨G2, hG2⟩ : ∃ G2, G2 = G1.grown w W1 := ⟨_, rfl⟩
  rw [← hG2] at m2 g2 p2
  have hn2 : ∀ (j q : Nat), G2.mps[j]? = some q → q < w.heap.size := fun j q hq => mps_lt m1 (j := j) (by rw [hG2] at hq; exact hq)
  -- what holds ahead of a round: the record, the block, our memory
  let I : (Loop → Prop) → Gh → World → Prop := fun R G' W => Grw G w G' W ∧ (∀ b o, G2.Z b o → G'.Z b o) ∧ (∀ (j q : Nat), G'.mps[j]? = some q → q ≠ w.heap.size + 1 ∧ q ≠ w.heap.size) ∧
    (∃ r, W.heap[w.heap.size + 1]? = some (.loop r) ∧ R r) ∧ W.heap[w.heap.size]? = some (.deferred (some []))
  have Istep : ∀ (R : Loop → Prop) (G3 G4 : Gh) (W3 W4 : World), I R G3 W3 → Grw G3 W3 G4 W4 → I R G4 W4 := by
    rintro R G3 G4 W3 W4 ⟨i1, i2, i3, ⟨r, i4, i5⟩, i6⟩ hl
    have hlt : w.heap.size + 1 < W3.heap.size := (Array.getElem?_eq_some_iff.1 i4).1
    exact ⟨i1.trans hl, fun b o hz => hl.z b o (i2 b o hz), fun j q hq => (hl.mnew j q hq).elim (i3 j q) (fun hge => by omega), ⟨r, hl.oth _ _ i4 rfl (fun j hj => (i3 j _ hj).1 rfl), i5⟩, hl.oth _ _ i6 rfl (fun j hj => (i3 j _ hj).2 rfl)⟩
  have Iput : ∀ (R : Loop → Prop) (G3 : Gh) (W3 : World) (r' : Loop) (μ : Mem), I R G3 W3 → MRel G3 μ W3 → I (fun r => r = r') G3 (W3.putObj (w.heap.size + 1) (.loop r')) ∧ MRel G3 μ (W3.putObj (w.heap.size + 1) (.loop r')) ∧ Stay G3.Z W3 (W3.putObj (w.heap.size + 1) (.loop r')) := by
    rintro R G3 W3 r' μ ⟨i1, i2, i3, ⟨r, i4, i5⟩, i6⟩ hm
    have hlt : w.heap.size + 1 < W3.heap.size := (Array.getElem?_eq_some_iff.1 i4).1
    have hgr := grownBy_putObj' W3 (w.heap.size + 1) (.loop r')
    have hbase : G3.base ≤ w.heap.size := by rw [i1.base]; exact hs.mem.hb
    refine ⟨⟨i1.grownO hgr (by rintro q e; cases e; exact ⟨by omega, _, i4, rfl⟩), i2, i3, ⟨r', World.putObj_heap_same hlt, rfl⟩, (World.putObj_heap_other (by omega)).trans i6⟩, hm.grownO hgr (by rintro q e; cases e; exact ⟨by omega, fun j hj => (i3 j _ hj).1 rfl, _, i4, rfl⟩), by simp, fun b o v _ hv => cell_grown hgr (by rintro q e; cases e; exact ⟨_, i4, rfl⟩) hv⟩
  have I0 : I (fun r => r = rec .ready none) G2 W1 := ⟨g2, fun _ _ h => h, fun j q hq => by have := hn2 j q hq; omega, ⟨_, hL1, rfl⟩, hK1⟩
  have tm : ∀ (R : Loop → Prop) (G3 : Gh) (W3 : World), I R G3 W3 → ∀ (i : Nat) (d : DV) (x : Value), s.tmps[i]? = some d → a.tmps[i]? = some x → CRel G3 W3 d x := fun R G3 W3 h i d x hd hx => (hs.tmp i d x hd hx).grw h.1
  refine ⟨w.heap.size + 1, [mkD w.heap.size], W1, { target := .fn (.func gf) #[.pointer (some ⟨g, 0, none⟩)], args := #[.func (.yield (w.heap.size + 1)) #[] #[]] }, W1, gf,
    #[.func (.yield (w.heap.size + 1)) #[] #[]] ++ #[.pointer (some ⟨g, 0, none⟩)], W1, ?_, ?_, fun _ _ => trivial, ?_, fun h => by simp [FF, Fence.wide] at h, ?_⟩
  · rw [← hW1, hrec]; exact run_enterLoop_outer _ _ _ _ _
  · simp only [resolve, hav]
    simp [go_sem]
  · simp [invoke, go_sem, eg]
  · refine CallsIn.mono (hit G2.Z g (w.heap.size + 1) (fun Z k W => ∃ G', (∀ b o, Z b o → G'.Z b o) ∧ I (fun r => r = rec .ready none) G' W ∧ MRel G' (μs k) W ∧ Iv k) (fun k W => ∃ G' s2, Kx k s2 ∧ I (fun r => r = rec .done (some .ret)) G' W ∧ MRel G' s2.μ W) W1 p2 ⟨?_, ?_, ?_⟩ ?_ ⟨G2, fun _ _ h => h, I0, by rw [h0]; exact m2, hv0⟩) ?_
    · rintro Z k W ⟨G', -, hI, hm, -⟩
      exact hm.lw.below hm.bel hm.hb
    · rintro Z k W ⟨G', hZ, hI, hm, -⟩ b o hz
      exact hm.zlt b o (hZ b o hz)
    · rintro Z k W W' ⟨G', hZ, hI, hm, hv⟩ hb
      exact ⟨_, fun b o h => h.imp (hZ b o) id, Istep _ _ _ _ _ hI (Grw.below hm.zlt hb), hm.below hb, hv⟩
    · rintro Z k x ys W ⟨G', hI2, hI, hm, hv⟩ hx hrel
      obtain ⟨hI1, -, hI3, ⟨r, hr, hrr⟩, hI5⟩ := id hI
      subst hrr
      have hdf' : G'.df = [] := hI1.df.trans hdf
      have hy := run_yield (P := P) (args := ys) hr (by rw [hrec]; show ys.size = ps.size; rw [hrel.1]; exact hps x (List.mem_of_getElem? hx))
      have sr := setP_rel (G := G') (w := W) ps.toList x ys.toList s.tmps a.tmps (by simpa using hrel.1) (fun i d y h1 h2 => (hrel.2 i d y h1 (by simpa using h2)).mono' hI2 (fun _ _ _ _ h => h)) hs.size (tm _ _ _ hI)
      have hs1 : SRel G' ⟨setP s.tmps ps.toList x, μs k⟩ { tmps := (ps.zip ys).foldl (fun tmps (t, a) => tmps.setIfInBounds t a) a.tmps, defers := [] } W := by
        have e : (ps.zip ys).foldl (fun (tmps : Array Value) (q : Tmp × Value) => tmps.setIfInBounds q.1 q.2) a.tmps = (ps.toList.zip ys.toList).foldl (fun t (q : Tmp × Value) => t.setIfInBounds q.1 q.2) a.tmps := by rw [← Array.foldl_toList, Array.toList_zip]
        rw [← e] at sr
        exact ⟨sr.1, sr.2, hdf'.symm, hm⟩
      rw [hrec] at hy
      refine ⟨fn, _, assign, body, hy, roundIn_of_wpIn trivial (round_norm (hround _ k x hx hv) hs1 ?_)⟩
      clear hy
      intro s1 G3 a1 W3 hb hs3 hl3
      have hI3' := Istep _ _ _ _ _ hI hl3
      obtain ⟨j1, j2, j3⟩ := Iput _ G3 W3 { rec .ready none with state := .busy } _ hI3' hs3.mem
      obtain ⟨-, -, -, ⟨r, hr3, hrr⟩, -⟩ := id hI3'
      subst hrr
      refine ⟨_, run_beginRound hr3 (by rw [hrec]), ?_⟩
      have hs4 : SRel G3 s1 a1 (W3.putObj (w.heap.size + 1) (.loop { rec .ready none with state := .busy })) := ⟨hs3.size, fun i d x hd hx => (hs3.tmp i d x hd hx).same (fun b o v hz hv => j3.2 b o v hz hv), hs3.defers, j2⟩
      refine wpIn_mono (hb G3 a1 _ hs4) ?_
      rintro e a4 W4 ⟨x', s4, G4, h1, h2, h3, h4⟩
      have i4 := Istep _ _ _ _ _ j1 h4
      obtain ⟨-, -, -, ⟨r, hr4, hrr⟩, -⟩ := id i4
      subst hrr
      have hEnd : ∀ jump : Option Code, (Instr.endRound (w.heap.size + 1) jump).run P W4 = .ok (.bool jump.isNone) (W4.putObj (w.heap.size + 1) (.loop (rec (if jump.isNone then .ready else .done) jump))) := fun jump => by
        have := run_endRound (P := P) jump hr4
        rw [hrec] at this ⊢
        exact this
      cases x' <;> cases e <;> first
        | (exact h1.elim; done)
        | (exact h2.elim; done)
        | skip
      · obtain ⟨⟨nb, nt, no, c1, c2, c3, c4, c5⟩, hv2⟩ : CutTo s s4 (μs (k + 1)) ∧ Iv (k + 1) := h2
        have hk4 := (h3.keep []).cut c4
        have i4' : I (fun r => r = { rec .ready none with state := .busy }) (G4.cut nb nt no) W4 := ⟨i4.1.cut (by rw [hs.mem.len]; exact c1) (by rw [hs.mem.tlen]; exact c2) (by rw [hs.mem.mp.len]; exact c3), i4.2.1, fun j q hq => i4.2.2.1 j q (get_take hq).2, i4.2.2.2.1, i4.2.2.2.2⟩
        obtain ⟨k1, k2, k3⟩ := Iput _ (G4.cut nb nt no) W4 (rec .ready none) _ i4' hk4.mem
        refine ⟨_, _, hEnd none, .inl ⟨rfl, ⟨G4.cut nb nt no, fun b o hz => h4.z _ _ (hl3.z _ _ (hI2 _ _ hz)), k1, by rw [← c5]; exact k2, hv2⟩, ?_, ?_⟩⟩
        · have := hl3.hsz; have := h4.hsz; have := k3.1; have := j3.1; exact Nat.le_trans (Nat.le_trans ‹_› ‹_›) (Nat.le_trans ‹_› ‹_›)
        · intro b o v hz hv
          exact k3.2 _ _ _ (h4.z _ _ (hl3.z _ _ (hI2 _ _ hz))) (h4.cell _ _ _ (hl3.z _ _ (hI2 _ _ hz)) (j3.2 _ _ _ (hl3.z _ _ (hI2 _ _ hz)) (hl3.cell _ _ _ (hI2 _ _ hz) hv)))
      · obtain ⟨k1, k2, k3⟩ := Iput _ G4 W4 (rec .done (some .ret)) _ i4 h3.mem
        exact ⟨_, _, hEnd (some .ret), .inr ⟨rfl, G4, s4, h2, k1, k2⟩⟩
    · have fin : ∀ (R : Loop → Prop) (G' : Gh) (μ : Mem) (W : World) (q : Loop), I R G' W → MRel G' μ W → MarkAt w w.heap.size G' (W.putObj (w.heap.size + 1) (.loop q)) ∧ SRel (G'.dfr [mkD w.heap.size]) ⟨s.tmps, μ⟩ { a with defers := [mkD w.heap.size] } (W.putObj (w.heap.size + 1) (.loop q)) ∧ Grw G w G' (W.putObj (w.heap.size + 1) (.loop q)) := by
        intro R G' μ W q hI hm
        obtain ⟨k1, k2, k3⟩ := Iput _ G' W q _ hI hm
        refine ⟨⟨Nat.le_refl _, k1.2.2.2.2, fun j q hq => (k1.2.2.1 j q hq).2⟩, ⟨hs.size, fun i d x hd hx => (tm _ _ _ k1 i d x hd hx).dfr _, rfl, k2.dfr _⟩, k1.1⟩
      rintro e W2 ⟨v, rfl, (⟨_, G', _, hI, hm, hv⟩ | ⟨k, hk, G', s2, hK, hI, hm⟩)⟩
      · obtain ⟨-, -, -, ⟨r, hr, hrr⟩, -⟩ := id hI
        subst hrr
        obtain ⟨q, hq⟩ : ∃ q, (Instr.endLoop (w.heap.size + 1)).run P W2 = .ok none (W2.putObj (w.heap.size + 1) (.loop q)) := ⟨_, by
          have := run_endLoop (P := P) hr (by rw [hrec]; simp)
          have hp : (rec .ready none).pending = none := by rw [hrec]
          rw [hp] at this; exact this⟩
        obtain ⟨f1, f2, f3⟩ := fin _ G' _ W2 q hI hm
        refine ⟨none, _, hq, ?_⟩
        rw [hdef]
        exact hdone _ _ _ hv f1 f2 f3
      · obtain ⟨-, -, -, ⟨r, hr, hrr⟩, -⟩ := id hI
        subst hrr
        obtain ⟨q, hq⟩ : ∃ q, (Instr.endLoop (w.heap.size + 1)).run P W2 = .ok (some .ret) (W2.putObj (w.heap.size + 1) (.loop q)) := ⟨_, by
          have := run_endLoop (P := P) hr (by rw [hrec]; simp)
          have hp : (rec .done (some .ret)).pending = some .ret := by rw [hrec]
          rw [hp] at this; exact this⟩
        obtain ⟨f1, f2, f3⟩ := fin _ G' _ W2 q hI hm
        refine ⟨some .ret, _, hq, ?_⟩
        rw [hdef]
        exact wpIn_ret (hstop _ _ _ k s2 hk hK f1 f2 f3)

theorem leavesM_nil {P : Program} {fn : Func} {tmps : Array Value} {R : Ending → World → Prop} {u : FrameMode} {w : World} : LeavesInM (FF none) 0 P fn tmps R [] u w = LeavesIn (FF none) 0 P fn tmps R [] u w := rfl
/-- the end of a function's body, with a mark among the frame's deferred calls -/
theorem bodyM_of {P : Program} {fn : Func} {Z : Nat → Nat → Prop} {w : World} {r : AEnd} {G0 : Gh} (hG : G0 = ⟨w.heap.size, w, Z, Z, [], [], [], []⟩) {D : Nat} {x : AX} {s' : St} {G' : Gh} {e : Exit} {a' : Act} {w' : World}
    (h1 : XRel G' w' x e) (h2 : FPost P fn.results.toList r x s') (h3 : SRel (G'.dfr [mkD D]) s' a' w') (h4 : Grw G0 w G' w') (hD : MarkAt w D G' w') : bodyPostM (FF none) 0 P fn (Ends Z w r) e a' w' := by
  have hgr := grownBy_putObj' w' D (.deferred none)
  have e1 : G'.base = w.heap.size := by rw [h4.base, hG]
  have hsame : ∀ b o v, w'.cell? ⟨b, o, none⟩ = some v → (w'.putObj D (.deferred none)).cell? ⟨b, o, none⟩ = some v := fun b o v hv => cell_grown hgr (by rintro q e; cases e; exact ⟨_, hD.2.1, rfl⟩) hv
  have hm : MRel (G'.dfr []) s'.μ (w'.putObj D (.deferred none)) := (h3.mem.dfr []).grownO hgr (by rintro q e; cases e; exact ⟨by show G'.base ≤ D; rw [e1]; exact hD.1, fun j hj => hD.2.2 j _ hj rfl, _, hD.2.1, rfl⟩)
  have hl : Grw G0 w G' (w'.putObj D (.deferred none)) := h4.grownO hgr (by rintro q e; cases e; exact ⟨hD.1, _, hD.2.1, rfl⟩)
  have hdf : G'.df = [] := by rw [h4.df, hG]
  rw [Gh.dfr_self hdf] at hm
  have hs : SRel G' s' { a' with defers := [] } (w'.putObj D (.deferred none)) := ⟨h3.size, fun i d x hd hx => by
    have h := ((h3.tmp i d x hd hx).dfr []).same (w' := w'.putObj D (.deferred none)) (fun b o v _ hv => hsame b o v hv)
    have e2 : (G'.dfr [mkD D]).dfr [] = G' := (show (G'.dfr [mkD D]).dfr [] = G'.dfr [] from rfl).trans (Gh.dfr_self hdf)
    rw [e2] at h; exact h, hdf.symm, hm⟩
  have fin : ∀ (G2 : Gh) (μ2 : Mem) (v : PD) (y : Value) (w2 : World), MRel G2 μ2 w2 → Grw G0 w G2 w2 → PRel G2.Z w2 v y → PRel (fun b o => Z b o ∨ (w.heap.size ≤ b ∧ b < w2.heap.size)) w2 v y ∧ Below w.heap.size w w2 := by
    intro G2 μ2 v y w2 hm hl hp
    have e1 : G2.base = w.heap.size := by rw [hl.base, hG]
    have e2 : G2.w0 = w := by rw [hl.w0, hG]
    have e3 : G2.Z0 = Z := by rw [hl.z0, hG]
    refine ⟨hp.mono (fun b o hz => ?_) (fun _ _ _ => rfl), by rw [← e1]; have := hm.bel; rw [e2] at this; exact this⟩
    rcases hm.zsub b o hz with h | h
    · left; rw [← e3]; exact h
    · right; exact ⟨by rw [← e1]; exact h, hm.zlt b o hz⟩
  have hdef : a'.defers = [mkD D] := h3.defers
  have one : ∀ u : FrameMode, u ≠ .run → LeavesIn (FF none) 0 P fn a'.tmps (Ends Z w r) [] u (w'.putObj D (.deferred none)) → LeavesInM (FF none) 0 P fn a'.tmps (Ends Z w r) a'.defers u w' := by
    intro u hu h
    rw [hdef]
    exact ⟨hu, .inl ⟨D, _, rfl, run_takeDeferred hD.2.1, h⟩⟩
  have ret : (∃ l v μ', resA P s' fn.results.toList = some l ∧ frz 200 s'.μ (oneOrTup l) = some (v, μ') ∧ r = .ret v) → LeavesInM (FF none) 0 P fn a'.tmps (Ends Z w r) a'.defers .returning w' := by
    rintro ⟨l, v, μ', k1, k2, rfl⟩
    refine one _ (by simp) ?_
    obtain ⟨y, q1, q2⟩ := results_run hs k1
    obtain ⟨G2, n1, n2, n3, _⟩ := (frz_sound 200).1 _ _ _ _ k2 _ _ y hs.mem q2
    exact ⟨y, q1, fin _ _ _ _ _ n1 (hl.trans n2) n3⟩
  cases x <;> cases e <;> first
    | (exact h1.elim; done)
    | (exact h2.elim; done)
    | skip
  · exact ret h2
  · exact ret h2
  · obtain ⟨v, μ', k2, rfl⟩ := h2
    obtain ⟨y, rfl, hy⟩ := h1
    show LeavesInM (FF none) 0 P fn a'.tmps _ a'.defers (.panicking _) w'
    refine one _ (by simp) ?_
    obtain ⟨G2, n1, n2, n3, _⟩ := (frz_sound 200).1 _ _ _ _ k2 G' _ y hs.mem (hy.same fun b o v _ hv => hsame b o v hv)
    obtain ⟨f1, f2⟩ := fin G2 _ _ _ _ n1 (hl.trans n2) n3
    exact ⟨⟨y, rfl, f1⟩, f2⟩
theorem bodyM_plain {P : Program} {fn : Func} {Z : Nat → Nat → Prop} {w : World} {r : AEnd} {G0 : Gh} (hG : G0 = ⟨w.heap.size, w, Z, Z, [], [], [], []⟩) {x : AX} {s' : St} {G' : Gh} {e : Exit} {a' : Act} {w' : World}
    (h1 : XRel G' w' x e) (h2 : FPost P fn.results.toList r x s') (h3 : SRel G' s' a' w') (h4 : Grw G0 w G' w') : bodyPostM (FF none) 0 P fn (Ends Z w r) e a' w' := by
  have fin : ∀ (G2 : Gh) (μ2 : Mem) (v : PD) (y : Value) (w2 : World), MRel G2 μ2 w2 → Grw G0 w G2 w2 → PRel G2.Z w2 v y → PRel (fun b o => Z b o ∨ (w.heap.size ≤ b ∧ b < w2.heap.size)) w2 v y ∧ Below w.heap.size w w2 := by
    intro G2 μ2 v y w2 hm hl hp
    have e1 : G2.base = w.heap.size := by rw [hl.base, hG]
    have e2 : G2.w0 = w := by rw [hl.w0, hG]
    have e3 : G2.Z0 = Z := by rw [hl.z0, hG]
    refine ⟨hp.mono (fun b o hz => ?_) (fun _ _ _ => rfl), by rw [← e1]; have := hm.bel; rw [e2] at this; exact this⟩
    rcases hm.zsub b o hz with h | h
    · left; rw [← e3]; exact h
    · right; exact ⟨by rw [← e1]; exact h, hm.zlt b o hz⟩
  have hdef : a'.defers = [] := h3.defers.trans (h4.df.trans (by rw [hG]))
  have ret : (∃ l v μ', resA P s' fn.results.toList = some l ∧ frz 200 s'.μ (oneOrTup l) = some (v, μ') ∧ r = .ret v) → LeavesInM (FF none) 0 P fn a'.tmps (Ends Z w r) a'.defers .returning w' := by
    rintro ⟨l, v, μ', k1, k2, rfl⟩
    rw [hdef]
    obtain ⟨y, q1, q2⟩ := results_run h3 k1
    obtain ⟨G2, n1, n2, n3, _⟩ := (frz_sound 200).1 _ _ _ _ k2 _ _ y h3.mem q2
    exact ⟨y, q1, fin _ _ _ _ _ n1 (h4.trans n2) n3⟩
  cases x <;> cases e <;> first
    | (exact h1.elim; done)
    | (exact h2.elim; done)
    | skip
  · exact ret h2
  · exact ret h2
  · obtain ⟨v, μ', k2, rfl⟩ := h2
    obtain ⟨y, rfl, hy⟩ := h1
    show LeavesInM (FF none) 0 P fn a'.tmps _ a'.defers (.panicking _) w'
    rw [hdef]
    obtain ⟨G2, n1, n2, n3, _⟩ := (frz_sound 200).1 _ _ _ _ k2 G' _ y h3.mem hy
    obtain ⟨f1, f2⟩ := fin G2 _ _ _ _ n1 (h4.trans n2) n3
    exact ⟨⟨y, rfl, f1⟩, f2⟩
theorem awp_then {ro : Option Nat} {P : Program} {c : Code} {s : St} (s1 : St) {K : St → Prop} (h : AWP ro P c (fun x s' => x = .norm ∧ s' = s1) s) (k : K s1) : AWP ro P c (fun e s' => e = .norm ∧ K s') s := fun G a w hs => wpIn_mono (h G a w hs) fun e a' w' ⟨x, s', G', q1, ⟨q2, q3⟩, q4, q5⟩ => ⟨x, s', G', q1, ⟨q2, q3 ▸ k⟩, q4, q5⟩
/-- a function's code, from a state on -/
def FM (P : Program) (fn : Func) (r : AEnd) (c : Code) (s : St) : Prop := ∀ (Z : Nat → Nat → Prop) (w0 : World) (G : Gh) (a : Act) (w : World), SRel G s a w → Grw ⟨w0.heap.size, w0, Z, Z, [], [], [], []⟩ w0 G w → c.wpIn (FF none) 0 P (bodyPostM (FF none) 0 P fn (Ends Z w0 r)) a w
theorem fm_awp {P : Program} {fn : Func} {r : AEnd} {c : Code} {s : St} (h : AWP none P c (FPost P fn.results.toList r) s) : FM P fn r c s := by
  intro Z w0 G a w hs hl
  refine wpIn_mono (h G a w hs) ?_
  rintro e a' w' ⟨x, s', G', h1, h2, h3, h4⟩
  exact bodyM_plain rfl h1 h2 h3 (hl.trans h4)
theorem fm_seq {P : Program} {fn : Func} {r : AEnd} {c1 c2 : Code} {s : St} (h : AWP none P c1 (AX.next (fun s' => FM P fn r c2 s') (FPost P fn.results.toList r)) s) : FM P fn r (.seq c1 c2) s := by
  intro Z w0 G a w hs hl
  refine wpIn_seq (wpIn_mono (h G a w hs) ?_)
  rintro e a' w' ⟨x, s', G', h1, h2, h3, h4⟩
  cases x <;> cases e <;> first
    | (exact h1.elim; done)
    | exact h2 Z w0 G' a' w' h3 (hl.trans h4)
    | exact bodyM_plain (P := P) (fn := fn) (r := r) rfl h1 h2 h3 (hl.trans h4)
theorem fm_seq1 {P : Program} {fn : Func} {r : AEnd} {c1 c2 : Code} {s : St} (s1 : St) (h : AWP none P c1 (fun x s' => x = .norm ∧ s' = s1) s) (h2 : FM P fn r c2 s1) : FM P fn r (.seq c1 c2) s := by
  intro Z w0 G a w hs hl
  refine wpIn_seq (wpIn_mono (h G a w hs) ?_)
  rintro e a' w' ⟨x, s', G', h1, ⟨rfl, rfl⟩, h3, h4⟩
  cases e <;> first
    | (exact h1.elim; done)
    | exact h2 Z w0 G' a' w' h3 (hl.trans h4)
theorem blk_range {P : Program} {fn : Func} {r : AEnd} {gf : FuncId} {c : PD} {xs : List (List PD)} (hit : ItOK P gf c xs) (eg : ∀ args w, (callFunc gf args).run P w = .ok (.enter gf args) w)
    {s : St} {bk t b n : Nat} {ps : Array Tmp} {assign body B : Code} {μ0 : Mem} (hg : getT s.tmps t = .fn gf [.loc b 0]) (hfz : frz 200 s.μ (.bsl b 0 n 1 1) = some (.sl [c], μ0))
    (μs : Nat → Mem) (h0 : μs 0 = μ0) (Iv : Nat → Prop) (hv0 : Iv 0) (Kx : Nat → St → Prop) (hps : ∀ x ∈ xs, x.length = ps.size)
    (hround : ∀ l k x, xs[k]? = some x → Iv k → AWP (some l) P assign (fun e s1 => e = .norm ∧ AWP (some l) P body (fun e s2 => match e with | .norm => CutTo s s2 (μs (k + 1)) ∧ Iv (k + 1) | .ret => Kx k s2 | _ => False) s1) ⟨setP s.tmps ps.toList x, μs k⟩)
    (hB : Iv xs.length → AWP none P B (FPost P fn.results.toList r) ⟨s.tmps, μs xs.length⟩) (hK : ∀ k s2, k < xs.length → Kx k s2 → FPost P fn.results.toList r .ret ⟨s.tmps, s2.μ⟩)
    {Z : Nat → Nat → Prop} {w0 : World} {G : Gh} {a : Act} {w : World} (hs : SRel G s a w) (hl : Grw ⟨w0.heap.size, w0, Z, Z, [], [], [], []⟩ w0 G w) :
    (Code.block bk (.rangeFunc (.tmp t) ps assign body)).wpIn (FF none) 0 P (Exit.then (B.wpIn (FF none) 0 P (bodyPostM (FF none) 0 P fn (Ends Z w0 r))) (bodyPostM (FF none) 0 P fn (Ends Z w0 r))) a w := by
  have hdf : G.df = [] := hl.df
  have up : ∀ {D : Nat} {G' : Gh} {W : World}, MarkAt w D G' W → MarkAt w0 D G' W := fun h => ⟨Nat.le_trans hl.hsz h.1, h.2⟩
  refine wpIn_block (range_run hit eg hg hfz μs h0 Iv hv0 Kx hps hround hs hdf ?_ ?_)
  · intro D G' W hv hD h3 h4
    refine wpIn_mono (hB hv _ _ _ h3) ?_
    rintro e a' w' ⟨x, s', G2, k1, k2, k3, k4⟩
    have hdf2 : G2.df = [mkD D] := k4.df
    have hG' : G'.df = [] := h4.df.trans hdf
    have e1 : (G2.dfr []).dfr [mkD D] = G2 := (show (G2.dfr []).dfr [mkD D] = G2.dfr [mkD D] from rfl).trans (Gh.dfr_self hdf2)
    have k4' : Grw G' W (G2.dfr []) w' := by have := k4.back; rw [hG'] at this; exact this
    refine bodyM_of (G' := G2.dfr []) (D := D) rfl ?_ k2 (by rw [e1]; exact k3) ((hl.trans h4).trans k4') ⟨(up hD).1, k4'.oth D _ hD.2.1 rfl (fun j hj => hD.2.2 j _ hj rfl), fun j q hq => (k4'.mnew j q hq).elim (hD.2.2 j q) (fun hge e => by
      have := (Array.getElem?_eq_some_iff.1 hD.2.1).1
      omega)⟩
    cases x <;> cases e <;> first
      | exact k1
      | (obtain ⟨v, h5, h6⟩ := k1; exact ⟨v, h5, h6.dfr []⟩)
  · intro D G' W k s2 hk hK' hD h3 h4
    exact bodyM_of (x := .ret) (e := .ret) rfl trivial (hK k s2 hk hK') h3 (hl.trans h4) (up hD)
/-- (A; the range); B -/
theorem fm_range {P : Program} {fn : Func} {r : AEnd} {gf : FuncId} {c : PD} {xs : List (List PD)} (hit : ItOK P gf c xs) (eg : ∀ args w, (callFunc gf args).run P w = .ok (.enter gf args) w)
    {s0 s : St} {bk t b n : Nat} {ps : Array Tmp} {A assign body B : Code} {μ0 : Mem} (hA : AWP none P A (fun x s' => x = .norm ∧ s' = s) s0) (hg : getT s.tmps t = .fn gf [.loc b 0]) (hfz : frz 200 s.μ (.bsl b 0 n 1 1) = some (.sl [c], μ0))
    (μs : Nat → Mem) (h0 : μs 0 = μ0) (Iv : Nat → Prop) (hv0 : Iv 0) (Kx : Nat → St → Prop) (hps : ∀ x ∈ xs, x.length = ps.size)
    (hround : ∀ l k x, xs[k]? = some x → Iv k → AWP (some l) P assign (fun e s1 => e = .norm ∧ AWP (some l) P body (fun e s2 => match e with | .norm => CutTo s s2 (μs (k + 1)) ∧ Iv (k + 1) | .ret => Kx k s2 | _ => False) s1) ⟨setP s.tmps ps.toList x, μs k⟩)
    (hB : Iv xs.length → AWP none P B (FPost P fn.results.toList r) ⟨s.tmps, μs xs.length⟩) (hK : ∀ k s2, k < xs.length → Kx k s2 → FPost P fn.results.toList r .ret ⟨s.tmps, s2.μ⟩) : FM P fn r (.seq (.seq A (.block bk (.rangeFunc (.tmp t) ps assign body))) B) s0 := by
  intro Z w0 G a w hs hl
  refine wpIn_seq (wpIn_seq (wpIn_mono (hA G a w hs) ?_))
  rintro e a' w' ⟨x, s', G', h1, ⟨rfl, rfl⟩, h3, h4⟩
  cases e <;> first
    | (exact h1.elim; done)
    | exact blk_range hit eg hg hfz μs h0 Iv hv0 Kx hps hround hB hK h3 (hl.trans h4)
theorem pure_of_fm {P : Program} {f : FuncId} {fn : Func} {c : Code} (hc : Callable P f fn c) {args : List PD} {r : AEnd} {n : Nat} (hn : fn.ntmps = n)
    (h : FM P fn r c ⟨args.map .p ++ List.replicate (n - args.length) .undef, ⟨[], [], []⟩⟩) : Pure P f args r := by
  refine ⟨⟨fn, c, hc⟩, fun Z w xs hlw hz hx => ?_⟩
  subst hn
  obtain ⟨G, hG⟩ : ∃ G : Gh, G = ⟨w.heap.size, w, Z, Z, [], [], [], []⟩ := ⟨_, rfl⟩
  have hM : MRel G ⟨[], [], []⟩ w := by
    subst hG
    exact ⟨Below.refl _ _, Nat.le_refl _, hz, fun b o h => .inl h, rfl, rfl, fun i j g hi => by simp at hi, fun j B g hB => by simp at hB, fun t e s n ht => by simp at ht, fun t t' a a' x x' g ht => by simp at ht, hlw, ⟨rfl, fun i j g hi => by simp at hi, fun i g a ha => by simp at ha⟩⟩
  have hs : SRel G ⟨args.map .p ++ List.replicate (fn.ntmps - args.length) .undef, ⟨[], [], []⟩⟩ { tmps := xs ++ Array.replicate (fn.ntmps - xs.size) undef, defers := [] } w := by
    refine ⟨by simp [hx.1], fun i d x hd hx' => ?_, by rw [hG], hM⟩
    rcases Nat.lt_or_ge i args.length with hi | hi
    · rw [List.getElem?_append_left (by simpa using hi)] at hd
      simp only [List.getElem?_map, Option.map_eq_some_iff] at hd
      obtain ⟨q, hq, rfl⟩ := hd
      simp only at hx'
      rw [Array.getElem?_append_left (by rw [hx.1]; exact hi)] at hx'
      have := hx.2 i q x hq hx'
      subst hG
      exact .p _ _ this
    · rw [List.getElem?_append_right (by simpa using hi), List.getElem?_replicate] at hd
      split at hd
      · injection hd with hd; subst hd; exact .undef _
      · cases hd
  refine callsIn_wide.1 (callsIn_of_wp_marks (F := FF none) (n := 0) hc.at_ hc.body trivial (h Z w G _ w hs (by rw [hG]; exact Grw.refl _ _)) rfl)
end Go.Proofs.YtikfefjaeejeeaaGreatDoor
