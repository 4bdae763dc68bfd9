/- The abstract machine, 3: a nil slice as a row; boxes that are shut; values as pure data. -/
import Derived.Test.YtmhpccchgbdiiaaGreatDoorAe2
namespace Go.Proofs.YtmhpccchgbdiiaaGreatDoor
open Go.RowKit

/-- a nil slice is a row of one's own -/
theorem MRel.adopt {G : Gh} {μ : Mem} {w : World} (h : MRel G μ w) (e : TypeId) (s : Nat) (hs : 0 < s) :
    ∃ G', MRel G' ⟨μ.boxes, μ.toks ++ [some (e, s, 0)], μ.objs⟩ w ∧ Grw G w G' w ∧ CRel G' w (.row μ.toks.length []) (.slice none 0 0) := by
  have key : ∀ {α : Type} (l : List α) (a : α) (t : Nat) (x : α), (l ++ [a])[t]? = some x → l[t]? = some x ∨ (t = l.length ∧ x = a) := by
    intro α l a t x hx
    rcases Nat.lt_trichotomy t l.length with ht | ht | ht
    · left; rwa [List.getElem?_append_left ht] at hx
    · right; subst ht; simp at hx; exact ⟨rfl, hx.symm⟩
    · rw [List.getElem?_eq_none (by simp; omega)] at hx; cases hx
  have old : ∀ {α : Type} (l : List α) (a : α) (t : Nat) (x : α), l[t]? = some x → (l ++ [a])[t]? = some x := by
    intro α l a t x hx
    rw [List.getElem?_append_left (List.getElem?_eq_some_iff.1 hx).1]; exact hx
  have hgr : Grw G w { G with tv := G.tv ++ [(0, .slice none 0 0)] } w :=
    ⟨rfl, rfl, rfl, fun _ _ hz => hz, fun _ _ _ _ h => h, fun _ _ hh => hh, fun t n x ht => ⟨n, x, old _ _ _ _ ht, Nat.le_refl _, fun _ => rfl⟩, fun _ _ h => h, rfl, Nat.le_refl _, fun _ _ h _ _ => h, fun _ _ h => .inl h⟩
  refine ⟨{ G with tv := G.tv ++ [(0, .slice none 0 0)] }, ⟨h.bel, h.hb, h.zlt, h.zsub, h.len, by simp [h.tlen], h.inj, ?_, ?_, ?_, h.lw, h.mp⟩, hgr, ?_⟩
  · intro j B g hB hg
    obtain ⟨h1, vs, h2, h3, h4, h5⟩ := h.box j B g hB hg
    exact ⟨h1, vs, h2, h3, fun i d x hd hx => ⟨(h4 i d x hd hx).1.grw hgr, (h4 i d x hd hx).2⟩, h5⟩
  · intro t e' s' n ht
    rcases key _ _ _ _ ht with ht | ⟨htt, hx⟩
    · obtain ⟨x, xs, h1, h2, h3, h4⟩ := h.tok t e' s' n ht
      exact ⟨x, xs, old _ _ _ _ h1, h2, h3, h4⟩
    · injection hx with hx
      injection hx with hx1 hx2
      injection hx2 with hx2 hx3
      subst hx1; subst hx2; subst hx3; subst htt
      refine ⟨.slice none 0 0, [], ?_, World.ownsRow_nil _ _ _ _, hs, fun g hg => by simp [Value.ownBlock] at hg⟩
      show (G.tv ++ [(0, Value.slice none 0 0)])[μ.toks.length]? = _
      rw [← h.tlen]; simp
  · intro t t' a a' x x' g h1 h2 k1 k2 b1 b2
    have nonil : ∀ (t : Nat) (x : Nat × Value), (G.tv ++ [(0, Value.slice none 0 0)])[t]? = some x → x.2.ownBlock = some g → G.tv[t]? = some x := by
      intro t x hx hb
      rcases key _ _ _ _ hx with hx | ⟨_, hx⟩
      · exact hx
      · subst hx; simp [Value.ownBlock] at hb
    have k1' := nonil t x k1 b1
    have k2' := nonil t' x' k2 b2
    have l1 := (List.getElem?_eq_some_iff.1 k1').1
    have l2 := (List.getElem?_eq_some_iff.1 k2').1
    rw [h.tlen] at l1 l2
    simp only [List.getElem?_append_left l1] at h1
    simp only [List.getElem?_append_left l2] at h2
    exact h.tne t t' a a' x x' g h1 h2 k1' k2' b1 b2
  · refine .row _ _ _ (.slice none 0 0) 0 ?_ ?_ (Nat.le_refl _) (fun _ => rfl)
    · exact .sl [] none 0 0 (fun _ => undef) (Nat.le_refl _) (by simp) (by simp) (by simp) (by simp)
    · show (G.tv ++ [(0, Value.slice none 0 0)])[μ.toks.length]? = _
      rw [← h.tlen]; simp

/-- a box is shut: what it holds stays -/
theorem MRel.shutBox {G : Gh} {μ : Mem} {w : World} (h : MRel G μ w) {b g : Nat} {B : Box} (hB : μ.boxes[b]? = some B) (hg : G.bs[b]? = some g) :
    ∃ G', MRel G' ⟨μ.boxes.set b ⟨B.t, B.cells, true⟩, μ.toks, μ.objs⟩ w ∧ Grw G w G' w ∧ (∀ o, G'.Z g o) ∧ G'.bs = G.bs := by
  obtain ⟨g1, vs0, g2, g3, g4, g5⟩ := h.box b B g hB hg
  have hb := (List.getElem?_eq_some_iff.1 hB).1
  have hgl := (Array.getElem?_eq_some_iff.1 g2).1
  have hgr : Grw G w { G with Z := fun k o => G.Z k o ∨ k = g } w :=
    ⟨rfl, rfl, rfl, fun _ _ hz => .inl hz, fun _ _ _ _ h => h, fun _ _ hh => hh, fun t n x ht => ⟨n, x, ht, Nat.le_refl _, fun _ => rfl⟩, fun _ _ h => h, rfl, Nat.le_refl _, fun _ _ h _ _ => h, fun _ _ h => .inl h⟩
  refine ⟨{ G with Z := fun k o => G.Z k o ∨ k = g }, ⟨h.bel, h.hb, ?_, ?_, by simpa using h.len, h.tlen, h.inj, ?_, ?_, h.tne, h.lw, h.mp⟩, hgr, fun o => .inr rfl, rfl⟩
  · rintro k o (hz | rfl)
    · exact h.zlt k o hz
    · exact hgl
  · rintro k o (hz | rfl)
    · exact h.zsub k o hz
    · exact .inr g1
  · intro j B' g' hB' hg'
    by_cases hj : j = b
    · subst hj
      rw [show G.bs[j]? = some g' from hg'] at hg
      injection hg with hg
      subst hg
      simp only [List.getElem?_set_self hb, Option.some.injEq] at hB'
      subst hB'
      exact ⟨g1, vs0, g2, g3, fun i d x hd hx => ⟨(g4 i d x hd hx).1.grw hgr, (g4 i d x hd hx).2⟩, fun h => by cases h⟩
    · simp only [List.getElem?_set_ne (Ne.symm hj)] at hB'
      obtain ⟨k1, vs', k2, k3, k4, k5⟩ := h.box j B' g' hB' hg'
      have hne : g' ≠ g := fun e => hj (h.inj j b g (by rw [← e]; exact hg') hg)
      exact ⟨k1, vs', k2, k3, fun i d x hd hx => ⟨(k4 i d x hd hx).1.grw hgr, (k4 i d x hd hx).2⟩, fun hs o hz => hz.elim (k5 hs o) hne⟩
  · intro t e s n ht
    obtain ⟨x, xs, h1, h2, h3, h4⟩ := h.tok t e s n ht
    exact ⟨x, xs, h1, h2, h3, fun gg hgv => ⟨fun o ho hz => hz.elim ((h4 gg hgv).1 o ho) (fun e => (h4 gg hgv).2 b (by rw [e]; exact hg)), (h4 gg hgv).2⟩⟩

/-- nil is an empty slice -/
def frzP : PD → PD
  | .v (.slice _ 0 _) => .sl []
  | d => d
theorem frzP_rel {Z : Nat → Nat → Prop} {w : World} {d : PD} {x : Value} (h : PRel Z w d x) : PRel Z w (frzP d) x := by
  unfold frzP
  split
  · cases h; exact .sl [] _ _ 0 (fun _ => undef) (Nat.zero_le _) (by simp) (by simp) (by simp) (by simp)
  · exact h
def PD.single : PD → Bool
  | .agg _ => false
  | _ => true
theorem PD.single_cells {d : PD} (h : d.single = true) : d.cells = [d] := by cases d <;> simp_all [PD.single, PD.cells]
mutual
/-- a value as pure data; boxes behind slices are shut -/
def frz : Nat → Mem → DV → Option (PD × Mem)
  | 0, _, _ => none
  | k + 1, μ, d => match d with
    | .p d => some (frzP d, μ)
    | .row _ els => some (.sl els, μ)
    | .cut0 => some (.sl [], μ)
    | .fn f [] => some (.v (.func (.func f) #[] #[]), μ)
    | .agg cs => match frzL k μ cs with | some (l, μ') => some (.agg l, μ') | none => none
    | .tup cs => match frzL k μ cs with | some (l, μ') => some (.tup l, μ') | none => none
    | .bsl b off sz len _ => match μ.boxes[b]? with
      | some B => if off + len * sz ≤ B.cells.length then match frzL k ⟨μ.boxes.set b ⟨B.t, B.cells, true⟩, μ.toks, μ.objs⟩ ((B.cells.drop off).take (len * sz)) with
          | some (l, μ') => if sz ≠ 1 ∨ l.all PD.single = true then some (.sl (chunk sz len l), μ') else none
          | none => none
        else none
      | none => none
    | _ => none
def frzL : Nat → Mem → List DV → Option (List PD × Mem)
  | 0, _, _ => none
  | _ + 1, μ, [] => some ([], μ)
  | k + 1, μ, d :: r => match frz k μ d with
    | some (p, μ1) => match frzL k μ1 r with
      | some (l, μ2) => some (p :: l, μ2)
      | none => none
    | none => none
end

theorem chunk_length (s m : Nat) (l : List PD) : (chunk s m l).length = m := by simp [chunk]
theorem chunk_get {s m : Nat} {l : List PD} {i : Nat} {d : PD} (h : (chunk s m l)[i]? = some d) : i < m ∧ d = if s = 1 then l.getD i default else .agg ((l.drop (i * s)).take s) := by
  have hi : i < m := by have := (List.getElem?_eq_some_iff.1 h).1; rwa [chunk_length] at this
  refine ⟨hi, ?_⟩
  simp only [chunk, List.getElem?_map, List.getElem?_range hi, Option.map_some, Option.some.injEq] at h
  exact h.symm

theorem frz_sound : ∀ (k : Nat),
    (∀ (μ : Mem) (d : DV) (q : PD) (μ' : Mem), frz k μ d = some (q, μ') → ∀ (G : Gh) (w : World) (x : Value), MRel G μ w → CRel G w d x → ∃ G', MRel G' μ' w ∧ Grw G w G' w ∧ PRel G'.Z w q x ∧ G'.bs = G.bs) ∧
    (∀ (μ : Mem) (ds : List DV) (l : List PD) (μ' : Mem), frzL k μ ds = some (l, μ') → ∀ (G : Gh) (w : World) (xs : List Value), MRel G μ w → xs.length = ds.length → (∀ (i : Nat) (d : DV) (x : Value), ds[i]? = some d → xs[i]? = some x → CRel G w d x) →
      ∃ G', MRel G' μ' w ∧ Grw G w G' w ∧ G'.bs = G.bs ∧ l.length = ds.length ∧ ∀ (i : Nat) (q : PD) (x : Value), l[i]? = some q → xs[i]? = some x → PRel G'.Z w q x) := by
  intro k
  induction k with
  | zero => exact ⟨fun μ d q μ' hf => by simp [frz] at hf, fun μ ds l μ' hf => by simp [frzL] at hf⟩
  | succ k ih =>
    constructor
    · intro μ d q μ' hf G w x hM hx
      have done : ∀ q', PRel G.Z w q' x → q = q' → μ' = μ → ∃ G', MRel G' μ' w ∧ Grw G w G' w ∧ PRel G'.Z w q x ∧ G'.bs = G.bs := by
        rintro q' h rfl rfl
        exact ⟨G, hM, Grw.refl G w, h, rfl⟩
      cases hx with
      | undef x => simp [frz] at hf
      | p d x h =>
        simp only [frz, Option.some.injEq, Prod.mk.injEq] at hf
        obtain ⟨rfl, rfl⟩ := hf
        exact done _ (frzP_rel h) rfl rfl
      | agg cs vs hl h =>
        simp only [frz] at hf
        split at hf
        · rename_i l μ1 hl1
          simp only [Option.some.injEq, Prod.mk.injEq] at hf
          obtain ⟨rfl, rfl⟩ := hf
          obtain ⟨G', h1, h2, h3, h4, h5⟩ := ih.2 μ cs l μ1 hl1 G w vs.toList hM (by simpa using hl) (fun i d x hd hx => h i d x hd (by simpa using hx))
          exact ⟨G', h1, h2, .agg l vs (by omega) (fun i d x hd hx => h5 i d x hd (by simpa using hx)), h3⟩
        · cases hf
      | tup cs vs hl h =>
        simp only [frz] at hf
        split at hf
        · rename_i l μ1 hl1
          simp only [Option.some.injEq, Prod.mk.injEq] at hf
          obtain ⟨rfl, rfl⟩ := hf
          obtain ⟨G', h1, h2, h3, h4, h5⟩ := ih.2 μ cs l μ1 hl1 G w vs.toList hM (by simpa using hl) (fun i d x hd hx => h i d x hd (by simpa using hx))
          exact ⟨G', h1, h2, .tup l vs (by omega) (fun i d x hd hx => h5 i d x hd (by simpa using hx)), h3⟩
        · cases hf
      | row t els x y n h h1 h2 h3 =>
        simp only [frz, Option.some.injEq, Prod.mk.injEq] at hf
        obtain ⟨rfl, rfl⟩ := hf
        exact done _ h rfl rfl
      | bsl b off sz len cap g hg hc hm =>
        simp only [frz] at hf
        split at hf
        · rename_i B hB
          split at hf
          · rename_i hlen
            split at hf
            · rename_i l μ1 hl1
              split at hf
              · rename_i hone
                simp only [Option.some.injEq, Prod.mk.injEq] at hf
                obtain ⟨rfl, rfl⟩ := hf
                obtain ⟨g1, vs, g2, g3, g4, _⟩ := hM.box b B g hB hg
                obtain ⟨G1, k1, k2, k3, k4⟩ := hM.shutBox hB hg
                have hlt : ((vs.toList.drop off).take (len * sz)).length = ((B.cells.drop off).take (len * sz)).length := by
                  simp only [List.length_take, List.length_drop, Array.length_toList, g3]
                have hcl : ∀ (i : Nat) (x : Value), ((vs.toList.drop off).take (len * sz))[i]? = some x → i < len * sz ∧ vs[off + i]? = some x := by
                  intro i x hx
                  have hi := (List.getElem?_eq_some_iff.1 hx).1
                  simp only [List.length_take, List.length_drop] at hi
                  rw [List.getElem?_take, if_pos (by omega), List.getElem?_drop] at hx
                  exact ⟨by omega, by simpa using hx⟩
                obtain ⟨G2, m1, m2, m3, m4, m5⟩ := ih.2 _ _ l μ1 hl1 G1 w ((vs.toList.drop off).take (len * sz)) k1 hlt (fun i d x hd hx => by
                  obtain ⟨hi, hx⟩ := hcl i x hx
                  rw [List.getElem?_take, if_pos hi, List.getElem?_drop] at hd
                  exact (g4 _ d x hd hx).1.grw k2)
                have hll : l.length = len * sz := by
                  rw [m4, List.length_take, List.length_drop]; omega
                have hcell : ∀ (j : Nat), (hj : j < len * sz) → ∃ x, vs[off + j]? = some x ∧ x.oneCell' = true ∧ PRel G2.Z w (l[j]'(by omega)) x ∧ ((vs.toList.drop off).take (len * sz))[j]? = some x := by
                  intro j hj
                  have hv : off + j < vs.size := by omega
                  have hx : ((vs.toList.drop off).take (len * sz))[j]? = some vs[off + j] := by
                    rw [List.getElem?_take, if_pos hj, List.getElem?_drop]; simp [hv]
                  exact ⟨vs[off + j], Array.getElem?_eq_getElem hv, (g4 (off + j) _ _ (List.getElem?_eq_getElem (by omega)) (Array.getElem?_eq_getElem hv)).2, m5 j _ _ (List.getElem?_eq_getElem _) hx, hx⟩
                have helem : ∀ (i j : Nat) (d e : PD), (chunk sz len l)[i]? = some d → d.cells[j]? = some e → i * sz + j < len * sz ∧ l[i * sz + j]? = some e := by
                  intro i j d e hd he
                  obtain ⟨hi, hd⟩ := chunk_get hd
                  by_cases h1 : sz = 1
                  · subst h1
                    rw [if_pos rfl] at hd
                    have hil : i < l.length := by omega
                    rw [List.getD_eq_getElem?_getD, List.getElem?_eq_getElem hil] at hd
                    have hcl1 : d.cells = [d] := by
                      rcases hone with hone | hone
                      · exact absurd rfl hone
                      · rw [hd]; exact PD.single_cells (List.all_eq_true.1 hone l[i] (List.getElem_mem hil))
                    rw [hcl1] at he
                    have hj : j = 0 := by have := (List.getElem?_eq_some_iff.1 he).1; simp at this; exact this
                    subst hj
                    simp at he
                    subst he
                    exact ⟨by omega, by rw [Nat.mul_one, Nat.add_zero, List.getElem?_eq_getElem hil, hd]; rfl⟩
                  · rw [if_neg h1] at hd
                    subst hd
                    simp only [PD.cells] at he
                    have hj := (List.getElem?_eq_some_iff.1 he).1
                    simp only [List.length_take] at hj
                    have hj' : j < sz := by omega
                    rw [List.getElem?_take, if_pos hj', List.getElem?_drop] at he
                    exact ⟨mul_add_lt hi hj', he⟩
                have hcs := chunk_length sz len l
                refine ⟨G2, m1, k2.trans m2, ?_, by rw [m3, k4]⟩
                have hfin : PRel G2.Z w (.sl (chunk sz len l)) (.slice (some ⟨g, off, none⟩) (chunk sz len l).length cap) := by
                  refine .sl (chunk sz len l) _ cap sz (fun j => (vs[off + j]?).getD undef) (by omega) (by omega) (fun d hd => ?_) (fun i j d e hd he => ?_) (fun i j d e hd he => ?_)
                  · obtain ⟨i, hi⟩ := List.getElem?_of_mem hd
                    obtain ⟨hi', hd'⟩ := chunk_get hi
                    by_cases h1 : sz = 1
                    · subst h1
                      rw [if_pos rfl] at hd'
                      have hil : i < l.length := by omega
                      rw [List.getD_eq_getElem?_getD, List.getElem?_eq_getElem hil] at hd'
                      rcases hone with hone | hone
                      · exact absurd rfl hone
                      · have := PD.single_cells (List.all_eq_true.1 hone l[i] (List.getElem_mem hil))
                        have hdl : d = l[i] := hd'
                        rw [hdl, this]; rfl
                    · rw [if_neg h1] at hd'
                      subst hd'
                      simp only [PD.cells, List.length_take, List.length_drop, hll]
                      have : (i + 1) * sz ≤ len * sz := Nat.mul_le_mul_right sz hi'
                      rw [Nat.add_mul] at this
                      omega
                  · obtain ⟨hj, _⟩ := helem i j d e hd he
                    obtain ⟨x, q1, q2, _, _⟩ := hcell _ hj
                    refine ⟨g, off, rfl, m2.z _ _ (k3 _), ?_, ?_⟩
                    · rw [cell_of_row w g _ vs B.t (0, 0) g2]; simp [q1]
                    · simp [q1, q2]
                  · obtain ⟨hj, hle⟩ := helem i j d e hd he
                    obtain ⟨x, q1, _, q3, _⟩ := hcell _ hj
                    rw [List.getElem?_eq_getElem (by omega)] at hle
                    injection hle with hle
                    rw [hle] at q3
                    simpa [q1] using q3
                rw [hcs] at hfin
                exact hfin
              · cases hf
            · cases hf
          · cases hf
        · cases hf
      | fn f cs vs hl h =>
        cases cs with
        | nil =>
          simp only [frz, Option.some.injEq, Prod.mk.injEq] at hf
          obtain ⟨rfl, rfl⟩ := hf
          exact done _ (by obtain rfl : vs = #[] := Array.eq_empty_of_size_eq_zero (by simpa using hl); exact .v _) rfl rfl
        | cons c cs => simp [frz] at hf
      | loc b o g h => simp [frz] at hf
      | ep els i o g a c sz h hi hs => simp [frz] at hf
      | cut0 A =>
        simp only [frz, Option.some.injEq, Prod.mk.injEq] at hf
        obtain ⟨rfl, rfl⟩ := hf
        exact done _ (.sl [] A 0 0 (fun _ => undef) (Nat.le_refl _) (by simp) (by simp) (by simp) (by simp)) rfl rfl
      | mp m g h => simp [frz] at hf
      | it m g h => simp [frz] at hf
    · intro μ ds
      cases ds with
      | nil =>
        intro l μ' hf G w xs hM hxs _
        simp only [frzL, Option.some.injEq, Prod.mk.injEq] at hf
        obtain ⟨rfl, rfl⟩ := hf
        exact ⟨G, hM, Grw.refl G w, rfl, rfl, fun i q x hq => by simp at hq⟩
      | cons d r =>
        intro l μ' hf G w xs hM hxs hr
        simp only [frzL] at hf
        split at hf
        · rename_i q μ1 h1
          split at hf
          · rename_i l2 μ2 h2
            simp only [Option.some.injEq, Prod.mk.injEq] at hf
            obtain ⟨rfl, rfl⟩ := hf
            cases xs with
            | nil => simp at hxs
            | cons x xs =>
              obtain ⟨G1, a1, a2, a3, a4⟩ := ih.1 μ d q μ1 h1 G w x hM (hr 0 d x rfl rfl)
              obtain ⟨G2, b1, b2, b3, b4, b5⟩ := ih.2 μ1 r l2 μ2 h2 G1 w xs a1 (by simpa using hxs) (fun i d x hd hx => (hr (i + 1) d x (by simpa using hd) (by simpa using hx)).grw a2)
              refine ⟨G2, b1, a2.trans b2, by rw [b3, a4], by simp [b4], fun i q' x' hq hx => ?_⟩
              cases i with
              | zero =>
                simp at hq hx
                subst hq; subst hx
                exact a3.grw b2
              | succ i => exact b5 i q' x' (by simpa using hq) (by simpa using hx)
          · cases hf
        · cases hf
end Go.Proofs.YtmhpccchgbdiiaaGreatDoor
