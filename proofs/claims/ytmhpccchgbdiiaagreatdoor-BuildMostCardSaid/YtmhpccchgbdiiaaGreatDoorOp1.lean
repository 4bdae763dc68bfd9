/- What is handed in, as pure data. -/
import Derived.Test.YtmhpccchgbdiiaaGreatDoorAe1
import Derived.RowKit
import Derived.ChangeShapes
import Derived.ChangeSlices
import Derived.ChangeArms
namespace Go.Proofs.YtmhpccchgbdiiaaGreatDoor
open Go.RowKit
variable {H : Type} {enc : TypeId × Value → H} {P : Program} {w : World} {base : Nat} {sp : Nat → Bool} {held : Bool}

/-- shapes of what is handed in: a struct is its fields, one behind the other -/
inductive Sh where
  | b
  | i (k : IntKind)
  | s
  | sl (e : Sh)
  | pr (a r : Sh)
  | un
def Sh.sz : Sh → Nat
  | .pr a r => a.sz + r.sz
  | .un => 0
  | _ => 1
def Sh.str : Sh → Bool
  | .pr _ _ | .un => true
  | _ => false
/-- fields, from cell o on -/
def flM (P : Program) (g : TypeId → Sh → Bool) : List Field → Nat → Sh → Bool
  | [], _, .un => true
  | f :: r, o, .pr a q => Nat.beq f.offset o && Nat.beq (P.cellsOf f.type) a.sz && g f.type a && flM P g r (o + a.sz) q
  | _, _, _ => false
/-- has a type the shape? -/
def shM (P : Program) : Nat → TypeId → Sh → Bool
  | 0, _, _ => false
  | n + 1, t, sh => match P.underlying t with
    | some .bool => match sh with | .b => true | _ => false
    | some (.int k) => match sh with | .i k' => decide (k' = k) | _ => false
    | some .string => match sh with | .s => true | _ => false
    | some (.slice e) => match sh with | .sl a => Nat.beq (P.cellsOf e) a.sz && Nat.blt 0 a.sz && Nat.blt 0 (P.bytesOf e) && shM P n e a | _ => false
    | some (.struct fs) => sh.str && Nat.beq (P.cellsOf t) sh.sz && flM P (shM P n) fs.toList 0 sh
    | _ => false
def mkEl (e : Sh) (cs : List PD) : PD := match e with
  | .pr _ _ | .un => .agg cs
  | _ => cs.headD (.v (.bool false))
/-- cells that read as a shape -/
def TyS : Sh → List PD → Prop
  | .b, ps => ∃ b, ps = [.v (.bool b)]
  | .i k, ps => ∃ z, ps = [.v (.int k z)] ∧ (Lit.int k z).wf = true
  | .s, ps => ∃ s : ByteArray, ps = [.v (.string s)] ∧ s.size ≤ reachBytes
  | .sl e, ps => ∃ els, ps = [.sl els] ∧ els.length ≤ reachBytes ∧ ∀ d ∈ els, ∃ cs, d = mkEl e cs ∧ TyS e cs
  | .pr a r, ps => ∃ p q, ps = p ++ q ∧ TyS a p ∧ TyS r q
  | .un, ps => ps = []
theorem TyS.length : ∀ {sh : Sh} {ps : List PD}, TyS sh ps → ps.length = sh.sz
  | .b, _, ⟨_, h⟩ => by subst h; rfl
  | .i k, _, ⟨_, h, _⟩ => by subst h; rfl
  | .s, _, ⟨_, h, _⟩ => by subst h; rfl
  | .sl e, _, ⟨_, h, _⟩ => by subst h; rfl
  | .pr a r, _, ⟨p, q, h, h1, h2⟩ => by subst h; simp [Sh.sz, TyS.length h1, TyS.length h2]
  | .un, _, h => by have h : _ = [] := h; subst h; rfl
theorem mkEl_cells {sh : Sh} {ps : List PD} (h : TyS sh ps) : (mkEl sh ps).cells = ps := by
  cases sh with
  | b => obtain ⟨_, rfl⟩ := h; rfl
  | i k => obtain ⟨_, rfl, _⟩ := h; rfl
  | s => obtain ⟨_, rfl, _⟩ := h; rfl
  | sl e => obtain ⟨_, rfl, _⟩ := h; rfl
  | pr a r => rfl
  | un => rfl

/-- cells that live -/
def Liv (w : World) : Nat → Nat → Prop := fun b _ => b < w.heap.size
theorem cell_live {w : World} {a : Addr} {v : Value} (h : w.cell? a = some v) : a.spot = none ∧ a.block < w.heap.size := by
  unfold World.cell? at h
  split at h
  · rename_i c t q hc
    split at h
    · cases h
    · rename_i hs
      exact ⟨by simpa using hs, (Array.getElem?_eq_some_iff.1 hc).1⟩
  · cases h

/-- cells read as pure data -/
def CellsRd (w : World) (ps : List PD) (cs : List Value) : Prop := ∀ (i : Nat) (q : PD) (c : Value), ps[i]? = some q → cs[i]? = some c → PRel (Liv w) w q c ∧ c.oneCell' = true

theorem trod_fields {g : TypeId → Sh → Bool} {fuel : Nat} {cs : List Value} (ih : ∀ t sh cs x, g t sh = true → DataW.trod enc P w base sp held fuel t cs = some x → (∀ k ∈ DataW.weights P t x.1, k ≤ reachBytes) → ∃ ps, TyS sh ps ∧ cs.length = sh.sz ∧ CellsRd w ps cs) :
    ∀ (fs : List Field) (o : Nat) (sh : Sh), flM P g fs o sh = true → (∀ f ∈ fs, ∃ x, DataW.trod enc P w base sp held fuel f.type ((cs.drop f.offset).take (P.cellsOf f.type)) = some x ∧ ∀ k ∈ DataW.weights P f.type x.1, k ≤ reachBytes) → o + sh.sz ≤ cs.length → ∃ ps, TyS sh ps ∧ CellsRd w ps (cs.drop o)
  | [], o, sh, h, hm, hl => by
    cases sh <;> simp only [flM, Bool.false_eq_true] at h
    exact ⟨[], rfl, fun i q c hq => by simp at hq⟩
  | f :: r, o, sh, h, hm, hl => by
    cases sh with
    | pr a q =>
      simp only [flM, Bool.and_eq_true] at h
      obtain ⟨⟨⟨h1, h2⟩, h3⟩, h4⟩ := h
      have h1 := Nat.eq_of_beq_eq_true h1
      have h2 := Nat.eq_of_beq_eq_true h2
      simp only [Sh.sz] at hl
      obtain ⟨x, hx, hxw⟩ := hm f List.mem_cons_self
      obtain ⟨p, p1, p2, p3⟩ := ih _ _ _ _ h3 hx hxw
      obtain ⟨pq, q1, q2⟩ := trod_fields ih r (o + a.sz) q h4 (fun f hf => hm f (List.mem_cons_of_mem _ hf)) (by omega)
      refine ⟨p ++ pq, ⟨p, pq, rfl, p1, q1⟩, fun i e c he hc => ?_⟩
      have hpl := p1.length
      rcases Nat.lt_or_ge i p.length with hi | hi
      · rw [List.getElem?_append_left hi] at he
        refine p3 i e c he ?_
        rw [h1, h2, List.getElem?_take, if_pos (by omega)]
        exact hc
      · rw [List.getElem?_append_right hi] at he
        refine q2 (i - p.length) e c he ?_
        rw [List.getElem?_drop] at hc ⊢
        rw [← hc]
        congr 1
        omega
    | _ => simp [flM] at h
theorem add_add {a : Addr} {i j : Nat} (h : a.spot = none) : (a.add i).add j = ⟨a.block, a.off + (i + j), none⟩ := by
  obtain ⟨b, o, s⟩ := a
  simp only at h
  subst h
  unfold Addr.add
  split <;> split <;> simp_all <;> omega
theorem weightsEach_mem : ∀ {ts : List TypeId} {ds : List (DataW H)} {i : Nat} {t : TypeId} {d : DataW H} {k : Nat}, ts[i]? = some t → ds[i]? = some d → k ∈ DataW.weights P t d → k ∈ DataW.weightsEach P ts ds
  | [], _, i, _, _, _, h, _, _ => by simp at h
  | _ :: _, [], i, _, _, _, _, h, _ => by simp at h
  | t :: ts, d :: ds, 0, _, _, k, h1, h2, h => by
    simp only [List.getElem?_cons_zero, Option.some.injEq] at h1 h2
    subst h1; subst h2
    simp only [DataW.weightsEach, List.mem_append]
    exact .inl h
  | t :: ts, d :: ds, i + 1, _, _, k, h1, h2, h => by
    simp only [List.getElem?_cons_succ] at h1 h2
    simp only [DataW.weightsEach, List.mem_append]
    exact .inr (weightsEach_mem h1 h2 h)
theorem weightsAll_mem {e : TypeId} : ∀ {ds : List (DataW H)} {d : DataW H} {k : Nat}, d ∈ ds → k ∈ DataW.weights P e d → k ∈ DataW.weightsAll P e ds
  | [], _, _, h, _ => by cases h
  | a :: r, d, k, h, hk => by
    simp only [DataW.weightsAll, List.mem_append]
    rcases List.mem_cons.1 h with rfl | h
    · exact .inl hk
    · exact .inr (weightsAll_mem h hk)
theorem trod_pd : ∀ (n : Nat) (t : TypeId) (sh : Sh) (fuel : Nat) (cs : List Value) (x : DataW H × List MemPlace), shM P n t sh = true → DataW.trod enc P w base sp held fuel t cs = some x → (∀ k ∈ DataW.weights P t x.1, k ≤ reachBytes) → ∃ ps, TyS sh ps ∧ cs.length = sh.sz ∧ CellsRd w ps cs
  | 0, t, sh, fuel, cs, x, h, _, _ => by simp [shM] at h
  | n + 1, t, sh, fuel, cs, x, h, hx, hw => by
    have one : ∀ (q : PD) (c : Value), PRel (Liv w) w q c → c.oneCell' = true → CellsRd w [q] [c] := by
      intro q c h1 h2 i q' c' hq hc
      cases i with
      | zero => simp only [List.getElem?_cons_zero, Option.some.injEq] at hq hc; subst hq; subst hc; exact ⟨h1, h2⟩
      | succ i => simp at hq
    unfold shM at h
    split at h
    · rename_i hu
      obtain ⟨b, rfl, _⟩ := DataW.trod_bool hu hx
      cases sh <;> simp only [Bool.false_eq_true] at h
      exact ⟨[.v (.bool b)], ⟨b, rfl⟩, rfl, one _ _ (.v _) rfl⟩
    · rename_i k hu
      obtain ⟨z, rfl, _, hz⟩ := DataW.trod_int hu hx
      cases sh <;> simp only [Bool.false_eq_true] at h
      simp only [decide_eq_true_eq] at h
      subst h
      exact ⟨[.v (.int _ z)], ⟨z, rfl, hz⟩, rfl, one _ _ (.v _) rfl⟩
    · rename_i hu
      obtain ⟨s, rfl, rfl, _⟩ := DataW.trod_string hu hx
      cases sh <;> simp only [Bool.false_eq_true] at h
      have hs : s.size ≤ reachBytes := hw s.size (by simp only [DataW.weights, List.mem_singleton]; rfl)
      exact ⟨[.v (.string s)], ⟨s, rfl, hs⟩, rfl, one _ _ (.v _) rfl⟩
    · rename_i e hu
      cases sh with
      | sl a =>
        simp only [Bool.and_eq_true] at h
        obtain ⟨⟨⟨h1, h2⟩, hby⟩, h3⟩ := h
        have h1 := Nat.eq_of_beq_eq_true h1
        have hby : 0 < P.bytesOf e := by simpa using hby
        have h2 : 0 < a.sz := by simpa using h2
        rcases DataW.trod_slice hu hx with ⟨rfl, _⟩ | ⟨ad, len, cap, elems, rest, m, rfl, rfl, rfl, hb, hl, hc, hel, he, _⟩
        · refine ⟨[.sl []], ⟨[], rfl, by simp, fun d hd => by cases hd⟩, rfl, one _ _ ?_ rfl⟩
          exact .sl [] none 0 0 (fun _ => undef) (by simp) (by simp) (fun d hd => by cases hd) (fun i j d e hd => by simp at hd) (fun i j d e hd => by simp at hd)
        · simp only [DataW.weights, hu, List.mem_cons, List.mem_append, forall_eq_or_imp, List.length_map] at hw
          obtain ⟨hw0, hw1⟩ := hw
          have hlr : len ≤ reachBytes := by
            have : len * 1 ≤ (elems.length + rest.length) * P.bytesOf e := Nat.mul_le_mul (by omega) hby
            omega
          -- each element
          have key : ∀ i, i < len → ∃ cs ps, w.cells? base (ad.add (i * a.sz)) a.sz = some cs ∧ TyS a ps ∧ cs.length = a.sz ∧ CellsRd w ps cs := by
            intro i hi
            have := he i hi
            rw [List.getElem?_eq_getElem (by omega)] at this
            obtain ⟨cs, k1, k2⟩ := Option.bind_eq_some_iff.1 this
            obtain ⟨ps, k3, k4, k5⟩ := trod_pd n e a m cs _ h3 k2 (fun k hk => hw1 k (.inl (weightsAll_mem (List.mem_map.2 ⟨_, List.getElem_mem (by omega), rfl⟩) hk)))
            rw [h1] at k1
            exact ⟨cs, ps, k1, k3, k4, k5⟩
          obtain ⟨f, hf⟩ : ∃ f : Nat → List PD, ∀ i, i < len → ∃ cs, w.cells? base (ad.add (i * a.sz)) a.sz = some cs ∧ TyS a (f i) ∧ cs.length = a.sz ∧ CellsRd w (f i) cs := by
            refine ⟨fun i => if h : i < len then Classical.choose (Classical.choose_spec (key i h)) else [], fun i hi => ?_⟩
            simp only [dif_pos hi]
            exact ⟨Classical.choose (key i hi), Classical.choose_spec (Classical.choose_spec (key i hi))⟩
          have hsp : 0 < len → ad.spot = none := by
            intro h0
            obtain ⟨cs, k1, _, k3, _⟩ := hf 0 h0
            obtain ⟨_, _, q⟩ := World.cells?_some k1
            have := q 0 h2
            rw [List.getElem?_eq_getElem (by omega)] at this
            have := (cell_live this).1
            simpa [Addr.add] using this
          have hel2 : ∀ (i : Nat) (d : PD), ((List.range len).map fun i => mkEl a (f i))[i]? = some d → i < len ∧ d = mkEl a (f i) := by
            intro i d hd
            rw [List.getElem?_map, Option.map_eq_some_iff] at hd
            obtain ⟨k, hk, hd⟩ := hd
            obtain ⟨hk1, hk2⟩ := List.getElem?_eq_some_iff.1 hk
            simp only [List.getElem_range, List.length_range] at hk1 hk2
            subst hk2
            exact ⟨hk1, hd.symm⟩
          have hcell : ∀ (i j : Nat) (d e : PD), ((List.range len).map fun i => mkEl a (f i))[i]? = some d → d.cells[j]? = some e → ∃ c, w.cell? ⟨ad.block, ad.off + (i * a.sz + j), none⟩ = some c ∧ PRel (Liv w) w e c ∧ c.oneCell' = true := by
            intro i j d e hd hj
            obtain ⟨hi, rfl⟩ := hel2 i d hd
            obtain ⟨cs, k1, k2, k3, k4⟩ := hf i hi
            rw [mkEl_cells k2] at hj
            have hjl : j < a.sz := by
              have := (List.getElem?_eq_some_iff.1 hj).1
              rw [k2.length] at this; exact this
            obtain ⟨_, _, q⟩ := World.cells?_some k1
            have q := q j hjl
            rw [add_add (hsp (by omega))] at q
            rw [List.getElem?_eq_getElem (by omega)] at q
            exact ⟨_, q, k4 j e _ hj (List.getElem?_eq_getElem (by omega))⟩
          refine ⟨[.sl ((List.range len).map fun i => mkEl a (f i))], ⟨_, rfl, by simpa using hlr, fun d hd => ?_⟩, rfl, one _ _ ?_ rfl⟩
          · obtain ⟨i, hi, rfl⟩ := List.mem_map.1 hd
            exact ⟨f i, rfl, (hf i (by simpa using hi)).choose_spec.2.1⟩
          · have := PRel.sl (Z := Liv w) (w := w) ((List.range len).map fun i => mkEl a (f i)) (some ad) cap a.sz (fun k => (w.cell? ⟨ad.block, ad.off + k, none⟩).getD undef) (by simpa using hl) (by simp; unfold maxLen at hc; omega)
              (fun d hd => by
                obtain ⟨i, hi, rfl⟩ := List.mem_map.1 hd
                have hi' : i < len := by simpa using hi
                obtain ⟨cs, _, k2, _⟩ := hf i hi'
                rw [mkEl_cells k2, k2.length])
              (fun i j d e hd hj => by
                obtain ⟨c, c1, c2, c3⟩ := hcell i j d e hd hj
                have hi := (hel2 i d hd).1
                refine ⟨ad.block, ad.off, ?_, (cell_live c1).2, by rw [c1]; rfl, by rw [c1]; exact c3⟩
                have := hsp (by omega)
                obtain ⟨b, o, s⟩ := ad
                simp only at this
                rw [this])
              (fun i j d e hd hj => by
                obtain ⟨c, c1, c2, c3⟩ := hcell i j d e hd hj
                simp only [c1, Option.getD_some]
                exact c2)
            simpa using this
      | _ => simp at h
    · rename_i fs hu
      obtain ⟨xs, m, rfl, rfl, hl, hxl, hxs⟩ := DataW.trod_struct hu hx
      simp only [DataW.weights, hu] at hw
      simp only [Bool.and_eq_true] at h
      obtain ⟨⟨_, h1⟩, h2⟩ := h
      have h1 := Nat.eq_of_beq_eq_true h1
      obtain ⟨ps, k1, k2⟩ := trod_fields (g := shM P n) (fuel := m) (cs := cs) (fun t sh cs x hg hx hw => trod_pd n t sh m cs x hg hx hw) fs.toList 0 sh h2 (fun f hf => by
        obtain ⟨i, hi, he⟩ := List.getElem_of_mem hf
        have hi' : i < fs.size := by simpa using hi
        have := hxs i f (by rw [← Array.getElem?_toList, List.getElem?_eq_getElem hi, he])
        rw [this, List.getElem?_eq_getElem (by omega)]
        exact ⟨_, rfl, fun k hk => hw k (weightsEach_mem (i := i) (by rw [List.getElem?_map, List.getElem?_eq_getElem hi, he]; rfl) (by rw [List.getElem?_map, List.getElem?_eq_getElem (by omega)]; rfl) hk)⟩) (by omega)
      exact ⟨ps, k1, by omega, by simpa using k2⟩
    · cases h
/-- a struct's value -/
theorem pd_struct {n : Nat} {t : TypeId} {sh : Sh} {fs : Array Field} {v : Value} {d : DataW H} {p : List MemPlace} {r : Reach} {b0 : Nat} (hu : P.underlying t = some (.struct fs)) (hval : Value.okWide P w r b0 t v) (hs : shM P n t sh = true) (h : DataW.Trod enc P w base sp held t v d p) (hw : ∀ k ∈ DataW.weights P t d, k ≤ reachBytes) : ∃ ps, TyS sh ps ∧ PRel (Liv w) w (.agg ps) v := by
  obtain ⟨fuel, h⟩ := h
  unfold Value.okWide at hval
  rw [hu] at hval
  obtain ⟨cs, rfl, _⟩ := hval
  obtain ⟨ps, k1, k2, k3⟩ := trod_pd n t sh fuel _ _ hs h hw
  refine ⟨ps, k1, .agg ps cs (by rw [k1.length, ← k2]; simp [Value.cells]) fun i q c hq hc => (k3 i q c hq (by simpa [Value.cells] using hc)).1⟩
/-- one cell's value -/
theorem pd_cell {n : Nat} {t : TypeId} {sh : Sh} {v : Value} {d : DataW H} {p : List MemPlace} (hv : ∀ cs, v ≠ .agg cs) (hs : shM P n t sh = true) (h : DataW.Trod enc P w base sp held t v d p) (hw : ∀ k ∈ DataW.weights P t d, k ≤ reachBytes) (h1 : sh.sz = 1) : ∃ q, TyS sh [q] ∧ PRel (Liv w) w q v := by
  obtain ⟨fuel, h⟩ := h
  obtain ⟨ps, k1, k2, k3⟩ := trod_pd n t sh fuel _ _ hs h hw
  have hl := k1.length
  rw [h1] at hl
  match ps, hl with
  | [q], _ =>
    refine ⟨q, k1, (k3 0 q v rfl ?_).1⟩
    cases v <;> first | rfl | (rename_i cs; exact absurd rfl (hv cs))
/-- a list of readings -/
theorem map_of {α : Type} {f : α → PD} {Q : α → Prop} : ∀ {els : List PD}, (∀ d ∈ els, ∃ a, d = f a ∧ Q a) → ∃ l : List α, els = l.map f ∧ ∀ a ∈ l, Q a
  | [], _ => ⟨[], rfl, fun _ h => by cases h⟩
  | d :: r, h => by
    obtain ⟨a, rfl, ha⟩ := h d List.mem_cons_self
    obtain ⟨l, rfl, hl⟩ := map_of (els := r) fun d hd => h d (List.mem_cons_of_mem _ hd)
    exact ⟨a :: l, rfl, fun x hx => by
      rcases List.mem_cons.1 hx with rfl | hx
      · exact ha
      · exact hl x hx⟩
end Go.Proofs.YtmhpccchgbdiiaaGreatDoor
