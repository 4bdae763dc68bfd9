/- The abstract machine, 18b: rows that are frozen ahead of a call; calls that only look at rows; calls that answer rows of their own. -/
import Derived.Test.YtikfefjaeejeeaaGreatDoorAeK
namespace Go.Proofs.YtikfefjaeejeeaaGreatDoor
open Go.RowKit

/-- a slot's row is frozen -/
theorem alist_fz {ro : Option Nat} {P : Program} {ops : Array Oper} {l : List Oper} {Q : AX → St → Prop} {s : St} {i k : Nat} {v : PD} {μ1 : Mem} (h : frz k s.μ (getT s.tmps i) = some (v, μ1)) (hk : AList ro P ops l Q ⟨s.tmps.set i (.p v), μ1⟩) : AList ro P ops l Q s := by
  intro G a w hs
  rcases Nat.lt_or_ge i s.tmps.length with hi | hi
  · have hia : i < a.tmps.size := by rw [hs.size]; exact hi
    have hd : s.tmps[i]? = some (getT s.tmps i) := by rw [getT_get, List.getElem?_eq_getElem hi]; rfl
    obtain ⟨G1, m1, m2, m3, _⟩ := (frz_sound k).1 _ _ _ _ h G w a.tmps[i] hs.mem (hs.tmp i _ _ hd (Array.getElem?_eq_getElem hia))
    have hs1 : SRel G1 ⟨s.tmps.set i (.p v), μ1⟩ a w := by
      refine ⟨by simpa using hs.size, fun j d x hd hx => ?_, hs.defers.trans m2.df.symm, m1⟩
      by_cases hj : i = j
      · subst hj
        rw [List.getElem?_set_self hi] at hd
        injection hd with hd
        subst hd
        rw [Array.getElem?_eq_getElem hia] at hx
        injection hx with hx
        subst hx
        exact .p _ _ m3
      · rw [List.getElem?_set_ne hj] at hd
        exact (hs.tmp j d x hd hx).grw m2
    exact wpList_mono (fun _ _ _ => Post.back m2) _ _ _ (hk G1 a w hs1)
  · have : getT s.tmps i = .undef := by rw [getT_get, List.getElem?_eq_none hi]; rfl
    rw [this] at h
    cases k <;> simp [frz] at h

/-- and ahead of any code -/
theorem awp_fz {ro : Option Nat} {P : Program} {c : Code} {Q : AX → St → Prop} {s : St} {i k : Nat} {v : PD} {μ1 : Mem} (h : frz k s.μ (getT s.tmps i) = some (v, μ1)) (hk : AWP ro P c Q ⟨s.tmps.set i (.p v), μ1⟩) : AWP ro P c Q s := by
  intro G a w hs
  rcases Nat.lt_or_ge i s.tmps.length with hi | hi
  · have hia : i < a.tmps.size := by rw [hs.size]; exact hi
    have hd : s.tmps[i]? = some (getT s.tmps i) := by rw [getT_get, List.getElem?_eq_getElem hi]; rfl
    obtain ⟨G1, m1, m2, m3, _⟩ := (frz_sound k).1 _ _ _ _ h G w a.tmps[i] hs.mem (hs.tmp i _ _ hd (Array.getElem?_eq_getElem hia))
    have hs1 : SRel G1 ⟨s.tmps.set i (.p v), μ1⟩ a w := by
      refine ⟨by simpa using hs.size, fun j d x hd hx => ?_, hs.defers.trans m2.df.symm, m1⟩
      by_cases hj : i = j
      · subst hj
        rw [List.getElem?_set_self hi] at hd
        injection hd with hd
        subst hd
        rw [Array.getElem?_eq_getElem hia] at hx
        injection hx with hx
        subst hx
        exact .p _ _ m3
      · rw [List.getElem?_set_ne hj] at hd
        exact (hs.tmp j d x hd hx).grw m2
    exact wpIn_mono (hk G1 a w hs1) (fun _ _ _ => Post.back m2)
  · have : getT s.tmps i = .undef := by rw [getT_get, List.getElem?_eq_none hi]; rfl
    rw [this] at h
    cases k <;> simp [frz] at h

/-- an answer with nothing behind it -/
def flatP : PD → Bool
  | .v _ => true
  | .tup l => l.all fun d => match d with | .v _ => true | _ => false
  | _ => false
theorem flatP_any {Z Z' : Nat → Nat → Prop} {w w' : World} {d : PD} {x : Value} (h : PRel Z w d x) (hf : flatP d = true) : PRel Z' w' d x := by
  cases h with
  | v x => exact .v x
  | agg cs vs hl h => cases hf
  | sl els A c sz val hc hm hs hA hr => cases hf
  | tup cs vs hl h =>
    refine .tup cs vs hl fun i d x hd hx => ?_
    simp only [flatP, List.all_eq_true] at hf
    have h1 := hf d (List.mem_of_getElem? hd)
    have h2 := h i d x hd hx
    cases h2 <;> first | exact .v _ | cases h1
/-- a call that only looks: its rows stay the caller's own -/
theorem alist_callb {ro : Option Nat} {P : Program} {ops : Array Oper} {Q : AX → St → Prop} {s : St} {o : Oper} {r : List Oper} {co : Operand} {cargs : Array Operand} {cts : Array TypeId} (ho : o.op = .call { callee := .value co, args := cargs, argTypes := cts }) {f : FuncId} {caps : List DV} (hw : wantA ops o s = some true)
    (hc : fnOf (s.ev co) = some (f, caps)) {k : Nat} {pargs : List PD} {μ1 : Mem} (hf : frzL k s.μ (cargs.toList.map s.ev ++ caps) = some (pargs, μ1)) {v : PD} (hp : Pure P f pargs (.ret v)) (hv : flatP v = true) (hk : AList ro P ops r Q ⟨putT s.tmps o.dst (.p v), s.μ⟩) : AList ro P ops (o :: r) Q s := by
  intro G a w hs
  unfold wpListIn
  rw [if_pos (wantA_sound hw hs)]
  obtain ⟨⟨fn, c, hcl⟩, hp⟩ := hp
  obtain ⟨vs, hv1, hv2, hv3⟩ := fn_val hs hc
  obtain ⟨ha1, ha2⟩ := args_rel hs cargs caps vs hv2 hv3
  obtain ⟨G1, m1, m2, _, m4, m5⟩ := (frz_sound k).2 _ _ _ _ hf G w (cargs.map a.eval ++ vs).toList hs.mem (by simpa using ha1) (fun i d x hd hx => ha2 i d x hd (by rw [Array.getElem?_toList] at hx; exact hx))
  have hrun := execOp_call (P := P) (w := w) ho hv1 hcl
  rw [Array.empty_append] at hrun
  refine opw_enter (fun c hdf => by rw [ho] at hdf; cases hdf) hrun (hp G1.Z w _ (m1.lw.below m1.bel m1.hb) m1.zlt ⟨by rw [m4]; simpa using ha1, fun i d x hd hx => m5 i d x hd (by rw [Array.getElem?_toList]; exact hx)⟩) ?_
  rintro e1 w1 he
  cases e1 with
  | returned x =>
    obtain ⟨h1, h2⟩ := he
    have hl : Grw G w (G.grown w w1) w1 := Grw.below hs.mem.zlt h2
    exact wpList_mono (fun _ _ _ => Post.back hl) _ _ _ (hk (G.grown w w1) _ w1 (hs.put hl o.dst (.p _ _ (flatP_any h1 hv)) (hs.mem.below h2)))
  | panicked ch => exact he.elim
  | outgrown => exact he.elim

/-! ### answers with rows of their own -/
def gh0 (w : World) (Z : Nat → Nat → Prop) : Gh := ⟨w.heap.size, w, Z, Z, [], [], [], []⟩
/-- A FUNCTION over pure data that answers with rows of its own (toks) -/
def PureM (P : Program) (f : FuncId) (args : List PD) (d : DV) (toks : List (Option (TypeId × Nat × Nat))) : Prop :=
  (∃ fn c, Callable P f fn c) ∧ ∀ Z w xs, LaidW w.heap.size w → (∀ b o, Z b o → b < w.heap.size) → PRelL Z w args xs → Calls P f xs w fun e w' => ∃ x G' μ', e = .returned x ∧ Grw (gh0 w Z) w G' w' ∧ MRel G' μ' w' ∧ μ'.toks = toks ∧ CRel G' w' d x
def sh1 (n : Nat) : DV → DV
  | .row t els => .row (n + t) els
  | d => d
def shD (n : Nat) : DV → DV
  | .tup l => .tup (l.map (sh1 n))
  | .agg l => .agg (l.map (sh1 n))
  | d => sh1 n d
def ok1 : DV → Bool
  | .p _ | .row _ _ => true
  | _ => false
def okD : DV → Bool
  | .tup l => l.all ok1
  | .agg l => l.all ok1
  | d => ok1 d
theorem sh1_rel {G' G1 : Gh} {w : World} {n : Nat} (hz : ∀ b o, G'.Z b o → G1.Z b o) (ht : ∀ (t : Nat) x, G'.tv[t]? = some x → G1.tv[n + t]? = some x) {d : DV} {x : Value} (h : CRel G' w d x) (hd : ok1 d = true) : CRel G1 w (sh1 n d) x := by
  cases h with
  | p d x h => exact .p _ _ (h.mono hz fun _ _ _ => rfl)
  | row t els x y m h h1 h2 h3 => exact .row (n + t) els x y m (h.mono hz fun _ _ _ => rfl) (ht t _ h1) h2 h3
  | _ => cases hd
theorem shD_rel {G' G1 : Gh} {w : World} {n : Nat} (hz : ∀ b o, G'.Z b o → G1.Z b o) (ht : ∀ (t : Nat) x, G'.tv[t]? = some x → G1.tv[n + t]? = some x) {d : DV} {x : Value} (h : CRel G' w d x) (hd : okD d = true) : CRel G1 w (shD n d) x := by
  cases d with
  | tup l =>
    cases h with
    | tup cs vs hl h =>
      refine .tup _ vs (by simpa using hl) fun i d x hd' hx => ?_
      rw [List.getElem?_map, Option.map_eq_some_iff] at hd'
      obtain ⟨e, he, rfl⟩ := hd'
      simp only [okD, List.all_eq_true] at hd
      exact sh1_rel hz ht (h i e x he hx) (hd e (List.mem_of_getElem? he))
  | agg l =>
    cases h with
    | agg cs vs hl h =>
      refine .agg _ vs (by simpa using hl) fun i d x hd' hx => ?_
      rw [List.getElem?_map, Option.map_eq_some_iff] at hd'
      obtain ⟨e, he, rfl⟩ := hd'
      simp only [okD, List.all_eq_true] at hd
      exact sh1_rel hz ht (h i e x he hx) (hd e (List.mem_of_getElem? he))
  | p d => exact sh1_rel hz ht h hd
  | row t els => exact sh1_rel hz ht h hd
  | _ => cases hd
theorem own_lt {w : World} {base : Nat} {e : TypeId} {s n : Nat} {v : Value} {xs : List Value} (h : w.ownsRow base e s v n xs) {g : Nat} (hg : v.ownBlock = some g) : base ≤ g ∧ g < w.heap.size := by
  obtain ⟨_, h⟩ := h
  rcases h with ⟨rfl, _⟩ | ⟨g', cap, cur, rfl, h1, h2, _⟩
  · cases hg
  · injection hg with hg
    subst hg
    exact ⟨h1, (Array.getElem?_eq_some_iff.1 h2).1⟩
theorem own_mono {w : World} {base base' : Nat} {e : TypeId} {s n : Nat} {v : Value} {xs : List Value} (h : w.ownsRow base e s v n xs) (hb : base' ≤ base) : w.ownsRow base' e s v n xs := by
  obtain ⟨h1, h⟩ := h
  refine ⟨h1, ?_⟩
  rcases h with h | ⟨g', cap, cur, k0, k1, k2⟩
  · exact .inl h
  · exact .inr ⟨g', cap, cur, k0, Nat.le_trans hb k1, k2⟩
/-- the caller's memory, and the rows that a call answered -/
def Gh.join (G G' : Gh) : Gh := { G with Z := fun b o => G.Z b o ∨ G'.Z b o, tv := G.tv ++ G'.tv }
theorem join_rel {G G' : Gh} {μ μ' : Mem} {w w' : World} (h : MRel G μ w) (hl : Grw (gh0 w G.Z) w G' w') (h' : MRel G' μ' w') : Grw G w (G.join G') w' ∧ MRel (G.join G') ⟨μ.boxes, μ.toks ++ μ'.toks, μ.objs⟩ w' := by
  have hb0 : G'.base = w.heap.size := hl.base
  have hw0 : G'.w0 = w := hl.w0
  have hz0 : G'.Z0 = G.Z := hl.z0
  have hb : Below w.heap.size w w' := by have := h'.bel; rw [hb0, hw0] at this; exact this
  have fresh : ∀ b o, G'.Z b o → G.Z b o ∨ w.heap.size ≤ b := fun b o hz => by
    have := h'.zsub b o hz; rw [hz0, hb0] at this; exact this
  have gl : Grw G w (G.join G') w' := ⟨rfl, rfl, rfl, fun _ _ hz => .inl hz, fun b o v hz hv => (hb.cell (p := ⟨b, o, none⟩) (h.zlt b o hz)).trans hv, fun _ _ hg => hg,
    fun t n x ht => ⟨n, x, by show (G.tv ++ G'.tv)[t]? = _; rw [List.getElem?_append_left (List.getElem?_eq_some_iff.1 ht).1]; exact ht, Nat.le_refl _, fun _ => rfl⟩, fun _ _ hg => hg, rfl, hb.size, fun k o hk _ _ => (hb.block k (Array.getElem?_eq_some_iff.1 hk).1).trans hk, fun _ _ hg => .inl hg⟩
  refine ⟨gl, h.bel.trans (hb.mono h.hb), Nat.le_trans h.hb hb.size, ?_, ?_, h.len, ?_, h.inj, ?_, ?_, ?_, h.lw, h.mp.keep fun g o _ hg _ => (hb.block g (Array.getElem?_eq_some_iff.1 hg).1).trans hg⟩
  · rintro b o (hz | hz)
    · exact Nat.lt_of_lt_of_le (h.zlt b o hz) hb.size
    · exact h'.zlt b o hz
  · rintro b o (hz | hz)
    · exact h.zsub b o hz
    · rcases fresh b o hz with hz | hz
      · exact h.zsub b o hz
      · exact .inr (Nat.le_trans h.hb hz)
  · show (G.tv ++ G'.tv).length = _
    simp [h.tlen, h'.tlen]
  · intro j B g hB hg
    obtain ⟨h1, vs, h2, h3, h4, h5⟩ := h.box j B g hB hg
    have hlt : g < w.heap.size := (Array.getElem?_eq_some_iff.1 h2).1
    refine ⟨h1, vs, (hb.block g hlt).trans h2, h3, fun i d x hd hx => ⟨(h4 i d x hd hx).1.grw gl, (h4 i d x hd hx).2⟩, fun hs o => ?_⟩
    rintro (hz | hz)
    · exact h5 hs o hz
    · rcases fresh g o hz with hz | hz
      · exact h5 hs o hz
      · omega
  · intro t e s n ht
    show ∃ x xs, (G.tv ++ G'.tv)[t]? = _ ∧ _
    rcases Nat.lt_or_ge t μ.toks.length with htl | htl
    · rw [List.getElem?_append_left htl] at ht
      obtain ⟨x, xs, h1, h2, h3, h4⟩ := h.tok t e s n ht
      refine ⟨x, xs, by rw [List.getElem?_append_left (by rw [h.tlen]; exact htl)]; exact h1, h2.kept (row := none) ⟨hb.os, hb.tape, hb.output, hb.size, fun k hk _ => hb.block k hk⟩ (by cases hv : x.ownBlock <;> simp), h3, fun g hg => ⟨fun o ho => ?_, (h4 g hg).2⟩⟩
      have := h2.lt g hg
      rintro (hz | hz)
      · exact (h4 g hg).1 o ho hz
      · rcases fresh g o hz with hz | hz
        · exact (h4 g hg).1 o ho hz
        · omega
    · rw [List.getElem?_append_right htl] at ht
      obtain ⟨x, xs, h1, h2, h3, h4⟩ := h'.tok _ e s n ht
      refine ⟨x, xs, by rw [List.getElem?_append_right (by rw [h.tlen]; exact htl), h.tlen]; exact h1, own_mono h2 (by rw [hb0]; exact h.hb), h3, fun g hg => ?_⟩
      have hge := (own_lt h2 hg).1
      rw [hb0] at hge
      refine ⟨fun o ho => ?_, fun j hj => ?_⟩
      · rintro (hz | hz)
        · have := h.zlt g o hz; omega
        · exact (h4 g hg).1 o ho hz
      · obtain ⟨B, hB⟩ : ∃ B, μ.boxes[j]? = some B := ⟨_, List.getElem?_eq_getElem (by rw [← h.len]; exact (List.getElem?_eq_some_iff.1 hj).1)⟩
        obtain ⟨_, vs, k2, _⟩ := h.box j B g hB hj
        have := (Array.getElem?_eq_some_iff.1 k2).1
        omega
  · intro t t' a a' x x' g ht ht' hx hx' hg hg'
    have hx : (G.tv ++ G'.tv)[t]? = some x := hx
    have hx' : (G.tv ++ G'.tv)[t']? = some x' := hx'
    have old : ∀ (t : Nat) (a : TypeId × Nat × Nat) (x : Nat × Value), t < μ.toks.length → (μ.toks ++ μ'.toks)[t]? = some (some a) → (G.tv ++ G'.tv)[t]? = some x → x.2.ownBlock = some g → g < w.heap.size := by
      intro t a x htl ht hx hg
      rw [List.getElem?_append_left htl] at ht
      rw [List.getElem?_append_left (by rw [h.tlen]; exact htl)] at hx
      obtain ⟨y, xs, h1, h2, _⟩ := h.tok t _ _ _ ht
      rw [hx] at h1; injection h1 with h1; subst h1
      exact (own_lt h2 hg).2
    have new : ∀ (t : Nat) (a : TypeId × Nat × Nat) (x : Nat × Value), μ.toks.length ≤ t → (μ.toks ++ μ'.toks)[t]? = some (some a) → (G.tv ++ G'.tv)[t]? = some x → x.2.ownBlock = some g → w.heap.size ≤ g := by
      intro t a x htl ht hx hg
      rw [List.getElem?_append_right htl] at ht
      rw [List.getElem?_append_right (by rw [h.tlen]; exact htl), h.tlen] at hx
      obtain ⟨y, xs, h1, h2, _⟩ := h'.tok _ _ _ _ ht
      rw [hx] at h1; injection h1 with h1; subst h1
      have := (own_lt h2 hg).1
      rw [hb0] at this; exact this
    rcases Nat.lt_or_ge t μ.toks.length with h1 | h1 <;> rcases Nat.lt_or_ge t' μ.toks.length with h2 | h2
    · rw [List.getElem?_append_left h1] at ht
      rw [List.getElem?_append_left h2] at ht'
      rw [List.getElem?_append_left (by rw [h.tlen]; exact h1)] at hx
      rw [List.getElem?_append_left (by rw [h.tlen]; exact h2)] at hx'
      exact h.tne t t' a a' x x' g ht ht' hx hx' hg hg'
    · have := old t a x h1 ht hx hg
      have := new t' a' x' h2 ht' hx' hg'
      omega
    · have := new t a x h1 ht hx hg
      have := old t' a' x' h2 ht' hx' hg'
      omega
    · rw [List.getElem?_append_right h1] at ht
      rw [List.getElem?_append_right h2] at ht'
      rw [List.getElem?_append_right (by rw [h.tlen]; exact h1), h.tlen] at hx
      rw [List.getElem?_append_right (by rw [h.tlen]; exact h2), h.tlen] at hx'
      have := h'.tne _ _ a a' x x' g ht ht' hx hx' hg hg'
      omega
/-- a call that answers rows of its own -/
theorem alist_callm {ro : Option Nat} {P : Program} {ops : Array Oper} {Q : AX → St → Prop} {s : St} {o : Oper} {r : List Oper} {co : Operand} {cargs : Array Operand} {cts : Array TypeId} (ho : o.op = .call { callee := .value co, args := cargs, argTypes := cts }) {f : FuncId} {caps : List DV} (hw : wantA ops o s = some true)
    (hc : fnOf (s.ev co) = some (f, caps)) {k : Nat} {pargs : List PD} {μ1 : Mem} (hf : frzL k s.μ (cargs.toList.map s.ev ++ caps) = some (pargs, μ1)) {d : DV} {ts : List (Option (TypeId × Nat × Nat))} (hp : PureM P f pargs d ts) (hd : okD d = true) (hk : AList ro P ops r Q ⟨putT s.tmps o.dst (shD μ1.toks.length d), ⟨μ1.boxes, μ1.toks ++ ts, μ1.objs⟩⟩) : AList ro P ops (o :: r) Q s := by
  intro G a w hs
  unfold wpListIn
  rw [if_pos (wantA_sound hw hs)]
  obtain ⟨⟨fn, c, hcl⟩, hp⟩ := hp
  obtain ⟨vs, hv1, hv2, hv3⟩ := fn_val hs hc
  obtain ⟨ha1, ha2⟩ := args_rel hs cargs caps vs hv2 hv3
  obtain ⟨G1, m1, m2, _, m4, m5⟩ := (frz_sound k).2 _ _ _ _ hf G w (cargs.map a.eval ++ vs).toList hs.mem (by simpa using ha1) (fun i d x hd hx => ha2 i d x hd (by rw [Array.getElem?_toList] at hx; exact hx))
  have hrun := execOp_call (P := P) (w := w) ho hv1 hcl
  rw [Array.empty_append] at hrun
  refine opw_enter (fun c hdf => by rw [ho] at hdf; cases hdf) hrun (hp G1.Z w _ (m1.lw.below m1.bel m1.hb) m1.zlt ⟨by rw [m4]; simpa using ha1, fun i d x hd hx => m5 i d x hd (by rw [Array.getElem?_toList]; exact hx)⟩) ?_
  rintro e1 w1 ⟨x, G', μ', rfl, k1, k2, k3, k4⟩
  obtain ⟨j1, j2⟩ := join_rel m1 k1 k2
  rw [k3] at j2
  have hl : Grw G w (G1.join G') w1 := m2.trans j1
  have hx : CRel (G1.join G') w1 (shD μ1.toks.length d) x := shD_rel (fun b o hz => (Or.inr hz : G1.Z b o ∨ G'.Z b o)) (fun t x ht => by
    show (G1.tv ++ G'.tv)[μ1.toks.length + t]? = _
    rw [List.getElem?_append_right (by rw [m1.tlen]; omega), m1.tlen, Nat.add_sub_cancel_left]; exact ht) k4 hd
  exact wpList_mono (fun _ _ _ => Post.back hl) _ _ _ (hk (G1.join G') _ w1 (hs.put hl o.dst hx j2))
/-- plain data out of values -/
def toP : DV → Option PD
  | .p d => some d
  | .agg l => (toPs l).map .agg
  | _ => none
where toPs : List DV → Option (List PD)
  | [] => some []
  | .p d :: r => (toPs r).map (d :: ·)
  | _ :: _ => none
theorem toPs_get : ∀ {l : List DV} {ps : List PD}, toP.toPs l = some ps → ps.length = l.length ∧ ∀ (i : Nat) (p : PD), ps[i]? = some p → l[i]? = some (.p p)
  | [], ps, h => by injection h with h; subst h; exact ⟨rfl, fun i p hp => by simp at hp⟩
  | .p d :: r, ps, h => by
    simp only [toP.toPs, Option.map_eq_some_iff] at h
    obtain ⟨qs, hq, rfl⟩ := h
    obtain ⟨h1, h2⟩ := toPs_get hq
    refine ⟨by simp [h1], fun i p hp => ?_⟩
    cases i with
    | zero => simp at hp; subst hp; rfl
    | succ i => exact h2 i p (by simpa using hp)
  | .undef :: _, _, h | .agg _ :: _, _, h | .tup _ :: _, _, h | .row _ _ :: _, _, h | .bsl _ _ _ _ _ :: _, _, h | .fn _ _ :: _, _, h | .loc _ _ :: _, _, h | .ep _ _ _ :: _, _, h | .cut0 :: _, _, h | .mp _ :: _, _, h | .it _ :: _, _, h => by cases h
theorem pure_of_pureM {P : Program} {f : FuncId} {args : List PD} {d : DV} {ts : List (Option (TypeId × Nat × Nat))} {p : PD} (h : PureM P f args d ts) (hp : toP d = some p) : Pure P f args (.ret p) := by
  refine ⟨h.1, fun Z w xs h1 h2 h3 => (h.2 Z w xs h1 h2 h3).mono ?_⟩
  rintro e w' ⟨x, G', μ', rfl, k1, k2, k3, k4⟩
  have hb0 : G'.base = w.heap.size := k1.base
  have hw0 : G'.w0 = w := k1.w0
  have hz0 : G'.Z0 = Z := k1.z0
  have hz : ∀ b o, G'.Z b o → Z b o ∨ (w.heap.size ≤ b ∧ b < w'.heap.size) := fun b o hz => by
    have := k2.zsub b o hz
    rw [hz0, hb0] at this
    exact this.imp id fun h => ⟨h, k2.zlt b o hz⟩
  refine ⟨?_, by have := k2.bel; rw [hb0, hw0] at this; exact this⟩
  cases d with
  | p d =>
    injection hp with hp
    subst hp
    cases k4 with
    | p d x h => exact h.mono hz fun _ _ _ => rfl
  | agg l =>
    simp only [toP, Option.map_eq_some_iff] at hp
    obtain ⟨ps, hps, rfl⟩ := hp
    obtain ⟨l1, l2⟩ := toPs_get hps
    cases k4 with
    | agg cs vs hl h =>
      refine .agg ps vs (by omega) fun i q x hq hx => ?_
      have := h i _ x (l2 i q hq) hx
      cases this with
      | p d x h => exact h.mono hz fun _ _ _ => rfl
  | _ => cases hp
end Go.Proofs.YtikfefjaeejeeaaGreatDoor
