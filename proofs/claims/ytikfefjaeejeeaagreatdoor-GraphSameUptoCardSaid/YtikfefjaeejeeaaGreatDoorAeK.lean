/- The abstract machine, 18: a statement in which two boxes are made in an open order. -/
import Derived.Test.YtikfefjaeejeeaaGreatDoorAeJ
namespace Go.Proofs.YtikfefjaeejeeaaGreatDoor
open Go.RowKit

theorem getElem?_snoc2 {α : Type} {l : List α} {a b x : α} {i : Nat} (h : (l ++ [a, b])[i]? = some x) : (i < l.length ∧ l[i]? = some x) ∨ (i = l.length ∧ x = a) ∨ (i = l.length + 1 ∧ x = b) := by
  rcases Nat.lt_or_ge i l.length with hi | hi
  · rw [List.getElem?_append_left hi] at h; exact .inl ⟨hi, h⟩
  · rw [List.getElem?_append_right hi] at h
    obtain ⟨k, rfl⟩ : ∃ k, i = l.length + k := ⟨i - l.length, by omega⟩
    rw [Nat.add_sub_cancel_left] at h
    match k with
    | 0 => simp at h; exact .inr (.inl ⟨by omega, h.symm⟩)
    | 1 => simp at h; exact .inr (.inr ⟨by omega, h.symm⟩)
    | k + 2 => simp at h
theorem snoc2_0 {α : Type} (l : List α) (a b : α) : (l ++ [a, b])[l.length]? = some a := by
  rw [List.getElem?_append_right (Nat.le_refl _), Nat.sub_self]; rfl
theorem snoc2_1 {α : Type} (l : List α) (a b : α) : (l ++ [a, b])[l.length + 1]? = some b := by
  rw [List.getElem?_append_right (by omega), Nat.add_sub_cancel_left]; rfl
/-- the last two boxes change places -/
def Gh.swap (G : Gh) (l : List Nat) (g1 g2 : Nat) : Gh := { G with bs := l ++ [g2, g1] }
theorem Gh.cut_full (G : Gh) (n : Nat) : G.cut n G.tv.length G.mps.length = { G with bs := G.bs.take n } := by
  unfold Gh.cut; rw [List.take_length, List.take_length]
theorem grw_swap {G : Gh} {w : World} {l : List Nat} {g1 g2 : Nat} (hb : G.bs = l ++ [g1, g2]) : Grw (G.cut l.length G.tv.length G.mps.length) w (G.swap l g1 g2) w := by
  rw [Gh.cut_full]
  refine ⟨rfl, rfl, rfl, fun _ _ h => h, fun _ _ _ _ h => h, fun j g h => ?_, fun _ n x h => ⟨n, x, h, Nat.le_refl _, fun _ => rfl⟩, fun _ _ h => h, rfl, Nat.le_refl _, fun _ _ h _ _ => h, fun _ _ h => .inl h⟩
  have h : (G.bs.take l.length)[j]? = some g := h
  rw [hb, List.take_left] at h
  show (l ++ [g2, g1])[j]? = some g
  rw [List.getElem?_append_left (List.getElem?_eq_some_iff.1 h).1]; exact h
theorem CRel.swap {G : Gh} {w : World} {l : List Nat} {g1 g2 : Nat} (hb : G.bs = l ++ [g1, g2]) {d : DV} {x : Value} (h : CRel G w d x) (hr : refB l.length G.tv.length G.mps.length 50 d = true) : CRel (G.swap l g1 g2) w d x := (h.cut 50 hr).grw (grw_swap hb)
theorem MRel.swap {G : Gh} {bl : List Box} {B : Box} {tk : List (Option (TypeId × Nat × Nat))} {ob : List AO} {w : World} (h : MRel G ⟨bl ++ [B, B], tk, ob⟩ w) {l : List Nat} {g1 g2 : Nat} (hb : G.bs = l ++ [g1, g2])
    (hr : ∀ C ∈ bl, C.cells.all (refB l.length G.tv.length G.mps.length 50) = true) (hB : ∀ d ∈ B.cells, refB l.length G.tv.length G.mps.length 50 d = true) : MRel (G.swap l g1 g2) ⟨bl ++ [B, B], tk, ob⟩ w := by
  have hlen : l.length = bl.length := by
    have := h.len
    rw [hb] at this
    simp at this
    exact this
  have e0 : G.bs[bl.length]? = some g1 := by rw [hb, ← hlen]; exact snoc2_0 _ _ _
  have e1 : G.bs[bl.length + 1]? = some g2 := by rw [hb, ← hlen]; exact snoc2_1 _ _ _
  have hne : g1 ≠ g2 := fun e => by
    have := h.inj bl.length (bl.length + 1) g1 e0 (by rw [e1, e])
    omega
  have back : ∀ j g, (l ++ [g2, g1])[j]? = some g → ∃ k, G.bs[k]? = some g ∧ (j < bl.length → k = j) ∧ (j = bl.length → k = bl.length + 1) ∧ (j = bl.length + 1 → k = bl.length) ∧ j < bl.length + 2 := by
    intro j g hj
    rcases getElem?_snoc2 hj with ⟨h1, h2⟩ | ⟨h1, rfl⟩ | ⟨h1, rfl⟩
    · exact ⟨j, by rw [hb, List.getElem?_append_left h1]; exact h2, fun _ => rfl, fun _ => by omega, fun _ => by omega, by omega⟩
    · exact ⟨bl.length + 1, e1, fun _ => by omega, fun _ => rfl, fun _ => by omega, by omega⟩
    · exact ⟨bl.length, e0, fun _ => by omega, fun _ => by omega, fun _ => rfl, by omega⟩
  refine ⟨h.bel, h.hb, h.zlt, h.zsub, ?_, h.tlen, fun i j g hi hj => ?_, fun j C g hC hg => ?_, fun t e s n ht => ?_, h.tne, h.lw, h.mp⟩
  · show (l ++ [g2, g1]).length = (bl ++ [B, B]).length
    simp [hlen]
  · obtain ⟨k1, a1, b1, c1, d1, f1⟩ := back i g hi
    obtain ⟨k2, a2, b2, c2, d2, f2⟩ := back j g hj
    have := h.inj k1 k2 g a1 a2
    omega
  · obtain ⟨k, a1, b1, c1, d1, f1⟩ := back j g hg
    have hCk : (bl ++ [B, B])[k]? = some C := by
      rcases getElem?_snoc2 hC with ⟨h1, h2⟩ | ⟨h1, rfl⟩ | ⟨h1, rfl⟩
      · rw [b1 h1]; exact hC
      · rw [c1 h1]; exact snoc2_1 _ _ _
      · rw [d1 h1]; exact snoc2_0 _ _ _
    obtain ⟨q1, vs, q2, q3, q4, q5⟩ := h.box k C g hCk a1
    refine ⟨q1, vs, q2, q3, fun i d x hd hx => ⟨(q4 i d x hd hx).1.swap hb ?_, (q4 i d x hd hx).2⟩, q5⟩
    rcases getElem?_snoc2 hC with ⟨h1, h2⟩ | ⟨h1, rfl⟩ | ⟨h1, rfl⟩
    · exact List.all_eq_true.1 (hr C (List.mem_of_getElem? h2)) d (List.mem_of_getElem? hd)
    · exact hB d (List.mem_of_getElem? hd)
    · exact hB d (List.mem_of_getElem? hd)
  · obtain ⟨x, xs, k1, k2, k3, k4⟩ := h.tok t e s n ht
    refine ⟨x, xs, k1, k2, k3, fun g hg => ⟨(k4 g hg).1, fun j hj => ?_⟩⟩
    obtain ⟨k, a1, _⟩ := back j g hj
    exact (k4 g hg).2 k a1

/-- what is asked of the operations -/
structure PairOK (l : List Oper) (ops : Array Oper) (an : List AS) (p : Nat) (o1 o2 : Oper) (T : TypeId) : Prop extends CalmO l ops an where
  gd : ∀ o ∈ l, o.guard = none
  a1 : l[p]? = some o1
  a2 : l[p + 1]? = some o2
  op1 : o1.op = .alloc T
  op2 : o2.op = .alloc T
  d1 : dirs o1 = []
  d2 : dirs o2 = []
  pre : ∀ (i : Nat) (o : Oper), i < p → l[i]? = some o → isMem false o.op = false
  post : ∀ (i : Nat) (o : Oper), p + 1 < i → l[i]? = some o → p ∈ (an[i]?).getD ⟨0⟩ ∧ p + 1 ∈ (an[i]?).getD ⟨0⟩
  mem : ∀ (i j : Nat) (o q : Oper), l[i]? = some o → l[j]? = some q → j < i → isMem false q.op = true → (isMem false o.op = true ∨ isLd o.op = true) → (j = p ∧ i = p + 1) ∨ j ∈ (an[i]?).getD ⟨0⟩ ∨ (isLd o.op = true ∧ freeAt ops j = true)
section
variable {l : List Oper} {ops : Array Oper} {an : List AS} {p : Nat} {o1 o2 : Oper} {T : TypeId}
theorem PairOK.empty (h : PairOK l ops an p o1 o2 T) (i : Nat) (o : Oper) (hi : l[i]? = some o) (hd : dirs o = []) : ∀ j, ¬ j ∈ (an[i]?).getD ⟨0⟩ := fun j hj => by
  obtain ⟨k, hk, _⟩ := h.anc i o hi j hj
  rw [hd] at hk; cases hk
theorem PairOK.lt (h : PairOK l ops an p o1 o2 T) : p + 1 < l.length := (List.getElem?_eq_some_iff.1 h.a2).1
def prL (l : List Oper) (p : Nat) (o1 o2 : Oper) : List Oper := l.take p ++ [o2, o1]
def prA (an : List AS) (p : Nat) : List AS := an.take p ++ [⟨0⟩, ⟨0⟩]
theorem PairOK.take_len (h : PairOK l ops an p o1 o2 T) : (l.take p).length = p := by rw [List.length_take]; have := h.lt; omega
theorem PairOK.len (h : PairOK l ops an p o1 o2 T) : (prL l p o1 o2).length = p + 2 := by unfold prL; rw [List.length_append, h.take_len]; rfl
theorem PairOK.at_ (h : PairOK l ops an p o1 o2 T) {i : Nat} {o : Oper} (hi : (prL l p o1 o2)[i]? = some o) : (i < p ∧ l[i]? = some o) ∨ (i = p ∧ o = o2) ∨ (i = p + 1 ∧ o = o1) := by
  rcases getElem?_snoc2 hi with ⟨h1, h2⟩ | h1 | h1
  · rw [h.take_len] at h1
    rw [List.getElem?_take, if_pos h1] at h2
    exact .inl ⟨h1, h2⟩
  · rw [h.take_len] at h1; exact .inr (.inl h1)
  · rw [h.take_len] at h1; exact .inr (.inr h1)
theorem PairOK.lo (h : PairOK l ops an p o1 o2 T) {i : Nat} {o : Oper} (hp : i < p) (hi : l[i]? = some o) : (prL l p o1 o2)[i]? = some o := by
  unfold prL
  rw [List.getElem?_append_left (by rw [h.take_len]; exact hp), List.getElem?_take, if_pos hp]; exact hi
theorem PairOK.p0 (h : PairOK l ops an p o1 o2 T) : (prL l p o1 o2)[p]? = some o2 := by
  have := snoc2_0 (l.take p) o2 o1
  rw [h.take_len] at this; exact this
theorem PairOK.p1 (h : PairOK l ops an p o1 o2 T) : (prL l p o1 o2)[p + 1]? = some o1 := by
  have := snoc2_1 (l.take p) o2 o1
  rw [h.take_len] at this; exact this
theorem prA_get {i : Nat} {j : Nat} (hal : p ≤ an.length) (hj : j ∈ ((prA an p)[i]?).getD ⟨0⟩) : i < p ∧ j ∈ (an[i]?).getD ⟨0⟩ := by
  have hz : ∀ j, ¬ j ∈ (⟨0⟩ : AS) := fun j h => by simp [Membership.mem, AS.contains] at h
  cases he : (prA an p)[i]? with
  | none => rw [he] at hj; exact absurd hj (hz j)
  | some x =>
    rw [he] at hj
    have hl : (an.take p).length = p := by rw [List.length_take]; omega
    rcases getElem?_snoc2 he with ⟨h1, h2⟩ | ⟨_, rfl⟩ | ⟨_, rfl⟩
    · rw [hl] at h1
      rw [List.getElem?_take, if_pos h1] at h2
      exact ⟨h1, by rw [h2]; exact hj⟩
    · exact absurd hj (hz j)
    · exact absurd hj (hz j)
theorem prA_lo {i : Nat} (hal : p ≤ an.length) (hi : i < p) : (prA an p)[i]? = an[i]? := by
  unfold prA
  rw [List.getElem?_append_left (by rw [List.length_take]; omega), List.getElem?_take, if_pos hi]
theorem reads_alloc {o : Oper} (h : o.op = .alloc T) (hg : o.guard = none) (A : Array Oper) : readsOf A o = [] := by
  unfold readsOf Oper.looksAt
  rw [h, hg]
  simp [Op.operands]
theorem reads_free {o : Oper} (hg : o.guard = none) (A A' : Array Oper) : readsOf A o = readsOf A' o := by
  unfold readsOf Oper.looksAt
  rw [hg]
theorem PairOK.calm (h : PairOK l ops an p o1 o2 T) (hal : p ≤ an.length) : CalmO (prL l p o1 o2) (prL l p o1 o2).toArray (prA an p) := by
  have g1 := h.gd o1 (List.mem_of_getElem? h.a1)
  have g2 := h.gd o2 (List.mem_of_getElem? h.a2)
  refine ⟨fun i o ho j hj => ?_, fun i o ho j hj => ?_, fun i j o q t ho hq ht hr => ?_, fun i j o q t ho hq ht hd => ?_⟩
  · rcases h.at_ ho with ⟨_, hi⟩ | ⟨_, rfl⟩ | ⟨_, rfl⟩
    · exact h.dir i o hi j hj
    · rw [h.d2] at hj; cases hj
    · rw [h.d1] at hj; cases hj
  · obtain ⟨hip, hj⟩ := prA_get hal hj
    rcases h.at_ ho with ⟨_, hi⟩ | ⟨e, _⟩ | ⟨e, _⟩
    · obtain ⟨k, hk, hjk⟩ := h.anc i o hi j hj
      have := h.dir i o hi k hk
      refine ⟨k, hk, ?_⟩
      rw [prA_lo hal (by omega)]; exact hjk
    · omega
    · omega
  · rcases h.at_ ho with ⟨hip, hi⟩ | ⟨_, rfl⟩ | ⟨_, rfl⟩
    · have hgo := h.gd o (List.mem_of_getElem? hi)
      rw [reads_free hgo _ ops] at hr
      rcases h.at_ hq with ⟨hjp, hj⟩ | ⟨rfl, rfl⟩ | ⟨rfl, rfl⟩
      · rw [prA_lo hal hip, prA_lo hal hjp]
        exact h.read i j o q t hi hj ht hr
      · rcases h.read i _ o q t hi h.a2 ht hr with e | ⟨e, _⟩ | ⟨_, e⟩
        · omega
        · omega
        · exact absurd e (h.empty _ _ h.a2 h.d2 i)
      · rcases h.read i _ o q t hi h.a1 ht hr with e | ⟨e, _⟩ | ⟨_, e⟩
        · omega
        · omega
        · exact absurd e (h.empty _ _ h.a1 h.d1 i)
    · rw [reads_alloc h.op2 g2] at hr; cases hr
    · rw [reads_alloc h.op1 g1] at hr; cases hr
  · rcases h.at_ ho with ⟨hip, hi⟩ | ⟨rfl, rfl⟩ | ⟨rfl, rfl⟩ <;> rcases h.at_ hq with ⟨hjp, hj⟩ | ⟨rfl, rfl⟩ | ⟨rfl, rfl⟩ <;> first
      | rfl
      | exact h.dst _ _ _ _ t hi hj ht hd
      | (have := h.dst _ _ _ _ t hi h.a2 ht hd; omega)
      | (have := h.dst _ _ _ _ t hi h.a1 ht hd; omega)
      | (have := h.dst _ _ _ _ t h.a2 hj ht hd; omega)
      | (have := h.dst _ _ _ _ t h.a1 hj ht hd; omega)
      | (have := h.dst _ _ _ _ t h.a2 h.a1 ht hd; omega)
      | (have := h.dst _ _ _ _ t h.a1 h.a2 ht hd; omega)
variable {P : Program} {sts : Nat → St} {vals : Nat → DV}
theorem PairOK.alloc1 (h : PairOK l ops an p o1 o2 T) (ht : ∀ j, j < l.length → TrOK false P ops l an sts vals j) : evAlloc P T (sts p).μ = some (vals p, (sts (p + 1)).μ) ∧ ∀ j oj, j < p → l[j]? = some oj → isLd oj.op = true → evOp P oj ⟨(sts j).tmps, (sts (p + 1)).μ⟩ = some (vals j, (sts (p + 1)).μ) := by
  have hlt := h.lt
  have hw : ∀ o ∈ l, ∀ s, wantA ops o s = some true := fun o ho s => by unfold wantA; rw [h.gd o ho]
  have hm : isMem false o1.op = true := by rw [h.op1]; rfl
  obtain ⟨_, t⟩ := ht p (by omega) o1 h.a1
  rcases t with t | t | t | t
  · rw [hw o1 (List.mem_of_getElem? h.a1)] at t; cases t.1
  · obtain ⟨_, _, te, t4⟩ := t
    refine ⟨?_, fun j oj hj hoj hl => t4.1 j oj hj hoj hl (hw oj (List.mem_of_getElem? hoj) _) ?_⟩
    · rcases te with te | ⟨_, ⟨co, a, b, f, c, fn, cc, k, _⟩ | ⟨⟨co, a, b, f, c, pa, v, k, _⟩, _⟩⟩
      · unfold evOp at te; rw [h.op1] at te; exact te
      · rw [h.op1] at k; cases k
      · rw [h.op1] at k; cases k
    · have := h.empty _ _ h.a1 h.d1 j
      exact AS.not_mem.2 this
  · rw [hm] at t; cases t.2.1
  · rw [hm] at t; cases t.2.1
theorem PairOK.alloc2 (h : PairOK l ops an p o1 o2 T) (ht : ∀ j, j < l.length → TrOK false P ops l an sts vals j) : evAlloc P T (sts (p + 1)).μ = some (vals (p + 1), (sts (p + 2)).μ) ∧ ∀ j oj, j < p → l[j]? = some oj → isLd oj.op = true → evOp P oj ⟨(sts j).tmps, (sts (p + 2)).μ⟩ = some (vals j, (sts (p + 2)).μ) := by
  have hlt := h.lt
  have hw : ∀ o ∈ l, ∀ s, wantA ops o s = some true := fun o ho s => by unfold wantA; rw [h.gd o ho]
  have hm : isMem false o2.op = true := by rw [h.op2]; rfl
  obtain ⟨_, t⟩ := ht (p + 1) (by omega) o2 h.a2
  rcases t with t | t | t | t
  · rw [hw o2 (List.mem_of_getElem? h.a2)] at t; cases t.1
  · obtain ⟨_, _, te, t4⟩ := t
    refine ⟨?_, fun j oj hj hoj hl => t4.1 j oj (by omega) hoj hl (hw oj (List.mem_of_getElem? hoj) _) ?_⟩
    · rcases te with te | ⟨_, ⟨co, a, b, f, c, fn, cc, k, _⟩ | ⟨⟨co, a, b, f, c, pa, v, k, _⟩, _⟩⟩
      · unfold evOp at te; rw [h.op2] at te; exact te
      · rw [h.op2] at k; cases k
      · rw [h.op2] at k; cases k
    · have := h.empty _ _ h.a2 h.d2 j
      exact AS.not_mem.2 this
  · rw [hm] at t; cases t.2.1
  · rw [hm] at t; cases t.2.1
theorem evAlloc_some {T : TypeId} {μ μ' : Mem} {d : DV} (h : evAlloc P T μ = some (d, μ')) : ∃ z, d = .loc μ.boxes.length 0 ∧ μ' = ⟨μ.boxes ++ [⟨T, cellsV z, false⟩], μ.toks, μ.objs⟩ ∧ zrT P T = some z := by
  unfold evAlloc at h
  split at h
  · rename_i z hz
    split at h
    · injection h with h; injection h with h1 h2
      exact ⟨z, h1.symm, h2.symm, hz⟩
    · cases h
  · cases h
/-- the states, when the second one comes first -/
def prS (sts : Nat → St) (vals : Nat → DV) (p : Nat) (o1 o2 : Oper) : Nat → St := fun i =>
  if i ≤ p then sts i else if i = p + 1 then ⟨putT (sts p).tmps o2.dst (vals p), (sts (p + 1)).μ⟩ else ⟨putT (putT (sts p).tmps o2.dst (vals p)) o1.dst (vals (p + 1)), (sts (p + 2)).μ⟩
theorem prS_lo {i : Nat} (h : i ≤ p) : prS sts vals p o1 o2 i = sts i := if_pos h
theorem prS_1 : prS sts vals p o1 o2 (p + 1) = ⟨putT (sts p).tmps o2.dst (vals p), (sts (p + 1)).μ⟩ := by
  unfold prS; rw [if_neg (by omega), if_pos rfl]
theorem prS_2 : prS sts vals p o1 o2 (p + 1 + 1) = ⟨putT (putT (sts p).tmps o2.dst (vals p)) o1.dst (vals (p + 1)), (sts (p + 2)).μ⟩ := by
  unfold prS; rw [if_neg (by omega), if_neg (by omega)]
theorem free_alloc {A : Array Oper} {i : Nat} {o : Oper} (h : A[i]? = some o) (ho : o.op = .alloc T) : freeAt A i = false := by
  unfold freeAt
  have : A.toList[i]? = some o := by rw [Array.getElem?_toList]; exact h
  simp only [this, ho, isCall, Bool.false_and]
theorem PairOK.trace (h : PairOK l ops an p o1 o2 T) (ht : ∀ j, j < l.length → TrOK false P ops l an sts vals j) : ∀ j, j < (prL l p o1 o2).length → TrOK false P (prL l p o1 o2).toArray (prL l p o1 o2) (prA an p) (prS sts vals p o1 o2) vals j := by
  intro j hj o ho
  have hlt := h.lt
  have hwn : ∀ o, o.guard = none → ∀ A s, wantA A o s = some true := fun o ho A s => by unfold wantA; rw [ho]
  rcases h.at_ ho with ⟨hjp, hoj⟩ | ⟨rfl, rfl⟩ | ⟨rfl, rfl⟩
  · rw [prS_lo (by omega), prS_lo (by omega)]
    obtain ⟨t0, t⟩ := ht j (by omega) o hoj
    have hg := h.gd o (List.mem_of_getElem? hoj)
    refine ⟨t0, ?_⟩
    rw [hwn o hg]
    rw [hwn o hg] at t
    rcases t with t | t | t | t
    · exact .inl t
    · rw [h.pre j o hjp hoj] at t; cases t.2.1
    · exact .inr (.inr (.inl t))
    · exact .inr (.inr (.inr t))
  · rw [prS_1, prS_lo (Nat.le_refl _)]
    obtain ⟨a1, a2⟩ := h.alloc1 ht
    refine ⟨rfl, .inr (.inl ⟨hwn _ (h.gd _ (List.mem_of_getElem? h.a2)) _ _, by rw [h.op2]; rfl, .inl ?_, fun k ok hk hok hl _ _ => ?_, fun hf => ?_⟩)⟩
    · unfold evOp; rw [h.op2]; exact a1
    · rcases h.at_ hok with ⟨hkp, hkl⟩ | ⟨e, _⟩ | ⟨e, _⟩
      · rw [prS_lo (by omega)]; exact a2 k ok hkp hkl hl
      · omega
      · omega
    · rw [free_alloc (by simpa using ho) h.op2] at hf; cases hf
  · rw [prS_1, prS_2]
    obtain ⟨a1, a2⟩ := h.alloc2 ht
    refine ⟨rfl, .inr (.inl ⟨hwn _ (h.gd _ (List.mem_of_getElem? h.a1)) _ _, by rw [h.op1]; rfl, .inl ?_, fun k ok hk hok hl _ _ => ?_, fun hf => ?_⟩)⟩
    · unfold evOp; rw [h.op1]; exact a1
    · rcases h.at_ hok with ⟨hkp, hkl⟩ | ⟨e, e2⟩ | ⟨e, _⟩
      · rw [prS_lo (by omega)]; exact a2 k ok hkp hkl hl
      · rw [e2, h.op2] at hl; cases hl
      · omega
    · rw [free_alloc (by simpa using ho) h.op1] at hf; cases hf
theorem wpOp_same {ro : Option Nat} {A A' : Array Oper} {i i' : Nat} {o : Oper} (h : A[i]? = some o) (h' : A'[i']? = some o) (hg : o.guard = none) {K : Act → World → Prop} {Q : Exit → Act → World → Prop} {a : Act} {w : World} (hh : wpOpIn (FF ro) 0 P A Q i K a w) : wpOpIn (FF ro) 0 P A' Q i' K a w := by
  have hw : ∀ y, Region.wanted o y = true := fun y => by simp [Region.wanted, hg]
  unfold wpOpIn at hh ⊢
  rw [h] at hh
  rw [h']
  simp only [hw, if_true] at hh ⊢
  exact hh
theorem ready_nil (hl : ops.toList = l) (hc : CalmO l ops an) {listed : Array Bool} (hz : listed.size = l.length) (hr : Region.ready .any ops listed = []) : ∀ j, listed.getD j true = true := by
  have : ∀ n j, j < n → listed.getD j true = true := by
    intro n
    induction n with
    | zero => intro j h; omega
    | succ n ih =>
      intro j hj
      rcases Nat.lt_or_ge j n with h | h
      · exact ih j h
      · obtain rfl : j = n := by omega
        cases hu : listed.getD j true with
        | true => rfl
        | false =>
          have hjl : j < l.length := by
            rcases Nat.lt_or_ge j l.length with h | h
            · exact h
            · simp [Array.getElem?_eq_none (show listed.size ≤ j by omega)] at hu
          have hjo : l[j]? = some l[j] := List.getElem?_eq_getElem hjl
          have : j ∈ Region.ready .any ops listed := mem_ready.2 ⟨hu, l[j], by rw [← Array.getElem?_toList, hl]; exact hjo, fun e he hb => by
            have hdir : e.on ∈ dirs l[j] := List.mem_map.2 ⟨e, List.mem_filter.2 ⟨by simpa using he, hb⟩, rfl⟩
            have hlt := hc.dir j _ hjo _ hdir
            have hk := ih e.on hlt
            have hklt : e.on < listed.size := by omega
            simpa [hklt] using hk⟩
          rw [hr] at this
          cases this
  exact fun j => this (j + 1) j (by omega)
def preL (listed : Array Bool) (p : Nat) : Array Bool := ((List.range (p + 2)).map fun j => if j < p then listed.getD j true else false).toArray
theorem preL_get {listed : Array Bool} {j : Nat} (h : j < p + 2) : (preL listed p).getD j true = if j < p then listed.getD j true else false := by
  simp [preL, h]
/-- the second box is made, the first one not yet -/
structure Pend (l : List Oper) (p : Nat) (o1 o2 : Oper) (sts : Nat → St) (vals : Nat → DV) (G0 : Gh) (w0 : World) (listed : Array Bool) (a : Act) (w : World) : Prop where
  size : listed.size = l.length
  closed : ∀ (i : Nat) (o : Oper), l[i]? = some o → listed.getD i true = true → ∀ j ∈ dirs o, listed.getD j true = true
  l1 : listed.getD p true = false
  l2 : listed.getD (p + 1) true = true
  post : ∀ j, p + 1 < j → j < l.length → listed.getD j true = false
  st : ∃ L, DInv false (prL l p o1 o2) (prS sts vals p o1 o2) vals G0 w0 L a w ∧ L.getD p true = true ∧ L.getD (p + 1) true = false ∧ ∀ j, j < p → L.getD j true = listed.getD j true
theorem PairOK.start (h : PairOK l ops an p o1 o2 T) {G0 : Gh} {w0 : World} {listed : Array Bool} {a : Act} {w : World} (hI : DInv false l sts vals G0 w0 listed a w) (u1 : listed.getD p true = false) (u2 : listed.getD (p + 1) true = false) : DInv false (prL l p o1 o2) (prS sts vals p o1 o2) vals G0 w0 (preL listed p) a w := by
  have hlt := h.lt
  have late : ∀ j o, l[j]? = some o → listed.getD j true = true → j < p := fun j o hj hl => by
    rcases Nat.lt_trichotomy j p with e | e | e
    · exact e
    · rw [e, u1] at hl; cases hl
    · by_cases e2 : j = p + 1
      · rw [e2, u2] at hl; cases hl
      · have := anc_listed h.toCalmO hI.closed hI.size (j + 1) j o (by omega) hj (hI.closed j o hj hl) p (h.post j o (by omega) hj).1
        rw [u1] at this; cases this
  obtain ⟨G, m, h1, h2, h3, h4, h5, h6, h7⟩ := hI.state
  have hmp : m ≤ p := by
    rcases Nat.lt_or_ge p m with e | e
    · have := (h7 p o1 h.a1 (by rw [h.op1]; rfl)).2 e
      rw [u1] at this; cases this
    · exact e
  refine ⟨by rw [h.len]; simp [preL], fun i o hi hl j hj => ?_, G, m, h1, by rw [prS_lo hmp]; exact h2, h3, by rw [prS_lo (Nat.zero_le _)]; exact h4, fun t x hx => ⟨fun j o hj hl hd => ?_, fun hall => ?_⟩, by rw [h.len]; omega, fun j o hj hm => ?_⟩
  · rcases h.at_ hi with ⟨hip, hil⟩ | ⟨_, rfl⟩ | ⟨_, rfl⟩
    · rw [preL_get (by omega), if_pos hip] at hl
      have hji := h.dir i o hil j hj
      rw [preL_get (by omega), if_pos (by omega)]
      exact hI.closed i o hil hl j hj
    · rw [h.d2] at hj; cases hj
    · rw [h.d1] at hj; cases hj
  · rcases h.at_ hj with ⟨hjp, hjl⟩ | ⟨rfl, rfl⟩ | ⟨rfl, rfl⟩
    · rw [preL_get (by omega), if_pos hjp] at hl
      exact (h5 t x hx).1 j o hjl hl hd
    · rw [preL_get (by omega), if_neg (by omega)] at hl; cases hl
    · rw [preL_get (by omega), if_neg (by omega)] at hl; cases hl
  · rw [prS_lo (Nat.zero_le _)]
    refine (h5 t x hx).2 fun j o hj hl => hall j o (h.lo (late j o hj hl) hj) ?_
    have := late j o hj hl
    rw [preL_get (by omega), if_pos this]; exact hl
  · rcases h.at_ hj with ⟨hjp, hjl⟩ | ⟨rfl, rfl⟩ | ⟨rfl, rfl⟩
    · rw [h.pre j o hjp hjl] at hm; cases hm
    · rw [preL_get (by omega), if_neg (by omega)]
      exact ⟨fun e => by (cases e), fun e => by omega⟩
    · rw [preL_get (by omega), if_neg (by omega)]
      exact ⟨fun e => by (cases e), fun e => by omega⟩
theorem list_two {α : Type} {l : List α} {n : Nat} (h : l.length = n + 2) : ∃ k a b, l = k ++ [a, b] ∧ k.length = n := by
  refine ⟨l.take n, l[n]'(by omega), l[n + 1]'(by omega), ?_, by rw [List.length_take]; omega⟩
  refine List.ext_getElem (by simp; omega) fun i h1 h2 => ?_
  have hl : (l.take n).length = n := by rw [List.length_take]; omega
  rcases Nat.lt_trichotomy i n with e | e | e
  · rw [List.getElem_append_left (by omega), List.getElem_take]
  · subst e; rw [List.getElem_append_right (by omega)]; simp [hl]
  · obtain rfl : i = n + 1 := by omega
    rw [List.getElem_append_right (by omega)]; simp [hl]
/-- what is asked of the values -/
structure PairVals (l : List Oper) (sts : Nat → St) (vals : Nat → DV) (G0 : Gh) (p : Nat) : Prop where
  hn : G0.bs.length ≤ (sts 0).μ.boxes.length
  hv : ∀ (j : Nat) (o : Oper) (t : Nat), j < p → l[j]? = some o → o.dst = some t → t < (sts 0).tmps.length → refB (sts 0).μ.boxes.length (sts 0).μ.toks.length (sts 0).μ.objs.length 50 (vals j) = true
  hi : ∀ t, refB (sts 0).μ.boxes.length (sts 0).μ.toks.length (sts 0).μ.objs.length 50 (getT (sts 0).tmps t) = true
  hb : ∀ B ∈ (sts 0).μ.boxes, B.cells.all (refB (sts 0).μ.boxes.length (sts 0).μ.toks.length (sts 0).μ.objs.length 50) = true
theorem PairOK.finish (h : PairOK l ops an p o1 o2 T) (ht : ∀ j, j < l.length → TrOK false P ops l an sts vals j) {G0 : Gh} {w0 : World} (hv : PairVals l sts vals G0 p) {listed L : Array Bool} {a : Act} {w : World} (hsz : listed.size = l.length) (hcl : ∀ (i : Nat) (o : Oper), l[i]? = some o → listed.getD i true = true → ∀ j ∈ dirs o, listed.getD j true = true) (u2 : listed.getD (p + 1) true = true) (up : ∀ j, p + 1 < j → j < l.length → listed.getD j true = false)
    (hI : DInv false (prL l p o1 o2) (prS sts vals p o1 o2) vals G0 w0 L a w) (q1 : L.getD p true = true) (q2 : L.getD (p + 1) true = true) (q3 : ∀ j, j < p → L.getD j true = listed.getD j true) : DInv false l sts vals G0 w0 (listed.setIfInBounds p true) a w := by
  have hlt := h.lt
  have hpz : p < listed.size := by rw [hsz]; omega
  have hg : ∀ j, (listed.setIfInBounds p true).getD j true = if j = p then true else listed.getD j true := fun j => getD_set hpz
  obtain ⟨a1, _⟩ := h.alloc1 ht
  obtain ⟨a2, _⟩ := h.alloc2 ht
  obtain ⟨z, e1, e2, hz⟩ := evAlloc_some a1
  obtain ⟨z', e3, e4, hz'⟩ := evAlloc_some a2
  rw [hz] at hz'
  injection hz' with hz'
  subst hz'
  have hμ0 : (sts p).μ = (sts 0).μ := mem_const ht 0 p (Nat.zero_le _) (by omega) fun j o _ hj ho => .inl (h.pre j o hj ho)
  rw [hμ0] at e1 e2
  rw [e2] at e3 e4
  have e3' : vals (p + 1) = .loc ((sts 0).μ.boxes.length + 1) 0 := by rw [e3]; simp
  have e4' : (sts (p + 2)).μ = ⟨(sts 0).μ.boxes ++ [⟨T, cellsV z, false⟩, ⟨T, cellsV z, false⟩], (sts 0).μ.toks, (sts 0).μ.objs⟩ := by
    have : (sts (p + 1 + 1)).μ = (sts (p + 2)).μ := rfl
    rw [← this, e4]; simp
  obtain ⟨G, m, h1, h2, h3, h4, h5, h6, h7⟩ := hI.state
  have hm2 : m = p + 2 := by
    have := (h7 (p + 1) o1 h.p1 (by rw [h.op1]; rfl)).1 q2
    rw [h.len] at h6
    omega
  subst hm2
  have hS : (prS sts vals p o1 o2 (p + 2)).μ = (sts (p + 2)).μ := by
    have : prS sts vals p o1 o2 (p + 2) = prS sts vals p o1 o2 (p + 1 + 1) := rfl
    rw [this, prS_2]
  rw [hS, e4'] at h2
  rw [prS_lo (Nat.zero_le _)] at h4
  have hGl : G.bs.length = (sts 0).μ.boxes.length + 2 := by rw [h2.len]; simp
  obtain ⟨bl, g1, g2, hbs, hbl⟩ := list_two hGl
  have htk : G.tv.length = (sts 0).μ.toks.length := h2.tlen
  have hmp : G.mps.length = (sts 0).μ.objs.length := h2.mp.len
  have sw : ∀ {d : DV} {x : Value}, CRel G w d x → refB (sts 0).μ.boxes.length (sts 0).μ.toks.length (sts 0).μ.objs.length 50 d = true → CRel (G.swap bl g1 g2) w d x := fun hx hr => hx.swap hbs (by rw [hbl, htk, hmp]; exact hr)
  have loc1 : ∀ {x : Value}, CRel G w (vals p) x → CRel (G.swap bl g1 g2) w (vals (p + 1)) x := by
    intro x hx
    rw [e1] at hx
    rw [e3']
    cases hx with
    | loc b o g hgb =>
      rw [hbs, ← hbl, snoc2_0] at hgb
      injection hgb with hgb
      subst hgb
      exact .loc _ _ _ (by show (bl ++ [g2, g1])[_]? = _; rw [← hbl]; exact snoc2_1 _ _ _)
  have loc2 : ∀ {x : Value}, CRel G w (vals (p + 1)) x → CRel (G.swap bl g1 g2) w (vals p) x := by
    intro x hx
    rw [e3'] at hx
    rw [e1]
    cases hx with
    | loc b o g hgb =>
      rw [hbs, ← hbl, snoc2_1] at hgb
      injection hgb with hgb
      subst hgb
      exact .loc _ _ _ (by show (bl ++ [g2, g1])[_]? = _; rw [← hbl]; exact snoc2_0 _ _ _)
  have g0 : Grw G0 w0 (G.swap bl g1 g2) w := by
    have hc := h1.cut (nb := bl.length) (nt := G.tv.length) (no := G.mps.length) (by rw [hbl]; exact hv.hn) (by
      rcases Nat.lt_or_ge G.tv.length G0.tv.length with e | e
      · obtain ⟨n, x, k, _⟩ := h1.tv G.tv.length (G0.tv[G.tv.length]'e).1 (G0.tv[G.tv.length]'e).2 (List.getElem?_eq_getElem e)
        have := (List.getElem?_eq_some_iff.1 k).1; omega
      · exact e) (by
      rcases Nat.lt_or_ge G.mps.length G0.mps.length with e | e
      · have := h1.mps G.mps.length _ (List.getElem?_eq_getElem e)
        have := (List.getElem?_eq_some_iff.1 this).1; omega
      · exact e)
    exact hc.trans (grw_swap hbs)
  refine ⟨by simp [hsz], fun i o hi hl j hj => ?_, G.swap bl g1 g2, p + 2, g0, ?_, h3, h4, fun t x hx => ⟨fun j o hj hl hd => ?_, fun hall => ?_⟩, by omega, fun j o hj hm => ?_⟩
  · rw [hg] at hl ⊢
    by_cases hip : i = p
    · subst hip
      rw [h.a1] at hi; injection hi with hi; subst hi
      rw [h.d1] at hj; cases hj
    · rw [if_neg hip] at hl
      by_cases hjp : j = p
      · rw [if_pos hjp]
      · rw [if_neg hjp]; exact hcl i o hi hl j hj
  · rw [e4']
    refine h2.swap hbs (fun C hC => by rw [hbl, htk, hmp]; exact hv.hb C hC) fun d hd => ?_
    simp only [cellsV, List.mem_map] at hd
    obtain ⟨c, _, rfl⟩ := hd
    rfl
  · rw [hg] at hl
    rcases Nat.lt_trichotomy j p with e | e | e
    · rw [if_neg (by omega)] at hl
      exact sw ((h5 t x hx).1 j o (h.lo e hj) (by rw [q3 j e]; exact hl) hd) (hv.hv j o t e hj hd (by rw [← h4]; exact (Array.getElem?_eq_some_iff.1 hx).1))
    · subst e
      rw [h.a1] at hj; injection hj with hj; subst hj
      exact loc2 ((h5 t x hx).1 (j + 1) o1 h.p1 q2 hd)
    · by_cases e2 : j = p + 1
      · subst e2
        rw [h.a2] at hj; injection hj with hj; subst hj
        exact loc1 ((h5 t x hx).1 p o2 h.p0 q1 hd)
      · rw [if_neg (by omega), up j (by omega) (List.getElem?_eq_some_iff.1 hj).1] at hl; cases hl
  · have := (h5 t x hx).2 fun j o hj hl => ?_
    · rw [prS_lo (Nat.zero_le _)] at this
      exact sw this (hv.hi t)
    · rcases h.at_ hj with ⟨hjp, hjl⟩ | ⟨rfl, rfl⟩ | ⟨rfl, rfl⟩
      · exact hall j o hjl (by rw [hg, if_neg (by omega), ← q3 j hjp]; exact hl)
      · exact hall (j + 1) o h.a2 (by rw [hg, if_neg (by omega)]; exact u2)
      · exact hall p o h.a1 (by rw [hg, if_pos rfl])
  · rw [hg]
    rcases Nat.lt_trichotomy j p with e | e | e
    · rw [h.pre j o e hj] at hm; cases hm
    · rw [if_pos e]; exact ⟨fun _ => by omega, fun _ => rfl⟩
    · rw [if_neg (by omega)]
      by_cases e2 : j = p + 1
      · rw [e2, u2]; exact ⟨fun _ => by omega, fun _ => rfl⟩
      · rw [up j (by omega) (List.getElem?_eq_some_iff.1 hj).1]
        exact ⟨fun e => by (cases e), fun _ => by omega⟩
theorem ready_dirs {i : Nat} {listed : Array Bool} (hl : ops.toList = l) (hr : i ∈ Region.ready .any ops listed) : listed.getD i true = false ∧ ∃ o, ops[i]? = some o ∧ l[i]? = some o ∧ ∀ j ∈ dirs o, listed.getD j true = true := by
  obtain ⟨hu, o, ho, hdd⟩ := mem_ready.1 hr
  refine ⟨hu, o, ho, by rw [← hl, Array.getElem?_toList]; exact ho, fun j hj => ?_⟩
  obtain ⟨e, he, rfl⟩ := List.mem_map.1 hj
  obtain ⟨he1, he2⟩ := List.mem_filter.1 he
  have := hdd e (by simpa using he1) he2
  have hlt : e.on < listed.size := by
    rcases Nat.lt_or_ge e.on listed.size with h | h
    · exact h
    · simp [Array.getElem?_eq_none h] at this
  simpa [hlt] using this
theorem PairOK.draw {ro : Option Nat} (hl : ops.toList = l) (h : PairOK l ops an p o1 o2 T) (hal : p ≤ an.length) (ht : ∀ j, j < l.length → TrOK false P ops l an sts vals j) {G0 : Gh} {w0 : World} (hv : PairVals l sts vals G0 p) {Q : Exit → Act → World → Prop}
    (hQ : ∀ listed a w, DInv false l sts vals G0 w0 listed a w → (∀ j, listed.getD j true = true) → Q .normal a w) :
    ∀ (fuel : Nat) (listed : Array Bool) (a : Act) (w : World), ((DInv false l sts vals G0 w0 listed a w ∧ (listed.getD (p + 1) true = true → listed.getD p true = true)) ∨ Pend l p o1 o2 sts vals G0 w0 listed a w) → (List.range l.length).countP (fun j => !listed.getD j true) ≤ fuel → wpAnyIn (FF ro) 0 P .any ops Q fuel listed a w := by
  have hlt := h.lt
  have hsize : ∀ {listed : Array Bool} {a : Act} {w : World}, ((DInv false l sts vals G0 w0 listed a w ∧ (listed.getD (p + 1) true = true → listed.getD p true = true)) ∨ Pend l p o1 o2 sts vals G0 w0 listed a w) → listed.size = l.length := fun hI => hI.elim (fun h => h.1.size) (fun h => h.size)
  have done : ∀ {listed : Array Bool} {a : Act} {w : World}, ((DInv false l sts vals G0 w0 listed a w ∧ (listed.getD (p + 1) true = true → listed.getD p true = true)) ∨ Pend l p o1 o2 sts vals G0 w0 listed a w) → (∀ j, listed.getD j true = true) → Q .normal a w := by
    rintro listed a w (hI | hI) hall
    · exact hQ listed a w hI.1 hall
    · have := hall p; rw [hI.l1] at this; cases this
  intro fuel
  induction fuel with
  | zero =>
    intro listed a w hI hcount
    have hall : ∀ j, listed.getD j true = true := by
      intro j
      rcases Nat.lt_or_ge j l.length with h | h
      · have := List.countP_eq_zero.1 (Nat.le_zero.1 hcount) j (by simpa using h)
        simpa using this
      · simp [Array.getElem?_eq_none (show listed.size ≤ j by rw [hsize hI]; exact h)]
    refine ⟨?_, done hI hall⟩
    cases hr : Region.ready .any ops listed with
    | nil => rfl
    | cons j r =>
      have : j ∈ Region.ready .any ops listed := by rw [hr]; exact List.mem_cons_self
      rw [mem_ready] at this
      rw [hall j] at this
      cases this.1
  | succ fuel ih =>
    intro listed a w hI hcount
    refine ⟨fun hr => done hI (ready_nil hl h.toCalmO (hsize hI) hr), fun i hi => ?_⟩
    obtain ⟨hu, o, hoa, ho, hd⟩ := ready_dirs hl hi
    have hil : i < l.length := (List.getElem?_eq_some_iff.1 ho).1
    have hiz : i < listed.size := by rw [hsize hI]; exact hil
    have hcnt : (List.range l.length).countP (fun j => !(listed.setIfInBounds i true).getD j true) ≤ fuel := by
      have := countP_less (l := List.range l.length) (p := fun j => !listed.getD j true) (p' := fun j => !(listed.setIfInBounds i true).getD j true) (fun j _ hj => by
        rw [getD_set hiz] at hj
        by_cases h : j = i
        · simp [h] at hj
        · rwa [if_neg h] at hj) ⟨i, by simpa using hil, by simp only [hu]; rfl, by rw [getD_set hiz]; simp⟩
      omega
    have hgs : ∀ j, (listed.setIfInBounds i true).getD j true = if j = i then true else listed.getD j true := fun j => getD_set hiz
    have hcal := h.calm hal
    have htr := h.trace ht
    have hLl : (prL l p o1 o2).toArray.toList = prL l p o1 o2 := by simp
    rcases hI with ⟨hI, hord⟩ | hI
    · have hancl := anc_listed h.toCalmO hI.closed hI.size (i + 1) i o (by omega) ho hd
      by_cases htrn : i = p + 1 ∧ listed.getD p true = false
      · -- the second one comes first
        obtain ⟨rfl, u1⟩ := htrn
        have hI2 := h.start hI u1 hu
        rw [h.a2] at ho; injection ho with ho; subst ho
        have hz2 : p < (preL listed p).size := by simp [preL]
        have late : ∀ j, p + 1 < j → j < l.length → listed.getD j true = false := fun j h1 h2 => by
          cases hj : listed.getD j true with
          | false => rfl
          | true =>
            have := anc_listed h.toCalmO hI.closed hI.size (j + 1) j _ (by omega) (List.getElem?_eq_getElem h2) (hI.closed j _ (List.getElem?_eq_getElem h2) hj) p (h.post j _ (by omega) (List.getElem?_eq_getElem h2)).1
            rw [u1] at this; cases this
        refine wpOp_same (A := (prL l p o1 o2).toArray) (i := p) (by simpa using h.p0) hoa (h.gd o2 (List.mem_of_getElem? h.a2)) ?_
        refine draw_step hLl hcal htr hI2 h.p0 (by rw [preL_get (by omega), if_neg (by omega)]) (fun j hj => by rw [h.d2] at hj; cases hj) (fun j q hq hjp hm _ => ?_) (fun a' w' hI' => ih _ a' w' (.inr ?_) hcnt)
        · rcases h.at_ hq with ⟨_, hql⟩ | ⟨e, _⟩ | ⟨e, _⟩
          · rw [h.pre j q hjp hql] at hm; cases hm
          · omega
          · omega
        · have hg2 : ∀ j, ((preL listed p).setIfInBounds p true).getD j true = if j = p then true else (preL listed p).getD j true := fun j => getD_set hz2
          refine ⟨by simp [hI.size], fun k ok hk hkl j hj => ?_, ?_, ?_, fun j h1 h2 => ?_, _, hI', ?_, ?_, fun j hj => ?_⟩
          · rw [hgs] at hkl ⊢
            by_cases hjk : j = p + 1
            · rw [if_pos hjk]
            · rw [if_neg hjk]
              by_cases hkp : k = p + 1
              · subst hkp
                rw [h.a2] at hk; injection hk with hk; subst hk
                rw [h.d2] at hj; cases hj
              · rw [if_neg hkp] at hkl
                exact hI.closed k ok hk hkl j hj
          · rw [hgs, if_neg (by omega)]; exact u1
          · rw [hgs, if_pos rfl]
          · rw [hgs, if_neg (by omega)]; exact late j h1 h2
          · rw [hg2, if_pos rfl]
          · rw [hg2, if_neg (by omega), preL_get (by omega), if_neg (by omega)]
          · rw [hg2, if_neg (by omega), preL_get (by omega), if_pos hj, hgs, if_neg (by omega)]
      · refine draw_step hl h.toCalmO ht hI ho hu hd (fun j q hq hji hm hml => ?_) (fun a' w' hI' => ih _ a' w' (.inl ⟨hI', fun hp1 => ?_⟩) hcnt)
        · rcases h.mem i j o q ho hq hji hm hml with ⟨e1, e2⟩ | e | e
          · left
            rw [e1]
            cases hpv : listed.getD p true with
            | true => rfl
            | false => exact absurd ⟨e2, hpv⟩ htrn
          · exact .inl (hancl j e)
          · exact .inr e
        · rw [hgs] at hp1 ⊢
          by_cases hip : p = i
          · rw [if_pos hip]
          · rw [if_neg hip]
            by_cases hip1 : p + 1 = i
            · cases hpv : listed.getD p true with
              | true => rfl
              | false => exact absurd ⟨hip1.symm, hpv⟩ htrn
            · rw [if_neg hip1] at hp1; exact hord hp1
    · obtain ⟨L, hL, q1, q2, q3⟩ := hI.st
      have hLz : L.size = p + 2 := by rw [hL.size, h.len]
      rcases Nat.lt_trichotomy i p with e | e | e
      · have hLg : ∀ j, (L.setIfInBounds i true).getD j true = if j = i then true else L.getD j true := fun j => getD_set (by omega)
        refine wpOp_same (A := (prL l p o1 o2).toArray) (i := i) (by simpa using h.lo e ho) hoa (h.gd o (List.mem_of_getElem? ho)) ?_
        refine draw_step hLl hcal htr hL (h.lo e ho) (by rw [q3 i e]; exact hu) (fun j hj => ?_) (fun j q hq hji hm _ => ?_) (fun a' w' hI' => ih _ a' w' (.inr ?_) hcnt)
        · have := h.dir i o ho j hj
          rw [q3 j (by omega)]; exact hd j hj
        · rcases h.at_ hq with ⟨_, hql⟩ | ⟨e1, _⟩ | ⟨e1, _⟩
          · rw [h.pre j q (by omega) hql] at hm; cases hm
          · omega
          · omega
        · refine ⟨by simp [hI.size], fun k ok hk hkl j hj => ?_, ?_, ?_, fun j h1 h2 => ?_, _, hI', ?_, ?_, fun j hj => ?_⟩
          · rw [hgs] at hkl ⊢
            by_cases hji : j = i
            · rw [if_pos hji]
            · rw [if_neg hji]
              by_cases hki : k = i
              · subst hki
                rw [ho] at hk; injection hk with hk; subst hk
                exact hd j hj
              · rw [if_neg hki] at hkl
                exact hI.closed k ok hk hkl j hj
          · rw [hgs, if_neg (by omega)]; exact hI.l1
          · rw [hgs, if_neg (by omega)]; exact hI.l2
          · rw [hgs, if_neg (by omega)]; exact hI.post j h1 h2
          · rw [hLg, if_neg (by omega)]; exact q1
          · rw [hLg, if_neg (by omega)]; exact q2
          · rw [hLg, hgs]
            by_cases hji : j = i
            · rw [if_pos hji, if_pos hji]
            · rw [if_neg hji, if_neg hji]; exact q3 j hj
      · subst e
        rw [h.a1] at ho; injection ho with ho; subst ho
        have hLg : ∀ j, (L.setIfInBounds (i + 1) true).getD j true = if j = i + 1 then true else L.getD j true := fun j => getD_set (by omega)
        refine wpOp_same (A := (prL l i o1 o2).toArray) (i := i + 1) (by simpa using h.p1) hoa (h.gd o1 (List.mem_of_getElem? h.a1)) ?_
        refine draw_step hLl hcal htr hL h.p1 q2 (fun j hj => by rw [h.d1] at hj; cases hj) (fun j q hq hji hm _ => ?_) (fun a' w' hI' => ih _ a' w' (.inl ⟨?_, fun _ => by rw [hgs, if_pos rfl]⟩) hcnt)
        · rcases h.at_ hq with ⟨hjp, hql⟩ | ⟨e1, _⟩ | ⟨e1, _⟩
          · rw [h.pre j q hjp hql] at hm; cases hm
          · rw [e1]; exact .inl q1
          · omega
        · exact h.finish ht hv hI.size hI.closed hI.l2 hI.post hI' (by rw [hLg, if_neg (by omega)]; exact q1) (by rw [hLg, if_pos rfl]) (fun j hj => by rw [hLg, if_neg (by omega)]; exact q3 j hj)
      · by_cases e2 : i = p + 1
        · rw [e2, hI.l2] at hu; cases hu
        · have := anc_listed h.toCalmO hI.closed hI.size (i + 1) i o (by omega) ho hd p (h.post i o (by omega) ho).1
          rw [hI.l1] at this; cases this
end
def isAl : Op → Option TypeId
  | .alloc T => some T
  | _ => none
theorem isAl_eq {o : Op} {T : TypeId} (h : isAl o = some T) : o = .alloc T := by
  unfold isAl at h
  split at h
  · injection h with h; rw [h]
  · cases h
def calmX (p0 : Nat) (ops : Array Oper) : Bool :=
  let l := ops.toList
  let an := ancs l
  let n := l.length
  let isAnc (j i : Nat) : Bool := ((an[i]?).getD ⟨0⟩).contains j
  (List.range n).all fun i => match l[i]? with
    | none => true
    | some o => (dirs o).all (fun j => decide (j < i)) && (List.range n).all fun j => match l[j]? with
      | none => true
      | some p =>
        (match p.dst with
          | some t => (!(readsOf ops o).contains t || j == i || (decide (j < i) && isAnc j i) || (decide (i < j) && isAnc i j)) && (j == i || o.dst != some t)
          | none => true) &&
        (!(decide (j < i)) || !(isMem false p.op) || !(isMem false o.op || isLd o.op) || isAnc j i || (isLd o.op && isCall p.op) || (j == p0 && i == p0 + 1))
/-- two boxes are made, in an open order, at p and behind it; all else is calm -/
def pairP (p : Nat) (ops : Array Oper) : Bool :=
  match ops.toList[p]?, ops.toList[p + 1]? with
  | some o1, some o2 => (match isAl o1.op, isAl o2.op with
      | some T, some T' => Nat.beq T T'
      | _, _ => false) && (dirs o1).isEmpty && (dirs o2).isEmpty && (ops.toList.all fun o => o.guard.isNone) && ((List.range p).all fun i => match ops.toList[i]? with
        | some o => !isMem false o.op
        | none => true) && ((List.range ops.toList.length).all fun i => !decide (p + 1 < i) || ((((ancs ops.toList)[i]?).getD ⟨0⟩).contains p && (((ancs ops.toList)[i]?).getD ⟨0⟩).contains (p + 1))) && calmX p ops
  | _, _ => false
theorem calmX_of {p0 : Nat} {ops : Array Oper} (h : calmX p0 ops = true) : CalmO ops.toList ops (ancs ops.toList) ∧ ∀ (i j : Nat) (o q : Oper), ops.toList[i]? = some o → ops.toList[j]? = some q → j < i → isMem false q.op = true → (isMem false o.op = true ∨ isLd o.op = true) → (j = p0 ∧ i = p0 + 1) ∨ j ∈ ((ancs ops.toList)[i]?).getD ⟨0⟩ ∨ (isLd o.op = true ∧ freeAt ops j = true) := by
  unfold calmX at h
  simp only [List.all_eq_true, List.mem_range] at h
  have hb : ∀ (i : Nat) (o : Oper), ops.toList[i]? = some o → i < ops.toList.length := fun i o ho => (List.getElem?_eq_some_iff.1 ho).1
  have hdir : ∀ (i : Nat) (o : Oper), ops.toList[i]? = some o → ∀ j ∈ dirs o, j < i := by
    intro i o ho j hj
    have := h i (hb i o ho)
    rw [ho] at this
    simp only [Bool.and_eq_true, List.all_eq_true, decide_eq_true_eq] at this
    exact this.1 j hj
  have hpair : ∀ (i j : Nat) (o p : Oper), ops.toList[i]? = some o → ops.toList[j]? = some p → _ := fun i j o p ho hp => by
    have := h i (hb i o ho)
    rw [ho] at this
    simp only [Bool.and_eq_true, List.all_eq_true, decide_eq_true_eq, List.mem_range] at this
    have := this.2 j (hb j p hp)
    rw [hp] at this
    simp only [Bool.and_eq_true] at this
    exact this
  refine ⟨⟨hdir, fun i o ho j hj => ?_, fun i j o p t ho hp ht hr => ?_, fun i j o p t ho hp ht hd => ?_⟩, fun i j o p ho hp hji hm hml => ?_⟩
  · obtain ⟨_, h2, h3⟩ := foldl_snoc_get (fun (acc : List AS) (o : Oper) => (⟨(dirs o).foldl (asOr acc) 0⟩ : AS)) ops.toList []
    obtain ⟨pre, q1, q2⟩ := h3 i o ho
    simp only [List.length_nil, Nat.zero_add] at q1 q2
    have q1' : (ancs ops.toList)[i]? = some ⟨(dirs o).foldl (asOr pre) 0⟩ := q1
    rw [q1'] at hj
    simp only [Option.getD_some] at hj
    rcases dirs_fold pre _ _ j hj with hj | ⟨k, hk, hj⟩
    · exact absurd (AS.mem_iff.2 hj) (by simp [AS.contains])
    · refine ⟨k, hk, hj.imp id fun hj => ?_⟩
      have := q2 k (hdir i o ho k hk)
      rw [this] at hj
      exact hj
  · obtain ⟨h1, _⟩ := hpair i j o p ho hp
    rw [ht] at h1
    simp only [Bool.and_eq_true, Bool.or_eq_true, Bool.not_eq_true', beq_iff_eq, decide_eq_true_eq, AS.mem_iff] at h1
    have hc : (readsOf ops o).contains t = true := by simpa using hr
    rcases h1.1 with ((h1 | h1) | h1) | h1
    · rw [hc] at h1; cases h1
    · exact .inl h1
    · exact .inr (.inl ⟨h1.1, h1.2⟩)
    · exact .inr (.inr ⟨h1.1, h1.2⟩)
  · obtain ⟨h1, _⟩ := hpair i j o p ho hp
    rw [ht] at h1
    simp only [Bool.and_eq_true, Bool.or_eq_true, beq_iff_eq, bne_iff_ne] at h1
    rcases h1.2 with h1 | h1
    · exact h1
    · exact absurd hd h1
  · obtain ⟨_, h1⟩ := hpair i j o p ho hp
    simp only [Bool.or_eq_true, Bool.not_eq_true', decide_eq_false_iff_not, AS.mem_iff] at h1
    rcases h1 with ((((h1 | h1) | h1) | h1) | h1) | h1
    · exact absurd hji h1
    · rw [hm] at h1; cases h1
    · rcases hml with h2 | h2
      · rw [h2] at h1; simp at h1
      · rw [h2] at h1; simp at h1
    · exact .inr (.inl h1)
    · by_cases ha : j ∈ ((ancs ops.toList)[i]?).getD ⟨0⟩
      · exact .inr (.inl ha)
      right; right
      simp only [Bool.and_eq_true] at h1
      refine ⟨h1.1, ?_⟩
      unfold freeAt
      simp only [hp, Bool.and_eq_true, h1.2, true_and, List.any_eq_true, List.mem_range]
      refine ⟨i, hb i o ho, ?_⟩
      simp only [ho, Bool.and_eq_true, decide_eq_true_eq, h1.1, and_true, Bool.not_eq_true', AS.not_mem]
      exact ⟨hji, ha⟩
    · simp only [Bool.and_eq_true, beq_iff_eq] at h1
      exact .inl h1
theorem ancs_len (l : List Oper) : (ancs l).length = l.length := by
  obtain ⟨_, h2, _⟩ := foldl_snoc_get (fun (acc : List AS) (o : Oper) => (⟨(dirs o).foldl (asOr acc) 0⟩ : AS)) l []
  rw [List.length_nil, Nat.zero_add] at h2
  exact h2
theorem pairP_ok {p : Nat} {ops : Array Oper} (h : pairP p ops = true) : ∃ o1 o2 T, PairOK ops.toList ops (ancs ops.toList) p o1 o2 T := by
  unfold pairP at h
  split at h
  · rename_i o1 o2 h1 h2
    simp only [Bool.and_eq_true, List.all_eq_true, List.mem_range, Bool.or_eq_true, Bool.not_eq_true', decide_eq_false_iff_not, List.isEmpty_iff, Option.isNone_iff_eq_none] at h
    obtain ⟨⟨⟨⟨⟨⟨ha, hd1⟩, hd2⟩, hg⟩, hp⟩, hpo⟩, hc⟩ := h
    split at ha
    · rename_i T T' e1 e2
      have := Nat.eq_of_beq_eq_true ha
      subst this
      obtain ⟨c1, c2⟩ := calmX_of hc
      refine ⟨o1, o2, T, ⟨c1, hg, h1, h2, isAl_eq e1, isAl_eq e2, hd1, hd2, fun i o hi ho => ?_, fun i o hi ho => ?_, c2⟩⟩
      · have := hp i hi
        rw [ho] at this
        simpa using this
      · have := hpo i (List.getElem?_eq_some_iff.1 ho).1
        rcases this with h | h
        · exact absurd hi h
        · exact ⟨AS.mem_iff.1 h.1, AS.mem_iff.1 h.2⟩
    · cases ha
  · cases h
def chkP (p : Nat) (ops : Array Oper) (s s' : St) : Bool :=
  s.tmps.all (refB s.μ.boxes.length s.μ.toks.length s.μ.objs.length 50) && (s.μ.boxes.all fun B => B.cells.all (refB s.μ.boxes.length s.μ.toks.length s.μ.objs.length 50)) && (List.range p).all fun j => match ops.toList[j]? with
    | some o => match o.dst with
      | some t => refB s.μ.boxes.length s.μ.toks.length s.μ.objs.length 50 (getT s'.tmps t)
      | none => true
    | none => true
theorem awp_draw_pair {ro : Option Nat} {P : Program} {s s' : St} {id p : Nat} {l : List Oper} (hm : P.follows .mixedOrders = true) (hp : pairP p l.toArray = true) (hk : chkP p l.toArray s s' = true) (h : ∀ Q : AX → St → Prop, Q .norm s' → drawQ false P l.toArray Q 0 l (ancs l) [] s) {Q : AX → St → Prop} (hQs : Q .norm s') : AWP ro P (.region id l.toArray true) Q s := by
  intro G a w hs
  obtain ⟨o1, o2, T, hC⟩ := pairP_ok hp
  rw [List.toList_toArray] at hC
  obtain ⟨sts, vals, e0, ht, hq⟩ := trace_of (P := P) (ops := l.toArray) (Q := fun _ t => t = s') (l := l) (an := ancs l) (by simp) l (ancs l) 0 [] (fun _ => s) (fun _ => .undef) (fun k => by simp) (fun k => by simp) (h _ rfl) (fun j hj => by omega) (fun j oj hj => by omega)
  rw [Nat.zero_add] at ht hq
  have e0 : sts 0 = s := e0
  have hlt := hC.lt
  refine wpIn_region_any hm ?_
  have hdr : Below w.heap.size w { w with drawn := w.drawn + 1 } := ?_
  have hI : DInv false l sts vals G w (Array.replicate l.toArray.size false) a { w with drawn := w.drawn + 1 } := by
    have g1 : Grw G w (G.grown w { w with drawn := w.drawn + 1 }) { w with drawn := w.drawn + 1 } := Grw.below hs.mem.zlt hdr
    have getf : ∀ j, j < l.length → (Array.replicate l.toArray.size false).getD j true = false := fun j hj => by simp [hj]
    refine ⟨by simp, fun i o ho hi => ?_, _, 0, g1, by rw [e0]; exact hs.mem.below hdr, hs.defers, by rw [e0]; exact hs.size, fun t x hx => ⟨fun j o ho hj => ?_, fun _ => ?_⟩, Nat.zero_le _, fun j o ho _ => ⟨fun hj => ?_, fun hj => by omega⟩⟩
    · rw [getf i (List.getElem?_eq_some_iff.1 ho).1] at hi; cases hi
    · rw [getf j (List.getElem?_eq_some_iff.1 ho).1] at hj; cases hj
    · have htl : t < s.tmps.length := by rw [← hs.size]; exact (Array.getElem?_eq_some_iff.1 hx).1
      rw [e0, getT_get, List.getElem?_eq_getElem htl]
      exact (hs.tmp t _ x (List.getElem?_eq_getElem htl) hx).grw g1
    · rw [getf j (List.getElem?_eq_some_iff.1 ho).1] at hj; cases hj
  have hv : PairVals l sts vals G p := by
    unfold chkP at hk
    simp only [Bool.and_eq_true, List.all_eq_true, List.mem_range, List.toList_toArray] at hk
    obtain ⟨⟨k1, k2⟩, k3⟩ := hk
    refine ⟨by rw [e0, hs.mem.len]; exact Nat.le_refl _, fun j o t hj ho hd htl => ?_, fun t => ?_, fun B hB => ?_⟩
    · have := k3 j hj
      rw [ho] at this
      simp only [hd] at this
      rw [e0]
      have hst := (slot_text hC.toCalmO ht t htl l.length (Nat.le_refl _)).1 j o (by omega) ho hd
      rw [← hst, hq]
      exact this
    · rw [e0, getT_get]
      cases hx : s.tmps[t]? with
      | none => rfl
      | some d => exact k1 d (List.mem_of_getElem? hx)
    · rw [e0] at hB ⊢
      rw [List.all_eq_true]
      exact k2 B hB
  refine hC.draw (by simp) (by rw [ancs_len]; omega) ht hv (fun listed a' w' hI' hall => ?_) _ _ _ _ (.inl ⟨hI, fun hp1 => ?_⟩) ?_
  · obtain ⟨G1, m, h1, h2, h3, h4, h5, h6, h7⟩ := hI'.state
    have hmm : (sts l.length).μ = (sts m).μ := mem_const ht m l.length h6 (Nat.le_refl _) fun j o hmj hj ho => by
      cases hmo : isMem false o.op with
      | false => exact .inl rfl
      | true =>
        have := (h7 j o ho hmo).1 (hall j)
        omega
    refine ⟨.norm, sts l.length, G1, trivial, by rw [hq]; exact hQs, ⟨by rw [h4, tmps_len ht _ (Nat.le_refl _)], fun t d x hd hx => ?_, h3, by rw [hmm]; exact h2⟩, h1⟩
    have htl : t < (sts 0).tmps.length := by
      have := (List.getElem?_eq_some_iff.1 hd).1
      rwa [tmps_len ht _ (Nat.le_refl _)] at this
    have hdv : getT (sts l.length).tmps t = d := by rw [getT_get, hd]; rfl
    obtain ⟨s1, s2⟩ := slot_text hC.toCalmO ht t htl l.length (Nat.le_refl _)
    obtain ⟨q1, q2⟩ := h5 t x hx
    rw [← hdv]
    by_cases hex : ∃ (j : Nat) (p : Oper), l[j]? = some p ∧ p.dst = some t
    · obtain ⟨j, p, hp, hpd⟩ := hex
      rw [s1 j p (List.getElem?_eq_some_iff.1 hp).1 hp hpd]
      exact q1 j p hp (hall j) hpd
    · rw [s2 fun j p _ hp hpd => hex ⟨j, p, hp, hpd⟩]
      exact q2 fun j p hp _ hpd => hex ⟨j, p, hp, hpd⟩
  · simp [hlt] at hp1
  · refine Nat.le_trans List.countP_le_length ?_
    simp
  · exact ⟨rfl, rfl, rfl, Nat.le_refl _, fun _ _ => rfl⟩
end Go.Proofs.YtikfefjaeejeeaaGreatDoor
