/- The abstract machine, 18: boxes that nothing leads to any more are forgotten. -/
import Derived.Test.YtmhpccchgbdiiaaGreatDoorAeJ
namespace Go.Proofs.YtmhpccchgbdiiaaGreatDoor
open Go.RowKit

def Mem.cut (nb nt no : Nat) (μ : Mem) : Mem := ⟨μ.boxes.take nb, μ.toks.take nt, μ.objs.take no⟩
def Gh.cut (nb nt no : Nat) (G : Gh) : Gh := { G with bs := G.bs.take nb, tv := G.tv.take nt, mps := G.mps.take no }
/-- leads to what stays only -/
def refB (nb nt no : Nat) : Nat → DV → Bool
  | 0, _ => false
  | _ + 1, .row t _ => decide (t < nt)
  | _ + 1, .bsl b _ _ _ _ => decide (b < nb)
  | _ + 1, .loc b _ => decide (b < nb)
  | _ + 1, .mp m => decide (m < no)
  | _ + 1, .it m => decide (m < no)
  | k + 1, .agg cs => cs.all (refB nb nt no k)
  | k + 1, .tup cs => cs.all (refB nb nt no k)
  | k + 1, .fn _ cs => cs.all (refB nb nt no k)
  | _ + 1, _ => true
theorem take_get {α : Type} {l : List α} {n i : Nat} {x : α} (h : l[i]? = some x) (hi : i < n) : (l.take n)[i]? = some x := by
  rw [List.getElem?_take, if_pos hi]; exact h
theorem get_take {α : Type} {l : List α} {n i : Nat} {x : α} (h : (l.take n)[i]? = some x) : i < n ∧ l[i]? = some x := by
  rw [List.getElem?_take] at h
  split at h
  · exact ⟨by assumption, h⟩
  · cases h
theorem CRel.cut {G : Gh} {w : World} {nb nt no : Nat} : ∀ (k : Nat) {d : DV} {x : Value}, CRel G w d x → refB nb nt no k d = true → CRel (G.cut nb nt no) w d x := by
  intro k
  induction k with
  | zero => intro d x _ h; simp [refB] at h
  | succ k ih =>
    intro d x hx h
    cases hx with
    | undef x => exact .undef x
    | p d x hp => exact .p d x hp
    | agg cs vs hl hc =>
      simp only [refB, List.all_eq_true] at h
      exact .agg cs vs hl fun i d x hd hx => ih (hc i d x hd hx) (h d (List.mem_of_getElem? hd))
    | tup cs vs hl hc =>
      simp only [refB, List.all_eq_true] at h
      exact .tup cs vs hl fun i d x hd hx => ih (hc i d x hd hx) (h d (List.mem_of_getElem? hd))
    | row t els x y n hp ht hn he =>
      simp only [refB, decide_eq_true_eq] at h
      exact .row t els x y n hp (take_get ht h) hn he
    | bsl b off sz len cap g hg hc hm =>
      simp only [refB, decide_eq_true_eq] at h
      exact .bsl b off sz len cap g (take_get hg h) hc hm
    | fn f cs vs hl hc =>
      simp only [refB, List.all_eq_true] at h
      exact .fn f cs vs hl fun i d x hd hx => ih (hc i d x hd hx) (h d (List.mem_of_getElem? hd))
    | loc b o g hg =>
      simp only [refB, decide_eq_true_eq] at h
      exact .loc b o g (take_get hg h)
    | ep els i o g a c sz hp hi hs => exact .ep els i o g a c sz hp hi hs
    | cut0 A => exact .cut0 A
    | mp m g hg =>
      simp only [refB, decide_eq_true_eq] at h
      exact .mp m g (take_get hg h)
    | it m g hg =>
      simp only [refB, decide_eq_true_eq] at h
      exact .it m g (take_get hg h)
theorem MRel.cut {G : Gh} {μ : Mem} {w : World} (h : MRel G μ w) (nb nt no k : Nat) (hr : ∀ B ∈ μ.boxes.take nb, B.cells.all (refB nb nt no k) = true) : MRel (G.cut nb nt no) (μ.cut nb nt no) w := by
  refine ⟨h.bel, h.hb, h.zlt, h.zsub, ?_, ?_, fun i j g hi hj => h.inj i j g (get_take hi).2 (get_take hj).2, ?_, ?_, ?_, h.lw, ⟨?_, fun i j g hi hj => h.mp.inj i j g (get_take hi).2 (get_take hj).2, fun i g a ha hg => h.mp.at_ i g a (get_take ha).2 (get_take hg).2⟩⟩
  · show (G.bs.take nb).length = (μ.boxes.take nb).length
    simp [h.len]
  · show (G.tv.take nt).length = (μ.toks.take nt).length
    simp [h.tlen]
  · intro j B g hB hg
    obtain ⟨h1, vs, h2, h3, h4, h5⟩ := h.box j B g (get_take hB).2 (get_take hg).2
    have hB' := hr B (List.mem_of_getElem? hB)
    rw [List.all_eq_true] at hB'
    exact ⟨h1, vs, h2, h3, fun i d x hd hx => ⟨(h4 i d x hd hx).1.cut k (hB' d (List.mem_of_getElem? hd)), (h4 i d x hd hx).2⟩, h5⟩
  · intro t e s n ht
    obtain ⟨x, xs, h1, h2, h3, h4⟩ := h.tok t e s n (get_take ht).2
    exact ⟨x, xs, take_get h1 (get_take ht).1, h2, h3, fun g hg => ⟨(h4 g hg).1, fun j hj => (h4 g hg).2 j (get_take hj).2⟩⟩
  · intro t t' a a' x x' g h1 h2 k1 k2 b1 b2
    exact h.tne t t' a a' x x' g (get_take h1).2 (get_take h2).2 (get_take k1).2 (get_take k2).2 b1 b2
  · show (G.mps.take no).length = (μ.objs.take no).length
    simp [h.mp.len]
theorem Grw.cut {G0 G : Gh} {w0 w : World} (h : Grw G0 w0 G w) {nb nt no : Nat} (h1 : G0.bs.length ≤ nb) (h2 : G0.tv.length ≤ nt) (h3 : G0.mps.length ≤ no) : Grw G0 w0 (G.cut nb nt no) w := by
  refine ⟨h.base, h.w0, h.z0, h.z, h.cell, fun j g hg => take_get (h.bs j g hg) ?_, fun t n x ht => ?_, fun j g hg => take_get (h.mps j g hg) ?_, h.df, h.hsz, h.oth, fun j g hg => h.mnew j g (get_take hg).2⟩
  · have := (List.getElem?_eq_some_iff.1 hg).1; omega
  · obtain ⟨n', x', k1, k2, k3⟩ := h.tv t n x ht
    have := (List.getElem?_eq_some_iff.1 ht).1
    exact ⟨n', x', take_get k1 (by omega), k2, k3⟩
  · have := (List.getElem?_eq_some_iff.1 hg).1; omega
def St.cut (nb nt no : Nat) (s : St) : St := ⟨s.tmps, s.μ.cut nb nt no⟩
def St.refs (nb nt no k : Nat) (s : St) : Bool := s.tmps.all (refB nb nt no k) && (s.μ.boxes.take nb).all fun B => B.cells.all (refB nb nt no k)
theorem SRel.cut {G : Gh} {s : St} {a : Act} {w : World} (h : SRel G s a w) {nb nt no k : Nat} (hr : s.refs nb nt no k = true) : SRel (G.cut nb nt no) (s.cut nb nt no) a w := by
  unfold St.refs at hr
  rw [Bool.and_eq_true, List.all_eq_true, List.all_eq_true] at hr
  exact ⟨h.size, fun i d x hd hx => (h.tmp i d x hd hx).cut k (hr.1 d (List.mem_of_getElem? hd)), h.defers, h.mem.cut nb nt no k hr.2⟩

section
variable {ro : Option Nat} {P : Program} {ops : Array Oper} {Q : AX → St → Prop} {s : St}
/-- a loop whose rounds leave nothing behind in memory but in what was there -/
theorem awp_loopc {c : Code} (ks : List Nat) (nb nt no k : Nat) (I : Nat → St → Prop) (hI : ∀ n s, I n s → s.μ.boxes.length = nb ∧ s.μ.toks.length = nt ∧ s.μ.objs.length = no) (n : Nat) (h0 : I n (s.keep ks))
    (round : ∀ n s, I n s → ∀ K : St → Prop, (∀ s', (∃ n', n' < n ∧ I n' ((s'.keep ks).cut nb nt no)) → (s'.keep ks).refs nb nt no k = true → K s') → AWP ro P c (AX.next K Q) s) : AWP ro P (.loop c) Q s := by
  refine awp_keep ks (awp_loop I n h0 fun n s hI' G a w hs => ?_)
  obtain ⟨l1, l2, l3⟩ := hI n s hI'
  refine wpIn_mono (round n s hI' (fun s' => (∃ n', n' < n ∧ I n' ((s'.keep ks).cut nb nt no)) ∧ (s'.keep ks).refs nb nt no k = true) (fun s' h1 h2 => ⟨h1, h2⟩) G a w hs) fun e a' w' hp => ?_
  obtain ⟨x, s', G', h1, h2, h3, h4⟩ := hp
  cases x with
  | norm =>
    obtain ⟨⟨n', hn, hi⟩, hr⟩ := h2
    exact ⟨.norm, _, G'.cut nb nt no, by cases e <;> first | exact h1.elim | trivial, ⟨n', hn, hi⟩, (h3.keep ks).cut hr, h4.cut (by rw [hs.mem.len]; omega) (by rw [hs.mem.tlen]; omega) (by rw [hs.mem.mp.len]; omega)⟩
  | _ => exact ⟨_, s', G', h1, h2, h3, h4⟩
end
end Go.Proofs.YtmhpccchgbdiiaaGreatDoor
