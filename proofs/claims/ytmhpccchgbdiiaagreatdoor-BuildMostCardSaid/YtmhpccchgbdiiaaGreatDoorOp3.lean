/- The package variables that are laid. -/
import Derived.Test.YtmhpccchgbdiiaaGreatDoorAe0
import Derived.Test.YtmhpccchgbdiiaaGreatDoorRows
import Derived.OpenShut
import Derived.LaidMore
import Derived.LaidLaws
import Derived.LaidHandle
import Derived.MakeChecks
namespace Go.Proofs.YtmhpccchgbdiiaaGreatDoor
open Go.RowKit
def gType (P : Program) (n : String) : Option TypeId := (P.globalNamed n).bind fun g => (P.globals[g]?).map (·.type)
/-- an array of numbers: their kind -/
def arrK (P : Program) (t : TypeId) : Option IntKind := match P.underlying t with
  | some (.array n e) => match P.underlying e with
    | some (.int k) => if (Nat.beq (P.cellsOf e) 1 && Nat.beq (P.cellsOf t) n) = true then some k else none
    | _ => none
  | _ => none
def isIf (P : Program) (t : TypeId) : Option Unit := match P.underlying t with
  | some (.interface _) => some ()
  | _ => none
theorem laidVars_mem {P : Program} {w : World} : ∀ {laid : List (String × DataW Unit)} {ps : List MemPlace}, DataW.LaidVars P w laid ps → ∀ n d, (n, d) ∈ laid →
    ∃ g t cs fuel p, P.globalNamed n = some g ∧ (P.globals[g]?).map (·.type) = some t ∧ w.var? P n = some cs ∧ DataW.trod (fun _ => ()) P w 0 (fun _ => true) false fuel t cs.toList = some (d, p)
  | [], _, _, n, d, hm => by cases hm
  | (n0, d0) :: r, ps, h, n, d, hm => by
    obtain ⟨g, t, cs, fuel, p, q, h1, h2, h3, h4, h5, _⟩ := h
    rcases List.mem_cons.1 hm with he | hm
    · cases he
      exact ⟨g, t, cs, fuel, p, h1, h2, h3, h4⟩
    · exact laidVars_mem h5 n d hm
theorem var_heap {P : Program} {w : World} {n : String} {g : Nat} {cs : Array Value} (hg : P.globalNamed n = some g) (h : w.var? P n = some cs) : ∃ t q, w.heap[g]? = some (.cells cs t q) := by
  simp only [World.var?, hg, Option.bind_some] at h
  split at h
  · rename_i c t q hc
    injection h with h
    subst h
    exact ⟨t, q, hc⟩
  · cases h
theorem lt_of_heap {w : World} {g : Nat} {o : Obj} (h : w.heap[g]? = some o) : g < w.heap.size := (Array.getElem?_eq_some_iff.1 h).1
theorem laid_arr {P : Program} {w : World} {laid : List (String × DataW Unit)} (h : laidMet P laid w) {n : String} {k : IntKind} {l : List Int} {g : Nat} (hm : (n, DataW.agg (l.map fun z => .lit (.int k z))) ∈ laid) (hk : (gType P n).bind (arrK P) = some k) (hg : P.globalNamed n = some g) :
    g < w.heap.size ∧ glbOK w (g, some (l.map (Value.int k))) := by
  obtain ⟨ps, hv, _⟩ := h
  obtain ⟨g', t, cs, fuel, p, h1, h2, h3, h4⟩ := laidVars_mem hv _ _ hm
  obtain rfl := Option.some.inj (hg.symm.trans h1)
  unfold gType at hk
  rw [hg] at hk
  simp only [Option.bind_some] at hk
  rw [h2] at hk
  simp only [Option.bind_some] at hk
  unfold arrK at hk
  split at hk
  · rename_i n0 e hu
    split at hk
    · rename_i k' hue
      split at hk
      · rename_i hc
        injection hk with hk
        subst hk
        rw [Bool.and_eq_true] at hc
        have hct := Nat.eq_of_beq_eq_true hc.2
        have hc := Nat.eq_of_beq_eq_true hc.1
        obtain ⟨xs, m, rfl, hx, hl, hxl, he⟩ := DataW.trod_array hu h4
        simp only [Prod.mk.injEq, DataW.agg.injEq] at hx
        have hcells : cs.toList = l.map (Value.int k') := by
          have hln : l.length = n0 := by
            have := congrArg List.length hx.1
            simp only [List.length_map] at this
            omega
          have hl2 : cs.toList.length = n0 := by
            rw [hl, hct]
          refine List.ext_getElem (by simp only [List.length_map]; omega) fun i hi1 hi2 => ?_
          have hi : i < n0 := by omega
          have h0 := he i hi
          rw [hc, List.getElem?_eq_getElem (by omega)] at h0
          obtain ⟨z, e1, e2, _⟩ := DataW.trod_int hue h0
          have e3 : (cs.toList.drop (i * 1)).take 1 = [cs.toList[i]] := by
            rw [Nat.mul_one, List.drop_eq_getElem_cons hi1]; rfl
          rw [e3] at e1
          injection e1 with e1 _
          rw [e1]
          have e4 := congrArg (fun q => q[i]?) hx.1
          simp only [List.getElem?_map] at e4
          rw [List.getElem?_eq_getElem (by omega), List.getElem?_eq_getElem (by omega)] at e4
          simp only [Option.map_some, Option.some.injEq] at e4
          rw [e2] at e4
          simp only [DataW.lit.injEq, Lit.int.injEq, true_and] at e4
          simp [e4]
        obtain ⟨t', q, hh⟩ := var_heap hg h3
        refine ⟨lt_of_heap hh, ?_⟩
        unfold glbOK
        simp only
        refine ⟨t', q, ?_⟩
        rw [hh, ← hcells]
      · cases hk
    · cases hk
  · cases hk
theorem laid_if {P : Program} {w : World} {laid : List (String × DataW Unit)} (h : laidMet P laid w) {n s : String} {d : DataW Unit} {g : Nat} (hm : (n, DataW.iface s d) ∈ laid) (hk : (gType P n).bind (isIf P) = some ()) (hg : P.globalNamed n = some g) :
    g < w.heap.size ∧ glbOK w (g, none) := by
  obtain ⟨ps, hv, _⟩ := h
  obtain ⟨g', t, cs, fuel, p, h1, h2, h3, h4⟩ := laidVars_mem hv _ _ hm
  obtain rfl := Option.some.inj (hg.symm.trans h1)
  unfold gType at hk
  rw [hg] at hk
  simp only [Option.bind_some] at hk
  rw [h2] at hk
  simp only [Option.bind_some] at hk
  unfold isIf at hk
  split at hk
  · rename_i ms hu
    obtain ⟨_, u, v, hcs, _⟩ := iface_of_trod hu h4
    obtain ⟨t', q, hh⟩ := var_heap hg h3
    refine ⟨lt_of_heap hh, ?_⟩
    unfold glbOK
    simp only
    refine ⟨t', q, u, v, ?_⟩
    rw [hh]
    have : cs = #[.iface u v] := by
      rw [← Array.toList_inj]; exact hcs
    rw [this]
  · cases hk
end Go.Proofs.YtmhpccchgbdiiaaGreatDoor
