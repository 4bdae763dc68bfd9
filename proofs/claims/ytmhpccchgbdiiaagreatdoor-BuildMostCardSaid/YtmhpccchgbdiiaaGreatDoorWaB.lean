/- Contracts of calls and contracts of the machine: plain values. -/
import Derived.Test.YtmhpccchgbdiiaaGreatDoorAeU
namespace Go.Proofs.YtmhpccchgbdiiaaGreatDoor
open Go.RowKit
/-- a value with nothing behind it -/
def plainD : PD → Option Value
  | .v x => some x
  | .tup l => some (.tuple (l.map fun d => match d with | .v x => x | _ => .nilIface).toArray)
  | _ => none
def flat : PD → Bool
  | .v _ => true
  | .tup l => l.all fun d => match d with | .v _ => true | _ => false
  | _ => false
theorem plain_rel {Z : Nat → Nat → Prop} {w : World} {d : PD} {x v : Value} (h : PRel Z w d x) (hf : flat d = true) (hv : plainD d = some v) : x = v := by
  cases h with
  | v x => injection hv
  | agg cs vs hl h => cases hv
  | tup cs vs hl h =>
    injection hv with hv
    subst hv
    congr 1
    apply Array.ext
    · simp [hl]
    · intro i h1 h2
      have hi : i < cs.length := by rw [← hl]; exact h1
      have := h i cs[i] vs[i] (List.getElem?_eq_getElem hi) (Array.getElem?_eq_getElem h1)
      simp only [flat, List.all_eq_true] at hf
      have hfi := hf _ (List.getElem_mem hi)
      simp only [List.getElem_toArray, List.getElem_map]
      generalize cs[i] = c at this hfi
      generalize vs[i] = y at this
      cases this <;> first | rfl | cases hfi
  | sl els A c sz val hc hm hs hA hr => cases hv
theorem plain_is {Z : Nat → Nat → Prop} {w : World} {d : PD} {v : Value} (hf : flat d = true) (hv : plainD d = some v) : PRel Z w d v := by
  cases d with
  | v x => injection hv with hv; subst hv; exact .v x
  | agg cs => cases hv
  | sl els => cases hv
  | tup cs =>
    injection hv with hv
    subst hv
    refine .tup _ _ (by simp) fun i d x hd hx => ?_
    simp only [flat, List.all_eq_true] at hf
    have hfi := hf _ (List.mem_of_getElem? hd)
    simp only [List.getElem?_toArray, List.getElem?_map, hd, Option.map_some, Option.some.injEq] at hx
    cases d <;> first | (subst hx; exact .v _) | cases hfi
def plainL (l : List PD) : Option (List Value) := match l with
  | [] => some []
  | d :: r => match plainD d, plainL r with
    | some v, some vs => some (v :: vs)
    | _, _ => none
theorem plainL_rel {Z : Nat → Nat → Prop} {w : World} : ∀ {ds : List PD} {xs vs : List Value}, xs.length = ds.length → (∀ (i : Nat) (d : PD) (x : Value), ds[i]? = some d → xs[i]? = some x → PRel Z w d x) → ds.all flat = true → plainL ds = some vs → xs = vs
  | [], [], vs, _, _, _, h => by injection h
  | [], _ :: _, vs, hl, _, _, _ => by simp at hl
  | _ :: _, [], vs, hl, _, _, _ => by simp at hl
  | d :: r, x :: xs, vs, hl, hx, hf, h => by
    simp only [plainL] at h
    split at h
    · rename_i v vs' hv hvs
      injection h with h; subst h
      simp only [List.all_cons, Bool.and_eq_true] at hf
      have e1 := plain_rel (hx 0 d x rfl rfl) hf.1 hv
      have e2 : xs = vs' := plainL_rel (by simpa using hl) (fun i d x hd hx' => hx (i + 1) d x (by simpa using hd) (by simpa using hx')) hf.2 hvs
      rw [e1, e2]
    · cases h
/-- out of a contract of calls -/
theorem pure_of_calls {P : Program} {f : FuncId} {args : List PD} {d : PD} {vs : List Value} {v : Value} (hc : ∃ fn c, Callable P f fn c) (ha : args.all flat = true) (hv : plainL args = some vs) (hd : flat d = true) (hdv : plainD d = some v)
    (h : ∀ w, LaidW w.heap.size w → Calls P f vs.toArray w fun e w' => e = .returned v ∧ Below w.heap.size w w') : Pure P f args (.ret d) := by
  refine ⟨hc, fun Z w xs hlw hz hx => ?_⟩
  have : xs.toList = vs := plainL_rel (by rw [Array.length_toList]; exact hx.1) (fun i d x hd hx' => hx.2 i d x hd (by rwa [Array.getElem?_toList] at hx')) ha hv
  obtain rfl : xs = vs.toArray := by rw [← this]
  refine (h w hlw).mono ?_
  rintro e w' ⟨rfl, hb⟩
  exact ⟨plain_is hd hdv, hb⟩
/-- into one -/
theorem calls_of_pure {P : Program} {f : FuncId} {args : List PD} {d : PD} {vs : List Value} {v : Value} (h : Pure P f args (.ret d)) (ha : args.all flat = true) (hv : plainL args = some vs) (hd : flat d = true) (hdv : plainD d = some v) (w : World) (hlw : LaidW w.heap.size w) :
    Calls P f vs.toArray w fun e w' => e = .returned v ∧ Below w.heap.size w w' := by
  have hlen : ∀ {ds : List PD} {vs : List Value}, plainL ds = some vs → vs.length = ds.length := by
    intro ds
    induction ds with
    | nil => intro vs h; injection h with h; subst h; rfl
    | cons d r ih =>
      intro vs h
      simp only [plainL] at h
      split at h
      · rename_i v vs' _ hvs
        injection h with h; subst h
        simp [ih hvs]
      · cases h
  have hrel : ∀ {ds : List PD} {vs : List Value}, plainL ds = some vs → ds.all flat = true → ∀ (i : Nat) (d : PD) (x : Value), ds[i]? = some d → vs[i]? = some x → PRel (fun _ _ => False) w d x := by
    intro ds
    induction ds with
    | nil => intro vs _ _ i d x hd; simp at hd
    | cons d r ih =>
      intro vs h hf i e x he hx
      simp only [plainL] at h
      split at h
      · rename_i v vs' hv hvs
        injection h with h; subst h
        simp only [List.all_cons, Bool.and_eq_true] at hf
        cases i with
        | zero =>
          simp at he hx
          subst he; subst hx
          exact plain_is hf.1 hv
        | succ i => exact ih hvs hf.2 i e x (by simpa using he) (by simpa using hx)
      · cases h
  refine (h.2 (fun _ _ => False) w vs.toArray hlw (fun _ _ h => h.elim) ⟨by simpa using hlen hv, fun i d x hd hx => hrel hv ha i d x hd (by simpa using hx)⟩).mono ?_
  intro e w' he
  cases e with
  | returned x => exact ⟨by rw [plain_rel he.1 hd hdv], he.2⟩
  | panicked ch => exact he.elim
  | outgrown => exact he.elim
end Go.Proofs.YtmhpccchgbdiiaaGreatDoor
