/- The abstract machine, 11: loops with the slots that are kept; small words for the walks. -/
import Derived.Test.YtmhpccchgbdiiaaGreatDoorAeA
import Derived.Scope
namespace Go.Proofs.YtmhpccchgbdiiaaGreatDoor
open Go.RowKit

def maskT (ks : List Nat) : Nat → List DV → List DV
  | _, [] => []
  | i, d :: r => (if ks.elem i = true then d else .undef) :: maskT ks (i + 1) r
def St.keep (ks : List Nat) (s : St) : St := ⟨maskT ks 0 s.tmps, s.μ⟩
theorem maskT_length (ks : List Nat) : ∀ (i : Nat) (l : List DV), (maskT ks i l).length = l.length
  | _, [] => rfl
  | i, d :: r => by simp [maskT, maskT_length ks (i + 1) r]
theorem maskT_get (ks : List Nat) : ∀ (i : Nat) (l : List DV) (j : Nat) (d : DV), (maskT ks i l)[j]? = some d → d = .undef ∨ l[j]? = some d
  | _, [], j, d, h => by simp [maskT] at h
  | i, e :: r, 0, d, h => by
    simp only [maskT, List.getElem?_cons_zero, Option.some.injEq] at h
    subst h
    split
    · right; rfl
    · left; rfl
  | i, e :: r, j + 1, d, h => by
    simp only [maskT, List.getElem?_cons_succ] at h ⊢
    exact maskT_get ks (i + 1) r j d h
theorem SRel.keep {G : Gh} {s : St} {a : Act} {w : World} (h : SRel G s a w) (ks : List Nat) : SRel G (s.keep ks) a w := by
  refine ⟨by rw [h.size]; exact (maskT_length ks 0 s.tmps).symm, fun i d x hd hx => ?_, h.defers, h.mem⟩
  rcases maskT_get ks 0 s.tmps i d hd with rfl | hd
  · exact .undef _
  · exact h.tmp i d x hd hx
section
variable {ro : Option Nat} {P : Program} {ops : Array Oper} {Q : AX → St → Prop} {s : St}
theorem awp_keep (ks : List Nat) {c : Code} (h : AWP ro P c Q (s.keep ks)) : AWP ro P c Q s := fun G a w hs => h G a w (hs.keep ks)
theorem post_keep {G : Gh} {w : World} {K : St → Prop} (ks : List Nat) {e : Exit} {a : Act} {w' : World} (h : Post G w (AX.next (fun s => K (s.keep ks)) Q) e a w') : Post G w (AX.next K Q) e a w' := by
  obtain ⟨x, s', G', h1, h2, h3, h4⟩ := h
  cases x with
  | norm => exact ⟨.norm, s'.keep ks, G', h1, h2, h3.keep ks, h4⟩
  | _ => exact ⟨_, s', G', h1, h2, h3, h4⟩
/-- A LOOP: what holds at its head of the slots that are kept, with a number that each round lowers -/
theorem awp_loopk {c : Code} (ks : List Nat) (I : Nat → St → Prop) (n : Nat) (h0 : I n (s.keep ks)) (round : ∀ n s, I n s → ∀ K : St → Prop, (∀ s', (∃ n', n' < n ∧ I n' (s'.keep ks)) → K s') → AWP ro P c (AX.next K Q) s) : AWP ro P (.loop c) Q s :=
  awp_keep ks (awp_loop I n h0 fun n s hI G a w hs => wpIn_mono (round n s hI _ (fun _ h => h) G a w hs) fun _ _ _ h => post_keep ks h)
theorem awp_cond' {c : Operand} {x y : Code} (h : ∃ t : Bool, s.ev c = .p (.v (.bool t)) ∧ (t = true → AWP ro P x Q s) ∧ (t = false → AWP ro P y Q s)) : AWP ro P (.cond c x y) Q s := by
  obtain ⟨t, h1, h2, h3⟩ := h
  exact awp_cond h1 h2 h3
def AX.noGo (Q : AX → St → Prop) : AX → St → Prop
  | .goto _, _ => False
  | x, s => Q x s
theorem stepR_scope {b : Frame} {a : Act} {k : List Item} {cs : List Frame} {w : World} {c : Code} : step P (lone (b.atR a (.code (.scope c) :: k)) cs w) = .next (lone (b.atR a (.code c :: .inScope c :: k)) cs w) :=
  step_lone_go (by simp [stepG, stepG.exec, Frame.atR])
theorem stepR_inScope {b : Frame} {a : Act} {k : List Item} {cs : List Frame} {w : World} {c : Code} : step P (lone (b.atR a (.inScope c :: k)) cs w) = .next (lone (b.atR a k) cs w) :=
  step_lone_go (by simp [stepG, stepG.exec, Frame.atR])
theorem wpIn_scope_straight {F : Fence} {n : Nat} {Q : Exit → Act → World → Prop} {a : Act} {w : World} {c : Code} (h : c.wpIn F n P (Exit.noGoto Q) a w) : (Code.scope c).wpIn F n P Q a w := by
  intro b k cs hro hb hr
  have h0 : (lone (b.atR a (.code (.scope c) :: k)) cs w).fenced P F := fenced_calm hb hr rfl
  obtain ⟨e, a₁, w₁, hq, harr⟩ := h b (.inScope c :: k) cs hro hb hr
  have hx : ∀ id, exitTo id (.inScope c :: k) = exitTo id k := fun id => by simp [exitTo]
  cases e with
  | normal => exact ⟨.normal, a₁, w₁, hq, .head h0 stepR_scope (StepsIn.trans harr (.one (fenced_calm hb hr rfl) stepR_inScope))⟩
  | exit id => exact ⟨.exit id, a₁, w₁, hq, ArrivesIn.of_steps (.one h0 stepR_scope) ⟨fun k' hk => harr.1 k' (by rw [hx]; exact hk), fun hr hk => harr.2 hr (by rw [hx]; exact hk)⟩⟩
  | goto l => exact hq.elim
  | ret => exact ⟨_, a₁, w₁, hq, ArrivesIn.of_steps (.one h0 stepR_scope) harr⟩
  | panic ch => exact ⟨_, a₁, w₁, hq, ArrivesIn.of_steps (.one h0 stepR_scope) harr⟩
  | outgrown => exact ⟨_, a₁, w₁, hq, ArrivesIn.of_steps (.one h0 stepR_scope) harr⟩
theorem awp_scope {c : Code} (h : AWP ro P c (AX.noGo Q) s) : AWP ro P (.scope c) Q s := by
  intro G a w hs
  refine wpIn_scope_straight (wpIn_mono (h G a w hs) fun e a' w' hp => ?_)
  obtain ⟨x, s', G', h1, h2, h3, h4⟩ := hp
  cases x <;> cases e <;> first
    | (exact h1.elim; done)
    | (exact h2.elim; done)
    | (exact ⟨_, s', G', h1, h2, h3, h4⟩)
theorem nogo_norm (h : Q .norm s) : AX.noGo Q .norm s := h
theorem nogo_exit {i : Nat} (h : Q (.exit i) s) : AX.noGo Q (.exit i) s := h
theorem nogo_ret (h : Q .ret s) : AX.noGo Q .ret s := h
theorem nogo_panic {d : DV} (h : Q (.panic d) s) : AX.noGo Q (.panic d) s := h
end
/-- so many slots, these of them known (in their order) -/
def mkS : Nat → Nat → List (Nat × DV) → List DV
  | _, 0, _ => []
  | i, n + 1, [] => .undef :: mkS (i + 1) n []
  | i, n + 1, (j, d) :: r => if i = j then d :: mkS (i + 1) n r else .undef :: mkS (i + 1) n ((j, d) :: r)
def mkT (n : Nat) (l : List (Nat × DV)) : List DV := mkS 0 n l
theorem wrap64_id {x : Int} (h0 : -9223372036854775808 ≤ x) (h1 : x < 9223372036854775808) : IntKind.i64.wrap x = x := by rw [IntKind.wrap_i64]; omega
theorem wrap64_succ {k : Nat} (h : k < 9223372036854775807) : IntKind.i64.wrap ((k : Int) + 1) = ((k + 1 : Nat) : Int) := by rw [IntKind.wrap_i64]; omega
theorem wrapu64_id {x : Int} (h0 : 0 ≤ x) (h1 : x < 18446744073709551616) : IntKind.u64.wrap x = x := by show x % 18446744073709551616 = x; omega
def nums (k : IntKind) (xs : List Int) : List PD := xs.map fun x => .v (.int k x)
theorem nums_length (k : IntKind) (xs : List Int) : (nums k xs).length = xs.length := by simp [nums]
theorem nums_get {k : IntKind} {xs : List Int} {i : Nat} {x : Int} (h : xs[i]? = some x) : (nums k xs)[i]? = some (.v (.int k x)) := by simp [nums, h]
theorem nums_sized (k : IntKind) (xs : List Int) : sized 1 (nums k xs) := by
  intro d hd
  simp only [nums, List.mem_map] at hd
  obtain ⟨x, _, rfl⟩ := hd
  rfl
theorem nums_append (k : IntKind) (xs ys : List Int) : nums k xs ++ nums k ys = nums k (xs ++ ys) := by simp [nums]
theorem nums_snoc (k : IntKind) (xs : List Int) (y : Int) : nums k xs ++ [.v (.int k y)] = nums k (xs ++ [y]) := by simp [nums]
end Go.Proofs.YtmhpccchgbdiiaaGreatDoor
