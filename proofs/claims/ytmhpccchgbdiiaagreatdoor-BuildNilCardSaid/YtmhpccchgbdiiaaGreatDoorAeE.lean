/- The abstract machine, 14: a statement whose order is open, in whatever order. -/
import Derived.Test.YtmhpccchgbdiiaaGreatDoorAeD
namespace Go.Proofs.YtmhpccchgbdiiaaGreatDoor
open Go.RowKit

/-- what calm says of two operations -/
structure CalmOps (xc : Bool) (l : List Oper) (ops : Array Oper) (an : List AS) : Prop where
  dir : ∀ (i : Nat) (o : Oper), l[i]? = some o → ∀ j ∈ dirs o, j < i
  anc : ∀ (i : Nat) (o : Oper), l[i]? = some o → ∀ j ∈ (an[i]?).getD ⟨0⟩, ∃ k ∈ dirs o, j = k ∨ j ∈ (an[k]?).getD ⟨0⟩
  read : ∀ (i j : Nat) (o p : Oper) (t : Nat), l[i]? = some o → l[j]? = some p → p.dst = some t → t ∈ readsOf ops o → j = i ∨ (j < i ∧ j ∈ (an[i]?).getD ⟨0⟩) ∨ (i < j ∧ i ∈ (an[j]?).getD ⟨0⟩)
  dst : ∀ (i j : Nat) (o p : Oper) (t : Nat), l[i]? = some o → l[j]? = some p → p.dst = some t → o.dst = some t → j = i
  mem : ∀ (i j : Nat) (o p : Oper), l[i]? = some o → l[j]? = some p → j < i → isMem xc p.op = true → (isMem xc o.op = true ∨ isLd o.op = true) → j ∈ (an[i]?).getD ⟨0⟩ ∨ (isLd o.op = true ∧ freeAt ops j = true)
theorem foldl_snoc_get {α β : Type} (f : List β → α → β) : ∀ (l : List α) (acc : List β), (∀ i, i < acc.length → (l.foldl (fun acc o => acc ++ [f acc o]) acc)[i]? = acc[i]?) ∧ (l.foldl (fun acc o => acc ++ [f acc o]) acc).length = acc.length + l.length ∧
    ∀ i o, l[i]? = some o → ∃ pre, (l.foldl (fun acc o => acc ++ [f acc o]) acc)[acc.length + i]? = some (f pre o) ∧ ∀ k, k < acc.length + i → pre[k]? = (l.foldl (fun acc o => acc ++ [f acc o]) acc)[k]?
  | [], acc => ⟨fun i hi => rfl, by simp, fun i o h => by simp at h⟩
  | a :: r, acc => by
    obtain ⟨h1, h2, h3⟩ := foldl_snoc_get f r (acc ++ [f acc a])
    rw [List.foldl_cons]
    refine ⟨fun i hi => ?_, ?_, fun i o ho => ?_⟩
    · rw [h1 i (by simp; omega), List.getElem?_append_left hi]
    · rw [h2]; simp; omega
    · cases i with
      | zero =>
        simp only [List.getElem?_cons_zero, Option.some.injEq] at ho
        subst ho
        refine ⟨acc, ?_, fun k hk => ?_⟩
        · rw [Nat.add_zero, h1 _ (by simp)]; simp
        · rw [h1 k (by simp; omega), List.getElem?_append_left (by omega)]
      | succ i =>
        simp only [List.getElem?_cons_succ] at ho
        obtain ⟨pre, q1, q2⟩ := h3 i o ho
        have e : acc.length + (i + 1) = (acc ++ [f acc a]).length + i := by simp; omega
        rw [e]
        exact ⟨pre, q1, q2⟩
theorem dirs_fold (acc : List AS) : ∀ (ds : List Nat) (s0 : Nat) (j : Nat), j ∈ (⟨ds.foldl (asOr acc) s0⟩ : AS) → j ∈ (⟨s0⟩ : AS) ∨ ∃ k ∈ ds, j = k ∨ j ∈ (acc[k]?).getD ⟨0⟩
  | [], s0, j, h => .inl h
  | d :: r, s0, j, h => by
    rw [List.foldl_cons] at h
    rcases dirs_fold acc r _ j h with h | ⟨k, hk, h⟩
    · have h' : Nat.testBit (s0 ||| (2 ^ d ||| ((acc[d]?).getD ⟨0⟩).m)) j = true := h
      rw [Nat.testBit_or, Nat.testBit_or, Bool.or_eq_true, Bool.or_eq_true, Nat.testBit_two_pow, decide_eq_true_eq] at h'
      rcases h' with h' | h' | h'
      · exact .inl h'
      · exact .inr ⟨d, List.mem_cons_self, .inl h'.symm⟩
      · exact .inr ⟨d, List.mem_cons_self, .inr h'⟩
    · exact .inr ⟨k, List.mem_cons_of_mem _ hk, h⟩
theorem calm_of {xc : Bool} {ops : Array Oper} (h : calm xc ops = true) : CalmOps xc ops.toList ops (ancs ops.toList) := by
  unfold calm at h
  simp only [List.all_eq_true, List.mem_range] at h
  have hb : ∀ (i : Nat) (o : Oper), ops.toList[i]? = some o → i < ops.toList.length := fun i o ho => (List.getElem?_eq_some_iff.1 ho).1
  have hdir : ∀ (i : Nat) (o : Oper), ops.toList[i]? = some o → ∀ j ∈ dirs o, j < i := by
    intro i o ho j hj
    have := h i (hb i o ho)
    rw [ho] at this
    simp only [Bool.and_eq_true, List.all_eq_true, decide_eq_true_eq] at this
    exact this.1 j hj
  have hpair : ∀ (i j : Nat) (o p : Oper), ops.toList[i]? = some o → ops.toList[j]? = some p → _ := fun i j o p ho hp => by
    have := h i (hb i o ho)
    rw [ho] at this
    simp only [Bool.and_eq_true, List.all_eq_true, decide_eq_true_eq, List.mem_range] at this
    have := this.2 j (hb j p hp)
    rw [hp] at this
    simp only [Bool.and_eq_true] at this
    exact this
  refine ⟨hdir, fun i o ho j hj => ?_, fun i j o p t ho hp ht hr => ?_, fun i j o p t ho hp ht hd => ?_, fun i j o p ho hp hji hm hml => ?_⟩
  · obtain ⟨_, h2, h3⟩ := foldl_snoc_get (fun (acc : List AS) (o : Oper) => (⟨(dirs o).foldl (asOr acc) 0⟩ : AS)) ops.toList []
    obtain ⟨pre, q1, q2⟩ := h3 i o ho
    simp only [List.length_nil, Nat.zero_add] at q1 q2
    have q1' : (ancs ops.toList)[i]? = some ⟨(dirs o).foldl (asOr pre) 0⟩ := q1
    rw [q1'] at hj
    simp only [Option.getD_some] at hj
    rcases dirs_fold pre _ _ j hj with hj | ⟨k, hk, hj⟩
    · exact absurd (AS.mem_iff.2 hj) (by simp [AS.contains])
    · refine ⟨k, hk, hj.imp id fun hj => ?_⟩
      have := q2 k (hdir i o ho k hk)
      rw [this] at hj
      exact hj
  · obtain ⟨h1, _⟩ := hpair i j o p ho hp
    rw [ht] at h1
    simp only [Bool.and_eq_true, Bool.or_eq_true, Bool.not_eq_true', beq_iff_eq, decide_eq_true_eq, AS.mem_iff] at h1
    have hc : (readsOf ops o).contains t = true := by simpa using hr
    rcases h1.1 with ((h1 | h1) | h1) | h1
    · rw [hc] at h1; cases h1
    · exact .inl h1
    · exact .inr (.inl ⟨h1.1, h1.2⟩)
    · exact .inr (.inr ⟨h1.1, h1.2⟩)
  · obtain ⟨h1, _⟩ := hpair i j o p ho hp
    rw [ht] at h1
    simp only [Bool.and_eq_true, Bool.or_eq_true, beq_iff_eq, bne_iff_ne] at h1
    rcases h1.2 with h1 | h1
    · exact h1
    · exact absurd hd h1
  · obtain ⟨_, h1⟩ := hpair i j o p ho hp
    simp only [Bool.or_eq_true, Bool.not_eq_true', decide_eq_false_iff_not, AS.mem_iff] at h1
    rcases h1 with (((h1 | h1) | h1) | h1) | h1
    · exact absurd hji h1
    · rw [hm] at h1; cases h1
    · rcases hml with h2 | h2
      · rw [h2] at h1; simp at h1
      · rw [h2] at h1; simp at h1
    · exact .inl h1
    · by_cases ha : j ∈ ((ancs ops.toList)[i]?).getD ⟨0⟩
      · exact .inl ha
      right
      simp only [Bool.and_eq_true] at h1
      refine ⟨h1.1, ?_⟩
      unfold freeAt
      simp only [hp, Bool.and_eq_true, h1.2, true_and, List.any_eq_true, List.mem_range]
      refine ⟨i, hb i o ho, ?_⟩
      simp only [ho, Bool.and_eq_true, decide_eq_true_eq, h1.1, and_true, Bool.not_eq_true', AS.not_mem]
      exact ⟨hji, ha⟩
end Go.Proofs.YtmhpccchgbdiiaaGreatDoor
