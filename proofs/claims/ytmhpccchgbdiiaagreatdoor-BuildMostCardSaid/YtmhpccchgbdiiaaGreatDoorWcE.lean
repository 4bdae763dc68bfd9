/- Walks: as many nodes as there may be: the loop. -/
import Derived.Test.YtmhpccchgbdiiaaGreatDoorWcD
namespace Go.Proofs.YtmhpccchgbdiiaaGreatDoor
open Go.RowKit
set_option maxRecDepth 100000
def NM (j : Nat) : NodeM := ⟨5, [(j : Int)], []⟩
def nsK (k : Nat) : List NodeM := (List.range k).map NM
def L1 (k : Nat) : List PD := List.replicate (k + 1) SM
theorem nsK_succ (k : Nat) : nsK (k + 1) = nsK k ++ [NM k] := by simp [nsK, List.range_succ]
theorem nsK_len (k : Nat) : (nsK k).length = k := by simp [nsK]
theorem L1_succ (k : Nat) : L1 (k + 1) = L1 k ++ [SM] := by simp [L1, List.replicate_succ']
theorem L1_len (k : Nat) : (L1 k).length = k + 1 := by simp [L1]
theorem L1_get {k j : Nat} (h : j ≤ k) : (L1 k)[j]? = some SM := by simp [L1, List.getElem?_replicate]; omega
def bx0 : Box := ⟨51, [.p (strP ⟨#[120]⟩), .p nilP], true⟩
def b0M : Box := ⟨30, [.p (intP 3), .row 1 [PM], .p nilP, .p nilP, .p nilP, .p (boolP false), .p nilP, .p nilP], false⟩
def bM (N S : DV) : Box := ⟨35, [.p (intP 3), .row 1 [PM], .p nilP, N, .p nilP, .p (boolP false), .p nilP, .p nilP, S], false⟩
def memM : Nat → Mem
  | 0 => ⟨[bx0, b0M, bM (.p nilP) (.row 0 [SM])], [some (40, 1, 1), some (51, 2, 1)], []⟩
  | k + 1 => ⟨[bx0, b0M, bM (.row 3 ((nsK (k + 1)).map encNode)) (.row 0 (L1 (k + 1)))], [some (40, 1, k + 1 + 1), some (51, 2, 1), some (40, 1, 1), some (55, 3, k + 1)], []⟩
theorem memM_end : memM 32768 = ⟨[bx0, b0M, bM (.row 3 ((nsK 32768).map encNode)) (.row 0 (L1 32768))], [some (40, 1, 32769), some (51, 2, 1), some (40, 1, 1), some (55, 3, 32768)], []⟩ := rfl
def stM (k : Nat) : St := ⟨mkT 98 [(0, .p (boolP false)), (1, .loc 2 0), (3, .p (intP k))], memM k⟩
set_option maxHeartbeats 2000000 in
theorem most_loop : LoopOK Tryz.prog (loopB Tryz.prog 4 0) (stM 0) (.exit 0) ⟨mkT 98 [(1, .loc 2 0)], memM 32768⟩ := by
  refine loop_ix [0, 1, 3] stM 32768 (fun _ => True) trivial (fun k => by cases k <;> rfl) ?_
  intro k hk _ ro K Q hQ hK
  by_cases hlt : k < 32768
  · have c1 := chkN k
    have c2 := infN k
    have c3 := cloneN k
    have c4 := clone87_empty
    have hw := wrap64_succ (k := k) (by omega)
    have sn : sized 3 [encNode (NM k)] := sized_one rfl
    have sm : sized 1 [SM] := sized_one rfl
    have s01 := sized_nil 1
    have s03 := sized_nil 3
    by_cases h0 : k = 0
    · subst h0
      have e : stM (0 + 1) = ⟨mkT 98 [(0, .p (boolP false)), (1, .loc 2 0), (3, .p (intP 1))], ⟨[bx0, b0M, bM (.row 3 [encNode ⟨5, [0], []⟩]) (.row 0 [SM, SM])], [some (40, 1, 2), some (51, 2, 1), some (40, 1, 1), some (55, 3, 1)], []⟩⟩ := rfl
      rw [e] at hK
      unfold stM memM
      refine crun [] ⟨[0, 1, 3], [], [], (some (3, 4, 0))⟩ [(53, .call (AEnd.ret (PD.sl [PD.v (Value.int IntKind.i64 0)]))), (55, .call (AEnd.ret (PD.sl []))), (70, .call (AEnd.ret (PD.v (Value.int IntKind.i64 0)))), (165, .fzs 12), (174, .call (AEnd.ret (PD.tup [PD.sl [], PD.v (Value.int IntKind.i64 0)])))] (AX.norm) (St.mk (mkT 98 [(0, DV.p (PD.v (Value.bool false))), (1, DV.loc 2 0), (3, DV.p (PD.v (Value.int IntKind.i64 1)))]) (Mem.mk [Box.mk 51 [DV.p (PD.v (Value.string (ByteArray.mk #[120]))), DV.p (PD.v (Value.slice none 0 0))] true, Box.mk 30 [DV.p (PD.v (Value.int IntKind.i64 3)), DV.row 1 [PD.agg [PD.v (Value.string (ByteArray.mk #[120])), PD.sl []]], DV.p (PD.v (Value.slice none 0 0)), DV.p (PD.v (Value.slice none 0 0)), DV.p (PD.v (Value.slice none 0 0)), DV.p (PD.v (Value.bool false)), DV.p (PD.v (Value.slice none 0 0)), DV.p (PD.v (Value.slice none 0 0))] false, Box.mk 35 [DV.p (PD.v (Value.int IntKind.i64 3)), DV.row 1 [PD.agg [PD.v (Value.string (ByteArray.mk #[120])), PD.sl []]], DV.p (PD.v (Value.slice none 0 0)), DV.row 3 [PD.agg [PD.v (Value.int IntKind.i64 5), PD.sl [PD.v (Value.int IntKind.i64 0)], PD.sl []]], DV.p (PD.v (Value.slice none 0 0)), DV.p (PD.v (Value.bool false)), DV.p (PD.v (Value.slice none 0 0)), DV.p (PD.v (Value.slice none 0 0)), DV.row 0 [PD.sl [], PD.sl []]] false] [some (40, 1, 2), some (51, 2, 1), some (40, 1, 1), some (55, 3, 1)] [])) (.c (@rfl DV (DV.p (PD.v (Value.slice none 0 0)))) (.c (c2) (.c (c1) (.c (c4) (.c (c3) .n))))) (by kernel_rfl) ?_
      exact hK _ hlt rfl trivial
    · obtain ⟨j, rfl⟩ : ∃ j, k = j + 1 := ⟨k - 1, by omega⟩
      have hl1 : (L1 (j + 1)).length = j + 1 + 1 := L1_len _
      have hl2 : ((nsK (j + 1)).map encNode).length = j + 1 := by rw [List.length_map, nsK_len]
      have hx : (L1 (j + 1))[j + 1]? = some SM := L1_get (Nat.le_refl _)
      have s1 : sized 1 (L1 (j + 1)) := fun d hd => by rw [List.eq_of_mem_replicate hd]; rfl
      have s2 : sized 3 ((nsK (j + 1)).map encNode) := sized_map fun _ => rfl
      have e : stM (j + 1 + 1) = ⟨mkT 98 [(0, .p (boolP false)), (1, .loc 2 0), (3, .p (intP (j + 1 + 1 : Nat)))], ⟨[bx0, b0M, bM (.row 3 ((nsK (j + 1)).map encNode ++ [encNode (NM (j + 1))])) (.row 0 (L1 (j + 1) ++ [SM]))], [some (40, 1, (L1 (j + 1)).length + 1), some (51, 2, 1), some (40, 1, 1), some (55, 3, ((nsK (j + 1)).map encNode).length + 1)], []⟩⟩ := by
        show (⟨_, ⟨[bx0, b0M, bM (.row 3 ((nsK (j + 1 + 1)).map encNode)) (.row 0 (L1 (j + 1 + 1)))], [some (40, 1, j + 1 + 1 + 1), some (51, 2, 1), some (40, 1, 1), some (55, 3, j + 1 + 1)], []⟩⟩ : St) = _
        rw [nsK_succ (j + 1), L1_succ (j + 1), hl1, hl2, List.map_append]
        rfl
      rw [e] at hK
      have e2 : stM (j + 1) = ⟨mkT 98 [(0, .p (boolP false)), (1, .loc 2 0), (3, .p (intP (j + 1 : Nat)))], ⟨[bx0, b0M, bM (.row 3 ((nsK (j + 1)).map encNode)) (.row 0 (L1 (j + 1)))], [some (40, 1, (L1 (j + 1)).length), some (51, 2, 1), some (40, 1, 1), some (55, 3, ((nsK (j + 1)).map encNode).length)], []⟩⟩ := by
        unfold stM memM
        rw [hl1, hl2]
      rw [e2]
      have hr : IntKind.i64.wrap (((L1 (j + 1) ++ [PD.sl []]).length : Int) - 1) = IntKind.i64.wrap (((j + 1 : Nat) : Int) + 1) := by
        rw [List.length_append, hl1]
        congr 1
        simp
      clear e e2
      have hNM : encNode (NM (j + 1)) = encNode ⟨5, [((j + 1 : Nat) : Int)], []⟩ := rfl
      rw [hNM] at hK sn
      clear hNM
      generalize (nsK (j + 1)).map encNode = N2 at hl2 s2 hK ⊢
      generalize L1 (j + 1) = N1 at hl1 hx s1 hr hK ⊢
      generalize j + 1 = m at hlt hk hw hl1 hl2 hx hr hK c1 c2 c3 sn ⊢
      unfold bM b0M bx0
      unfold bM b0M bx0 at hK
      refine crun [] ⟨[0, 1, 3], [], [], (some (3, 4, 0))⟩ [(4, .b true), (53, .call (AEnd.ret (PD.sl [PD.v (Value.int IntKind.i64 (↑m : Int))]))), (55, .call (AEnd.ret (PD.sl []))), (70, .call (AEnd.ret (PD.v (Value.int IntKind.i64 0)))), (130, .b true), (147, .el (SM)), (148, .el (SM)), (165, .fzs 12), (174, .call (AEnd.ret (PD.tup [PD.sl [], PD.v (Value.int IntKind.i64 0)]))), (239, .b false), (255, .m), (273, .m), (306, .b false)] (AX.norm) (St.mk (mkT 98 [(0, DV.p (PD.v (Value.bool false))), (1, DV.loc 2 0), (3, DV.p (PD.v (Value.int IntKind.i64 (IntKind.i64.wrap ((↑m : Int) + 1)))))]) (Mem.mk [Box.mk 51 [DV.p (PD.v (Value.string (ByteArray.mk #[120]))), DV.p (PD.v (Value.slice none 0 0))] true, Box.mk 30 [DV.p (PD.v (Value.int IntKind.i64 3)), DV.row 1 [PD.agg [PD.v (Value.string (ByteArray.mk #[120])), PD.sl []]], DV.p (PD.v (Value.slice none 0 0)), DV.p (PD.v (Value.slice none 0 0)), DV.p (PD.v (Value.slice none 0 0)), DV.p (PD.v (Value.bool false)), DV.p (PD.v (Value.slice none 0 0)), DV.p (PD.v (Value.slice none 0 0))] false, Box.mk 35 [DV.p (PD.v (Value.int IntKind.i64 3)), DV.row 1 [PD.agg [PD.v (Value.string (ByteArray.mk #[120])), PD.sl []]], DV.p (PD.v (Value.slice none 0 0)), DV.row 3 (N2 ++ [PD.agg [PD.v (Value.int IntKind.i64 5), PD.sl [PD.v (Value.int IntKind.i64 (↑m : Int))], PD.sl []]]), DV.p (PD.v (Value.slice none 0 0)), DV.p (PD.v (Value.bool false)), DV.p (PD.v (Value.slice none 0 0)), DV.p (PD.v (Value.slice none 0 0)), DV.row 0 (N1 ++ [PD.sl []])] false] [some (40, 1, N1.length + [PD.sl []].length), some (51, 2, 1), some (40, 1, 1), some (55, 3, N2.length + [PD.agg [PD.v (Value.int IntKind.i64 5), PD.sl [PD.v (Value.int IntKind.i64 (↑m : Int))], PD.sl []]].length)] [])) (.c (neF hr) (.c (show AppOK (1 : Nat) (24 : Nat) N1.length N1 [PD.sl []] by exact ⟨by first | rfl | omega | (simp; done) | (simp; omega), by first | assumption | exact nums_sized _ _ | simp [sized_nil, sized_one, sized_append, sized_map, nums_sized, nums_append], by first | assumption | exact nums_sized _ _ | simp [sized_nil, sized_one, sized_append, sized_map, nums_sized, nums_append], by first | omega | (simp <;> omega), by first | omega | (simp <;> omega)⟩) (.c (show AppOK (3 : Nat) (56 : Nat) N2.length N2 [PD.agg [PD.v (Value.int IntKind.i64 (5 : Int)), PD.sl [PD.v (Value.int IntKind.i64 (↑m : Int))], PD.sl []]] by exact ⟨by first | rfl | omega | (simp; done) | (simp; omega), by first | assumption | exact nums_sized _ _ | simp [sized_nil, sized_one, sized_append, sized_map, nums_sized, nums_append], by first | assumption | exact nums_sized _ _ | simp [sized_nil, sized_one, sized_append, sized_map, nums_sized, nums_append], by first | omega | (simp <;> omega), by first | omega | (simp <;> omega)⟩) (.c (@rfl DV (DV.row 3 N2)) (.c (dF (show ¬ (32768 : Int) ≤ (↑N2.length : Int) by omega)) (.c (c2) (.c hx (.c (And.intro hx (nn0 (m))) (.c (dT (show (↑m : Int) < (↑N1.length : Int) by omega)) (.c (c1) (.c (c4) (.c (c3) (.c (dT (show (↑m : Int) < (32768 : Int) by omega)) .n))))))))))))) (by kernel_rfl) ?_
      exact hK _ hlt (by simp only [hw]; rfl) trivial
  · obtain rfl : k = 32768 := by omega
    unfold stM
    rw [memM_end] at hQ ⊢
    generalize (nsK 32768).map encNode = N2 at hQ ⊢
    generalize L1 32768 = N1 at hQ ⊢
    refine crun [] ⟨[1], [], [], none⟩ [] (AX.exit 0) (St.mk (mkT 98 [(1, DV.loc 2 0)]) (Mem.mk [Box.mk 51 [DV.p (PD.v (Value.string (ByteArray.mk #[120]))), DV.p (PD.v (Value.slice none 0 0))] true, Box.mk 30 [DV.p (PD.v (Value.int IntKind.i64 3)), DV.row 1 [PD.agg [PD.v (Value.string (ByteArray.mk #[120])), PD.sl []]], DV.p (PD.v (Value.slice none 0 0)), DV.p (PD.v (Value.slice none 0 0)), DV.p (PD.v (Value.slice none 0 0)), DV.p (PD.v (Value.bool false)), DV.p (PD.v (Value.slice none 0 0)), DV.p (PD.v (Value.slice none 0 0))] false, Box.mk 35 [DV.p (PD.v (Value.int IntKind.i64 3)), DV.row 1 [PD.agg [PD.v (Value.string (ByteArray.mk #[120])), PD.sl []]], DV.p (PD.v (Value.slice none 0 0)), DV.row 3 N2, DV.p (PD.v (Value.slice none 0 0)), DV.p (PD.v (Value.bool false)), DV.p (PD.v (Value.slice none 0 0)), DV.p (PD.v (Value.slice none 0 0)), DV.row 0 N1] false] [some (40, 1, 32769), some (51, 2, 1), some (40, 1, 1), some (55, 3, 32768)] [])) .n (by kernel_rfl) ?_
    exact hQ
end Go.Proofs.YtmhpccchgbdiiaaGreatDoor
