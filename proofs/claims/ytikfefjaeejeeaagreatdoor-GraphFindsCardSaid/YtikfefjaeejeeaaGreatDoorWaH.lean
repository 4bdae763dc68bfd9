/- Walks: the known graph. -/
import Derived.Test.YtikfefjaeejeeaaGreatDoorWaD
import Derived.Test.YtikfefjaeejeeaaGreatDoorWaE
import Derived.Test.YtikfefjaeejeeaaGreatDoorWaF
import Derived.Test.YtikfefjaeejeeaaGreatDoorWa5
namespace Go.Proofs.YtikfefjaeejeeaaGreatDoor
open Go.RowKit
set_option maxRecDepth 100000
def G0 : GraphM := ⟨3, [⟨⟨#[120]⟩, [2, 3]⟩], [⟨⟨#[119]⟩, [3, 1], [⟨false, [1], [1]⟩, ⟨false, [2], [1]⟩, ⟨false, [3], [1]⟩]⟩], [⟨10, [0, 1], []⟩, ⟨7, [2], []⟩], [3], false, [], []⟩
theorem sample_pure : Pure Tryz.prog 33 [] (.ret (encG G0)) := by
  refine pure_eq (prun [] [] (e := AEnd.ret (PD.agg [PD.v (Value.int IntKind.i64 3), PD.sl [PD.agg [PD.v (Value.string (ByteArray.mk #[120])), PD.sl [PD.v (Value.int IntKind.i64 2), PD.v (Value.int IntKind.i64 3)]]], PD.sl [PD.agg [PD.v (Value.string (ByteArray.mk #[119])), PD.sl [PD.v (Value.int IntKind.i64 3), PD.v (Value.int IntKind.i64 1)], PD.sl [PD.agg [PD.v (Value.bool false), PD.sl [PD.v (Value.int IntKind.u32 1)], PD.sl [PD.v (Value.int IntKind.u32 1)]], PD.agg [PD.v (Value.bool false), PD.sl [PD.v (Value.int IntKind.u32 2)], PD.sl [PD.v (Value.int IntKind.u32 1)]], PD.agg [PD.v (Value.bool false), PD.sl [PD.v (Value.int IntKind.u32 3)], PD.sl [PD.v (Value.int IntKind.u32 1)]]]]], PD.sl [PD.agg [PD.v (Value.int IntKind.i64 10), PD.sl [PD.v (Value.int IntKind.i64 0), PD.v (Value.int IntKind.i64 1)], PD.sl []], PD.agg [PD.v (Value.int IntKind.i64 7), PD.sl [PD.v (Value.int IntKind.i64 2)], PD.sl []]], PD.sl [PD.v (Value.int IntKind.i64 3)], PD.v (Value.bool false), PD.sl [], PD.sl []])) .n (by kernel_rfl)) ?_
  rfl
theorem fits0 : Pure Tryz.prog 131 [encT [3, 1] [⟨false, [1], [1]⟩, ⟨false, [2], [1]⟩, ⟨false, [3], [1]⟩]] (.ret (intP 0)) := by
  refine pure_eq (prun [0, 1, 2, 3, 4, 5, 6, 7, 8, 9, 10, 11, 12, 13, 14, 15, 16, 17, 18, 19, 20, 21, 22, 23, 24, 25, 26, 27, 28, 29, 30, 31, 32, 33, 34, 35, 36, 39, 40, 41, 42, 43, 44, 45, 46, 47, 48, 49, 50, 51, 52, 53, 54, 55, 56, 57, 58, 59, 60, 61, 62, 63, 64, 65, 66, 67, 68, 69, 70, 71, 72, 73, 74, 75, 76, 77, 78, 79, 80, 81, 82, 83, 84, 85, 86, 87, 88, 89, 90, 91, 92, 93, 94, 95, 96, 97, 98, 99, 100, 101, 102, 103, 105, 106, 108, 109, 110, 111, 112, 113, 114, 115, 116, 117, 118, 119, 120, 121, 122, 123, 124, 125, 126, 128, 129, 130, 131, 132, 133, 134, 135, 136, 137, 138, 139, 140, 141, 142, 143, 144, 145, 146, 147, 148, 149, 150, 151, 152, 153, 154, 155, 156, 157, 158, 159, 160, 161, 162, 163, 164, 165, 166, 167, 168, 169, 170, 171, 172, 173, 174, 175, 176, 177, 178, 179, 180, 181, 182, 183, 184, 185, 186, 187, 188, 189, 190, 191, 192, 193, 194, 195, 196, 197, 198, 199, 200, 201, 202, 203, 204, 205, 206, 207, 208, 209, 210, 211, 212, 213, 214, 215, 216, 217, 218, 219, 220, 221, 222, 223, 224, 225, 226, 227, 228, 229, 230, 231, 232, 233, 234, 235, 236, 237, 238, 239, 240, 241, 242, 243, 244, 245, 246, 247, 248, 249, 250, 251, 252, 253, 254, 255, 256, 257, 258, 259, 260, 261, 262, 263, 264, 265, 266] [] (e := AEnd.ret (PD.v (Value.int IntKind.i64 0))) .n (by kernel_rfl)) ?_
  rfl
theorem tmay0 : Pure Tryz.prog 107 [encT [3, 1] [⟨false, [1], [1]⟩, ⟨false, [2], [1]⟩, ⟨false, [3], [1]⟩]] (.ret (intP 0)) := tmay_ok _ _ (by decide) fits0 (by
  intro r hr
  simp only [List.mem_cons, List.not_mem_nil, or_false] at hr
  rcases hr with rfl | rfl | rfl
  · exact may_1
  · exact may_2
  · exact may_3)
theorem cot_x : Pure Tryz.prog 104 [.v (.string ⟨#[120]⟩)] (.ret (.v (.bool false))) := by
  have h := cot_pure ⟨#[120]⟩ (by decide)
  rwa [show cotM ⟨#[120]⟩ = false by kernel_rfl] at h
theorem cot_w : Pure Tryz.prog 104 [.v (.string ⟨#[119]⟩)] (.ret (.v (.bool false))) := by
  have h := cot_pure ⟨#[119]⟩ (by decide)
  rwa [show cotM ⟨#[119]⟩ = false by kernel_rfl] at h
/-- told answers, by table -/
def orcT (T : List (FuncId × List PD × AEnd)) : FuncId → List PD → Option AEnd := fun f l => (T.find? fun e => e.1 == f && lB (pB 50) e.2.1 l).map (·.2.2)
theorem orcT_ok {T : List (FuncId × List PD × AEnd)} (h : ∀ e ∈ T, Pure Tryz.prog e.1 e.2.1 e.2.2) (f : FuncId) (l : List PD) (r : AEnd) (hr : orcT T f l = some r) : Pure Tryz.prog f l r := by
  unfold orcT at hr
  simp only [Option.map_eq_some_iff] at hr
  obtain ⟨e, he, rfl⟩ := hr
  have h1 := List.find?_some he
  simp only [Bool.and_eq_true, beq_iff_eq] at h1
  have h2 := lB_eq (f := pB 50) (pB_eq 50) h1.2
  rw [← h1.1, ← h2]
  exact h e (List.mem_of_find?_eq_some he)
def T0 : List (FuncId × List PD × AEnd) := [(104, [.v (.string ⟨#[120]⟩)], .ret (.v (.bool false))), (104, [.v (.string ⟨#[119]⟩)], .ret (.v (.bool false))),
  (107, [encT [3, 1] [⟨false, [1], [1]⟩, ⟨false, [2], [1]⟩, ⟨false, [3], [1]⟩]], .ret (intP 0)),
  (48, [.sl []], .ret (.sl [])), (87, [.sl []], .ret (.sl [])), (92, [.sl []], .ret (.sl []))]
theorem T0_ok : ∀ e ∈ T0, Pure Tryz.prog e.1 e.2.1 e.2.2 := by
  intro e he
  simp only [T0, List.mem_cons, List.not_mem_nil, or_false] at he
  rcases he with rfl | rfl | rfl | rfl | rfl | rfl
  · exact cot_x
  · exact cot_w
  · exact tmay0
  · exact clone48_empty
  · exact clone87_empty
  · exact clone92_empty
theorem fitT : Fit Tryz.prog (orcT T0) := fit_of (orcT_ok T0_ok)
def inl0 : FuncId → Bool := fun f => f == 69 || f == 71
def SH0 : PD := .sl [intL [2, 3], intL [3, 1], intL [2, 1], intL [2, 1]]
theorem forward0 : Pure Tryz.prog 37 [encG G0] (.ret SH0) := run_pure (inl := inl0) fitT 4000 (by kernel_rfl)
end Go.Proofs.YtikfefjaeejeeaaGreatDoor
