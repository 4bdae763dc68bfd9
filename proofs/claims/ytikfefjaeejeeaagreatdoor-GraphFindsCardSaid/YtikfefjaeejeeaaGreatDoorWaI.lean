/- Walks: known. -/
import Derived.Test.YtikfefjaeejeeaaGreatDoorWaH
namespace Go.Proofs.YtikfefjaeejeeaaGreatDoor
open Go.RowKit
set_option maxRecDepth 100000
def G1 : GraphM := { G0 with bn := [⟨10, [0, 3], []⟩, ⟨7, [2], []⟩] }
theorem forward1 : Pure Tryz.prog 37 [encG G1] (.panic (.v (errV 12))) := run_pure (inl := inl0) fitT 4000 (by kernel_rfl)
theorem vjp0 : Pure Tryz.prog 38 [encG G0, SH0] (.ret (.tup [])) := run_pure (inl := inl0) fitT 4000 (by kernel_rfl)
theorem shapes0 : Pure Tryz.prog 16 [encG G0] (.ret (.tup [SH0, intP 0])) := shapes_ok G0 _ forward0 vjp0
theorem check1 : Pure Tryz.prog 12 [encG G1] (.ret (intP 12)) := check_ok G1 _ 12 (shapes_err1 G1 12 forward1)
set_option maxHeartbeats 4000000 in
theorem known_pure : Pure Tryz.prog 11 [] (.ret (boolP true)) := by
  have h1 := shapes0
  have h2 := check1
  refine pure_eq (prun [33, 17] [(140, .call (AEnd.ret (PD.tup [PD.sl [PD.sl [PD.v (Value.int IntKind.i64 2), PD.v (Value.int IntKind.i64 3)], PD.sl [PD.v (Value.int IntKind.i64 3), PD.v (Value.int IntKind.i64 1)], PD.sl [PD.v (Value.int IntKind.i64 2), PD.v (Value.int IntKind.i64 1)], PD.sl [PD.v (Value.int IntKind.i64 2), PD.v (Value.int IntKind.i64 1)]], PD.v (Value.int IntKind.i64 0)]))), (731, .call (AEnd.ret (PD.v (Value.int IntKind.i64 12))))] (e := AEnd.ret (PD.v (Value.bool true))) (.c (h2) (.c (h1) .n)) (by kernel_rfl)) ?_
  rfl
end Go.Proofs.YtikfefjaeejeeaaGreatDoor
