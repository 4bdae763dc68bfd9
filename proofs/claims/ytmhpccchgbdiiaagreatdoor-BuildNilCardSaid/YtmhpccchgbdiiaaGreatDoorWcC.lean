/- Walks: no builder, and a zero one. -/
import Derived.Test.YtmhpccchgbdiiaaGreatDoorWcB
namespace Go.Proofs.YtmhpccchgbdiiaaGreatDoor
open Go.RowKit
set_option maxRecDepth 100000
set_option maxHeartbeats 4000000 in
theorem nil_pure (n : Int) : Pure Tryz.prog 3 [intP n] (.ret (boolP true)) := by
  have hk := knownB_pure
  refine pure_eq (prun [] [(509, .call (AEnd.ret (PD.v (Value.bool true))))] (e := AEnd.ret (PD.v (Value.bool true))) (.c (hk) .n) (by kernel_rfl)) ?_
  rfl
end Go.Proofs.YtmhpccchgbdiiaaGreatDoor
