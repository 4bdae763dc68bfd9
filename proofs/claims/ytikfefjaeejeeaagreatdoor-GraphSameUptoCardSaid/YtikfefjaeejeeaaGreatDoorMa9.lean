/- Walks and laws, laid together: WaF Wa5 WaH WaI WfJ Op1 Op2 Op3 Op4 Op5. -/
import Derived.Test.YtikfefjaeejeeaaGreatDoorMa8
import Derived.Test.YtikfefjaeejeeaaGreatDoorAeV
import Derived.Test.YtikfefjaeejeeaaGreatDoorMa1
import Derived.Test.YtikfefjaeejeeaaGreatDoorAe1
import Derived.RowKit
import Derived.ChangeShapes
import Derived.ChangeSlices
import Derived.ChangeArms
import Derived.Test.YtikfefjaeejeeaaGreatDoorAe0
import Derived.Test.YtikfefjaeejeeaaGreatDoorRows
import Derived.OpenShut
import Derived.LaidMore
import Derived.LaidLaws
import Derived.LaidHandle
import Derived.MakeChecks
import Derived.Test.YtikfefjaeejeeaaGreatDoorTie
import Derived.Test.YtikfefjaeejeeaaGreatDoorCards
import Derived.Test.YtikfefjaeejeeaaGreatDoorAe9
import Derived.ProofKit
import Derived.ShutString
import Derived.ChangeOld
import Derived.SizedLaws
import Derived.JoinedCond
import Derived.Stop.Joined
/- Walks: known rationals, more. -/
namespace Go.Proofs.YtikfefjaeejeeaaGreatDoor
open Go.RowKit
set_option maxRecDepth 100000
theorem may_2 : Pure Tryz.prog 132 [encRat ⟨false, [2], [1]⟩] (.ret (intP 0)) := by
  refine pure_eq (prun [97, 98, 125, 126, 148, 149, 150, 151, 152, 153, 154, 183, 185, 186, 187, 188, 208, 210, 211, 212, 213, 214, 215, 233, 236] [(586, .call (AEnd.ret (PD.v (Value.int IntKind.i64 1)))), (838, .xc), (893, .xc), (1277, .call (AEnd.ret (PD.v (Value.int IntKind.i64 1)))), (1529, .xc), (1584, .xc), (1945, .call (AEnd.ret (PD.v (Value.int IntKind.i64 0)))), (2197, .xc), (2252, .xc), (2482, .call (AEnd.ret (PD.v (Value.int IntKind.i64 0)))), (2510, .call (AEnd.ret (PD.v (Value.int IntKind.i64 0))))] (e := AEnd.ret (PD.v (Value.int IntKind.i64 0))) (.c (cmp11 (1) (1)) (.c (cmp11 (2) (2)) (.c (@rfl Mem (Mem.mk [Box.mk 84 [DV.p (PD.v (Value.bool false)), DV.p (PD.sl [PD.v (Value.int IntKind.u32 2)]), DV.p (PD.sl [PD.v (Value.int IntKind.u32 1)])] false, Box.mk 84 [DV.p (PD.v (Value.bool false)), DV.p (PD.sl [PD.v (Value.int IntKind.u32 2)]), DV.p (PD.sl [PD.v (Value.int IntKind.u32 1)])] false, Box.mk 84 [DV.p (PD.v (Value.bool false)), DV.p (PD.v (Value.slice none 0 0)), DV.p (PD.v (Value.slice none 0 0))] false, Box.mk 84 [DV.p (PD.v (Value.bool false)), DV.p (PD.v (Value.slice none 0 0)), DV.p (PD.v (Value.slice none 0 0))] false, Box.mk 86 [DV.p (PD.v (Value.int IntKind.u32 2))] true, Box.mk 183 [DV.p (PD.v (Value.int IntKind.u64 0))] false, Box.mk 82 [DV.row 0 [PD.v (Value.int IntKind.u32 0), PD.v (Value.int IntKind.u32 0)]] false, Box.mk 183 [DV.p (PD.v (Value.int IntKind.u64 0))] false, Box.mk 86 [DV.p (PD.v (Value.int IntKind.u32 0))] true, Box.mk 86 [DV.p (PD.v (Value.int IntKind.u32 0))] true, Box.mk 82 [DV.p (PD.sl [PD.v (Value.int IntKind.u32 1)])] false, Box.mk 86 [DV.p (PD.v (Value.int IntKind.u32 2))] true, Box.mk 183 [DV.p (PD.v (Value.int IntKind.u64 0))] false, Box.mk 82 [DV.row 1 [PD.v (Value.int IntKind.u32 0), PD.v (Value.int IntKind.u32 0)]] false, Box.mk 183 [DV.p (PD.v (Value.int IntKind.u64 0))] false, Box.mk 86 [DV.p (PD.v (Value.int IntKind.u32 0))] true, Box.mk 86 [DV.p (PD.v (Value.int IntKind.u32 0))] true, Box.mk 86 [DV.p (PD.v (Value.int IntKind.u32 1))] true, Box.mk 183 [DV.p (PD.v (Value.int IntKind.u64 0))] false, Box.mk 82 [DV.row 2 [PD.v (Value.int IntKind.u32 0)]] false, Box.mk 183 [DV.p (PD.v (Value.int IntKind.u64 0))] false, Box.mk 86 [DV.p (PD.v (Value.int IntKind.u32 0))] true] [some (86, 1, 2), some (86, 1, 2), some (86, 1, 1)] [])) (.c (@rfl Mem (Mem.mk [Box.mk 84 [DV.p (PD.v (Value.bool false)), DV.p (PD.sl [PD.v (Value.int IntKind.u32 2)]), DV.p (PD.sl [PD.v (Value.int IntKind.u32 1)])] false, Box.mk 84 [DV.p (PD.v (Value.bool false)), DV.p (PD.sl [PD.v (Value.int IntKind.u32 2)]), DV.p (PD.sl [PD.v (Value.int IntKind.u32 1)])] false, Box.mk 84 [DV.p (PD.v (Value.bool false)), DV.p (PD.v (Value.slice none 0 0)), DV.p (PD.v (Value.slice none 0 0))] false, Box.mk 84 [DV.p (PD.v (Value.bool false)), DV.p (PD.v (Value.slice none 0 0)), DV.p (PD.v (Value.slice none 0 0))] false, Box.mk 86 [DV.p (PD.v (Value.int IntKind.u32 2))] true, Box.mk 183 [DV.p (PD.v (Value.int IntKind.u64 0))] false, Box.mk 82 [DV.row 0 [PD.v (Value.int IntKind.u32 0), PD.v (Value.int IntKind.u32 0)]] false, Box.mk 183 [DV.p (PD.v (Value.int IntKind.u64 0))] false, Box.mk 86 [DV.p (PD.v (Value.int IntKind.u32 0))] true, Box.mk 86 [DV.p (PD.v (Value.int IntKind.u32 0))] true, Box.mk 82 [DV.p (PD.sl [PD.v (Value.int IntKind.u32 1)])] false, Box.mk 86 [DV.p (PD.v (Value.int IntKind.u32 2))] true, Box.mk 183 [DV.p (PD.v (Value.int IntKind.u64 0))] false, Box.mk 82 [DV.row 1 [PD.v (Value.int IntKind.u32 0), PD.v (Value.int IntKind.u32 0)]] false, Box.mk 183 [DV.p (PD.v (Value.int IntKind.u64 0))] false, Box.mk 86 [DV.p (PD.v (Value.int IntKind.u32 0))] true, Box.mk 86 [DV.p (PD.v (Value.int IntKind.u32 0))] true, Box.mk 86 [DV.p (PD.v (Value.int IntKind.u32 1))] true, Box.mk 183 [DV.p (PD.v (Value.int IntKind.u64 0))] false, Box.mk 82 [DV.p (PD.v (Value.slice none 0 0))] false, Box.mk 183 [DV.p (PD.v (Value.int IntKind.u64 0))] false] [some (86, 1, 2), some (86, 1, 2)] [])) (.c (cmp11 (1) (1)) (.c (@rfl Mem (Mem.mk [Box.mk 84 [DV.p (PD.v (Value.bool false)), DV.p (PD.sl [PD.v (Value.int IntKind.u32 2)]), DV.p (PD.sl [PD.v (Value.int IntKind.u32 1)])] false, Box.mk 84 [DV.p (PD.v (Value.bool false)), DV.p (PD.sl [PD.v (Value.int IntKind.u32 2)]), DV.p (PD.sl [PD.v (Value.int IntKind.u32 1)])] false, Box.mk 84 [DV.p (PD.v (Value.bool false)), DV.p (PD.v (Value.slice none 0 0)), DV.p (PD.v (Value.slice none 0 0))] false, Box.mk 84 [DV.p (PD.v (Value.bool false)), DV.p (PD.v (Value.slice none 0 0)), DV.p (PD.v (Value.slice none 0 0))] false, Box.mk 86 [DV.p (PD.v (Value.int IntKind.u32 2))] true, Box.mk 183 [DV.p (PD.v (Value.int IntKind.u64 0))] false, Box.mk 82 [DV.row 0 [PD.v (Value.int IntKind.u32 0), PD.v (Value.int IntKind.u32 0)]] false, Box.mk 183 [DV.p (PD.v (Value.int IntKind.u64 0))] false, Box.mk 86 [DV.p (PD.v (Value.int IntKind.u32 0))] true, Box.mk 86 [DV.p (PD.v (Value.int IntKind.u32 0))] true, Box.mk 82 [DV.p (PD.sl [PD.v (Value.int IntKind.u32 1)])] false, Box.mk 86 [DV.p (PD.v (Value.int IntKind.u32 2))] true, Box.mk 183 [DV.p (PD.v (Value.int IntKind.u64 0))] false, Box.mk 82 [DV.row 1 [PD.v (Value.int IntKind.u32 0)]] false, Box.mk 183 [DV.p (PD.v (Value.int IntKind.u64 0))] false, Box.mk 86 [DV.p (PD.v (Value.int IntKind.u32 0))] true] [some (86, 1, 2), some (86, 1, 1)] [])) (.c (@rfl Mem (Mem.mk [Box.mk 84 [DV.p (PD.v (Value.bool false)), DV.p (PD.sl [PD.v (Value.int IntKind.u32 2)]), DV.p (PD.sl [PD.v (Value.int IntKind.u32 1)])] false, Box.mk 84 [DV.p (PD.v (Value.bool false)), DV.p (PD.sl [PD.v (Value.int IntKind.u32 2)]), DV.p (PD.sl [PD.v (Value.int IntKind.u32 1)])] false, Box.mk 84 [DV.p (PD.v (Value.bool false)), DV.p (PD.v (Value.slice none 0 0)), DV.p (PD.v (Value.slice none 0 0))] false, Box.mk 84 [DV.p (PD.v (Value.bool false)), DV.p (PD.v (Value.slice none 0 0)), DV.p (PD.v (Value.slice none 0 0))] false, Box.mk 86 [DV.p (PD.v (Value.int IntKind.u32 2))] true, Box.mk 183 [DV.p (PD.v (Value.int IntKind.u64 0))] false, Box.mk 82 [DV.row 0 [PD.v (Value.int IntKind.u32 0), PD.v (Value.int IntKind.u32 0)]] false, Box.mk 183 [DV.p (PD.v (Value.int IntKind.u64 0))] false, Box.mk 86 [DV.p (PD.v (Value.int IntKind.u32 0))] true, Box.mk 86 [DV.p (PD.v (Value.int IntKind.u32 0))] true, Box.mk 82 [DV.p (PD.sl [PD.v (Value.int IntKind.u32 1)])] false, Box.mk 86 [DV.p (PD.v (Value.int IntKind.u32 2))] true, Box.mk 183 [DV.p (PD.v (Value.int IntKind.u64 0))] false, Box.mk 82 [DV.p (PD.v (Value.slice none 0 0))] false, Box.mk 183 [DV.p (PD.v (Value.int IntKind.u64 0))] false] [some (86, 1, 2)] [])) (.c (cmp11 (2) (1)) (.c (@rfl Mem (Mem.mk [Box.mk 84 [DV.p (PD.v (Value.bool false)), DV.p (PD.sl [PD.v (Value.int IntKind.u32 2)]), DV.p (PD.sl [PD.v (Value.int IntKind.u32 1)])] false, Box.mk 84 [DV.p (PD.v (Value.bool false)), DV.p (PD.sl [PD.v (Value.int IntKind.u32 2)]), DV.p (PD.sl [PD.v (Value.int IntKind.u32 1)])] false, Box.mk 84 [DV.p (PD.v (Value.bool false)), DV.p (PD.v (Value.slice none 0 0)), DV.p (PD.v (Value.slice none 0 0))] false, Box.mk 84 [DV.p (PD.v (Value.bool false)), DV.p (PD.v (Value.slice none 0 0)), DV.p (PD.v (Value.slice none 0 0))] false, Box.mk 86 [DV.p (PD.v (Value.int IntKind.u32 2))] true, Box.mk 183 [DV.p (PD.v (Value.int IntKind.u64 0))] false, Box.mk 82 [DV.row 0 [PD.v (Value.int IntKind.u32 0)]] false, Box.mk 183 [DV.p (PD.v (Value.int IntKind.u64 0))] false, Box.mk 86 [DV.p (PD.v (Value.int IntKind.u32 0))] true] [some (86, 1, 1)] [])) (.c (@rfl Mem (Mem.mk [Box.mk 84 [DV.p (PD.v (Value.bool false)), DV.p (PD.sl [PD.v (Value.int IntKind.u32 2)]), DV.p (PD.sl [PD.v (Value.int IntKind.u32 1)])] false, Box.mk 84 [DV.p (PD.v (Value.bool false)), DV.p (PD.sl [PD.v (Value.int IntKind.u32 2)]), DV.p (PD.sl [PD.v (Value.int IntKind.u32 1)])] false, Box.mk 84 [DV.p (PD.v (Value.bool false)), DV.p (PD.v (Value.slice none 0 0)), DV.p (PD.v (Value.slice none 0 0))] false, Box.mk 84 [DV.p (PD.v (Value.bool false)), DV.p (PD.v (Value.slice none 0 0)), DV.p (PD.v (Value.slice none 0 0))] false, Box.mk 86 [DV.p (PD.v (Value.int IntKind.u32 2))] true, Box.mk 183 [DV.p (PD.v (Value.int IntKind.u64 0))] false, Box.mk 82 [DV.p (PD.v (Value.slice none 0 0))] false, Box.mk 183 [DV.p (PD.v (Value.int IntKind.u64 0))] false] [] [])) (.c (cmp11 (2) (1)) .n))))))))))) (by kernel_rfl)) ?_
  rfl
theorem may_3 : Pure Tryz.prog 132 [encRat ⟨false, [3], [1]⟩] (.ret (intP 0)) := by
  refine pure_eq (prun [97, 98, 125, 126, 148, 149, 150, 151, 152, 153, 154, 183, 185, 186, 187, 188, 208, 210, 211, 212, 213, 214, 215, 233, 236] [(586, .call (AEnd.ret (PD.v (Value.int IntKind.i64 1)))), (838, .xc), (893, .xc), (1277, .call (AEnd.ret (PD.v (Value.int IntKind.i64 1)))), (1529, .xc), (1584, .xc), (1945, .call (AEnd.ret (PD.v (Value.int IntKind.i64 0)))), (2197, .xc), (2252, .xc), (2482, .call (AEnd.ret (PD.v (Value.int IntKind.i64 0)))), (2510, .call (AEnd.ret (PD.v (Value.int IntKind.i64 0))))] (e := AEnd.ret (PD.v (Value.int IntKind.i64 0))) (.c (cmp11 (1) (1)) (.c (cmp11 (3) (3)) (.c (@rfl Mem (Mem.mk [Box.mk 84 [DV.p (PD.v (Value.bool false)), DV.p (PD.sl [PD.v (Value.int IntKind.u32 3)]), DV.p (PD.sl [PD.v (Value.int IntKind.u32 1)])] false, Box.mk 84 [DV.p (PD.v (Value.bool false)), DV.p (PD.sl [PD.v (Value.int IntKind.u32 3)]), DV.p (PD.sl [PD.v (Value.int IntKind.u32 1)])] false, Box.mk 84 [DV.p (PD.v (Value.bool false)), DV.p (PD.v (Value.slice none 0 0)), DV.p (PD.v (Value.slice none 0 0))] false, Box.mk 84 [DV.p (PD.v (Value.bool false)), DV.p (PD.v (Value.slice none 0 0)), DV.p (PD.v (Value.slice none 0 0))] false, Box.mk 86 [DV.p (PD.v (Value.int IntKind.u32 3))] true, Box.mk 183 [DV.p (PD.v (Value.int IntKind.u64 0))] false, Box.mk 82 [DV.row 0 [PD.v (Value.int IntKind.u32 0), PD.v (Value.int IntKind.u32 0)]] false, Box.mk 183 [DV.p (PD.v (Value.int IntKind.u64 0))] false, Box.mk 86 [DV.p (PD.v (Value.int IntKind.u32 0))] true, Box.mk 86 [DV.p (PD.v (Value.int IntKind.u32 0))] true, Box.mk 82 [DV.p (PD.sl [PD.v (Value.int IntKind.u32 1)])] false, Box.mk 86 [DV.p (PD.v (Value.int IntKind.u32 3))] true, Box.mk 183 [DV.p (PD.v (Value.int IntKind.u64 0))] false, Box.mk 82 [DV.row 1 [PD.v (Value.int IntKind.u32 0), PD.v (Value.int IntKind.u32 0)]] false, Box.mk 183 [DV.p (PD.v (Value.int IntKind.u64 0))] false, Box.mk 86 [DV.p (PD.v (Value.int IntKind.u32 0))] true, Box.mk 86 [DV.p (PD.v (Value.int IntKind.u32 0))] true, Box.mk 86 [DV.p (PD.v (Value.int IntKind.u32 1))] true, Box.mk 183 [DV.p (PD.v (Value.int IntKind.u64 0))] false, Box.mk 82 [DV.row 2 [PD.v (Value.int IntKind.u32 0)]] false, Box.mk 183 [DV.p (PD.v (Value.int IntKind.u64 0))] false, Box.mk 86 [DV.p (PD.v (Value.int IntKind.u32 0))] true] [some (86, 1, 2), some (86, 1, 2), some (86, 1, 1)] [])) (.c (@rfl Mem (Mem.mk [Box.mk 84 [DV.p (PD.v (Value.bool false)), DV.p (PD.sl [PD.v (Value.int IntKind.u32 3)]), DV.p (PD.sl [PD.v (Value.int IntKind.u32 1)])] false, Box.mk 84 [DV.p (PD.v (Value.bool false)), DV.p (PD.sl [PD.v (Value.int IntKind.u32 3)]), DV.p (PD.sl [PD.v (Value.int IntKind.u32 1)])] false, Box.mk 84 [DV.p (PD.v (Value.bool false)), DV.p (PD.v (Value.slice none 0 0)), DV.p (PD.v (Value.slice none 0 0))] false, Box.mk 84 [DV.p (PD.v (Value.bool false)), DV.p (PD.v (Value.slice none 0 0)), DV.p (PD.v (Value.slice none 0 0))] false, Box.mk 86 [DV.p (PD.v (Value.int IntKind.u32 3))] true, Box.mk 183 [DV.p (PD.v (Value.int IntKind.u64 0))] false, Box.mk 82 [DV.row 0 [PD.v (Value.int IntKind.u32 0), PD.v (Value.int IntKind.u32 0)]] false, Box.mk 183 [DV.p (PD.v (Value.int IntKind.u64 0))] false, Box.mk 86 [DV.p (PD.v (Value.int IntKind.u32 0))] true, Box.mk 86 [DV.p (PD.v (Value.int IntKind.u32 0))] true, Box.mk 82 [DV.p (PD.sl [PD.v (Value.int IntKind.u32 1)])] false, Box.mk 86 [DV.p (PD.v (Value.int IntKind.u32 3))] true, Box.mk 183 [DV.p (PD.v (Value.int IntKind.u64 0))] false, Box.mk 82 [DV.row 1 [PD.v (Value.int IntKind.u32 0), PD.v (Value.int IntKind.u32 0)]] false, Box.mk 183 [DV.p (PD.v (Value.int IntKind.u64 0))] false, Box.mk 86 [DV.p (PD.v (Value.int IntKind.u32 0))] true, Box.mk 86 [DV.p (PD.v (Value.int IntKind.u32 0))] true, Box.mk 86 [DV.p (PD.v (Value.int IntKind.u32 1))] true, Box.mk 183 [DV.p (PD.v (Value.int IntKind.u64 0))] false, Box.mk 82 [DV.p (PD.v (Value.slice none 0 0))] false, Box.mk 183 [DV.p (PD.v (Value.int IntKind.u64 0))] false] [some (86, 1, 2), some (86, 1, 2)] [])) (.c (cmp11 (1) (1)) (.c (@rfl Mem (Mem.mk [Box.mk 84 [DV.p (PD.v (Value.bool false)), DV.p (PD.sl [PD.v (Value.int IntKind.u32 3)]), DV.p (PD.sl [PD.v (Value.int IntKind.u32 1)])] false, Box.mk 84 [DV.p (PD.v (Value.bool false)), DV.p (PD.sl [PD.v (Value.int IntKind.u32 3)]), DV.p (PD.sl [PD.v (Value.int IntKind.u32 1)])] false, Box.mk 84 [DV.p (PD.v (Value.bool false)), DV.p (PD.v (Value.slice none 0 0)), DV.p (PD.v (Value.slice none 0 0))] false, Box.mk 84 [DV.p (PD.v (Value.bool false)), DV.p (PD.v (Value.slice none 0 0)), DV.p (PD.v (Value.slice none 0 0))] false, Box.mk 86 [DV.p (PD.v (Value.int IntKind.u32 3))] true, Box.mk 183 [DV.p (PD.v (Value.int IntKind.u64 0))] false, Box.mk 82 [DV.row 0 [PD.v (Value.int IntKind.u32 0), PD.v (Value.int IntKind.u32 0)]] false, Box.mk 183 [DV.p (PD.v (Value.int IntKind.u64 0))] false, Box.mk 86 [DV.p (PD.v (Value.int IntKind.u32 0))] true, Box.mk 86 [DV.p (PD.v (Value.int IntKind.u32 0))] true, Box.mk 82 [DV.p (PD.sl [PD.v (Value.int IntKind.u32 1)])] false, Box.mk 86 [DV.p (PD.v (Value.int IntKind.u32 3))] true, Box.mk 183 [DV.p (PD.v (Value.int IntKind.u64 0))] false, Box.mk 82 [DV.row 1 [PD.v (Value.int IntKind.u32 0)]] false, Box.mk 183 [DV.p (PD.v (Value.int IntKind.u64 0))] false, Box.mk 86 [DV.p (PD.v (Value.int IntKind.u32 0))] true] [some (86, 1, 2), some (86, 1, 1)] [])) (.c (@rfl Mem (Mem.mk [Box.mk 84 [DV.p (PD.v (Value.bool false)), DV.p (PD.sl [PD.v (Value.int IntKind.u32 3)]), DV.p (PD.sl [PD.v (Value.int IntKind.u32 1)])] false, Box.mk 84 [DV.p (PD.v (Value.bool false)), DV.p (PD.sl [PD.v (Value.int IntKind.u32 3)]), DV.p (PD.sl [PD.v (Value.int IntKind.u32 1)])] false, Box.mk 84 [DV.p (PD.v (Value.bool false)), DV.p (PD.v (Value.slice none 0 0)), DV.p (PD.v (Value.slice none 0 0))] false, Box.mk 84 [DV.p (PD.v (Value.bool false)), DV.p (PD.v (Value.slice none 0 0)), DV.p (PD.v (Value.slice none 0 0))] false, Box.mk 86 [DV.p (PD.v (Value.int IntKind.u32 3))] true, Box.mk 183 [DV.p (PD.v (Value.int IntKind.u64 0))] false, Box.mk 82 [DV.row 0 [PD.v (Value.int IntKind.u32 0), PD.v (Value.int IntKind.u32 0)]] false, Box.mk 183 [DV.p (PD.v (Value.int IntKind.u64 0))] false, Box.mk 86 [DV.p (PD.v (Value.int IntKind.u32 0))] true, Box.mk 86 [DV.p (PD.v (Value.int IntKind.u32 0))] true, Box.mk 82 [DV.p (PD.sl [PD.v (Value.int IntKind.u32 1)])] false, Box.mk 86 [DV.p (PD.v (Value.int IntKind.u32 3))] true, Box.mk 183 [DV.p (PD.v (Value.int IntKind.u64 0))] false, Box.mk 82 [DV.p (PD.v (Value.slice none 0 0))] false, Box.mk 183 [DV.p (PD.v (Value.int IntKind.u64 0))] false] [some (86, 1, 2)] [])) (.c (cmp11 (3) (1)) (.c (@rfl Mem (Mem.mk [Box.mk 84 [DV.p (PD.v (Value.bool false)), DV.p (PD.sl [PD.v (Value.int IntKind.u32 3)]), DV.p (PD.sl [PD.v (Value.int IntKind.u32 1)])] false, Box.mk 84 [DV.p (PD.v (Value.bool false)), DV.p (PD.sl [PD.v (Value.int IntKind.u32 3)]), DV.p (PD.sl [PD.v (Value.int IntKind.u32 1)])] false, Box.mk 84 [DV.p (PD.v (Value.bool false)), DV.p (PD.v (Value.slice none 0 0)), DV.p (PD.v (Value.slice none 0 0))] false, Box.mk 84 [DV.p (PD.v (Value.bool false)), DV.p (PD.v (Value.slice none 0 0)), DV.p (PD.v (Value.slice none 0 0))] false, Box.mk 86 [DV.p (PD.v (Value.int IntKind.u32 3))] true, Box.mk 183 [DV.p (PD.v (Value.int IntKind.u64 0))] false, Box.mk 82 [DV.row 0 [PD.v (Value.int IntKind.u32 0)]] false, Box.mk 183 [DV.p (PD.v (Value.int IntKind.u64 0))] false, Box.mk 86 [DV.p (PD.v (Value.int IntKind.u32 0))] true] [some (86, 1, 1)] [])) (.c (@rfl Mem (Mem.mk [Box.mk 84 [DV.p (PD.v (Value.bool false)), DV.p (PD.sl [PD.v (Value.int IntKind.u32 3)]), DV.p (PD.sl [PD.v (Value.int IntKind.u32 1)])] false, Box.mk 84 [DV.p (PD.v (Value.bool false)), DV.p (PD.sl [PD.v (Value.int IntKind.u32 3)]), DV.p (PD.sl [PD.v (Value.int IntKind.u32 1)])] false, Box.mk 84 [DV.p (PD.v (Value.bool false)), DV.p (PD.v (Value.slice none 0 0)), DV.p (PD.v (Value.slice none 0 0))] false, Box.mk 84 [DV.p (PD.v (Value.bool false)), DV.p (PD.v (Value.slice none 0 0)), DV.p (PD.v (Value.slice none 0 0))] false, Box.mk 86 [DV.p (PD.v (Value.int IntKind.u32 3))] true, Box.mk 183 [DV.p (PD.v (Value.int IntKind.u64 0))] false, Box.mk 82 [DV.p (PD.v (Value.slice none 0 0))] false, Box.mk 183 [DV.p (PD.v (Value.int IntKind.u64 0))] false] [] [])) (.c (cmp11 (3) (1)) .n))))))))))) (by kernel_rfl)) ?_
  rfl
end Go.Proofs.YtikfefjaeejeeaaGreatDoor
/- Walks: graph.Shapes, Check. -/
namespace Go.Proofs.YtikfefjaeejeeaaGreatDoor
open Go.RowKit
set_option maxRecDepth 100000
def boxL (d : DV) : Box := ⟨37, [d], false⟩
def boxE (e : Int) : Box := ⟨32, [.p (intP e)], false⟩
def errV (e : Int) : Value := .iface 32 (.int .i64 e)
theorem shapesRec0 (B0 B1 B2 : Box) : RecRun Tryz.prog 36 [.loc 1 0, .loc 2 0] none ⟨[B0, B1, B2], [], []⟩ ⟨[B0, B1, B2], [], []⟩ := by
  refine ⟨_, _, _, _, _, 3, 2, Callable.mk Tryz.func36 rfl rfl, rfl, rfl, rfl, rfl, rfl, rfl, rfl, by decide, by decide, ?_⟩
  intro Q hQ
  refine crun [] ⟨[], [], [], none⟩ [] (AX.norm) (St.mk (mkT 8 []) (Mem.mk [if (Fin_.mk [] [] [] none).fb.contains 0 = true then Box.mk B0.t (List.map (fun x => DV.undef) B0.cells) B0.shut else B0, if (Fin_.mk [] [] [] none).fb.contains (0 + 1) = true then Box.mk B1.t (List.map (fun x => DV.undef) B1.cells) B1.shut else B1, if (Fin_.mk [] [] [] none).fb.contains (0 + 1 + 1) = true then Box.mk B2.t (List.map (fun x => DV.undef) B2.cells) B2.shut else B2] [] [])) .n (by kernel_rfl) ?_
  exact (hQ _ rfl).1
theorem shapesRec1 (B0 : Box) (d : DV) (k e : Int) : RecRun Tryz.prog 36 [.loc 1 0, .loc 2 0] (some (errV e)) ⟨[B0, boxL d, boxE k], [], []⟩ ⟨[B0, boxL (.p (.v (.slice none 0 0))), boxE e], [], []⟩ := by
  refine ⟨_, _, _, _, _, 3, 2, Callable.mk Tryz.func36 rfl rfl, rfl, rfl, rfl, rfl, rfl, rfl, rfl, by decide, by decide, ?_⟩
  intro Q hQ
  refine crun [] ⟨[], [], [], none⟩ [] (AX.norm) (St.mk (mkT 8 []) (Mem.mk [if (Fin_.mk [] [] [] none).fb.contains 0 = true then Box.mk B0.t (List.map (fun x => DV.undef) B0.cells) B0.shut else B0, Box.mk 37 [DV.p (PD.v (Value.slice none 0 0))] false, Box.mk 32 [DV.p (PD.v (Value.int IntKind.i64 e))] false] [] [])) .n (by kernel_rfl) ?_
  exact (hQ _ rfl).1
theorem shapes_ok (g : GraphM) (L : List PD) (hf : Pure Tryz.prog 37 [encG g] (.ret (.sl L))) (hv : Pure Tryz.prog 38 [encG g, .sl L] (.ret (.tup []))) :
    Pure Tryz.prog 16 [encG g] (.ret (.tup [.sl L, intP 0])) := by
  refine pure_of_rec (Callable.mk Tryz.func16 rfl rfl) (t := 4) (g := 36) rfl rfl rfl rfl rfl rfl (s1 := ⟨mkT 11 [(1, .loc 0 0), (2, .loc 1 0), (3, .loc 2 0)], ⟨[boxG g, boxL (.p (.v (.slice none 0 0))), boxE 0], [], []⟩⟩) ?_ (show (4 : Nat) < 11 by decide) (x := .ret) (s3 := ⟨mkT 11 [(2, .loc 1 0), (3, .loc 2 0)], ⟨[boxG g, boxL (.p (.sl L)), boxE 0], [], []⟩⟩) ?_ (pv := none) (.inl ⟨rfl, rfl⟩) (shapesRec0 _ _ _) rfl rfl rfl
  · intro Q hQ
    refine crun [] ⟨[1, 2, 3], [], [], none⟩ [] (AX.norm) (St.mk (mkT 11 [(1, DV.loc 0 0), (2, DV.loc 1 0), (3, DV.loc 2 0)]) (Mem.mk [Box.mk 29 [DV.p (PD.v (Value.int IntKind.i64 g.ver)), DV.p (PD.sl (List.map encPort g.ins)), DV.p (PD.sl (List.map encWeight g.ws)), DV.p (PD.sl (List.map encNode g.bn)), DV.p (PD.sl (nums IntKind.i64 g.bo)), DV.p (PD.v (Value.bool g.has)), DV.p (PD.sl (List.map encNode g.vn)), DV.p (PD.sl (nums IntKind.i64 g.vo))] false, Box.mk 37 [DV.p (PD.v (Value.slice none 0 0))] false, Box.mk 32 [DV.p (PD.v (Value.int IntKind.i64 0))] false] [] [])) .n (by kernel_rfl) ?_
    exact hQ
  · intro Q hQ
    refine crun [] ⟨[2, 3], [], [], none⟩ [(3, .call (AEnd.ret (PD.sl L))), (10, .call (AEnd.ret (PD.tup [])))] (AX.ret) (St.mk (mkT 11 [(2, DV.loc 1 0), (3, DV.loc 2 0)]) (Mem.mk [Box.mk 29 [DV.p (PD.v (Value.int IntKind.i64 g.ver)), DV.p (PD.sl (List.map encPort g.ins)), DV.p (PD.sl (List.map encWeight g.ws)), DV.p (PD.sl (List.map encNode g.bn)), DV.p (PD.sl (nums IntKind.i64 g.bo)), DV.p (PD.v (Value.bool g.has)), DV.p (PD.sl (List.map encNode g.vn)), DV.p (PD.sl (nums IntKind.i64 g.vo))] false, Box.mk 37 [DV.p (PD.sl L)] false, Box.mk 32 [DV.p (PD.v (Value.int IntKind.i64 0))] false] [] [])) (.c (hv) (.c (hf) .n)) (by kernel_rfl) ?_
    exact hQ
theorem shapes_err1 (g : GraphM) (e : Int) (hf : Pure Tryz.prog 37 [encG g] (.panic (.v (errV e)))) :
    Pure Tryz.prog 16 [encG g] (.ret (.tup [.sl [], intP e])) := by
  refine pure_of_rec (Callable.mk Tryz.func16 rfl rfl) (t := 4) (g := 36) rfl rfl rfl rfl rfl rfl (s1 := ⟨mkT 11 [(1, .loc 0 0), (2, .loc 1 0), (3, .loc 2 0)], ⟨[boxG g, boxL (.p (.v (.slice none 0 0))), boxE 0], [], []⟩⟩) ?_ (show (4 : Nat) < 11 by decide) (x := .panic (.p (.v (errV e)))) (s3 := ⟨mkT 11 [(2, .loc 1 0), (3, .loc 2 0)], ⟨[boxG g, boxL (.p (.v (.slice none 0 0))), boxE 0], [], []⟩⟩) ?_ (pv := some (errV e)) (.inr ⟨_, rfl, rfl⟩) (shapesRec1 _ _ _ _) rfl rfl rfl
  · intro Q hQ
    refine crun [] ⟨[1, 2, 3], [], [], none⟩ [] (AX.norm) (St.mk (mkT 11 [(1, DV.loc 0 0), (2, DV.loc 1 0), (3, DV.loc 2 0)]) (Mem.mk [Box.mk 29 [DV.p (PD.v (Value.int IntKind.i64 g.ver)), DV.p (PD.sl (List.map encPort g.ins)), DV.p (PD.sl (List.map encWeight g.ws)), DV.p (PD.sl (List.map encNode g.bn)), DV.p (PD.sl (nums IntKind.i64 g.bo)), DV.p (PD.v (Value.bool g.has)), DV.p (PD.sl (List.map encNode g.vn)), DV.p (PD.sl (nums IntKind.i64 g.vo))] false, Box.mk 37 [DV.p (PD.v (Value.slice none 0 0))] false, Box.mk 32 [DV.p (PD.v (Value.int IntKind.i64 0))] false] [] [])) .n (by kernel_rfl) ?_
    exact hQ
  · intro Q hQ
    refine crun [] ⟨[2, 3], [], [], none⟩ [(3, .call (AEnd.panic (PD.v (Value.iface 32 (Value.int IntKind.i64 e)))))] (AX.panic (DV.p (PD.v (Value.iface 32 (Value.int IntKind.i64 e))))) (St.mk (mkT 11 [(2, DV.loc 1 0), (3, DV.loc 2 0)]) (Mem.mk [Box.mk 29 [DV.p (PD.v (Value.int IntKind.i64 g.ver)), DV.p (PD.sl (List.map encPort g.ins)), DV.p (PD.sl (List.map encWeight g.ws)), DV.p (PD.sl (List.map encNode g.bn)), DV.p (PD.sl (nums IntKind.i64 g.bo)), DV.p (PD.v (Value.bool g.has)), DV.p (PD.sl (List.map encNode g.vn)), DV.p (PD.sl (nums IntKind.i64 g.vo))] false, Box.mk 37 [DV.p (PD.v (Value.slice none 0 0))] false, Box.mk 32 [DV.p (PD.v (Value.int IntKind.i64 0))] false] [] [])) (.c (hf) .n) (by kernel_rfl) ?_
    exact hQ
theorem shapes_err2 (g : GraphM) (L : List PD) (e : Int) (hf : Pure Tryz.prog 37 [encG g] (.ret (.sl L))) (hv : Pure Tryz.prog 38 [encG g, .sl L] (.panic (.v (errV e)))) :
    Pure Tryz.prog 16 [encG g] (.ret (.tup [.sl [], intP e])) := by
  refine pure_of_rec (Callable.mk Tryz.func16 rfl rfl) (t := 4) (g := 36) rfl rfl rfl rfl rfl rfl (s1 := ⟨mkT 11 [(1, .loc 0 0), (2, .loc 1 0), (3, .loc 2 0)], ⟨[boxG g, boxL (.p (.v (.slice none 0 0))), boxE 0], [], []⟩⟩) ?_ (show (4 : Nat) < 11 by decide) (x := .panic (.p (.v (errV e)))) (s3 := ⟨mkT 11 [(2, .loc 1 0), (3, .loc 2 0)], ⟨[boxG g, boxL (.p (.sl L)), boxE 0], [], []⟩⟩) ?_ (pv := some (errV e)) (.inr ⟨_, rfl, rfl⟩) (shapesRec1 _ _ _ _) rfl rfl rfl
  · intro Q hQ
    refine crun [] ⟨[1, 2, 3], [], [], none⟩ [] (AX.norm) (St.mk (mkT 11 [(1, DV.loc 0 0), (2, DV.loc 1 0), (3, DV.loc 2 0)]) (Mem.mk [Box.mk 29 [DV.p (PD.v (Value.int IntKind.i64 g.ver)), DV.p (PD.sl (List.map encPort g.ins)), DV.p (PD.sl (List.map encWeight g.ws)), DV.p (PD.sl (List.map encNode g.bn)), DV.p (PD.sl (nums IntKind.i64 g.bo)), DV.p (PD.v (Value.bool g.has)), DV.p (PD.sl (List.map encNode g.vn)), DV.p (PD.sl (nums IntKind.i64 g.vo))] false, Box.mk 37 [DV.p (PD.v (Value.slice none 0 0))] false, Box.mk 32 [DV.p (PD.v (Value.int IntKind.i64 0))] false] [] [])) .n (by kernel_rfl) ?_
    exact hQ
  · intro Q hQ
    refine crun [] ⟨[2, 3], [], [], none⟩ [(3, .call (AEnd.ret (PD.sl L))), (10, .call (AEnd.panic (PD.v (Value.iface 32 (Value.int IntKind.i64 e)))))] (AX.panic (DV.p (PD.v (Value.iface 32 (Value.int IntKind.i64 e))))) (St.mk (mkT 11 [(2, DV.loc 1 0), (3, DV.loc 2 0)]) (Mem.mk [Box.mk 29 [DV.p (PD.v (Value.int IntKind.i64 g.ver)), DV.p (PD.sl (List.map encPort g.ins)), DV.p (PD.sl (List.map encWeight g.ws)), DV.p (PD.sl (List.map encNode g.bn)), DV.p (PD.sl (nums IntKind.i64 g.bo)), DV.p (PD.v (Value.bool g.has)), DV.p (PD.sl (List.map encNode g.vn)), DV.p (PD.sl (nums IntKind.i64 g.vo))] false, Box.mk 37 [DV.p (PD.sl L)] false, Box.mk 32 [DV.p (PD.v (Value.int IntKind.i64 0))] false] [] [])) (.c (hv) (.c (hf) .n)) (by kernel_rfl) ?_
    exact hQ
theorem check_ok (g : GraphM) (L : PD) (e : Int) (h : Pure Tryz.prog 16 [encG g] (.ret (.tup [L, intP e]))) : Pure Tryz.prog 12 [encG g] (.ret (intP e)) := by
  refine pure_eq (prun [] [(9, .call (AEnd.ret (PD.tup [L, PD.v (Value.int IntKind.i64 e)])))] (e := AEnd.ret (PD.v (Value.int IntKind.i64 e))) (.c (h) .n) (by kernel_rfl)) ?_
  rfl
end Go.Proofs.YtikfefjaeejeeaaGreatDoor
/- Walks: the known graph. -/
namespace Go.Proofs.YtikfefjaeejeeaaGreatDoor
open Go.RowKit
set_option maxRecDepth 100000
def G0 : GraphM := ⟨3, [⟨⟨#[120]⟩, [2, 3]⟩], [⟨⟨#[119]⟩, [3, 1], [⟨false, [1], [1]⟩, ⟨false, [2], [1]⟩, ⟨false, [3], [1]⟩]⟩], [⟨10, [0, 1], []⟩, ⟨7, [2], []⟩], [3], false, [], []⟩
theorem sample_pure : Pure Tryz.prog 33 [] (.ret (encG G0)) := by
  refine pure_eq (prun [] [] (e := AEnd.ret (PD.agg [PD.v (Value.int IntKind.i64 3), PD.sl [PD.agg [PD.v (Value.string (ByteArray.mk #[120])), PD.sl [PD.v (Value.int IntKind.i64 2), PD.v (Value.int IntKind.i64 3)]]], PD.sl [PD.agg [PD.v (Value.string (ByteArray.mk #[119])), PD.sl [PD.v (Value.int IntKind.i64 3), PD.v (Value.int IntKind.i64 1)], PD.sl [PD.agg [PD.v (Value.bool false), PD.sl [PD.v (Value.int IntKind.u32 1)], PD.sl [PD.v (Value.int IntKind.u32 1)]], PD.agg [PD.v (Value.bool false), PD.sl [PD.v (Value.int IntKind.u32 2)], PD.sl [PD.v (Value.int IntKind.u32 1)]], PD.agg [PD.v (Value.bool false), PD.sl [PD.v (Value.int IntKind.u32 3)], PD.sl [PD.v (Value.int IntKind.u32 1)]]]]], PD.sl [PD.agg [PD.v (Value.int IntKind.i64 10), PD.sl [PD.v (Value.int IntKind.i64 0), PD.v (Value.int IntKind.i64 1)], PD.sl []], PD.agg [PD.v (Value.int IntKind.i64 7), PD.sl [PD.v (Value.int IntKind.i64 2)], PD.sl []]], PD.sl [PD.v (Value.int IntKind.i64 3)], PD.v (Value.bool false), PD.sl [], PD.sl []])) .n (by kernel_rfl)) ?_
  rfl
theorem fits0 : Pure Tryz.prog 131 [encT [3, 1] [⟨false, [1], [1]⟩, ⟨false, [2], [1]⟩, ⟨false, [3], [1]⟩]] (.ret (intP 0)) := by
  refine pure_eq (prun [0, 1, 2, 3, 4, 5, 6, 7, 8, 9, 10, 11, 12, 13, 14, 15, 16, 17, 18, 19, 20, 21, 22, 23, 24, 25, 26, 27, 28, 29, 30, 31, 32, 33, 34, 35, 36, 39, 40, 41, 42, 43, 44, 45, 46, 47, 48, 49, 50, 51, 52, 53, 54, 55, 56, 57, 58, 59, 60, 61, 62, 63, 64, 65, 66, 67, 68, 69, 70, 71, 72, 73, 74, 75, 76, 77, 78, 79, 80, 81, 82, 83, 84, 85, 86, 87, 88, 89, 90, 91, 92, 93, 94, 95, 96, 97, 98, 99, 100, 101, 102, 103, 105, 106, 108, 109, 110, 111, 112, 113, 114, 115, 116, 117, 118, 119, 120, 121, 122, 123, 124, 125, 126, 128, 129, 130, 131, 132, 133, 134, 135, 136, 137, 138, 139, 140, 141, 142, 143, 144, 145, 146, 147, 148, 149, 150, 151, 152, 153, 154, 155, 156, 157, 158, 159, 160, 161, 162, 163, 164, 165, 166, 167, 168, 169, 170, 171, 172, 173, 174, 175, 176, 177, 178, 179, 180, 181, 182, 183, 184, 185, 186, 187, 188, 189, 190, 191, 192, 193, 194, 195, 196, 197, 198, 199, 200, 201, 202, 203, 204, 205, 206, 207, 208, 209, 210, 211, 212, 213, 214, 215, 216, 217, 218, 219, 220, 221, 222, 223, 224, 225, 226, 227, 228, 229, 230, 231, 232, 233, 234, 235, 236, 237, 238, 239, 240, 241, 242, 243, 244, 245, 246, 247, 248, 249, 250, 251, 252, 253, 254, 255, 256, 257, 258, 259, 260, 261, 262, 263, 264, 265, 266] [] (e := AEnd.ret (PD.v (Value.int IntKind.i64 0))) .n (by kernel_rfl)) ?_
  rfl
theorem tmay0 : Pure Tryz.prog 107 [encT [3, 1] [⟨false, [1], [1]⟩, ⟨false, [2], [1]⟩, ⟨false, [3], [1]⟩]] (.ret (intP 0)) := tmay_ok _ _ (by decide) fits0 (by
  intro r hr
  simp only [List.mem_cons, List.not_mem_nil, or_false] at hr
  rcases hr with rfl | rfl | rfl
  · exact may_1
  · exact may_2
  · exact may_3)
theorem cot_x : Pure Tryz.prog 104 [.v (.string ⟨#[120]⟩)] (.ret (.v (.bool false))) := by
  have h := cot_pure ⟨#[120]⟩ (by decide)
  rwa [show cotM ⟨#[120]⟩ = false by kernel_rfl] at h
theorem cot_w : Pure Tryz.prog 104 [.v (.string ⟨#[119]⟩)] (.ret (.v (.bool false))) := by
  have h := cot_pure ⟨#[119]⟩ (by decide)
  rwa [show cotM ⟨#[119]⟩ = false by kernel_rfl] at h
/-- told answers, by table -/
def orcT (T : List (FuncId × List PD × AEnd)) : FuncId → List PD → Option AEnd := fun f l => (T.find? fun e => e.1 == f && lB (pB 50) e.2.1 l).map (·.2.2)
theorem orcT_ok {T : List (FuncId × List PD × AEnd)} (h : ∀ e ∈ T, Pure Tryz.prog e.1 e.2.1 e.2.2) (f : FuncId) (l : List PD) (r : AEnd) (hr : orcT T f l = some r) : Pure Tryz.prog f l r := by
  unfold orcT at hr
  simp only [Option.map_eq_some_iff] at hr
  obtain ⟨e, he, rfl⟩ := hr
  have h1 := List.find?_some he
  simp only [Bool.and_eq_true, beq_iff_eq] at h1
  have h2 := lB_eq (f := pB 50) (pB_eq 50) h1.2
  rw [← h1.1, ← h2]
  exact h e (List.mem_of_find?_eq_some he)
def T0 : List (FuncId × List PD × AEnd) := [(104, [.v (.string ⟨#[120]⟩)], .ret (.v (.bool false))), (104, [.v (.string ⟨#[119]⟩)], .ret (.v (.bool false))),
  (107, [encT [3, 1] [⟨false, [1], [1]⟩, ⟨false, [2], [1]⟩, ⟨false, [3], [1]⟩]], .ret (intP 0)),
  (48, [.sl []], .ret (.sl [])), (87, [.sl []], .ret (.sl [])), (92, [.sl []], .ret (.sl []))]
theorem T0_ok : ∀ e ∈ T0, Pure Tryz.prog e.1 e.2.1 e.2.2 := by
  intro e he
  simp only [T0, List.mem_cons, List.not_mem_nil, or_false] at he
  rcases he with rfl | rfl | rfl | rfl | rfl | rfl
  · exact cot_x
  · exact cot_w
  · exact tmay0
  · exact clone48_empty
  · exact clone87_empty
  · exact clone92_empty
theorem fitT : Fit Tryz.prog (orcT T0) := fit_of (orcT_ok T0_ok)
def inl0 : FuncId → Bool := fun f => f == 69 || f == 71
def SH0 : PD := .sl [intL [2, 3], intL [3, 1], intL [2, 1], intL [2, 1]]
theorem forward0 : Pure Tryz.prog 37 [encG G0] (.ret SH0) := run_pure (inl := inl0) fitT 4000 (by kernel_rfl)
end Go.Proofs.YtikfefjaeejeeaaGreatDoor
/- Walks: known. -/
namespace Go.Proofs.YtikfefjaeejeeaaGreatDoor
open Go.RowKit
set_option maxRecDepth 100000
def G1 : GraphM := { G0 with bn := [⟨10, [0, 3], []⟩, ⟨7, [2], []⟩] }
theorem forward1 : Pure Tryz.prog 37 [encG G1] (.panic (.v (errV 12))) := run_pure (inl := inl0) fitT 4000 (by kernel_rfl)
theorem vjp0 : Pure Tryz.prog 38 [encG G0, SH0] (.ret (.tup [])) := run_pure (inl := inl0) fitT 4000 (by kernel_rfl)
theorem shapes0 : Pure Tryz.prog 16 [encG G0] (.ret (.tup [SH0, intP 0])) := shapes_ok G0 _ forward0 vjp0
theorem check1 : Pure Tryz.prog 12 [encG G1] (.ret (intP 12)) := check_ok G1 _ 12 (shapes_err1 G1 12 forward1)
set_option maxHeartbeats 4000000 in
theorem known_pure : Pure Tryz.prog 11 [] (.ret (boolP true)) := by
  have h1 := shapes0
  have h2 := check1
  refine pure_eq (prun [33, 17] [(140, .call (AEnd.ret (PD.tup [PD.sl [PD.sl [PD.v (Value.int IntKind.i64 2), PD.v (Value.int IntKind.i64 3)], PD.sl [PD.v (Value.int IntKind.i64 3), PD.v (Value.int IntKind.i64 1)], PD.sl [PD.v (Value.int IntKind.i64 2), PD.v (Value.int IntKind.i64 1)], PD.sl [PD.v (Value.int IntKind.i64 2), PD.v (Value.int IntKind.i64 1)]], PD.v (Value.int IntKind.i64 0)]))), (731, .callb (PD.v (Value.int IntKind.i64 12)))] (e := AEnd.ret (PD.v (Value.bool true))) (.c (h2) (.c (h1) .n)) (by kernel_rfl)) ?_
  rfl
end Go.Proofs.YtikfefjaeejeeaaGreatDoor
/- Walks: whether two graphs are the same. -/
namespace Go.Proofs.YtikfefjaeejeeaaGreatDoor
open Go.RowKit
set_option maxRecDepth 100000
theorem eqL_refl (a : List Int) : eqL a a = true := eqF_refl fun x _ => by unfold eqI; exact decide_eq_true rfl
theorem graphE_refl (g : GraphM) : graphE g g = true := by
  have hn : ∀ x : NodeM, nodeE x x = true := fun x => by unfold nodeE; rw [eqL_refl, eqL_refl]; simp
  have hp : ∀ x : PortM, portE x x = true := fun x => by unfold portE; rw [eqL_refl]; simp
  have hr : ∀ x : RatM, ratE x x = true := fun x => decide_eq_true rfl
  have hw : ∀ x : WeightM, weightE x x = true := fun x => by unfold weightE; rw [eqL_refl, eqF_refl fun y _ => hr y]; simp
  unfold graphE bodyE
  rw [eqF_refl fun y _ => hp y, eqF_refl fun y _ => hw y, eqL_refl, eqL_refl, eqF_refl fun y _ => hn y, eqF_refl fun y _ => hn y]
  simp
set_option maxHeartbeats 2000000 in
theorem same_pure (a b : GraphM) (ha : SmG a) (hb : SmG b) : Pure Tryz.prog 9 [encG a, encG b] (.ret (boolP true)) := by
  have f1 := few_pure a ha
  have f2 := few_pure b hb
  have kn := known_pure
  have o1 := own_pure a ha
  have o2 := own_pure b hb
  have s1 := gsame_pure a b ha hb
  have s2 := gsame2_pure a b ha hb
  have s3 := gsame_pure a a ha ha
  rw [graphE_refl] at s3
  clear ha hb
  generalize graphE a b = e at *
  unfold encG at *
  generalize decide (fewN a a.ws.length ≤ 5000) = p at *
  generalize decide (fewN b b.ws.length ≤ 5000) = q at *
  cases p with
  | false =>
    clear f2 o1 o2 s1 s2 s3
    refine pure_eq (prun [] [(11, .call (AEnd.ret (PD.v (Value.bool false)))), (22, .call (AEnd.ret (PD.v (Value.bool true))))] (e := AEnd.ret (PD.v (Value.bool true))) (.c (kn) (.c (f1) .n)) (by kernel_rfl)) ?_
    rfl
  | true =>
    cases q with
    | false =>
      clear o1 o2 s1 s2 s3
      refine pure_eq (prun [] [(11, .call (AEnd.ret (PD.v (Value.bool true)))), (15, .call (AEnd.ret (PD.v (Value.bool false)))), (22, .call (AEnd.ret (PD.v (Value.bool true))))] (e := AEnd.ret (PD.v (Value.bool true))) (.c (kn) (.c (f2) (.c (f1) .n))) (by kernel_rfl)) ?_
      rfl
    | true =>
      cases e with
      | true =>
        refine pure_eq (prun [] [(11, .call (AEnd.ret (PD.v (Value.bool true)))), (15, .call (AEnd.ret (PD.v (Value.bool true)))), (24, .call (AEnd.ret (PD.agg [PD.v (Value.int IntKind.i64 a.ver), PD.sl (List.map encPort a.ins), PD.sl (List.map encWeight a.ws), PD.sl (List.map encNode a.bn), PD.sl (nums IntKind.i64 a.bo), PD.v (Value.bool a.has), PD.sl (List.map encNode a.vn), PD.sl (nums IntKind.i64 a.vo)]))), (26, .call (AEnd.ret (PD.agg [PD.v (Value.int IntKind.i64 b.ver), PD.sl (List.map encPort b.ins), PD.sl (List.map encWeight b.ws), PD.sl (List.map encNode b.bn), PD.sl (nums IntKind.i64 b.bo), PD.v (Value.bool b.has), PD.sl (List.map encNode b.vn), PD.sl (nums IntKind.i64 b.vo)]))), (27, .call (AEnd.ret (PD.v (Value.bool true)))), (30, .call (AEnd.ret (PD.v (Value.bool true)))), (35, .call (AEnd.ret (PD.agg [PD.v (Value.int IntKind.i64 a.ver), PD.sl (List.map encPort a.ins), PD.sl (List.map encWeight a.ws), PD.sl (List.map encNode a.bn), PD.sl (nums IntKind.i64 a.bo), PD.v (Value.bool a.has), PD.sl (List.map encNode a.vn), PD.sl (nums IntKind.i64 a.vo)]))), (36, .call (AEnd.ret (PD.v (Value.bool true)))), (39, .call (AEnd.ret (PD.v (Value.bool true))))] (e := AEnd.ret (PD.v (Value.bool true))) (.c (kn) (.c (s3) (.c (o1) (.c (s2) (.c (s1) (.c (o2) (.c (o1) (.c (f2) (.c (f1) .n))))))))) (by kernel_rfl)) ?_
        rfl
      | false =>
        refine pure_eq (prun [] [(11, .call (AEnd.ret (PD.v (Value.bool true)))), (15, .call (AEnd.ret (PD.v (Value.bool true)))), (24, .call (AEnd.ret (PD.agg [PD.v (Value.int IntKind.i64 a.ver), PD.sl (List.map encPort a.ins), PD.sl (List.map encWeight a.ws), PD.sl (List.map encNode a.bn), PD.sl (nums IntKind.i64 a.bo), PD.v (Value.bool a.has), PD.sl (List.map encNode a.vn), PD.sl (nums IntKind.i64 a.vo)]))), (26, .call (AEnd.ret (PD.agg [PD.v (Value.int IntKind.i64 b.ver), PD.sl (List.map encPort b.ins), PD.sl (List.map encWeight b.ws), PD.sl (List.map encNode b.bn), PD.sl (nums IntKind.i64 b.bo), PD.v (Value.bool b.has), PD.sl (List.map encNode b.vn), PD.sl (nums IntKind.i64 b.vo)]))), (27, .call (AEnd.ret (PD.v (Value.bool false)))), (30, .call (AEnd.ret (PD.v (Value.bool false)))), (35, .call (AEnd.ret (PD.agg [PD.v (Value.int IntKind.i64 a.ver), PD.sl (List.map encPort a.ins), PD.sl (List.map encWeight a.ws), PD.sl (List.map encNode a.bn), PD.sl (nums IntKind.i64 a.bo), PD.v (Value.bool a.has), PD.sl (List.map encNode a.vn), PD.sl (nums IntKind.i64 a.vo)]))), (36, .call (AEnd.ret (PD.v (Value.bool true)))), (39, .call (AEnd.ret (PD.v (Value.bool true))))] (e := AEnd.ret (PD.v (Value.bool true))) (.c (kn) (.c (s3) (.c (o1) (.c (s2) (.c (s1) (.c (o2) (.c (o1) (.c (f2) (.c (f1) .n))))))))) (by kernel_rfl)) ?_
        rfl
end Go.Proofs.YtikfefjaeejeeaaGreatDoor
/- What is handed in, as pure data. -/
namespace Go.Proofs.YtikfefjaeejeeaaGreatDoor
open Go.RowKit
variable {H : Type} {enc : TypeId × Value → H} {P : Program} {w : World} {base : Nat} {sp : Nat → Bool} {held : Bool}

/-- shapes of what is handed in: a struct is its fields, one behind the other -/
inductive Sh where
  | b
  | i (k : IntKind)
  | s
  | sl (e : Sh)
  | pr (a r : Sh)
  | un
def Sh.sz : Sh → Nat
  | .pr a r => a.sz + r.sz
  | .un => 0
  | _ => 1
def Sh.str : Sh → Bool
  | .pr _ _ | .un => true
  | _ => false
/-- fields, from cell o on -/
def flM (P : Program) (g : TypeId → Sh → Bool) : List Field → Nat → Sh → Bool
  | [], _, .un => true
  | f :: r, o, .pr a q => Nat.beq f.offset o && Nat.beq (P.cellsOf f.type) a.sz && g f.type a && flM P g r (o + a.sz) q
  | _, _, _ => false
/-- has a type the shape? -/
def shM (P : Program) : Nat → TypeId → Sh → Bool
  | 0, _, _ => false
  | n + 1, t, sh => match P.underlying t with
    | some .bool => match sh with | .b => true | _ => false
    | some (.int k) => match sh with | .i k' => decide (k' = k) | _ => false
    | some .string => match sh with | .s => true | _ => false
    | some (.slice e) => match sh with | .sl a => Nat.beq (P.cellsOf e) a.sz && Nat.blt 0 a.sz && Nat.blt 0 (P.bytesOf e) && shM P n e a | _ => false
    | some (.struct fs) => sh.str && Nat.beq (P.cellsOf t) sh.sz && flM P (shM P n) fs.toList 0 sh
    | _ => false
def mkEl (e : Sh) (cs : List PD) : PD := match e with
  | .pr _ _ | .un => .agg cs
  | _ => cs.headD (.v (.bool false))
/-- cells that read as a shape -/
def TyS : Sh → List PD → Prop
  | .b, ps => ∃ b, ps = [.v (.bool b)]
  | .i k, ps => ∃ z, ps = [.v (.int k z)] ∧ (Lit.int k z).wf = true
  | .s, ps => ∃ s : ByteArray, ps = [.v (.string s)] ∧ s.size ≤ reachBytes
  | .sl e, ps => ∃ els, ps = [.sl els] ∧ els.length ≤ reachBytes ∧ ∀ d ∈ els, ∃ cs, d = mkEl e cs ∧ TyS e cs
  | .pr a r, ps => ∃ p q, ps = p ++ q ∧ TyS a p ∧ TyS r q
  | .un, ps => ps = []
theorem TyS.length : ∀ {sh : Sh} {ps : List PD}, TyS sh ps → ps.length = sh.sz
  | .b, _, ⟨_, h⟩ => by subst h; rfl
  | .i k, _, ⟨_, h, _⟩ => by subst h; rfl
  | .s, _, ⟨_, h, _⟩ => by subst h; rfl
  | .sl e, _, ⟨_, h, _⟩ => by subst h; rfl
  | .pr a r, _, ⟨p, q, h, h1, h2⟩ => by subst h; simp [Sh.sz, TyS.length h1, TyS.length h2]
  | .un, _, h => by have h : _ = [] := h; subst h; rfl
theorem mkEl_cells {sh : Sh} {ps : List PD} (h : TyS sh ps) : (mkEl sh ps).cells = ps := by
  cases sh with
  | b => obtain ⟨_, rfl⟩ := h; rfl
  | i k => obtain ⟨_, rfl, _⟩ := h; rfl
  | s => obtain ⟨_, rfl, _⟩ := h; rfl
  | sl e => obtain ⟨_, rfl, _⟩ := h; rfl
  | pr a r => rfl
  | un => rfl

/-- cells that live -/
def Liv (w : World) : Nat → Nat → Prop := fun b _ => b < w.heap.size
theorem cell_live {w : World} {a : Addr} {v : Value} (h : w.cell? a = some v) : a.spot = none ∧ a.block < w.heap.size := by
  unfold World.cell? at h
  split at h
  · rename_i c t q hc
    split at h
    · cases h
    · rename_i hs
      exact ⟨by simpa using hs, (Array.getElem?_eq_some_iff.1 hc).1⟩
  · cases h

/-- cells read as pure data -/
def CellsRd (w : World) (ps : List PD) (cs : List Value) : Prop := ∀ (i : Nat) (q : PD) (c : Value), ps[i]? = some q → cs[i]? = some c → PRel (Liv w) w q c ∧ c.oneCell' = true

theorem trod_fields {g : TypeId → Sh → Bool} {fuel : Nat} {cs : List Value} (ih : ∀ t sh cs x, g t sh = true → DataW.trod enc P w base sp held fuel t cs = some x → (∀ k ∈ DataW.weights P t x.1, k ≤ reachBytes) → ∃ ps, TyS sh ps ∧ cs.length = sh.sz ∧ CellsRd w ps cs) :
    ∀ (fs : List Field) (o : Nat) (sh : Sh), flM P g fs o sh = true → (∀ f ∈ fs, ∃ x, DataW.trod enc P w base sp held fuel f.type ((cs.drop f.offset).take (P.cellsOf f.type)) = some x ∧ ∀ k ∈ DataW.weights P f.type x.1, k ≤ reachBytes) → o + sh.sz ≤ cs.length → ∃ ps, TyS sh ps ∧ CellsRd w ps (cs.drop o)
  | [], o, sh, h, hm, hl => by
    cases sh <;> simp only [flM, Bool.false_eq_true] at h
    exact ⟨[], rfl, fun i q c hq => by simp at hq⟩
  | f :: r, o, sh, h, hm, hl => by
    cases sh with
    | pr a q =>
      simp only [flM, Bool.and_eq_true] at h
      obtain ⟨⟨⟨h1, h2⟩, h3⟩, h4⟩ := h
      have h1 := Nat.eq_of_beq_eq_true h1
      have h2 := Nat.eq_of_beq_eq_true h2
      simp only [Sh.sz] at hl
      obtain ⟨x, hx, hxw⟩ := hm f List.mem_cons_self
      obtain ⟨p, p1, p2, p3⟩ := ih _ _ _ _ h3 hx hxw
      obtain ⟨pq, q1, q2⟩ := trod_fields ih r (o + a.sz) q h4 (fun f hf => hm f (List.mem_cons_of_mem _ hf)) (by omega)
      refine ⟨p ++ pq, ⟨p, pq, rfl, p1, q1⟩, fun i e c he hc => ?_⟩
      have hpl := p1.length
      rcases Nat.lt_or_ge i p.length with hi | hi
      · rw [List.getElem?_append_left hi] at he
        refine p3 i e c he ?_
        rw [h1, h2, List.getElem?_take, if_pos (by omega)]
        exact hc
      · rw [List.getElem?_append_right hi] at he
        refine q2 (i - p.length) e c he ?_
        rw [List.getElem?_drop] at hc ⊢
        rw [← hc]
        congr 1
        omega
    | _ => simp [flM] at h
theorem add_add {a : Addr} {i j : Nat} (h : a.spot = none) : (a.add i).add j = ⟨a.block, a.off + (i + j), none⟩ := by
  obtain ⟨b, o, s⟩ := a
  simp only at h
  subst h
  unfold Addr.add
  split <;> split <;> simp_all <;> omega
theorem weightsEach_mem : ∀ {ts : List TypeId} {ds : List (DataW H)} {i : Nat} {t : TypeId} {d : DataW H} {k : Nat}, ts[i]? = some t → ds[i]? = some d → k ∈ DataW.weights P t d → k ∈ DataW.weightsEach P ts ds
  | [], _, i, _, _, _, h, _, _ => by simp at h
  | _ :: _, [], i, _, _, _, _, h, _ => by simp at h
  | t :: ts, d :: ds, 0, _, _, k, h1, h2, h => by
    simp only [List.getElem?_cons_zero, Option.some.injEq] at h1 h2
    subst h1; subst h2
    simp only [DataW.weightsEach, List.mem_append]
    exact .inl h
  | t :: ts, d :: ds, i + 1, _, _, k, h1, h2, h => by
    simp only [List.getElem?_cons_succ] at h1 h2
    simp only [DataW.weightsEach, List.mem_append]
    exact .inr (weightsEach_mem h1 h2 h)
theorem weightsAll_mem {e : TypeId} : ∀ {ds : List (DataW H)} {d : DataW H} {k : Nat}, d ∈ ds → k ∈ DataW.weights P e d → k ∈ DataW.weightsAll P e ds
  | [], _, _, h, _ => by cases h
  | a :: r, d, k, h, hk => by
    simp only [DataW.weightsAll, List.mem_append]
    rcases List.mem_cons.1 h with rfl | h
    · exact .inl hk
    · exact .inr (weightsAll_mem h hk)
theorem trod_pd : ∀ (n : Nat) (t : TypeId) (sh : Sh) (fuel : Nat) (cs : List Value) (x : DataW H × List MemPlace), shM P n t sh = true → DataW.trod enc P w base sp held fuel t cs = some x → (∀ k ∈ DataW.weights P t x.1, k ≤ reachBytes) → ∃ ps, TyS sh ps ∧ cs.length = sh.sz ∧ CellsRd w ps cs
  | 0, t, sh, fuel, cs, x, h, _, _ => by simp [shM] at h
  | n + 1, t, sh, fuel, cs, x, h, hx, hw => by
    have one : ∀ (q : PD) (c : Value), PRel (Liv w) w q c → c.oneCell' = true → CellsRd w [q] [c] := by
      intro q c h1 h2 i q' c' hq hc
      cases i with
      | zero => simp only [List.getElem?_cons_zero, Option.some.injEq] at hq hc; subst hq; subst hc; exact ⟨h1, h2⟩
      | succ i => simp at hq
    unfold shM at h
    split at h
    · rename_i hu
      obtain ⟨b, rfl, _⟩ := DataW.trod_bool hu hx
      cases sh <;> simp only [Bool.false_eq_true] at h
      exact ⟨[.v (.bool b)], ⟨b, rfl⟩, rfl, one _ _ (.v _) rfl⟩
    · rename_i k hu
      obtain ⟨z, rfl, _, hz⟩ := DataW.trod_int hu hx
      cases sh <;> simp only [Bool.false_eq_true] at h
      simp only [decide_eq_true_eq] at h
      subst h
      exact ⟨[.v (.int _ z)], ⟨z, rfl, hz⟩, rfl, one _ _ (.v _) rfl⟩
    · rename_i hu
      obtain ⟨s, rfl, rfl, _⟩ := DataW.trod_string hu hx
      cases sh <;> simp only [Bool.false_eq_true] at h
      have hs : s.size ≤ reachBytes := hw s.size (by simp only [DataW.weights, List.mem_singleton]; rfl)
      exact ⟨[.v (.string s)], ⟨s, rfl, hs⟩, rfl, one _ _ (.v _) rfl⟩
    · rename_i e hu
      cases sh with
      | sl a =>
        simp only [Bool.and_eq_true] at h
        obtain ⟨⟨⟨h1, h2⟩, hby⟩, h3⟩ := h
        have h1 := Nat.eq_of_beq_eq_true h1
        have hby : 0 < P.bytesOf e := by simpa using hby
        have h2 : 0 < a.sz := by simpa using h2
        rcases DataW.trod_slice hu hx with ⟨rfl, _⟩ | ⟨ad, len, cap, elems, rest, m, rfl, rfl, rfl, hb, hl, hc, hel, he, _⟩
        · refine ⟨[.sl []], ⟨[], rfl, by simp, fun d hd => by cases hd⟩, rfl, one _ _ ?_ rfl⟩
          exact .sl [] none 0 0 (fun _ => undef) (by simp) (by simp) (fun d hd => by cases hd) (fun i j d e hd => by simp at hd) (fun i j d e hd => by simp at hd)
        · simp only [DataW.weights, hu, List.mem_cons, List.mem_append, forall_eq_or_imp, List.length_map] at hw
          obtain ⟨hw0, hw1⟩ := hw
          have hlr : len ≤ reachBytes := by
            have : len * 1 ≤ (elems.length + rest.length) * P.bytesOf e := Nat.mul_le_mul (by omega) hby
            omega
          -- each element
          have key : ∀ i, i < len → ∃ cs ps, w.cells? base (ad.add (i * a.sz)) a.sz = some cs ∧ TyS a ps ∧ cs.length = a.sz ∧ CellsRd w ps cs := by
            intro i hi
            have := he i hi
            rw [List.getElem?_eq_getElem (by omega)] at this
            obtain ⟨cs, k1, k2⟩ := Option.bind_eq_some_iff.1 this
            obtain ⟨ps, k3, k4, k5⟩ := trod_pd n e a m cs _ h3 k2 (fun k hk => hw1 k (.inl (weightsAll_mem (List.mem_map.2 ⟨_, List.getElem_mem (by omega), rfl⟩) hk)))
            rw [h1] at k1
            exact ⟨cs, ps, k1, k3, k4, k5⟩
          obtain ⟨f, hf⟩ : ∃ f : Nat → List PD, ∀ i, i < len → ∃ cs, w.cells? base (ad.add (i * a.sz)) a.sz = some cs ∧ TyS a (f i) ∧ cs.length = a.sz ∧ CellsRd w (f i) cs := by
            refine ⟨fun i => if h : i < len then Classical.choose (Classical.choose_spec (key i h)) else [], fun i hi => ?_⟩
            simp only [dif_pos hi]
            exact ⟨Classical.choose (key i hi), Classical.choose_spec (Classical.choose_spec (key i hi))⟩
          have hsp : 0 < len → ad.spot = none := by
            intro h0
            obtain ⟨cs, k1, _, k3, _⟩ := hf 0 h0
            obtain ⟨_, _, q⟩ := World.cells?_some k1
            have := q 0 h2
            rw [List.getElem?_eq_getElem (by omega)] at this
            have := (cell_live this).1
            simpa [Addr.add] using this
          have hel2 : ∀ (i : Nat) (d : PD), ((List.range len).map fun i => mkEl a (f i))[i]? = some d → i < len ∧ d = mkEl a (f i) := by
            intro i d hd
            rw [List.getElem?_map, Option.map_eq_some_iff] at hd
            obtain ⟨k, hk, hd⟩ := hd
            obtain ⟨hk1, hk2⟩ := List.getElem?_eq_some_iff.1 hk
            simp only [List.getElem_range, List.length_range] at hk1 hk2
            subst hk2
            exact ⟨hk1, hd.symm⟩
          have hcell : ∀ (i j : Nat) (d e : PD), ((List.range len).map fun i => mkEl a (f i))[i]? = some d → d.cells[j]? = some e → ∃ c, w.cell? ⟨ad.block, ad.off + (i * a.sz + j), none⟩ = some c ∧ PRel (Liv w) w e c ∧ c.oneCell' = true := by
            intro i j d e hd hj
            obtain ⟨hi, rfl⟩ := hel2 i d hd
            obtain ⟨cs, k1, k2, k3, k4⟩ := hf i hi
            rw [mkEl_cells k2] at hj
            have hjl : j < a.sz := by
              have := (List.getElem?_eq_some_iff.1 hj).1
              rw [k2.length] at this; exact this
            obtain ⟨_, _, q⟩ := World.cells?_some k1
            have q := q j hjl
            rw [add_add (hsp (by omega))] at q
            rw [List.getElem?_eq_getElem (by omega)] at q
            exact ⟨_, q, k4 j e _ hj (List.getElem?_eq_getElem (by omega))⟩
          refine ⟨[.sl ((List.range len).map fun i => mkEl a (f i))], ⟨_, rfl, by simpa using hlr, fun d hd => ?_⟩, rfl, one _ _ ?_ rfl⟩
          · obtain ⟨i, hi, rfl⟩ := List.mem_map.1 hd
            exact ⟨f i, rfl, (hf i (by simpa using hi)).choose_spec.2.1⟩
          · have := PRel.sl (Z := Liv w) (w := w) ((List.range len).map fun i => mkEl a (f i)) (some ad) cap a.sz (fun k => (w.cell? ⟨ad.block, ad.off + k, none⟩).getD undef) (by simpa using hl) (by simp; unfold maxLen at hc; omega)
              (fun d hd => by
                obtain ⟨i, hi, rfl⟩ := List.mem_map.1 hd
                have hi' : i < len := by simpa using hi
                obtain ⟨cs, _, k2, _⟩ := hf i hi'
                rw [mkEl_cells k2, k2.length])
              (fun i j d e hd hj => by
                obtain ⟨c, c1, c2, c3⟩ := hcell i j d e hd hj
                have hi := (hel2 i d hd).1
                refine ⟨ad.block, ad.off, ?_, (cell_live c1).2, by rw [c1]; rfl, by rw [c1]; exact c3⟩
                have := hsp (by omega)
                obtain ⟨b, o, s⟩ := ad
                simp only at this
                rw [this])
              (fun i j d e hd hj => by
                obtain ⟨c, c1, c2, c3⟩ := hcell i j d e hd hj
                simp only [c1, Option.getD_some]
                exact c2)
            simpa using this
      | _ => simp at h
    · rename_i fs hu
      obtain ⟨xs, m, rfl, rfl, hl, hxl, hxs⟩ := DataW.trod_struct hu hx
      simp only [DataW.weights, hu] at hw
      simp only [Bool.and_eq_true] at h
      obtain ⟨⟨_, h1⟩, h2⟩ := h
      have h1 := Nat.eq_of_beq_eq_true h1
      obtain ⟨ps, k1, k2⟩ := trod_fields (g := shM P n) (fuel := m) (cs := cs) (fun t sh cs x hg hx hw => trod_pd n t sh m cs x hg hx hw) fs.toList 0 sh h2 (fun f hf => by
        obtain ⟨i, hi, he⟩ := List.getElem_of_mem hf
        have hi' : i < fs.size := by simpa using hi
        have := hxs i f (by rw [← Array.getElem?_toList, List.getElem?_eq_getElem hi, he])
        rw [this, List.getElem?_eq_getElem (by omega)]
        exact ⟨_, rfl, fun k hk => hw k (weightsEach_mem (i := i) (by rw [List.getElem?_map, List.getElem?_eq_getElem hi, he]; rfl) (by rw [List.getElem?_map, List.getElem?_eq_getElem (by omega)]; rfl) hk)⟩) (by omega)
      exact ⟨ps, k1, by omega, by simpa using k2⟩
    · cases h
/-- a struct's value -/
theorem pd_struct {n : Nat} {t : TypeId} {sh : Sh} {fs : Array Field} {v : Value} {d : DataW H} {p : List MemPlace} {r : Reach} {b0 : Nat} (hu : P.underlying t = some (.struct fs)) (hval : Value.okWide P w r b0 t v) (hs : shM P n t sh = true) (h : DataW.Trod enc P w base sp held t v d p) (hw : ∀ k ∈ DataW.weights P t d, k ≤ reachBytes) : ∃ ps, TyS sh ps ∧ PRel (Liv w) w (.agg ps) v := by
  obtain ⟨fuel, h⟩ := h
  unfold Value.okWide at hval
  rw [hu] at hval
  obtain ⟨cs, rfl, _⟩ := hval
  obtain ⟨ps, k1, k2, k3⟩ := trod_pd n t sh fuel _ _ hs h hw
  refine ⟨ps, k1, .agg ps cs (by rw [k1.length, ← k2]; simp [Value.cells]) fun i q c hq hc => (k3 i q c hq (by simpa [Value.cells] using hc)).1⟩
/-- one cell's value -/
theorem pd_cell {n : Nat} {t : TypeId} {sh : Sh} {v : Value} {d : DataW H} {p : List MemPlace} (hv : ∀ cs, v ≠ .agg cs) (hs : shM P n t sh = true) (h : DataW.Trod enc P w base sp held t v d p) (hw : ∀ k ∈ DataW.weights P t d, k ≤ reachBytes) (h1 : sh.sz = 1) : ∃ q, TyS sh [q] ∧ PRel (Liv w) w q v := by
  obtain ⟨fuel, h⟩ := h
  obtain ⟨ps, k1, k2, k3⟩ := trod_pd n t sh fuel _ _ hs h hw
  have hl := k1.length
  rw [h1] at hl
  match ps, hl with
  | [q], _ =>
    refine ⟨q, k1, (k3 0 q v rfl ?_).1⟩
    cases v <;> first | rfl | (rename_i cs; exact absurd rfl (hv cs))
/-- a list of readings -/
theorem map_of {α : Type} {f : α → PD} {Q : α → Prop} : ∀ {els : List PD}, (∀ d ∈ els, ∃ a, d = f a ∧ Q a) → ∃ l : List α, els = l.map f ∧ ∀ a ∈ l, Q a
  | [], _ => ⟨[], rfl, fun _ h => by cases h⟩
  | d :: r, h => by
    obtain ⟨a, rfl, ha⟩ := h d List.mem_cons_self
    obtain ⟨l, rfl, hl⟩ := map_of (els := r) fun d hd => h d (List.mem_cons_of_mem _ hd)
    exact ⟨a :: l, rfl, fun x hx => by
      rcases List.mem_cons.1 hx with rfl | hx
      · exact ha
      · exact hl x hx⟩
end Go.Proofs.YtikfefjaeejeeaaGreatDoor
/- A graph that is handed in, as data. -/
namespace Go.Proofs.YtikfefjaeejeeaaGreatDoor
open Go.RowKit
def wfI (k : IntKind) (z : Int) : Prop := (Lit.int k z).wf = true
def wfL (k : IntKind) (l : List Int) : Prop := l.length ≤ reachBytes ∧ ∀ z ∈ l, wfI k z
structure WfRat (r : RatM) : Prop where
  num : wfL .u32 r.num
  den : wfL .u32 r.den
structure WfPort (p : PortM) : Prop where
  name : p.name.size ≤ reachBytes
  shape : wfL .i64 p.shape
structure WfWeight (p : WeightM) : Prop where
  name : p.name.size ≤ reachBytes
  shape : wfL .i64 p.shape
  len : p.elems.length ≤ reachBytes
  elems : ∀ r ∈ p.elems, WfRat r
structure WfNode (n : NodeM) : Prop where
  op : wfI .i64 n.op
  args : wfL .i64 n.args
  attrs : wfL .i64 n.attrs
structure WfNodes (l : List NodeM) : Prop where
  len : l.length ≤ reachBytes
  el : ∀ n ∈ l, WfNode n
structure WfG (g : GraphM) : Prop where
  ver : wfI .i64 g.ver
  insL : g.ins.length ≤ reachBytes
  ins : ∀ p ∈ g.ins, WfPort p
  wsL : g.ws.length ≤ reachBytes
  ws : ∀ p ∈ g.ws, WfWeight p
  bn : WfNodes g.bn
  bo : wfL .i64 g.bo
  vn : WfNodes g.vn
  vo : wfL .i64 g.vo
def shInts : Sh := .sl (.i .i64)
def shRat : Sh := .pr .b (.pr (.sl (.i .u32)) (.pr (.sl (.i .u32)) .un))
def shPort : Sh := .pr .s (.pr shInts .un)
def shTensor : Sh := .pr shInts (.pr (.sl shRat) .un)
def shWeight : Sh := .pr .s (.pr shTensor .un)
def shNode : Sh := .pr (.i .i64) (.pr shInts (.pr shInts .un))
def shBody : Sh := .pr (.sl shNode) (.pr shInts .un)
def shGraph : Sh := .pr (.i .i64) (.pr (.sl shPort) (.pr (.sl shWeight) (.pr shBody (.pr .b (.pr shBody .un)))))
/-- numbers -/
theorem ty_ints {k : IntKind} {ps : List PD} (h : TyS (.sl (.i k)) ps) : ∃ l, ps = [.sl (nums k l)] ∧ wfL k l := by
  obtain ⟨els, rfl, hl, he⟩ := h
  obtain ⟨l, rfl, hw⟩ := map_of (f := fun z => PD.v (.int k z)) (Q := wfI k) (fun d hd => by
    obtain ⟨cs, rfl, z, rfl, hz⟩ := he d hd
    exact ⟨z, rfl, hz⟩)
  exact ⟨l, rfl, by simpa using hl, hw⟩
theorem ty_rat {d : PD} (h : ∃ cs, d = mkEl shRat cs ∧ TyS shRat cs) : ∃ r, d = encRat r ∧ WfRat r := by
  obtain ⟨cs, rfl, p1, q1, rfl, ⟨b, rfl⟩, p2, q2, rfl, h2, p3, q3, rfl, h3, h4⟩ := h
  obtain rfl : q3 = [] := h4
  obtain ⟨l1, rfl, w1⟩ := ty_ints h2
  obtain ⟨l2, rfl, w2⟩ := ty_ints h3
  exact ⟨⟨b, l1, l2⟩, rfl, w1, w2⟩
theorem ty_port {d : PD} (h : ∃ cs, d = mkEl shPort cs ∧ TyS shPort cs) : ∃ r, d = encPort r ∧ WfPort r := by
  obtain ⟨cs, rfl, p1, q1, rfl, ⟨b, rfl, hb⟩, p2, q2, rfl, h2, h4⟩ := h
  obtain rfl : q2 = [] := h4
  obtain ⟨l1, rfl, w1⟩ := ty_ints h2
  exact ⟨⟨b, l1⟩, rfl, hb, w1⟩
theorem ty_weight {d : PD} (h : ∃ cs, d = mkEl shWeight cs ∧ TyS shWeight cs) : ∃ r, d = encWeight r ∧ WfWeight r := by
  obtain ⟨cs, rfl, p1, q1, rfl, ⟨b, rfl, hb⟩, p2, q2, rfl, ⟨p3, q3, rfl, h2, p5, q5, rfl, ⟨els, rfl, hl, he⟩, h5⟩, h4⟩ := h
  obtain rfl : q2 = [] := h4
  obtain rfl : q5 = [] := h5
  obtain ⟨l1, rfl, w1⟩ := ty_ints h2
  obtain ⟨rs, rfl, w2⟩ := map_of (f := encRat) (Q := WfRat) (fun d hd => ty_rat (he d hd))
  exact ⟨⟨b, l1, rs⟩, rfl, hb, w1, by simpa using hl, w2⟩
theorem ty_node {d : PD} (h : ∃ cs, d = mkEl shNode cs ∧ TyS shNode cs) : ∃ r, d = encNode r ∧ WfNode r := by
  obtain ⟨cs, rfl, p1, q1, rfl, ⟨z, rfl, hz⟩, p2, q2, rfl, h2, p3, q3, rfl, h3, h4⟩ := h
  obtain rfl : q3 = [] := h4
  obtain ⟨l1, rfl, w1⟩ := ty_ints h2
  obtain ⟨l2, rfl, w2⟩ := ty_ints h3
  exact ⟨⟨z, l1, l2⟩, rfl, hz, w1, w2⟩
theorem ty_body {ps : List PD} (h : TyS shBody ps) : ∃ ns os, ps = [.sl (ns.map encNode), intL os] ∧ WfNodes ns ∧ wfL .i64 os := by
  obtain ⟨p1, q1, rfl, ⟨els, rfl, hl, he⟩, p2, q2, rfl, h2, h4⟩ := h
  obtain rfl : q2 = [] := h4
  obtain ⟨l1, rfl, w1⟩ := ty_ints h2
  obtain ⟨ns, rfl, w2⟩ := map_of (f := encNode) (Q := WfNode) (fun d hd => ty_node (he d hd))
  exact ⟨ns, l1, rfl, ⟨by simpa using hl, w2⟩, w1⟩
theorem ty_graph {ps : List PD} (h : TyS shGraph ps) : ∃ g, PD.agg ps = encG g ∧ WfG g := by
  obtain ⟨p1, q1, rfl, ⟨z, rfl, hz⟩, p2, q2, rfl, ⟨e2, rfl, l2, h2⟩, p3, q3, rfl, ⟨e3, rfl, l3, h3⟩, p4, q4, rfl, h4, p5, q5, rfl, ⟨b, rfl⟩, p6, q6, rfl, h6, h7⟩ := h
  obtain rfl : q6 = [] := h7
  obtain ⟨ins, rfl, w2⟩ := map_of (f := encPort) (Q := WfPort) (fun d hd => ty_port (h2 d hd))
  obtain ⟨ws, rfl, w3⟩ := map_of (f := encWeight) (Q := WfWeight) (fun d hd => ty_weight (h3 d hd))
  obtain ⟨bn, bo, rfl, w4, w5⟩ := ty_body h4
  obtain ⟨vn, vo, rfl, w6, w7⟩ := ty_body h6
  exact ⟨⟨z, ins, ws, bn, bo, b, vn, vo⟩, rfl, hz, by simpa using l2, w2, by simpa using l3, w3, w4, w5, w6, w7⟩
end Go.Proofs.YtikfefjaeejeeaaGreatDoor
/- The package variables that are laid. -/
namespace Go.Proofs.YtikfefjaeejeeaaGreatDoor
open Go.RowKit
def gType (P : Program) (n : String) : Option TypeId := (P.globalNamed n).bind fun g => (P.globals[g]?).map (·.type)
/-- an array of numbers: their kind -/
def arrK (P : Program) (t : TypeId) : Option IntKind := match P.underlying t with
  | some (.array n e) => match P.underlying e with
    | some (.int k) => if (Nat.beq (P.cellsOf e) 1 && Nat.beq (P.cellsOf t) n) = true then some k else none
    | _ => none
  | _ => none
def isIf (P : Program) (t : TypeId) : Option Unit := match P.underlying t with
  | some (.interface _) => some ()
  | _ => none
theorem laidVars_mem {P : Program} {w : World} : ∀ {laid : List (String × DataW Unit)} {ps : List MemPlace}, DataW.LaidVars P w laid ps → ∀ n d, (n, d) ∈ laid →
    ∃ g t cs fuel p, P.globalNamed n = some g ∧ (P.globals[g]?).map (·.type) = some t ∧ w.var? P n = some cs ∧ DataW.trod (fun _ => ()) P w 0 (fun _ => true) false fuel t cs.toList = some (d, p)
  | [], _, _, n, d, hm => by cases hm
  | (n0, d0) :: r, ps, h, n, d, hm => by
    obtain ⟨g, t, cs, fuel, p, q, h1, h2, h3, h4, h5, _⟩ := h
    rcases List.mem_cons.1 hm with he | hm
    · cases he
      exact ⟨g, t, cs, fuel, p, h1, h2, h3, h4⟩
    · exact laidVars_mem h5 n d hm
theorem var_heap {P : Program} {w : World} {n : String} {g : Nat} {cs : Array Value} (hg : P.globalNamed n = some g) (h : w.var? P n = some cs) : ∃ t q, w.heap[g]? = some (.cells cs t q) := by
  simp only [World.var?, hg, Option.bind_some] at h
  split at h
  · rename_i c t q hc
    injection h with h
    subst h
    exact ⟨t, q, hc⟩
  · cases h
theorem lt_of_heap {w : World} {g : Nat} {o : Obj} (h : w.heap[g]? = some o) : g < w.heap.size := (Array.getElem?_eq_some_iff.1 h).1
theorem laid_arr {P : Program} {w : World} {laid : List (String × DataW Unit)} (h : laidMet P laid w) {n : String} {k : IntKind} {l : List Int} {g : Nat} (hm : (n, DataW.agg (l.map fun z => .lit (.int k z))) ∈ laid) (hk : (gType P n).bind (arrK P) = some k) (hg : P.globalNamed n = some g) :
    g < w.heap.size ∧ glbOK w (g, some (l.map (Value.int k))) := by
  obtain ⟨ps, hv, _⟩ := h
  obtain ⟨g', t, cs, fuel, p, h1, h2, h3, h4⟩ := laidVars_mem hv _ _ hm
  obtain rfl := Option.some.inj (hg.symm.trans h1)
  unfold gType at hk
  rw [hg] at hk
  simp only [Option.bind_some] at hk
  rw [h2] at hk
  simp only [Option.bind_some] at hk
  unfold arrK at hk
  split at hk
  · rename_i n0 e hu
    split at hk
    · rename_i k' hue
      split at hk
      · rename_i hc
        injection hk with hk
        subst hk
        rw [Bool.and_eq_true] at hc
        have hct := Nat.eq_of_beq_eq_true hc.2
        have hc := Nat.eq_of_beq_eq_true hc.1
        obtain ⟨xs, m, rfl, hx, hl, hxl, he⟩ := DataW.trod_array hu h4
        simp only [Prod.mk.injEq, DataW.agg.injEq] at hx
        have hcells : cs.toList = l.map (Value.int k') := by
          have hln : l.length = n0 := by
            have := congrArg List.length hx.1
            simp only [List.length_map] at this
            omega
          have hl2 : cs.toList.length = n0 := by
            rw [hl, hct]
          refine List.ext_getElem (by simp only [List.length_map]; omega) fun i hi1 hi2 => ?_
          have hi : i < n0 := by omega
          have h0 := he i hi
          rw [hc, List.getElem?_eq_getElem (by omega)] at h0
          obtain ⟨z, e1, e2, _⟩ := DataW.trod_int hue h0
          have e3 : (cs.toList.drop (i * 1)).take 1 = [cs.toList[i]] := by
            rw [Nat.mul_one, List.drop_eq_getElem_cons hi1]; rfl
          rw [e3] at e1
          injection e1 with e1 _
          rw [e1]
          have e4 := congrArg (fun q => q[i]?) hx.1
          simp only [List.getElem?_map] at e4
          rw [List.getElem?_eq_getElem (by omega), List.getElem?_eq_getElem (by omega)] at e4
          simp only [Option.map_some, Option.some.injEq] at e4
          rw [e2] at e4
          simp only [DataW.lit.injEq, Lit.int.injEq, true_and] at e4
          simp [e4]
        obtain ⟨t', q, hh⟩ := var_heap hg h3
        refine ⟨lt_of_heap hh, ?_⟩
        unfold glbOK
        simp only
        refine ⟨t', q, ?_⟩
        rw [hh, ← hcells]
      · cases hk
    · cases hk
  · cases hk
theorem laid_if {P : Program} {w : World} {laid : List (String × DataW Unit)} (h : laidMet P laid w) {n s : String} {d : DataW Unit} {g : Nat} (hm : (n, DataW.iface s d) ∈ laid) (hk : (gType P n).bind (isIf P) = some ()) (hg : P.globalNamed n = some g) :
    g < w.heap.size ∧ glbOK w (g, none) := by
  obtain ⟨ps, hv, _⟩ := h
  obtain ⟨g', t, cs, fuel, p, h1, h2, h3, h4⟩ := laidVars_mem hv _ _ hm
  obtain rfl := Option.some.inj (hg.symm.trans h1)
  unfold gType at hk
  rw [hg] at hk
  simp only [Option.bind_some] at hk
  rw [h2] at hk
  simp only [Option.bind_some] at hk
  unfold isIf at hk
  split at hk
  · rename_i ms hu
    obtain ⟨_, u, v, hcs, _⟩ := iface_of_trod hu h4
    obtain ⟨t', q, hh⟩ := var_heap hg h3
    refine ⟨lt_of_heap hh, ?_⟩
    unfold glbOK
    simp only
    refine ⟨t', q, u, v, ?_⟩
    rw [hh]
    have : cs = #[.iface u v] := by
      rw [← Array.toList_inj]; exact hcs
    rw [this]
  · cases hk
end Go.Proofs.YtikfefjaeejeeaaGreatDoor
/- What the rows and cards of this seat share. -/
namespace Go.Proofs.YtikfefjaeejeeaaGreatDoor
open Go.ChangeShapes Go.WideShapes Go.ChangeAt Go.RowKit
open Go.ChangeMaps (open_string shut_string)

theorem ownP : ownKnob Tryz.prog.godebug = none := by kernel_rfl
theorem laidOutP : laidOutB Tryz.prog = true := by kernel_rfl
def laidL : List (String × DataW Unit) := [("math/bits.deBruijn32tab", Rows.laid_math_bits_deBruijn32tab), ("math/bits.deBruijn64tab", Rows.laid_math_bits_deBruijn64tab), ("internal/strconv.uint64pow10", Rows.laid_internal_strconv_uint64pow10), ("strconv.ErrRange", Rows.laid_strconv_ErrRange), ("strconv.ErrSyntax", Rows.laid_strconv_ErrSyntax)]
set_option maxRecDepth 100000 in
/-- the door's own heap meets the condition -/
theorem door_met (os : Os) (args : Array Value) : laidMetH Tryz.prog laidL ((World.doorLaid Tryz.prog 4000 os).forCall (fun _ _ => 0) ⟨#[], args, []⟩).memory :=
  laidMetH_of_parts3 (fuel := 8) (laidMet_of_run' 8 (by kernel_rfl) (by kernel_rfl)) (by kernel_rfl) (by kernel_rfl)
set_option maxRecDepth 100000 in
theorem laidW_of {W : World} (h : laidMetH Tryz.prog laidL W) : LaidW W.heap.size W := by
  rw [MakeChecks.laidMetH_plain _ _ _ (by kernel_rfl)] at h
  intro p hp
  simp only [glbs, List.mem_cons, List.not_mem_nil, or_false] at hp
  rcases hp with rfl | rfl | rfl | rfl | rfl
  · exact laid_arr (l := [0, 1, 28, 2, 29, 14, 24, 3, 30, 22, 20, 15, 25, 17, 4, 8, 31, 27, 13, 23, 21, 19, 16, 7, 26, 12, 18, 6, 11, 5, 10, 9]) (n := "math/bits.deBruijn32tab") h (.head _) (by kernel_rfl) (by kernel_rfl)
  · exact laid_arr (l := [0, 1, 56, 2, 57, 49, 28, 3, 61, 58, 42, 50, 38, 29, 17, 4, 62, 47, 59, 36, 45, 43, 51, 22, 53, 39, 33, 30, 24, 18, 12, 5, 63, 55, 48, 27, 60, 41, 37, 16, 46, 35, 44, 21, 52, 32, 23, 11, 54, 26, 40, 15, 34, 20, 31, 10, 25, 14, 19, 9, 13, 8, 7, 6]) (n := "math/bits.deBruijn64tab") h (.tail _ (.head _)) (by kernel_rfl) (by kernel_rfl)
  · exact laid_arr (l := (List.range 20).map fun k => (10 : Int) ^ k) (n := "internal/strconv.uint64pow10") h (.tail _ (.tail _ (.head _))) (by kernel_rfl) (by kernel_rfl)
  · exact laid_if (n := "strconv.ErrRange") h (.tail _ (.tail _ (.tail _ (.head _)))) (by kernel_rfl) (by kernel_rfl)
  · exact laid_if (n := "strconv.ErrSyntax") h (.tail _ (.tail _ (.tail _ (.tail _ (.head _))))) (by kernel_rfl) (by kernel_rfl)
/-- a string's value -/
theorem pd_str {W : World} (s : ByteArray) : PRel (Liv W) W (.v (.string s)) (.string s) := .v _
theorem prelL_2 {Z : Nat → Nat → Prop} {w : World} {a b : PD} {x y : Value} (h1 : PRel Z w a x) (h2 : PRel Z w b y) : PRelL Z w [a, b] #[x, y] := by
  refine ⟨rfl, fun i d v hd hv => ?_⟩
  match i, hd, hv with
  | 0, hd, hv => simp at hd hv; subst hd; subst hv; exact h1
  | 1, hd, hv => simp at hd hv; subst hd; subst hv; exact h2
  | i + 2, hd, hv => simp at hd
theorem prelL_1 {Z : Nat → Nat → Prop} {w : World} {a : PD} {x : Value} (h1 : PRel Z w a x) : PRelL Z w [a] #[x] := by
  refine ⟨rfl, fun i d v hd hv => ?_⟩
  match i, hd, hv with
  | 0, hd, hv => simp at hd hv; subst hd; subst hv; exact h1
  | i + 1, hd, hv => simp at hd
/-- a pure law that answers true, as the row wants it -/
theorem calls_true {f : FuncId} {args : List PD} {W : World} {xs : Array Value} (h : Pure Tryz.prog f args (.ret (.v (.bool true)))) (hl : LaidW W.heap.size W) (ha : PRelL (Liv W) W args xs) : Calls Tryz.prog f xs W fun e W' => e = .returned (.bool true) ∧ Below W.heap.size W W' := by
  refine (h.2 (Liv W) W xs hl (fun b o hb => hb) ha).mono ?_
  intro e W' he
  cases e with
  | returned x =>
    obtain ⟨h1, h2⟩ := he
    cases h1
    exact ⟨rfl, h2⟩
  | panicked ch => exact he.elim
  | outgrown => exact he.elim
end Go.Proofs.YtikfefjaeejeeaaGreatDoor
/- What is handed in, of bulk at most 1048576, as pure data: a graph that is small enough. -/
namespace Go.Proofs.YtikfefjaeejeeaaGreatDoor
open Go.RowKit
variable {H : Type} {enc : TypeId × Value → H} {P : Program} {w : World} {base : Nat} {sp : Nat → Bool} {held : Bool}

theorem bulk_pos : ∀ d : DataW H, 1 ≤ Rows.uptoBulk d
  | .lit (.string _) | .nil | .ptr _ | .slice _ _ | .agg _ | .iface _ _ | .map _ | .held _ => Nat.le_add_left 1 _
  | .lit (.bool _) | .lit (.int _ _) | .lit (.float _ _) | .lit .nil => Nat.le_refl 1
theorem bulk_len : ∀ ds : List (DataW H), ds.length ≤ Rows.uptoBulkAll ds
  | [] => Nat.zero_le _
  | d :: r => by
    have h1 := bulk_pos d
    have h2 := bulk_len r
    show r.length + 1 ≤ Rows.uptoBulk d + Rows.uptoBulkAll r
    omega
theorem bulk_mem : ∀ {ds : List (DataW H)} {d : DataW H}, d ∈ ds → Rows.uptoBulk d ≤ Rows.uptoBulkAll ds
  | [], _, h => by cases h
  | d :: r, x, h => by
    show _ ≤ Rows.uptoBulk d + Rows.uptoBulkAll r
    rcases List.mem_cons.1 h with rfl | h
    · exact Nat.le_add_right _ _
    · exact Nat.le_trans (bulk_mem h) (Nat.le_add_left _ _)
/-- cells that read as a shape -/
def TyU : Sh → List PD → Prop
  | .b, ps => ∃ b, ps = [.v (.bool b)]
  | .i k, ps => ∃ z, ps = [.v (.int k z)] ∧ (Lit.int k z).wf = true
  | .s, ps => ∃ s : ByteArray, ps = [.v (.string s)] ∧ s.size ≤ 1048576
  | .sl e, ps => ∃ els, ps = [.sl els] ∧ els.length ≤ 1048576 ∧ ∀ d ∈ els, ∃ cs, d = mkEl e cs ∧ TyU e cs
  | .pr a r, ps => ∃ p q, ps = p ++ q ∧ TyU a p ∧ TyU r q
  | .un, ps => ps = []
theorem TyU.length : ∀ {sh : Sh} {ps : List PD}, TyU sh ps → ps.length = sh.sz
  | .b, _, ⟨_, h⟩ => by subst h; rfl
  | .i k, _, ⟨_, h, _⟩ => by subst h; rfl
  | .s, _, ⟨_, h, _⟩ => by subst h; rfl
  | .sl e, _, ⟨_, h, _⟩ => by subst h; rfl
  | .pr a r, _, ⟨p, q, h, h1, h2⟩ => by subst h; simp [Sh.sz, TyU.length h1, TyU.length h2]
  | .un, _, h => by have h : _ = [] := h; subst h; rfl
theorem mkEl_cellsU {sh : Sh} {ps : List PD} (h : TyU sh ps) : (mkEl sh ps).cells = ps := by
  cases sh with
  | b => obtain ⟨_, rfl⟩ := h; rfl
  | i k => obtain ⟨_, rfl, _⟩ := h; rfl
  | s => obtain ⟨_, rfl, _⟩ := h; rfl
  | sl e => obtain ⟨_, rfl, _⟩ := h; rfl
  | pr a r => rfl
  | un => rfl

theorem trod_fieldsU {g : TypeId → Sh → Bool} {fuel : Nat} {cs : List Value} (ih : ∀ t sh cs x, g t sh = true → DataW.trod enc P w base sp held fuel t cs = some x → Rows.uptoBulk x.1 ≤ 1048576 → ∃ ps, TyU sh ps ∧ cs.length = sh.sz ∧ CellsRd w ps cs) :
    ∀ (fs : List Field) (o : Nat) (sh : Sh), flM P g fs o sh = true → (∀ f ∈ fs, ∃ x, DataW.trod enc P w base sp held fuel f.type ((cs.drop f.offset).take (P.cellsOf f.type)) = some x ∧ Rows.uptoBulk x.1 ≤ 1048576) → o + sh.sz ≤ cs.length → ∃ ps, TyU sh ps ∧ CellsRd w ps (cs.drop o)
  | [], o, sh, h, hm, hl => by
    cases sh <;> simp only [flM, Bool.false_eq_true] at h
    exact ⟨[], rfl, fun i q c hq => by simp at hq⟩
  | f :: r, o, sh, h, hm, hl => by
    cases sh with
    | pr a q =>
      simp only [flM, Bool.and_eq_true] at h
      obtain ⟨⟨⟨h1, h2⟩, h3⟩, h4⟩ := h
      have h1 := Nat.eq_of_beq_eq_true h1
      have h2 := Nat.eq_of_beq_eq_true h2
      simp only [Sh.sz] at hl
      obtain ⟨x, hx, hxw⟩ := hm f List.mem_cons_self
      obtain ⟨p, p1, p2, p3⟩ := ih _ _ _ _ h3 hx hxw
      obtain ⟨pq, q1, q2⟩ := trod_fieldsU ih r (o + a.sz) q h4 (fun f hf => hm f (List.mem_cons_of_mem _ hf)) (by omega)
      refine ⟨p ++ pq, ⟨p, pq, rfl, p1, q1⟩, fun i e c he hc => ?_⟩
      have hpl := p1.length
      rcases Nat.lt_or_ge i p.length with hi | hi
      · rw [List.getElem?_append_left hi] at he
        refine p3 i e c he ?_
        rw [h1, h2, List.getElem?_take, if_pos (by omega)]
        exact hc
      · rw [List.getElem?_append_right hi] at he
        refine q2 (i - p.length) e c he ?_
        rw [List.getElem?_drop] at hc ⊢
        rw [← hc]
        congr 1
        omega
    | _ => simp [flM] at h
theorem trod_pdU : ∀ (n : Nat) (t : TypeId) (sh : Sh) (fuel : Nat) (cs : List Value) (x : DataW H × List MemPlace), shM P n t sh = true → DataW.trod enc P w base sp held fuel t cs = some x → Rows.uptoBulk x.1 ≤ 1048576 → ∃ ps, TyU sh ps ∧ cs.length = sh.sz ∧ CellsRd w ps cs
  | 0, t, sh, fuel, cs, x, h, _, _ => by simp [shM] at h
  | n + 1, t, sh, fuel, cs, x, h, hx, hw => by
    have one : ∀ (q : PD) (c : Value), PRel (Liv w) w q c → c.oneCell' = true → CellsRd w [q] [c] := by
      intro q c h1 h2 i q' c' hq hc
      cases i with
      | zero => simp only [List.getElem?_cons_zero, Option.some.injEq] at hq hc; subst hq; subst hc; exact ⟨h1, h2⟩
      | succ i => simp at hq
    unfold shM at h
    split at h
    · rename_i hu
      obtain ⟨b, rfl, _⟩ := DataW.trod_bool hu hx
      cases sh <;> simp only [Bool.false_eq_true] at h
      exact ⟨[.v (.bool b)], ⟨b, rfl⟩, rfl, one _ _ (.v _) rfl⟩
    · rename_i k hu
      obtain ⟨z, rfl, _, hz⟩ := DataW.trod_int hu hx
      cases sh <;> simp only [Bool.false_eq_true] at h
      simp only [decide_eq_true_eq] at h
      subst h
      exact ⟨[.v (.int _ z)], ⟨z, rfl, hz⟩, rfl, one _ _ (.v _) rfl⟩
    · rename_i hu
      obtain ⟨s, rfl, rfl, _⟩ := DataW.trod_string hu hx
      cases sh <;> simp only [Bool.false_eq_true] at h
      have hs : s.size ≤ 1048576 := by
        have h0 : s.data.toList.length + 1 ≤ 1048576 := hw
        have h1 : s.size = s.data.toList.length := by rw [Array.length_toList]; rfl
        omega
      exact ⟨[.v (.string s)], ⟨s, rfl, hs⟩, rfl, one _ _ (.v _) rfl⟩
    · rename_i e hu
      cases sh with
      | sl a =>
        simp only [Bool.and_eq_true] at h
        obtain ⟨⟨⟨h1, h2⟩, hby⟩, h3⟩ := h
        have h1 := Nat.eq_of_beq_eq_true h1
        have hby : 0 < P.bytesOf e := by simpa using hby
        have h2 : 0 < a.sz := by simpa using h2
        rcases DataW.trod_slice hu hx with ⟨rfl, _⟩ | ⟨ad, len, cap, elems, rest, m, rfl, rfl, rfl, hb, hl, hc, hel, he, _⟩
        · refine ⟨[.sl []], ⟨[], rfl, by simp, fun d hd => by cases hd⟩, rfl, one _ _ ?_ rfl⟩
          exact .sl [] none 0 0 (fun _ => undef) (by simp) (by simp) (fun d hd => by cases hd) (fun i j d e hd => by simp at hd) (fun i j d e hd => by simp at hd)
        · replace hw : Rows.uptoBulkAll (elems.map Prod.fst) + Rows.uptoBulkAll (rest.map Prod.fst) + 1 ≤ 1048576 := hw
          have hlr : len ≤ 1048576 := by
            have := bulk_len (elems.map Prod.fst)
            simp only [List.length_map] at this
            omega
          -- each element
          have key : ∀ i, i < len → ∃ cs ps, w.cells? base (ad.add (i * a.sz)) a.sz = some cs ∧ TyU a ps ∧ cs.length = a.sz ∧ CellsRd w ps cs := by
            intro i hi
            have := he i hi
            rw [List.getElem?_eq_getElem (by omega)] at this
            obtain ⟨cs, k1, k2⟩ := Option.bind_eq_some_iff.1 this
            obtain ⟨ps, k3, k4, k5⟩ := trod_pdU n e a m cs _ h3 k2 (by
              have := bulk_mem (List.mem_map.2 ⟨elems[i], List.getElem_mem (by omega), rfl⟩ : (elems[i]).1 ∈ elems.map Prod.fst)
              omega)
            rw [h1] at k1
            exact ⟨cs, ps, k1, k3, k4, k5⟩
          obtain ⟨f, hf⟩ : ∃ f : Nat → List PD, ∀ i, i < len → ∃ cs, w.cells? base (ad.add (i * a.sz)) a.sz = some cs ∧ TyU a (f i) ∧ cs.length = a.sz ∧ CellsRd w (f i) cs := by
            refine ⟨fun i => if h : i < len then Classical.choose (Classical.choose_spec (key i h)) else [], fun i hi => ?_⟩
            simp only [dif_pos hi]
            exact ⟨Classical.choose (key i hi), Classical.choose_spec (Classical.choose_spec (key i hi))⟩
          have hsp : 0 < len → ad.spot = none := by
            intro h0
            obtain ⟨cs, k1, _, k3, _⟩ := hf 0 h0
            obtain ⟨_, _, q⟩ := World.cells?_some k1
            have := q 0 h2
            rw [List.getElem?_eq_getElem (by omega)] at this
            have := (cell_live this).1
            simpa [Addr.add] using this
          have hel2 : ∀ (i : Nat) (d : PD), ((List.range len).map fun i => mkEl a (f i))[i]? = some d → i < len ∧ d = mkEl a (f i) := by
            intro i d hd
            rw [List.getElem?_map, Option.map_eq_some_iff] at hd
            obtain ⟨k, hk, hd⟩ := hd
            obtain ⟨hk1, hk2⟩ := List.getElem?_eq_some_iff.1 hk
            simp only [List.getElem_range, List.length_range] at hk1 hk2
            subst hk2
            exact ⟨hk1, hd.symm⟩
          have hcell : ∀ (i j : Nat) (d e : PD), ((List.range len).map fun i => mkEl a (f i))[i]? = some d → d.cells[j]? = some e → ∃ c, w.cell? ⟨ad.block, ad.off + (i * a.sz + j), none⟩ = some c ∧ PRel (Liv w) w e c ∧ c.oneCell' = true := by
            intro i j d e hd hj
            obtain ⟨hi, rfl⟩ := hel2 i d hd
            obtain ⟨cs, k1, k2, k3, k4⟩ := hf i hi
            rw [mkEl_cellsU k2] at hj
            have hjl : j < a.sz := by
              have := (List.getElem?_eq_some_iff.1 hj).1
              rw [k2.length] at this; exact this
            obtain ⟨_, _, q⟩ := World.cells?_some k1
            have q := q j hjl
            rw [add_add (hsp (by omega))] at q
            rw [List.getElem?_eq_getElem (by omega)] at q
            exact ⟨_, q, k4 j e _ hj (List.getElem?_eq_getElem (by omega))⟩
          refine ⟨[.sl ((List.range len).map fun i => mkEl a (f i))], ⟨_, rfl, by simpa using hlr, fun d hd => ?_⟩, rfl, one _ _ ?_ rfl⟩
          · obtain ⟨i, hi, rfl⟩ := List.mem_map.1 hd
            exact ⟨f i, rfl, (hf i (by simpa using hi)).choose_spec.2.1⟩
          · have := PRel.sl (Z := Liv w) (w := w) ((List.range len).map fun i => mkEl a (f i)) (some ad) cap a.sz (fun k => (w.cell? ⟨ad.block, ad.off + k, none⟩).getD undef) (by simpa using hl) (by simp; unfold maxLen at hc; omega)
              (fun d hd => by
                obtain ⟨i, hi, rfl⟩ := List.mem_map.1 hd
                have hi' : i < len := by simpa using hi
                obtain ⟨cs, _, k2, _⟩ := hf i hi'
                rw [mkEl_cellsU k2, k2.length])
              (fun i j d e hd hj => by
                obtain ⟨c, c1, c2, c3⟩ := hcell i j d e hd hj
                have hi := (hel2 i d hd).1
                refine ⟨ad.block, ad.off, ?_, (cell_live c1).2, by rw [c1]; rfl, by rw [c1]; exact c3⟩
                have := hsp (by omega)
                obtain ⟨b, o, s⟩ := ad
                simp only at this
                rw [this])
              (fun i j d e hd hj => by
                obtain ⟨c, c1, c2, c3⟩ := hcell i j d e hd hj
                simp only [c1, Option.getD_some]
                exact c2)
            simpa using this
      | _ => simp at h
    · rename_i fs hu
      obtain ⟨xs, m, rfl, rfl, hl, hxl, hxs⟩ := DataW.trod_struct hu hx
      replace hw : Rows.uptoBulkAll (xs.map Prod.fst) + 1 ≤ 1048576 := hw
      simp only [Bool.and_eq_true] at h
      obtain ⟨⟨_, h1⟩, h2⟩ := h
      have h1 := Nat.eq_of_beq_eq_true h1
      obtain ⟨ps, k1, k2⟩ := trod_fieldsU (g := shM P n) (fuel := m) (cs := cs) (fun t sh cs x hg hx hw => trod_pdU n t sh m cs x hg hx hw) fs.toList 0 sh h2 (fun f hf => by
        obtain ⟨i, hi, he⟩ := List.getElem_of_mem hf
        have hi' : i < fs.size := by simpa using hi
        have := hxs i f (by rw [← Array.getElem?_toList, List.getElem?_eq_getElem hi, he])
        rw [this, List.getElem?_eq_getElem (by omega)]
        exact ⟨_, rfl, by
          have := bulk_mem (List.mem_map.2 ⟨xs[i], List.getElem_mem (by omega), rfl⟩ : (xs[i]).1 ∈ xs.map Prod.fst)
          omega⟩) (by omega)
      exact ⟨ps, k1, by omega, by simpa using k2⟩
    · cases h
/-- a struct's value -/
theorem pd_structU {n : Nat} {t : TypeId} {sh : Sh} {fs : Array Field} {v : Value} {d : DataW H} {p : List MemPlace} {r : Reach} {b0 : Nat} (hu : P.underlying t = some (.struct fs)) (hval : Value.okWide P w r b0 t v) (hs : shM P n t sh = true) (h : DataW.Trod enc P w base sp held t v d p) (hw : Rows.uptoBulk d ≤ 1048576) : ∃ ps, TyU sh ps ∧ PRel (Liv w) w (.agg ps) v := by
  obtain ⟨fuel, h⟩ := h
  unfold Value.okWide at hval
  rw [hu] at hval
  obtain ⟨cs, rfl, _⟩ := hval
  obtain ⟨ps, k1, k2, k3⟩ := trod_pdU n t sh fuel _ _ hs h hw
  refine ⟨ps, k1, .agg ps cs (by rw [k1.length, ← k2]; simp [Value.cells]) fun i q c hq hc => (k3 i q c hq (by simpa [Value.cells] using hc)).1⟩
/-- one cell's value -/
theorem pd_cellU {n : Nat} {t : TypeId} {sh : Sh} {v : Value} {d : DataW H} {p : List MemPlace} (hv : ∀ cs, v ≠ .agg cs) (hs : shM P n t sh = true) (h : DataW.Trod enc P w base sp held t v d p) (hw : Rows.uptoBulk d ≤ 1048576) (h1 : sh.sz = 1) : ∃ q, TyU sh [q] ∧ PRel (Liv w) w q v := by
  obtain ⟨fuel, h⟩ := h
  obtain ⟨ps, k1, k2, k3⟩ := trod_pdU n t sh fuel _ _ hs h hw
  have hl := k1.length
  rw [h1] at hl
  match ps, hl with
  | [q], _ =>
    refine ⟨q, k1, (k3 0 q v rfl ?_).1⟩
    cases v <;> first | rfl | (rename_i cs; exact absurd rfl (hv cs))
def upL (k : IntKind) (l : List Int) : Prop := l.length ≤ 1048576 ∧ ∀ z ∈ l, wfI k z
structure UpNodes (l : List NodeM) : Prop where
  len : l.length ≤ 1048576
  el : ∀ n ∈ l, SmNode n
theorem up_dig {l : List Int} (h : upL .u32 l) : Dig l := fun z hz => by
  have h0 := h.2 z hz
  simp only [wfI, Lit.wf, Bool.and_eq_true, decide_eq_true_eq] at h0
  have e1 : IntKind.u32.min = 0 := rfl
  have e2 : IntKind.u32.max = 4294967295 := rfl
  omega
theorem up_len {n : Nat} (h : n ≤ 1048576) : n ≤ 100000000 := by omega
/-- numbers -/
theorem tyU_ints {k : IntKind} {ps : List PD} (h : TyU (.sl (.i k)) ps) : ∃ l, ps = [.sl (nums k l)] ∧ upL k l := by
  obtain ⟨els, rfl, hl, he⟩ := h
  obtain ⟨l, rfl, hw⟩ := map_of (f := fun z => PD.v (.int k z)) (Q := wfI k) (fun d hd => by
    obtain ⟨cs, rfl, z, rfl, hz⟩ := he d hd
    exact ⟨z, rfl, hz⟩)
  exact ⟨l, rfl, by simpa using hl, hw⟩
theorem tyU_rat {d : PD} (h : ∃ cs, d = mkEl shRat cs ∧ TyU shRat cs) : ∃ r, d = encRat r ∧ RatSm r := by
  obtain ⟨cs, rfl, p1, q1, rfl, ⟨b, rfl⟩, p2, q2, rfl, h2, p3, q3, rfl, h3, h4⟩ := h
  obtain rfl : q3 = [] := h4
  obtain ⟨l1, rfl, w1⟩ := tyU_ints h2
  obtain ⟨l2, rfl, w2⟩ := tyU_ints h3
  exact ⟨⟨b, l1, l2⟩, rfl, up_dig w1, up_dig w2, up_len w1.1, up_len w2.1⟩
theorem tyU_port {d : PD} (h : ∃ cs, d = mkEl shPort cs ∧ TyU shPort cs) : ∃ r, d = encPort r ∧ SmPort r := by
  obtain ⟨cs, rfl, p1, q1, rfl, ⟨b, rfl, hb⟩, p2, q2, rfl, h2, h4⟩ := h
  obtain rfl : q2 = [] := h4
  obtain ⟨l1, rfl, w1⟩ := tyU_ints h2
  exact ⟨⟨b, l1⟩, rfl, ⟨up_len w1.1⟩⟩
theorem tyU_weight {d : PD} (h : ∃ cs, d = mkEl shWeight cs ∧ TyU shWeight cs) : ∃ r, d = encWeight r ∧ SmWeight r := by
  obtain ⟨cs, rfl, p1, q1, rfl, ⟨b, rfl, hb⟩, p2, q2, rfl, ⟨p3, q3, rfl, h2, p5, q5, rfl, ⟨els, rfl, hl, he⟩, h5⟩, h4⟩ := h
  obtain rfl : q2 = [] := h4
  obtain rfl : q5 = [] := h5
  obtain ⟨l1, rfl, w1⟩ := tyU_ints h2
  obtain ⟨rs, rfl, w2⟩ := map_of (f := encRat) (Q := RatSm) (fun d hd => tyU_rat (he d hd))
  exact ⟨⟨b, l1, rs⟩, rfl, up_len w1.1, up_len (by simpa using hl), w2⟩
theorem tyU_node {d : PD} (h : ∃ cs, d = mkEl shNode cs ∧ TyU shNode cs) : ∃ r, d = encNode r ∧ SmNode r := by
  obtain ⟨cs, rfl, p1, q1, rfl, ⟨z, rfl, hz⟩, p2, q2, rfl, h2, p3, q3, rfl, h3, h4⟩ := h
  obtain rfl : q3 = [] := h4
  obtain ⟨l1, rfl, w1⟩ := tyU_ints h2
  obtain ⟨l2, rfl, w2⟩ := tyU_ints h3
  exact ⟨⟨z, l1, l2⟩, rfl, up_len w1.1, up_len w2.1⟩
theorem tyU_body {ps : List PD} (h : TyU shBody ps) : ∃ ns os, ps = [.sl (ns.map encNode), intL os] ∧ UpNodes ns ∧ upL .i64 os := by
  obtain ⟨p1, q1, rfl, ⟨els, rfl, hl, he⟩, p2, q2, rfl, h2, h4⟩ := h
  obtain rfl : q2 = [] := h4
  obtain ⟨l1, rfl, w1⟩ := tyU_ints h2
  obtain ⟨ns, rfl, w2⟩ := map_of (f := encNode) (Q := SmNode) (fun d hd => tyU_node (he d hd))
  exact ⟨ns, l1, rfl, ⟨by simpa using hl, w2⟩, w1⟩
theorem tyU_graph {ps : List PD} (h : TyU shGraph ps) : ∃ g, PD.agg ps = encG g ∧ SmG g := by
  obtain ⟨p1, q1, rfl, ⟨z, rfl, hz⟩, p2, q2, rfl, ⟨e2, rfl, l2, h2⟩, p3, q3, rfl, ⟨e3, rfl, l3, h3⟩, p4, q4, rfl, h4, p5, q5, rfl, ⟨b, rfl⟩, p6, q6, rfl, h6, h7⟩ := h
  obtain rfl : q6 = [] := h7
  obtain ⟨ins, rfl, w2⟩ := map_of (f := encPort) (Q := SmPort) (fun d hd => tyU_port (h2 d hd))
  obtain ⟨ws, rfl, w3⟩ := map_of (f := encWeight) (Q := SmWeight) (fun d hd => tyU_weight (h3 d hd))
  obtain ⟨bn, bo, rfl, w4, w5⟩ := tyU_body h4
  obtain ⟨vn, vo, rfl, w6, w7⟩ := tyU_body h6
  exact ⟨⟨z, ins, ws, bn, bo, b, vn, vo⟩, rfl, up_len (by simpa using l2), w2, up_len (by simpa using l3), w3, up_len w4.len, w4.el, up_len w5.1, up_len w6.len, w6.el, up_len w7.1⟩
/-- the lift: a bound on the readings, and the laid variables -/
theorem returnsInHanded_of_cond_and {a : Assume} {C : Checked} {os : Os} {f : FuncId} {fn : Func} {s : OpenSpec} {k : (H : Type) → List (DataW H) → Bool} (hk : s.cond = some k) {F : Stop.Interp} {conds : List PathCond} {apart fresh handsOn again : Bool} {X : World → Array Value → Prop}
    (hX : ∀ (w w' : World) (args : Array Value), w.heap = w'.heap → X w args → X w' args)
    (own : ownKnob C.prog.godebug = none) (started : os.Started) (noInit : C.prog.inits.idxOf? f = none) (hfn : C.prog.funcs[f]? = some fn)
    (witness : ∃ (w : World) (tape : Tape) (i : Input), w.os = os ∧ (w.forCall tape i).Shaped C.prog ∧ i.vars = [] ∧ Input.okWide C.prog (w.forCall tape i) .any w.heap.size f i ∧
      ((s.pre enc C.prog fn conds apart (w.forCall tape i).memory i.args ∧ X (w.forCall tape i).memory i.args) ∧ sizedMet enc C.prog fn s apart (w.forCall tape i).memory i.args) ∧ a.holds C.prog (lone (Frame.enter C.prog f i.args .normal) [] (w.forCall tape i)))
    (contract : ∀ (W : World) (base : Nat) (args : Array Value) (ds gs : List (DataW H)) (before : List MemPlace),
      (∀ (j : Nat) t v, fn.params[j]? = some t → args[j]? = some v → Value.okWide C.prog W .any base t v) →
      DataW.Whole enc C.prog fn.params.toList s.vars apart W args.toList ds gs before →
      k H (ds ++ gs) = true → X W args →
      Calls C.prog f args W fun e W' => ∃ v, e = .returned v ∧ (s.at F).post enc C.prog fn apart fresh handsOn again W args v W') :
    ReturnsInHanded a C os f .any (fun w args => (s.pre enc C.prog fn conds apart w args ∧ X w args) ∧ sizedMet enc C.prog fn s apart w args) ((s.at F).post enc C.prog fn apart fresh handsOn again) := by
  refine returnsInHanded_of_calls own started noInit witness ?_
  intro w tape i _ _ _ hok hpre _
  obtain ⟨_, _, _, fn', hfn', _, _, _, _, hval⟩ := hok
  have e : fn' = fn := Option.some.inj (hfn'.symm.trans hfn)
  subst e
  obtain ⟨⟨hp, hx⟩, _⟩ := hpre
  obtain ⟨ds, gs, before, hw, _, hkk⟩ := (OpenSpec.pre_some hk conds apart _ _).1 hp
  have hw' := DataW.Whole.of_heap (w' := w.forCall tape i) (by rfl) hw
  refine (contract (w.forCall tape i) w.heap.size i.args ds gs before hval hw' hkk (hX _ _ _ (by rfl) hx)).mono fun e W' ⟨v, he, hp⟩ => ?_
  subst he
  exact ChangeSpec.post_blind hp
/-- a door's own heap as the witness -/
theorem cond_witness {C : Checked} {os : Os} {f : FuncId} {fn : Func} {s : OpenSpec} {k : (H : Type) → List (DataW H) → Bool} (hk : s.cond = some k) {apart : Bool} {X : World → Array Value → Prop} (modest : Bool) (w0 : World) (args : Array Value) (fuel : Nat) (hos : w0.os = os)
    (hsh : (w0.forCall (fun _ _ => 0) ⟨#[], args, []⟩).Shaped C.prog)
    (hok : Input.okWideB C.prog (w0.forCall (fun _ _ => 0) ⟨#[], args, []⟩) f ⟨#[], args, []⟩ = true)
    {x : List (DataW H) × List (DataW H) × List MemPlace} (hx : DataW.whole enc C.prog (w0.forCall (fun _ _ => 0) ⟨#[], args, []⟩).memory fn.params.toList s.vars apart args.toList fuel = some x)
    (hkk : k H (x.1 ++ x.2.1) = true)
    (hsz : s.bare.sizedB enc C.prog fn apart (w0.forCall (fun _ _ => 0) ⟨#[], args, []⟩).memory args fuel = true)
    (hX : X (w0.forCall (fun _ _ => 0) ⟨#[], args, []⟩).memory args) :
    ∃ (w : World) (tape : Tape) (i : Input), w.os = os ∧ (w.forCall tape i).Shaped C.prog ∧ i.vars = [] ∧ Input.okWide C.prog (w.forCall tape i) .any w.heap.size f i ∧
      ((s.pre enc C.prog fn [] apart (w.forCall tape i).memory i.args ∧ X (w.forCall tape i).memory i.args) ∧ sizedMet enc C.prog fn s apart (w.forCall tape i).memory i.args) ∧ ({ modest := modest } : Assume).holds C.prog (lone (Frame.enter C.prog f i.args .normal) [] (w.forCall tape i)) :=
  ⟨w0, fun _ _ => 0, ⟨#[], args, []⟩, hos, hsh, (Input.okWide_of_okWideB (base := 0) hok).1, (Input.okWide_of_okWideB hok).2, ⟨⟨(OpenSpec.pre_some hk [] apart _ _).2 ⟨x.1, x.2.1, x.2.2, DataW.Whole_of_whole hx, rfl, hkk⟩, hX⟩, sizedMet_of_sizedB hsz⟩, by
    simp only [Assume.holds]
    exact ⟨by simp, by simp, fun _ => Modest.zero, by simp, by simp⟩⟩
end Go.Proofs.YtikfefjaeejeeaaGreatDoor
