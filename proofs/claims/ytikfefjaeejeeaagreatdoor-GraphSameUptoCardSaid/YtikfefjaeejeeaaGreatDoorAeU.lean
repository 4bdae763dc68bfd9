/- Over the seat's program: what runs with answers go by. -/
import Derived.Test.YtikfefjaeejeeaaGreatDoorAeT
import Derived.Test.YtikfefjaeejeeaaGreatDoorKn1
namespace Go.Proofs.YtikfefjaeejeeaaGreatDoor
open Go.RowKit
theorem fitS : FitS Tryz.prog := ⟨order_ok, names_of names_ok⟩
def inlOf (l : List Nat) : FuncId → Bool := fun f => l.contains f
def fuel : Nat := 20000
abbrev PureT (f : FuncId) (args : List PD) (e : AEnd) : Prop := Pure Tryz.prog f args e
/-- a function, run -/
theorem prun (inl : List Nat) (an : List (Nat × An)) {f : FuncId} {args : List PD} {e : AEnd} {ob : List Prop} (o : Obs ob)
    (h : resF (runFn Tryz.prog (run Tryz.prog (inlOf inl) fuel) f args ⟨0, an, []⟩) = some (e, ob)) : Pure Tryz.prog f args e := pure_run (inlOf inl) fitS fuel an h o.all
/-- a piece of code, run -/
theorem crun (inl : List Nat) (e : Fin_) (an : List (Nat × An)) {c : Code} {s : St} (x : AX) (s' : St) {ob : List Prop} (o : Obs ob)
    (h : resC e s (run Tryz.prog (inlOf inl) fuel (.c c s) ⟨0, an, []⟩) = some ((x, s'), ob)) {ro : Option Nat} {Q : AX → St → Prop} (hQ : Q x s') : AWP ro Tryz.prog c Q s := awp_runk (inlOf inl) fitS fuel e an h o.all hQ
end Go.Proofs.YtikfefjaeejeeaaGreatDoor
