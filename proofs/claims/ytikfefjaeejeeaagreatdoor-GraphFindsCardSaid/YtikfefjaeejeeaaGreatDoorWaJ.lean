/- Walks: GraphFinds. -/
import Derived.Test.YtikfefjaeejeeaaGreatDoorWaI
import Derived.Test.YtikfefjaeejeeaaGreatDoorWaK
namespace Go.Proofs.YtikfefjaeejeeaaGreatDoor
open Go.RowKit
theorem finds_pure (g : GraphM) (name : ByteArray) (h1 : g.ins.length + g.ws.length ≤ 9223372036854775807) : Pure Tryz.prog 7 [encG g, strP name] (.ret (boolP true)) := by
  obtain ⟨i, e, hi⟩ := findM_tup g name
  exact finds_of g name i e _ (hi ▸ find_pure g name h1) (hi ▸ refFind_pure g name h1) (name_pure name) (refPlain_pure name) known_pure
end Go.Proofs.YtikfefjaeejeeaaGreatDoor
