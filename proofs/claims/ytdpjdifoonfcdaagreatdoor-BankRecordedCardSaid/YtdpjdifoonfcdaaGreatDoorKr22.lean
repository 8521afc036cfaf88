/- Parts of a proof, in build order: XF. -/
import Derived.Test.YtdpjdifoonfcdaaGreatDoorKr0
import Derived.Test.YtdpjdifoonfcdaaGreatDoorCards
import Derived.Test.YtdpjdifoonfcdaaGreatDoorTie
import Derived.WalkKit
import Derived.ProofKit
import Derived.OpenShut
import Derived.Deep.DeepHandedRow
import Derived.Lib.LaidTab
import Derived.LaidMore
import Derived.Stop.Joined

namespace Go.Proofs.YtdpjdifoonfcdaaGreatDoor
open Go.ChangeShapes Go.WideShapes Go.ChangeAt Go.RowKit
theorem facts_and {a b : Bool} (h1 : a = true) (h2 : b = true) : (a && b) = true := by rw [h1, h2]; rfl
set_option maxHeartbeats 4000000 in
theorem law_facts : joinedFacts Tryz.pinned.checked.prog 11 Tryz.f11 (OpenSpec.ofChange Rows.bankRecordedSpec).bare Rows.bankRecordedRow = true := by
 unfold joinedFacts
 (repeat' (with_reducible refine facts_and ?_ ?_))
 all_goals (as_aux_lemma => kernel_rfl)
end Go.Proofs.YtdpjdifoonfcdaaGreatDoor
