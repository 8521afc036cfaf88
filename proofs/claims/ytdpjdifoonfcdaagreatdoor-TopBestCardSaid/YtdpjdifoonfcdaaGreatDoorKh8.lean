/- Parts of a proof, in build order: Ct. -/
import Derived.Test.YtdpjdifoonfcdaaGreatDoorKh7

namespace Go.Proofs.YtdpjdifoonfcdaaGreatDoor
open Go.RowKit
theorem cells_lit (w : World) (cs : List Value) (T : TypeId) : Cells (w.alloc (.cells cs.toArray T)) (some ⟨w.heap.size, 0, none⟩) cs :=
 .inr ⟨w.heap.size, 0, rfl, fun j u hu => by
  rw [cell_of_row _ _ _ _ _ _ (heap_alloc_new _ _), Nat.zero_add]; simpa using hu⟩
end Go.Proofs.YtdpjdifoonfcdaaGreatDoor
