/- Codes: the writer is a sink. -/
import Derived.Test.YtoochleabcjljaaDoorE5
namespace Go.Proofs.YtoochleabcjljaaDoor
open Go.RowKit

theorem writer_ok (B bW : Nat) : SinkOK 89 (.pointer (some ⟨bW, 0, none⟩)) 46 B (WrS B bW) where
  alloc := by
    rintro S w bs o ⟨h1, h2, v, h3, h4, h5, h6⟩
    have hl := heap_lt h3
    refine ⟨h1, h2, v, by rw [Below.heap_alloc _ _ _ hl]; exact h3, h4.alloc _, h5, fun k hk => ?_⟩
    rcases hk with hk | rfl
    · have := h6 k hk; exact ⟨by simp; omega, this.2⟩
    · exact ⟨by simp, by omega, fun e => by have := (h4.lt _ e).2; omega⟩
  drew := fun S w bs h => h
  mono := fun S S' w bs hs h => by
    obtain ⟨h1, h2, v, h3, h4, h5, h6⟩ := h
    exact ⟨h1, h2, v, h3, h4, h5, fun k hk => h6 k (hs k hk)⟩
  size := fun S w bs h => h.size
  lt := fun S w bs k h hk => by
    obtain ⟨h1, h2, v, h3, h4, h5, h6⟩ := h
    exact (h6 k hk).1
  put := fun S w bs n k h hn0 hn1 hk hl => writer_put B bW S bs n k w h hn0 hn1 hk hl
  meth := fun w d => by kernel_rfl
  ahead := fun w d => by kernel_rfl
  enter := fun vs w => by kernel_rfl
end Go.Proofs.YtoochleabcjljaaDoor
