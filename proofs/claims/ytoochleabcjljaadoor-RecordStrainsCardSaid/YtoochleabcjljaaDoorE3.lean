/- Codes: the counter is a sink. -/
import Derived.Test.YtoochleabcjljaaDoorE2
namespace Go.Proofs.YtoochleabcjljaaDoor
open Go.RowKit

/-- a counter at block bc that has counted bs -/
def CtS (B bc : Nat) (S : Nat → Prop) (w : World) (bs : List Nat) : Prop :=
  B ≤ bc ∧ w.heap[bc]? = some (.cells #[.int .i64 (bs.length : Nat)] 114 (0, 0)) ∧ ∀ k, S k → k < w.heap.size ∧ k ≠ bc

theorem heap_lt {w : World} {b : Nat} {o : Obj} (h : w.heap[b]? = some o) : b < w.heap.size := (Array.getElem?_eq_some_iff.1 h).1

theorem counter_put (bc : Nat) (c : Nat) (n : Int) (k : Nat) (w : World) (h : w.heap[bc]? = some (.cells #[.int .i64 (c : Nat)] 114 (0, 0))) (hk : k ≤ 32) (hc : c ≤ 1099511627776) :
    Calls Tryd.prog 125 #[.pointer (some ⟨bc, 0, none⟩), .int .i64 n, .int .i64 (k : Nat)] w fun e w' => e = .returned (.tuple #[]) ∧ w' = w.setCell ⟨bc, 0, none⟩ (.int .i64 ((c + k : Nat) : Int)) := by
  have c0 : w.cell? ⟨bc, 0, none⟩ = some (.int .i64 (c : Nat)) := cell_of_one h
  have f0 : w.frozen? ⟨bc, 0, none⟩ = false := free_of_one h
  go_enter Tryd.func125, Tryd.ntmps125
  go_wp2
  go_end0
  exact ⟨rfl, by simp⟩

theorem counter_ok (B bc : Nat) : SinkOK 115 (.pointer (some ⟨bc, 0, none⟩)) 125 B (CtS B bc) where
  alloc := by
    rintro S w bs o ⟨h1, h2, h3⟩
    have hl := heap_lt h2
    refine ⟨h1, by rw [Below.heap_alloc _ _ _ hl]; exact h2, fun k hk => ?_⟩
    rcases hk with hk | rfl
    · have := h3 k hk; exact ⟨by simp; omega, this.2⟩
    · exact ⟨by simp, by omega⟩
  drew := fun S w bs h => h
  mono := fun S S' w bs hs h => ⟨h.1, h.2.1, fun k hk => h.2.2 k (hs k hk)⟩
  size := fun S w bs h => by have := heap_lt h.2.1; have := h.1; omega
  lt := fun S w bs k h hk => (h.2.2 k hk).1
  put := by
    rintro S w bs n k ⟨h1, h2, h3⟩ _ _ hk hl
    refine (counter_put bc bs.length n k w h2 hk hl).mono ?_
    rintro e w' ⟨rfl, rfl⟩
    refine ⟨rfl, ⟨h1, ?_, fun j hj => ?_⟩, (Below.refl _ _).setCell (p := ⟨bc, 0, none⟩) h1 _, fun j hj => Below.heap_setCell _ _ _ _ (h3 j hj).2⟩
    · rw [one_setCell h2, List.length_append, binL_length]
    · have := h3 j hj; exact ⟨by simpa using this.1, this.2⟩
  meth := fun w d => by kernel_rfl
  ahead := fun w d => by kernel_rfl
  enter := fun vs w => by kernel_rfl
end Go.Proofs.YtoochleabcjljaaDoor
