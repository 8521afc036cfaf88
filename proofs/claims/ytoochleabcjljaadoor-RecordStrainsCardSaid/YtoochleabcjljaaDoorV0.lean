/- Words of our own on cells, over any program: what a slice's cells hold, and how that stays. -/
import Derived.Test.YtoochleabcjljaaDoorProg
import Derived.WalkKit
import Derived.WalkSpells
import Derived.WalkLawsBesides
import Derived.Lib.Hide
import Derived.Outline
import Derived.Deep.LoopGhost
import Derived.Deep.DeepMust
import Derived.Deep.DeepFit
import Derived.Deep.QuietTactic
import Derived.BigQuiet
import Derived.StillTailTactics
import Derived.Deep.RegionHeld3
import Derived.Deep.AppendLies
namespace Go.Proofs.YtoochleabcjljaaDoor
open Go.RowKit

theorem ret_bool {a b : Bool} (h : a = b) : Ending.returned (.bool a) = .returned (.bool b) := by rw [h]
theorem ret_int {k : IntKind} {a b : Int} (h : a = b) : Ending.returned (.int k a) = .returned (.int k b) := by rw [h]

/-- The cells 'cs' lie from the address on (of no cells nothing is said). -/
def Cells (w : World) (ao : Option Addr) (cs : List Value) : Prop :=
  cs = [] ∨ ∃ b off, ao = some ⟨b, off, none⟩ ∧ ∀ j u, cs[j]? = some u → w.cell? ⟨b, off + j, none⟩ = some u

theorem Cells.nil (w : World) (ao : Option Addr) : Cells w ao [] := .inl rfl

theorem Cells.below {w w' : World} {B : Nat} {ao : Option Addr} {cs : List Value} (h : Cells w ao cs) (hb : Below B w w') (hB : w.heap.size ≤ B) : Cells w' ao cs := by
  rcases h with h | ⟨b, off, h1, h2⟩
  · exact .inl h
  · refine .inr ⟨b, off, h1, fun j u hu => ?_⟩
    have h3 := h2 j u hu
    have h4 := World.block_lt_of_cell? w _ h3
    rw [hb.cell (p := ⟨b, off + j, none⟩) (by simp at h4 ⊢; omega)]
    exact h3

/-- below, cell by cell -/
theorem cell_keep {w w' : World} {B : Nat} {p : Addr} {v : Value} (h : w.cell? p = some v) (hb : Below B w w') (hB : w.heap.size ≤ B) : w'.cell? p = some v := by
  have h4 := World.block_lt_of_cell? w _ h
  rw [hb.cell (p := p) (by omega)]; exact h

theorem Cells.int {w : World} {b off : Nat} {k : IntKind} {xs : List Int} (h : Cells w (some ⟨b, off, none⟩) (xs.map (Value.int k))) {i : Nat} {x : Int} (hx : xs[i]? = some x) : w.cell? ⟨b, off + i, none⟩ = some (.int k x) := by
  rcases h with h | ⟨b', off', h1, h2⟩
  · have : xs = [] := by simpa using h
    rw [this] at hx; simp at hx
  · simp only [Option.some.injEq, Addr.mk.injEq] at h1
    obtain ⟨rfl, rfl, _⟩ := h1
    exact h2 i _ (by simp [hx])

/-- a slice of no elements, or one whose address is known -/
theorem Cells.cases {w : World} {ao : Option Addr} {cs : List Value} (h : Cells w ao cs) : cs = [] ∨ ∃ b off, ao = some ⟨b, off, none⟩ := by
  rcases h with h | ⟨b, off, h1, _⟩
  · exact .inl h
  · exact .inr ⟨b, off, h1⟩

theorem Cells.addr {w : World} {ao : Option Addr} {cs : List Value} (h : Cells w ao cs) (hne : cs ≠ []) : ∃ b off, ao = some ⟨b, off, none⟩ := by
  rcases h.cases with h | h
  · exact absurd h hne
  · exact h

theorem get_of_lt {α : Type} {xs : List α} {i : Nat} (h : i < xs.length) : ∃ x, xs[i]? = some x := ⟨xs[i], by simp [h]⟩
theorem take_get {α : Type} {xs : List α} {i : Nat} {x : α} (h : xs[i]? = some x) : xs.take (i + 1) = xs.take i ++ [x] := by
  rw [List.take_add_one, h]; rfl
/-- pairs of numbers, cell by cell -/
def prs (l : List (Int × Int)) : List Value := l.flatMap fun t => [.int .i64 t.1, .int .i64 t.2]
theorem prs_nil : prs [] = [] := rfl
theorem prs_cons (t : Int × Int) (l : List (Int × Int)) : prs (t :: l) = .int .i64 t.1 :: .int .i64 t.2 :: prs l := rfl
theorem prs_append (a b : List (Int × Int)) : prs (a ++ b) = prs a ++ prs b := by simp [prs]
theorem prs_length (l : List (Int × Int)) : (prs l).length = l.length * 2 := by
  induction l with
  | nil => rfl
  | cons t l ih => simp only [prs_cons, List.length_cons, ih]; omega
theorem prs_fst {l : List (Int × Int)} {i : Nat} {t : Int × Int} (h : l[i]? = some t) : (prs l)[i * 2]? = some (.int .i64 t.1) := by
  induction l generalizing i with
  | nil => simp at h
  | cons s l ih =>
    cases i with
    | zero => simp at h; subst h; simp [prs_cons]
    | succ i =>
      have e : (i + 1) * 2 = i * 2 + 1 + 1 := by omega
      rw [prs_cons, e, List.getElem?_cons_succ, List.getElem?_cons_succ]; exact ih (by simpa using h)
theorem prs_snd {l : List (Int × Int)} {i : Nat} {t : Int × Int} (h : l[i]? = some t) : (prs l)[i * 2 + 1]? = some (.int .i64 t.2) := by
  induction l generalizing i with
  | nil => simp at h
  | cons s l ih =>
    cases i with
    | zero => simp at h; subst h; simp [prs_cons]
    | succ i =>
      have e : (i + 1) * 2 + 1 = i * 2 + 1 + 1 + 1 := by omega
      rw [prs_cons, e, List.getElem?_cons_succ, List.getElem?_cons_succ]; exact ih (by simpa using h)
theorem prs_ne {l : List (Int × Int)} (h : 0 < l.length) : prs l ≠ [] := by
  intro e; have := prs_length l; rw [e] at this; simp at this; omega
theorem Cells.at {w : World} {b off : Nat} {cs : List Value} (h : Cells w (some ⟨b, off, none⟩) cs) {j : Nat} {u : Value} (hu : cs[j]? = some u) : w.cell? ⟨b, off + j, none⟩ = some u := by
  rcases h with h | ⟨b', off', h1, h2⟩
  · rw [h] at hu; simp at hu
  · simp only [Option.some.injEq, Addr.mk.injEq] at h1
    obtain ⟨rfl, rfl, _⟩ := h1
    exact h2 j u hu

/-- the cells of a new block, kept -/
theorem box_keep {w w1 : World} {cs : Array Value} {T : TypeId} {B : Nat} (hb : Below B (w.alloc (.cells cs T)) w1) (hB : w.heap.size < B) (i : Nat) : w1.cell? ⟨w.heap.size, i, none⟩ = cs[i]? := by
  rw [hb.cell (p := ⟨w.heap.size, i, none⟩) hB]; simp

/-- an owned row, as a slice -/
theorem own_cells {w : World} {b : Nat} {e : TypeId} {s : Nat} {v : Value} {n : Nat} {xs : List Value} (h : w.ownsRow b e s v n xs) : ∃ a c, v = .slice a n c ∧ Cells w a xs := by
  obtain ⟨h0, h1⟩ := h
  rcases h1 with ⟨rfl, rfl⟩ | ⟨g, cap, cur, rfl, hb, hg, hn, hm, hs, ht⟩
  · refine ⟨none, 0, rfl, .inl ?_⟩
    simpa using h0
  · refine ⟨_, _, rfl, .inr ⟨g, 0, rfl, fun j u hu => ?_⟩⟩
    have h2 := World.ownsRow.cells (w := w) (base := b) (e := e) (size := s) (v := .slice (some ⟨g, 0, none⟩) n cap) (n := n) (xs := xs) ⟨h0, .inr ⟨g, cap, cur, rfl, hb, hg, hn, hm, hs, ht⟩⟩ rfl j u hu
    rw [Addr.add_lit] at h2
    exact h2
/-- the one cell of a new block, to be appended -/
theorem news1 (w : World) (u : Value) (T : TypeId) : ∀ (j : Nat) (v : Value), [u][j]? = some v → (w.alloc (.cells #[u] T)).cell? ((⟨w.heap.size, 0, none⟩ : Addr).add j) = some v := by
  intro j v hj
  match j, hj with
  | 0, hj => simp at hj; subst hj; simp [Addr.add]
theorem own_drewN {w : World} {b : Nat} {e : TypeId} {s : Nat} {v : Value} {n : Nat} {xs : List Value} (h : w.ownsRow b e s v n xs) (k : Nat) : (w.drewN k).ownsRow b e s v n xs := h
theorem bel_drewN {B : Nat} {a w : World} (h : Below B a w) (k : Nat) : Below B a (w.drewN k) := ⟨h.os, h.tape, h.output, h.size, h.block⟩
theorem div_pow_bd {x M : Int} (s : Nat) (h1 : -M ≤ x) (h2 : x ≤ M) (hM : 0 ≤ M) : -M ≤ x / 2 ^ s ∧ x / 2 ^ s ≤ M := by
  have hp : (0 : Int) < 2 ^ s := Int.pow_pos (by decide)
  have h1p : (1 : Int) ≤ 2 ^ s := by omega
  constructor
  · rw [Int.le_ediv_iff_mul_le hp]
    have : M * 1 ≤ M * 2 ^ s := Int.mul_le_mul_of_nonneg_left h1p hM
    rw [Int.neg_mul]; omega
  · by_cases hx : 0 ≤ x
    · have := Int.ediv_le_self (2 ^ s) hx; omega
    · have := Int.ediv_neg_of_neg_of_pos (by omega : x < 0) hp; omega
theorem min_if (a b : Int) : (if b < a then b else a) = min a b := by rw [Int.min_def]; split <;> split <;> omega
theorem max_if (a b : Int) : (if a < b then b else a) = max a b := by rw [Int.max_def]; split <;> split <;> omega

end Go.Proofs.YtoochleabcjljaaDoor
