/- Parts of a proof, in build order: V0, A0, E0, E1, E2, E3, E4, Sb. -/
import Derived.Test.YtoochleabcjljaaGreatDoorProg
import Derived.WalkKit
import Derived.WalkSpells
import Derived.WalkLawsBesides
import Derived.Lib.Hide
import Derived.Outline
import Derived.Deep.LoopGhost
import Derived.Deep.DeepMust
import Derived.Deep.DeepFit
import Derived.Deep.QuietTactic
import Derived.BigQuiet
import Derived.StillTailTactics
import Derived.Deep.RegionHeld3
import Derived.Deep.AppendLies
import Derived.Test.YtoochleabcjljaaGreatDoorShelf
import Derived.Deep.RegionWith
import Derived.Laws.BitsLemmas

/- Words of our own on cells, over any program: what a slice's cells hold, and how that stays. -/
namespace Go.Proofs.YtoochleabcjljaaGreatDoor
open Go.RowKit

theorem ret_bool {a b : Bool} (h : a = b) : Ending.returned (.bool a) = .returned (.bool b) := by rw [h]
theorem ret_int {k : IntKind} {a b : Int} (h : a = b) : Ending.returned (.int k a) = .returned (.int k b) := by rw [h]

/-- The cells 'cs' lie from the address on (of no cells nothing is said). -/
def Cells (w : World) (ao : Option Addr) (cs : List Value) : Prop :=
  cs = [] ∨ ∃ b off, ao = some ⟨b, off, none⟩ ∧ ∀ j u, cs[j]? = some u → w.cell? ⟨b, off + j, none⟩ = some u

theorem Cells.nil (w : World) (ao : Option Addr) : Cells w ao [] := .inl rfl

theorem Cells.below {w w' : World} {B : Nat} {ao : Option Addr} {cs : List Value} (h : Cells w ao cs) (hb : Below B w w') (hB : w.heap.size ≤ B) : Cells w' ao cs := by
  rcases h with h | ⟨b, off, h1, h2⟩
  · exact .inl h
  · refine .inr ⟨b, off, h1, fun j u hu => ?_⟩
    have h3 := h2 j u hu
    have h4 := World.block_lt_of_cell? w _ h3
    rw [hb.cell (p := ⟨b, off + j, none⟩) (by simp at h4 ⊢; omega)]
    exact h3

/-- below, cell by cell -/
theorem cell_keep {w w' : World} {B : Nat} {p : Addr} {v : Value} (h : w.cell? p = some v) (hb : Below B w w') (hB : w.heap.size ≤ B) : w'.cell? p = some v := by
  have h4 := World.block_lt_of_cell? w _ h
  rw [hb.cell (p := p) (by omega)]; exact h

theorem Cells.int {w : World} {b off : Nat} {k : IntKind} {xs : List Int} (h : Cells w (some ⟨b, off, none⟩) (xs.map (Value.int k))) {i : Nat} {x : Int} (hx : xs[i]? = some x) : w.cell? ⟨b, off + i, none⟩ = some (.int k x) := by
  rcases h with h | ⟨b', off', h1, h2⟩
  · have : xs = [] := by simpa using h
    rw [this] at hx; simp at hx
  · simp only [Option.some.injEq, Addr.mk.injEq] at h1
    obtain ⟨rfl, rfl, _⟩ := h1
    exact h2 i _ (by simp [hx])

/-- a slice of no elements, or one whose address is known -/
theorem Cells.cases {w : World} {ao : Option Addr} {cs : List Value} (h : Cells w ao cs) : cs = [] ∨ ∃ b off, ao = some ⟨b, off, none⟩ := by
  rcases h with h | ⟨b, off, h1, _⟩
  · exact .inl h
  · exact .inr ⟨b, off, h1⟩

theorem Cells.addr {w : World} {ao : Option Addr} {cs : List Value} (h : Cells w ao cs) (hne : cs ≠ []) : ∃ b off, ao = some ⟨b, off, none⟩ := by
  rcases h.cases with h | h
  · exact absurd h hne
  · exact h

theorem get_of_lt {α : Type} {xs : List α} {i : Nat} (h : i < xs.length) : ∃ x, xs[i]? = some x := ⟨xs[i], by simp [h]⟩
theorem take_get {α : Type} {xs : List α} {i : Nat} {x : α} (h : xs[i]? = some x) : xs.take (i + 1) = xs.take i ++ [x] := by
  rw [List.take_add_one, h]; rfl
/-- pairs of numbers, cell by cell -/
def prs (l : List (Int × Int)) : List Value := l.flatMap fun t => [.int .i64 t.1, .int .i64 t.2]
theorem prs_nil : prs [] = [] := rfl
theorem prs_cons (t : Int × Int) (l : List (Int × Int)) : prs (t :: l) = .int .i64 t.1 :: .int .i64 t.2 :: prs l := rfl
theorem prs_append (a b : List (Int × Int)) : prs (a ++ b) = prs a ++ prs b := by simp [prs]
theorem prs_length (l : List (Int × Int)) : (prs l).length = l.length * 2 := by
  induction l with
  | nil => rfl
  | cons t l ih => simp only [prs_cons, List.length_cons, ih]; omega
theorem prs_fst {l : List (Int × Int)} {i : Nat} {t : Int × Int} (h : l[i]? = some t) : (prs l)[i * 2]? = some (.int .i64 t.1) := by
  induction l generalizing i with
  | nil => simp at h
  | cons s l ih =>
    cases i with
    | zero => simp at h; subst h; simp [prs_cons]
    | succ i =>
      have e : (i + 1) * 2 = i * 2 + 1 + 1 := by omega
      rw [prs_cons, e, List.getElem?_cons_succ, List.getElem?_cons_succ]; exact ih (by simpa using h)
theorem prs_snd {l : List (Int × Int)} {i : Nat} {t : Int × Int} (h : l[i]? = some t) : (prs l)[i * 2 + 1]? = some (.int .i64 t.2) := by
  induction l generalizing i with
  | nil => simp at h
  | cons s l ih =>
    cases i with
    | zero => simp at h; subst h; simp [prs_cons]
    | succ i =>
      have e : (i + 1) * 2 + 1 = i * 2 + 1 + 1 + 1 := by omega
      rw [prs_cons, e, List.getElem?_cons_succ, List.getElem?_cons_succ]; exact ih (by simpa using h)
theorem prs_ne {l : List (Int × Int)} (h : 0 < l.length) : prs l ≠ [] := by
  intro e; have := prs_length l; rw [e] at this; simp at this; omega
theorem Cells.at {w : World} {b off : Nat} {cs : List Value} (h : Cells w (some ⟨b, off, none⟩) cs) {j : Nat} {u : Value} (hu : cs[j]? = some u) : w.cell? ⟨b, off + j, none⟩ = some u := by
  rcases h with h | ⟨b', off', h1, h2⟩
  · rw [h] at hu; simp at hu
  · simp only [Option.some.injEq, Addr.mk.injEq] at h1
    obtain ⟨rfl, rfl, _⟩ := h1
    exact h2 j u hu

/-- the cells of a new block, kept -/
theorem box_keep {w w1 : World} {cs : Array Value} {T : TypeId} {B : Nat} (hb : Below B (w.alloc (.cells cs T)) w1) (hB : w.heap.size < B) (i : Nat) : w1.cell? ⟨w.heap.size, i, none⟩ = cs[i]? := by
  rw [hb.cell (p := ⟨w.heap.size, i, none⟩) hB]; simp

/-- an owned row, as a slice -/
theorem own_cells {w : World} {b : Nat} {e : TypeId} {s : Nat} {v : Value} {n : Nat} {xs : List Value} (h : w.ownsRow b e s v n xs) : ∃ a c, v = .slice a n c ∧ Cells w a xs := by
  obtain ⟨h0, h1⟩ := h
  rcases h1 with ⟨rfl, rfl⟩ | ⟨g, cap, cur, rfl, hb, hg, hn, hm, hs, ht⟩
  · refine ⟨none, 0, rfl, .inl ?_⟩
    simpa using h0
  · refine ⟨_, _, rfl, .inr ⟨g, 0, rfl, fun j u hu => ?_⟩⟩
    have h2 := World.ownsRow.cells (w := w) (base := b) (e := e) (size := s) (v := .slice (some ⟨g, 0, none⟩) n cap) (n := n) (xs := xs) ⟨h0, .inr ⟨g, cap, cur, rfl, hb, hg, hn, hm, hs, ht⟩⟩ rfl j u hu
    rw [Addr.add_lit] at h2
    exact h2
/-- the one cell of a new block, to be appended -/
theorem news1 (w : World) (u : Value) (T : TypeId) : ∀ (j : Nat) (v : Value), [u][j]? = some v → (w.alloc (.cells #[u] T)).cell? ((⟨w.heap.size, 0, none⟩ : Addr).add j) = some v := by
  intro j v hj
  match j, hj with
  | 0, hj => simp at hj; subst hj; simp [Addr.add]
theorem own_drewN {w : World} {b : Nat} {e : TypeId} {s : Nat} {v : Value} {n : Nat} {xs : List Value} (h : w.ownsRow b e s v n xs) (k : Nat) : (w.drewN k).ownsRow b e s v n xs := h
theorem bel_drewN {B : Nat} {a w : World} (h : Below B a w) (k : Nat) : Below B a (w.drewN k) := ⟨h.os, h.tape, h.output, h.size, h.block⟩
theorem div_pow_bd {x M : Int} (s : Nat) (h1 : -M ≤ x) (h2 : x ≤ M) (hM : 0 ≤ M) : -M ≤ x / 2 ^ s ∧ x / 2 ^ s ≤ M := by
  have hp : (0 : Int) < 2 ^ s := Int.pow_pos (by decide)
  have h1p : (1 : Int) ≤ 2 ^ s := by omega
  constructor
  · rw [Int.le_ediv_iff_mul_le hp]
    have : M * 1 ≤ M * 2 ^ s := Int.mul_le_mul_of_nonneg_left h1p hM
    rw [Int.neg_mul]; omega
  · by_cases hx : 0 ≤ x
    · have := Int.ediv_le_self (2 ^ s) hx; omega
    · have := Int.ediv_neg_of_neg_of_pos (by omega : x < 0) hp; omega
theorem min_if (a b : Int) : (if b < a then b else a) = min a b := by rw [Int.min_def]; split <;> split <;> omega
theorem max_if (a b : Int) : (if a < b then b else a) = max a b := by rw [Int.max_def]; split <;> split <;> omega

end Go.Proofs.YtoochleabcjljaaGreatDoor

/- Small functions of numbers. -/
namespace Go.Proofs.YtoochleabcjljaaGreatDoor
open Go.RowKit

/-- n is from lo to hi -/
def inB (lo n hi : Int) : Bool := decide (lo ≤ n ∧ n ≤ hi)
theorem inB_eq (lo n hi : Int) : inB lo n hi = (decide (lo ≤ n) && decide (n ≤ hi)) := by simp [inB]

theorem within_any (n lo hi : Int) (w : World) :
    Calls Tryz.prog 53 #[.int .i64 n, .int .i64 lo, .int .i64 hi] w fun e w' => e = .returned (.bool (inB lo n hi)) ∧ w = w' := by
  by_cases h1 : lo ≤ n
  · go_enter Tryz.func53, Tryz.ntmps53
    go_wp2
    go_ret
    exact ⟨ret_bool (by simp [inB]; try omega), rfl⟩
  · go_enter Tryz.func53, Tryz.ntmps53
    go_wp2
    go_ret
    exact ⟨ret_bool (by simp [inB]; try omega), rfl⟩

theorem in_any (n lo hi : Int) (w : World) :
    Calls Tryz.prog 54 #[.int .i64 n, .int .i64 lo, .int .i64 hi] w fun e w' => e = .returned (.bool (inB lo n hi)) ∧ w = w' := by
  by_cases h1 : lo ≤ n
  · go_enter Tryz.func54, Tryz.ntmps54
    go_wp2
    go_ret
    exact ⟨ret_bool (by simp [inB]; try omega), rfl⟩
  · go_enter Tryz.func54, Tryz.ntmps54
    go_wp2
    go_ret
    exact ⟨ret_bool (by simp [inB]; try omega), rfl⟩

theorem seriesOK1_any (n : Int) (w : World) :
    Calls Tryz.prog 112 #[.int .i64 n] w fun e w' => e = .returned (.bool (!inB (-8388608) n 8388608)) ∧ w = w' := by
  go_enter Tryz.func112, Tryz.ntmps112
  go_wp2_with (go_at_call 53; refine (within_any _ _ _ _).mono ?_; rintro e w' ⟨rfl, rfl⟩)
  go_ret
  exact ⟨rfl, rfl⟩

set_option maxRecDepth 100000 in
/-- slices.IndexFunc over ints, at whatever test that computes p and leaves what was there -/
theorem indexFunc_ints (F : FuncId) (capd : Array Value) (p : Int → Bool) (ao : Option Addr) (xs : List Int) (cap : Nat) (w : World) (hc : Cells w ao (xs.map (Value.int .i64))) (hl : xs.length ≤ 9223372036854775807)
    (hcf : ∀ (vs : Array Value) (wx : World), Sem.run Tryz.prog (callFunc F vs) wx = .ok (.enter F vs) wx)
    (hF : ∀ x wx, x ∈ xs → Below w.heap.size w wx → Calls Tryz.prog F (#[.int .i64 x] ++ capd) wx fun e w' => e = .returned (.bool (p x)) ∧ Below wx.heap.size wx w') :
    Calls Tryz.prog 166 #[.slice ao xs.length cap, .func (.func F) #[] capd] w fun e w' => (∃ r : Int, e = .returned (.int .i64 r) ∧ (0 ≤ r ↔ xs.any p = true)) ∧ Below w.heap.size w w' := by
  go_enter Tryz.func166, Tryz.ntmps166
  go_wp2
  go_loopw [8] (fun i wr => ∃ k : Nat, k ≤ xs.length ∧ i = .int .i64 k ∧ (xs.take k).any p = false ∧ Below w.heap.size w wr) (fun i _ => xs.length - (intOf i).toNat)
  case atStart => exact ⟨0, Nat.zero_le _, rfl, rfl, Below.refl _ _⟩
  case round =>
    obtain ⟨k, hk, rfl, hany, hb⟩ := hrel
    by_cases hlt : k < xs.length
    · obtain ⟨x, hx⟩ := get_of_lt hlt
      obtain ⟨b, off, rfl⟩ := hc.addr (by simpa using List.ne_nil_of_length_pos (by omega))
      have hcell := cell_keep (hc.int hx) hb (Nat.le_refl _)
      have HX := Lib.hid hx; clear hx
      have HC := Lib.hid hc; clear hc
      have HF := Lib.hid hF; clear hF
      have HA := Lib.hid hany; clear hany
      go_wp2_with fail
      refine (HF.out x wr (List.mem_of_getElem? HX.out) hb).mono ?_
      rintro e w1 ⟨rfl, hb1⟩
      have hb2 := hb.trans (hb1.mono hb.size)
      clear hb1
      by_cases hp : p x = true
      · go_wp2
        go_ret
        exact ⟨⟨_, rfl, by simp; exact ⟨x, List.mem_of_getElem? HX.out, hp⟩⟩, hb2⟩
      · simp only [Bool.not_eq_true] at hp
        go_wp2
        go_roundw
        case rel => exact ⟨k + 1, by omega, by go_num, by rw [take_get HX.out, List.any_append, HA.out]; simp [hp], hb2⟩
        case measure => simp [intOf]; omega
    · obtain rfl : k = xs.length := by omega
      rw [List.take_length] at hany
      have HA := Lib.hid hany; clear hany
      go_wp2
      go_ret
      exact ⟨⟨_, rfl, by rw [HA.out]; simp⟩, hb⟩
end Go.Proofs.YtoochleabcjljaaGreatDoor

/- Codes: check, folded, residues. -/
namespace Go.Proofs.YtoochleabcjljaaGreatDoor
open Go.RowKit

/-- bytes, cell by cell -/
def bys (l : List Nat) : List Value := l.map fun d => Value.int .u8 (d : Nat)
theorem bys_length (l : List Nat) : (bys l).length = l.length := by simp [bys]
theorem bys_append (a b : List Nat) : bys (a ++ b) = bys a ++ bys b := by simp [bys]
theorem bys_get {l : List Nat} {i d : Nat} (h : l[i]? = some d) : (bys l)[i]? = some (.int .u8 (d : Nat)) := by simp [bys, h]
theorem bys_ne {l : List Nat} (h : 0 < l.length) : bys l ≠ [] := by
  intro e; have := bys_length l; rw [e] at this; simp at this; omega

def chkL (l : List Nat) : Nat := l.foldl (fun n b => (n * 257 + b + 1) % 16777213) 0
theorem chkL_snoc (l : List Nat) (b : Nat) : chkL (l ++ [b]) = (chkL l * 257 + b + 1) % 16777213 := by simp [chkL]
theorem chkL_lt (l : List Nat) : chkL l < 16777213 := by
  rcases List.eq_nil_or_concat l with rfl | ⟨l', b, rfl⟩
  · decide
  · rw [List.concat_eq_append, chkL_snoc]; exact Nat.mod_lt _ (by decide)

theorem check_any (ao : Option Addr) (l : List Nat) (cap : Nat) (w : World) (hc : Cells w ao (bys l)) (hb : ∀ d ∈ l, d < 256) (hl : l.length ≤ 9223372036854775807) :
    Calls Tryz.prog 125 #[.slice ao l.length cap] w fun e w' => e = .returned (.int .i64 (chkL l : Nat)) ∧ w = w' := by
  have HC := Lib.hid hc; have HB := Lib.hid hb; clear hc hb
  go_enter Tryz.func125, Tryz.ntmps125
  go_wp2
  go_loop [3, 8] (fun n i => ∃ k : Nat, k ≤ l.length ∧ i = .int .i64 k ∧ n = .int .i64 (chkL (l.take k) : Nat)) (fun _ i => l.length - (intOf i).toNat)
  case atStart => exact ⟨0, Nat.zero_le _, rfl, rfl⟩
  case round =>
    obtain ⟨k, hk, rfl, rfl⟩ := hrel
    have hlt1 := chkL_lt (l.take k)
    by_cases hlt : k < l.length
    · obtain ⟨x, hx⟩ := get_of_lt hlt
      obtain ⟨b, off, rfl⟩ := HC.out.addr (bys_ne (by omega))
      have hcell := HC.out.at (bys_get hx)
      have hx2 := HB.out x (List.mem_of_getElem? hx)
      have hs : chkL (l.take (k + 1)) = (chkL (l.take k) * 257 + x + 1) % 16777213 := by rw [take_get hx, chkL_snoc]
      have HS := Lib.hid hs; clear hs hx
      generalize chkL (l.take k) = n at *
      go_wp2
      go_round
      case rel => exact ⟨k + 1, by omega, by go_num, by rw [HS.out]; simp⟩
      case measure => simp [intOf]; omega
    · obtain rfl : k = l.length := by omega
      go_wp2
      go_ret
      exact ⟨ret_int (by simp), rfl⟩

def foldU (r : Int) : Int := if r < 0 then -2 * r - 1 else 2 * r
theorem folded_any (r : Int) (w : World) (h1 : -1099511627776 ≤ r) (h2 : r ≤ 1099511627776) :
    Calls Tryz.prog 177 #[.int .i64 r] w fun e w' => e = .returned (.int .i64 (foldU r)) ∧ w = w' := by
  by_cases h : r < 0
  · go_enter Tryz.func177, Tryz.ntmps177
    go_wp2
    go_ret
    exact ⟨ret_int (by rw [foldU, if_pos h]), rfl⟩
  · go_enter Tryz.func177, Tryz.ntmps177
    go_wp2
    go_ret
    exact ⟨ret_int (by rw [foldU, if_neg (by omega)]), rfl⟩

/-- the differences of neighbours -/
def diffs (xs : List Int) : List Int := (List.range xs.length).map fun i => if i = 0 then xs.getD 0 0 else xs.getD i 0 - xs.getD (i - 1) 0
def resid (xs : List Int) : Nat → List Int
  | 0 => xs
  | o + 1 => diffs (resid xs o)
theorem diffs_length (xs : List Int) : (diffs xs).length = xs.length := by simp [diffs]
theorem resid_length (xs : List Int) (o : Nat) : (resid xs o).length = xs.length := by
  induction o with
  | zero => rfl
  | succ o ih => simp [resid, diffs_length, ih]
theorem diffs_get {xs : List Int} {i : Nat} (h : i < xs.length) : (diffs xs)[i]? = some (if i = 0 then xs.getD 0 0 else xs.getD i 0 - xs.getD (i - 1) 0) := by
  simp [diffs, h]

/-- a round of the differences, from the end -/
theorem diff_step {xs : List Int} {k : Nat} (h0 : 0 < k) (hk : k < xs.length) :
    (xs.take (k + 1) ++ (diffs xs).drop (k + 1)).set k (xs.getD k 0 - xs.getD (k - 1) 0) = xs.take k ++ (diffs xs).drop k := by
  rw [List.take_add_one, List.getElem?_eq_getElem hk, Option.toList_some, List.append_assoc, List.set_append_right _ _ (by rw [List.length_take]; omega)]
  have hl : (xs.take k).length = k := by rw [List.length_take]; omega
  rw [hl, Nat.sub_self]
  have hd : k < (diffs xs).length := by rw [diffs_length]; exact hk
  have := diffs_get hk
  rw [if_neg (by omega)] at this
  rw [List.drop_eq_getElem_cons hd, (List.getElem?_eq_some_iff.1 this).2]
  simp
theorem diff_end {xs : List Int} (h : 0 < xs.length) : xs.take 1 ++ (diffs xs).drop 1 = diffs xs := by
  have hd : 0 < (diffs xs).length := by rw [diffs_length]; exact h
  have := diffs_get h
  rw [if_pos rfl] at this
  have e : (diffs xs) = (diffs xs)[0] :: (diffs xs).drop 1 := by
    have := List.drop_eq_getElem_cons hd
    rwa [List.drop_zero] at this
  have e2 : (diffs xs)[0] = xs.getD 0 0 := (List.getElem?_eq_some_iff.1 this).2
  rw [e2] at e
  conv => rhs; rw [e]
  rw [show xs.take 1 = [xs.getD 0 0] from by
    match xs, h with
    | x :: t, _ => simp]
  rfl

theorem diffs_bd {xs : List Int} {M : Int} (hM : 0 ≤ M) (h : ∀ x ∈ xs, -M ≤ x ∧ x ≤ M) : ∀ x ∈ diffs xs, -(2 * M) ≤ x ∧ x ≤ 2 * M := by
  have hg : ∀ i, -M ≤ xs.getD i 0 ∧ xs.getD i 0 ≤ M := by
    intro i
    rw [List.getD_eq_getElem?_getD]
    cases hx : xs[i]? with
    | none => simp; omega
    | some x => exact h x (List.mem_of_getElem? hx)
  intro x hx
  simp only [diffs, List.mem_map, List.mem_range] at hx
  obtain ⟨i, _, rfl⟩ := hx
  have h1 := hg 0; have h2 := hg i; have h3 := hg (i - 1)
  split <;> omega
theorem resid_bd {xs : List Int} (h : ∀ x ∈ xs, -8388608 ≤ x ∧ x ≤ 8388608) (o : Nat) (ho : o ≤ 3) : ∀ x ∈ resid xs o, -67108864 ≤ x ∧ x ≤ 67108864 := by
  match o, ho with
  | 0, _ => intro x hx; have := h x hx; omega
  | 1, _ => intro x hx; have := diffs_bd (M := 8388608) (by omega) h x hx; omega
  | 2, _ => intro x hx; have := diffs_bd (M := 16777216) (by omega) (diffs_bd (M := 8388608) (by omega) h) x hx; omega
  | 3, _ => intro x hx; have := diffs_bd (M := 33554432) (by omega) (diffs_bd (M := 16777216) (by omega) (diffs_bd (M := 8388608) (by omega) h)) x hx; omega

theorem clone_any (ao : Option Addr) (xs : List Int) (cap : Nat) (w : World) (hc : Cells w ao (xs.map (Value.int .i64))) (hl : xs.length * 8 ≤ 140737488355328) :
    Calls Tryz.prog 178 #[.slice ao xs.length cap] w fun e w' => (∃ v, e = .returned v ∧ w'.ownsRow w.heap.size 3 1 v xs.length (xs.map (Value.int .i64))) ∧ Below w.heap.size w w' := by
  by_cases h0 : xs = []
  · subst h0
    cases ao with
    | none =>
      refine (Tryz.slices_Clone_int_nil 0 cap w).mono ?_
      rintro e w' ⟨rfl, rfl⟩
      exact ⟨⟨_, rfl, World.ownsRow_nil _ _ _ _⟩, Below.refl _ _⟩
    | some a =>
      refine (Tryz.slices_Clone_int_zero a cap w).mono ?_
      rintro e w' ⟨v, rfl, ho, _, hb⟩
      exact ⟨⟨_, rfl, ho⟩, hb⟩
  · obtain ⟨b, off, rfl⟩ := hc.addr (by simpa using h0)
    refine (Tryz.slices_Clone_int b off xs.length cap xs w (Nat.le_refl _) hl (fun j hj => ?_)).mono ?_
    · obtain ⟨x, hx⟩ := get_of_lt hj
      rw [List.getD_eq_getElem?_getD, hx]
      exact hc.int hx
    · rintro e w' ⟨v, rfl, ho, _, hb⟩
      rw [List.take_length] at ho
      exact ⟨⟨_, rfl, ho⟩, hb⟩
end Go.Proofs.YtoochleabcjljaaGreatDoor

/- Codes: residues. -/
namespace Go.Proofs.YtoochleabcjljaaGreatDoor
open Go.RowKit

set_option maxRecDepth 100000 in
set_option maxHeartbeats 1000000 in
theorem residues_any (ao : Option Addr) (xs : List Int) (cap : Nat) (o : Nat) (w : World) (hc : Cells w ao (xs.map (Value.int .i64))) (hl : xs.length ≤ 4096) (ho : o ≤ 3) (hx : ∀ x ∈ xs, -8388608 ≤ x ∧ x ≤ 8388608) :
    Calls Tryz.prog 124 #[.slice ao xs.length cap, .int .i64 (o : Nat)] w fun e w' => (∃ a c, e = .returned (.slice a (resid xs o).length c) ∧ Cells w' a ((resid xs o).map (Value.int .i64)) ∧ ∀ b off, a = some ⟨b, off, none⟩ → w.heap.size ≤ b) ∧ Below w.heap.size w w' := by
  have HC := Lib.hid hc; have HX := Lib.hid hx; clear hc hx
  go_enter Tryz.func124, Tryz.ntmps124
  go_wp2_with fail
  refine (clone_any ao xs cap w HC.out (by omega)).mono ?_
  rintro e w1 ⟨⟨v, rfl, hown⟩, hb1⟩
  obtain ⟨g, cg, hv⟩ : ∃ g cg, v = .slice g xs.length cg := by
    obtain ⟨a, c, h, _⟩ := own_cells hown; exact ⟨a, c, h⟩
  subst hv
  have HO := Lib.hid hown; clear hown
  go_wp2
  go_loopw [10] (fun i wr => ∃ k : Nat, k ≤ o ∧ i = .int .i64 k ∧ wr.ownsRow w.heap.size 3 1 (.slice g xs.length cg) xs.length ((resid xs k).map (Value.int .i64)) ∧ Below w.heap.size w wr) (fun i _ => o - (intOf i).toNat)
  case atStart => exact ⟨0, Nat.zero_le _, rfl, HO.out, hb1⟩
  case round =>
    clear hb1
    obtain ⟨k, hk, rfl, hown, hb⟩ := hrel
    obtain ⟨wo, rfl⟩ : ∃ wo : World, wo = wr := ⟨_, rfl⟩
    have HO2 := Lib.hid hown; clear hown
    by_cases hlt : k < o
    · have hrl := resid_length xs k
      have hrb := resid_bd HX.out k (by omega)
      generalize hys : resid xs k = ys at *
      have HYS : Hid (resid xs (k + 1) = diffs ys) := by rw [← hys]; rfl
      clear hys
      have HYB := Lib.hid hrb; clear hrb
      have hrl2 : xs.length = ys.length := hrl.symm
      have hyl : ys.length ≤ 4096 := by omega
      clear hl
      generalize xs.length = n at *
      subst hrl2
      clear hrl
      go_wp2
      go_loopw [6] (fun i wi => ∃ j : Nat, j ≤ ys.length ∧ (j = 0 → ys.length = 0) ∧ i = .int .i64 ((j : Int) - 1) ∧ wi.ownsRow w.heap.size 3 1 (.slice g ys.length cg) ys.length ((ys.take j ++ (diffs ys).drop j).map (Value.int .i64)) ∧ Below w.heap.size w wi) (fun i _ => (intOf i + 1).toNat)
      case atStart =>
        refine ⟨ys.length, Nat.le_refl _, fun h => h, rfl, ?_, hb⟩
        rw [List.take_length, List.drop_eq_nil_of_le (by rw [diffs_length]; omega), List.append_nil]
        exact HO2.out
      case round =>
        clear hb
        obtain ⟨j, hj, hj0, rfl, hown, hb⟩ := hrel
        by_cases h1 : 1 < j
        · obtain ⟨q, rfl⟩ : ∃ q, j = q + 2 := ⟨j - 2, by omega⟩
          have e1 : (((q + 2 : Nat) : Int) - 1) = ((q + 1 : Nat) : Int) := by omega
          rw [e1]
          obtain ⟨x, hx⟩ := get_of_lt (show q + 1 < ys.length by omega)
          obtain ⟨y, hy⟩ := get_of_lt (show q < ys.length by omega)
          have hst := diff_step (xs := ys) (k := q + 1) (by omega) (by omega)
          have hxg : ys.getD (q + 1) 0 = x := by rw [List.getD_eq_getElem?_getD, hx]; rfl
          have hyg : ys.getD (q + 1 - 1) 0 = y := by rw [Nat.add_sub_cancel, List.getD_eq_getElem?_getD, hy]; rfl
          rw [hxg, hyg] at hst
          have bx := HYB.out x (List.mem_of_getElem? hx)
          have bY := HYB.out y (List.mem_of_getElem? hy)
          obtain ⟨bx1, bx2⟩ := bx
          obtain ⟨by1, by2⟩ := bY
          obtain ⟨a, c, hv, hcs⟩ := own_cells hown
          simp only [Value.slice.injEq, true_and] at hv
          obtain ⟨rfl, rfl⟩ := hv
          obtain ⟨gb, go, rfl⟩ := hcs.addr (List.ne_nil_of_length_pos (by rw [List.length_map, List.length_append, List.length_take]; omega))
          have hg0 : go = 0 := by
            rcases hown.2 with ⟨h, _⟩ | ⟨_, _, _, h, _⟩
            · simp at h
            · simp at h; exact h.1.2
          subst hg0
          have hlx : (ys.take (q + 2)).length = q + 2 := by rw [List.length_take]; omega
          have c1 : wr.cell? ⟨gb, q + 1, none⟩ = some (.int .i64 x) := by
            rw [hown.cellAt (q + 1) (by omega), List.getElem?_map, List.getElem?_append_left (by rw [hlx]; omega), List.getElem?_take, if_pos (by omega), hx]; rfl
          have c2 : wr.cell? ⟨gb, q, none⟩ = some (.int .i64 y) := by
            rw [hown.cellAt q (by omega), List.getElem?_map, List.getElem?_append_left (by rw [hlx]; omega), List.getElem?_take, if_pos (by omega), hy]; rfl
          have f1 := hown.frozenAt (q + 1)
          have hsto := (hown.stored (q + 1) (.int .i64 (x - y))).1
          rw [← List.map_set, hst] at hsto
          have hgb : w.heap.size ≤ gb := (hown.lt gb rfl).1
          have hb2 : Below w.heap.size w (wr.setCell ⟨gb, q + 1, none⟩ (.int .i64 (x - y))) := hb.setCell hgb _
          have HST := Lib.hid hsto; have HB2 := Lib.hid hb2
          clear hsto hb2 hst hxg hyg hx hy hcs hown e1 hj0 hlx
          have i1 : (q : Int) + 1 < ys.length := by omega
          have i2 : (q : Int) < ys.length := by omega
          have i3 : (0 : Int) ≤ q := by omega
          have i4 : (0 : Int) ≤ (q : Int) + 1 := by omega
          have i5 : (q : Int) + 1 = ((q + 1 : Nat) : Int) := by omega
          have I5 := Lib.hid i5; clear i5
          have q1 : IntKind.i64.wrap (((q + 1 : Nat) : Int) - 1) = (q : Int) := by rw [IntWalk.i64_in _ (by omega)]; omega
          have q6 : IntKind.i64.wrap (q : Int) = (q : Int) := IntWalk.i64_in _ (by omega)
          have q2 : IntKind.i64.wrap (x - y) = x - y := IntWalk.i64_in _ (by omega)
          have q5 : IntKind.i64.wrap ((q : Int) + 1 - 1) = (q : Int) := by rw [IntWalk.i64_in _ (by omega)]; omega
          have q3 : (((q : Int) + 1)).toNat = q + 1 := by omega
          go_wp2
          go_still_tail 11, (by kernel_rfl)
          change wpList _ _ _ _ _ wr.drew
          have c1d : wr.drew.cell? ⟨gb, q + 1, none⟩ = some (.int .i64 x) := c1
          have f1d : wr.drew.frozen? ⟨gb, q + 1, none⟩ = false := f1
          have HSTd : Hid ((wr.drew.setCell ⟨gb, q + 1, none⟩ (.int .i64 (x - y))).ownsRow w.heap.size 3 1 (.slice (some ⟨gb, 0, none⟩) ys.length cg) ys.length ((ys.take (q + 1) ++ (diffs ys).drop (q + 1)).map (Value.int .i64))) := HST.out
          have HB2d : Hid (Below w.heap.size w (wr.drew.setCell ⟨gb, q + 1, none⟩ (.int .i64 (x - y)))) := by
            have h := HB2.out
            exact ⟨h.os, h.tape, h.output, h.size, h.block⟩
          clear HST HB2 c1 c2 f1 q1 q2 q5 q6 q3
          generalize wr.drew = wd at *
          go_wp2
          go_roundw
          case rel => exact ⟨q + 1, by omega, by omega, by go_num, HSTd.out, HB2d.out⟩
          case measure => simp [intOf]; omega
        · have hfin : wr.ownsRow w.heap.size 3 1 (.slice g ys.length cg) ys.length ((diffs ys).map (Value.int .i64)) := by
            by_cases hj1 : j = 1
            · subst hj1; rw [diff_end (by omega)] at hown; exact hown
            · obtain rfl : j = 0 := by omega
              have h0 := hj0 rfl
              have e0 : ys = [] := List.length_eq_zero_iff.1 h0
              subst e0
              simpa [diffs] using hown
          have HF := Lib.hid hfin; clear hfin hown hj0
          have hle : ((j : Int) - 1) ≤ 0 := by omega
          go_wp2
          go_roundw
          case rel => exact ⟨k + 1, by omega, by go_num, by rw [HYS.out]; exact HF.out, hb⟩
          case measure => simp [intOf]; omega
    · obtain rfl : k = o := by omega
      obtain ⟨a, c, hv, hcs⟩ := own_cells HO2.out
      simp only [Value.slice.injEq, true_and] at hv
      obtain ⟨rfl, rfl⟩ := hv
      have HCS := Lib.hid hcs; clear hcs
      have hrl := resid_length xs k
      have HRL := Lib.hid hrl; clear hrl
      go_wp2
      go_ret
      exact ⟨⟨_, _, by rw [HRL.out]; rfl, HCS.out, fun b off h => (HO2.out.lt b (by rw [h]; rfl)).1⟩, hb⟩
end Go.Proofs.YtoochleabcjljaaGreatDoor

/- Codes: sinks; way.write over whatever sink. -/
namespace Go.Proofs.YtoochleabcjljaaGreatDoor
open Go.RowKit

/-- the lowest k bits of n, the highest one first -/
def binL (n : Int) : Nat → List Nat
  | 0 => []
  | k + 1 => (n / 2 ^ k % 2).toNat :: binL n k
theorem binL_length (n : Int) (k : Nat) : (binL n k).length = k := by
  induction k with
  | zero => rfl
  | succ k ih => simp [binL, ih]

/-- blocks in S, and those below B, are as they were -/
structure KeepS (S : Nat → Prop) (B : Nat) (w w' : World) : Prop where
  below : Below B w w'
  same : ∀ k, S k → w'.heap[k]? = w.heap[k]?
theorem KeepS.refl (S : Nat → Prop) (B : Nat) (w : World) : KeepS S B w w := ⟨Below.refl _ _, fun _ _ => rfl⟩
theorem KeepS.trans {S : Nat → Prop} {B : Nat} {a b c : World} (h : KeepS S B a b) (k : KeepS S B b c) : KeepS S B a c :=
  ⟨h.below.trans k.below, fun i hi => (k.same i hi).trans (h.same i hi)⟩
theorem KeepS.drew {S : Nat → Prop} {B : Nat} {a b : World} (h : KeepS S B a b) : KeepS S B a b.drew := ⟨h.below.drew, h.same⟩
theorem KeepS.mono {S S' : Nat → Prop} {B : Nat} {a b : World} (h : KeepS S B a b) (hs : ∀ k, S' k → S k) : KeepS S' B a b := ⟨h.below, fun k hk => h.same k (hs k hk)⟩
theorem KeepS.cell {S : Nat → Prop} {B : Nat} {w w' : World} (h : KeepS S B w w') {b i : Nat} {v : Value} (hb : S b) (hc : w.cell? ⟨b, i, none⟩ = some v) : w'.cell? ⟨b, i, none⟩ = some v := by
  rw [World.cell?_of_block (w := w) (a := ⟨b, i, none⟩) (h.same b hb)]; exact hc

/-- a sink of bits, by what it holds: 'St S w bs': bs has been put; the blocks of S are none of its own -/
structure SinkOK (T : TypeId) (pv : Value) (F : FuncId) (B : Nat) (St : (Nat → Prop) → World → List Nat → Prop) : Prop where
  alloc : ∀ S w bs o, St S w bs → St (fun k => S k ∨ k = w.heap.size) (w.alloc o) bs
  drew : ∀ S w bs, St S w bs → St S w.drew bs
  mono : ∀ (S S' : Nat → Prop) w bs, (∀ k, S' k → S k) → St S w bs → St S' w bs
  size : ∀ S w bs, St S w bs → B ≤ w.heap.size
  lt : ∀ (S : Nat → Prop) w bs k, St S w bs → S k → k < w.heap.size
  put : ∀ S w bs (n : Int) (k : Nat), St S w bs → 0 ≤ n → n ≤ 4294967295 → k ≤ 32 → bs.length ≤ 1099511627776 →
    Calls Tryz.prog F #[pv, .int .i64 n, .int .i64 (k : Nat)] w fun e w' => e = .returned (.tuple #[]) ∧ St S w' (bs ++ binL n k) ∧ KeepS S B w w'
  meth : ∀ w d, (method (d + 1) T pv "ringdown/record.put").run Tryz.prog w = .ok (F, pv) w
  ahead : ∀ w d, (nilAhead (d + 1) T pv "ringdown/record.put").run Tryz.prog w = .ok (some false) w
  enter : ∀ (vs : Array Value) (w : World), Sem.run Tryz.prog (callFunc F vs) w = .ok (.enter F vs) w

/-- the bits of a folded value; of a list -/
def encU (u : Int) (sh : Nat) : List Nat := if u / 2 ^ sh < 20 then binL (2 ^ ((u / 2 ^ sh).toNat + 1) - 2) ((u / 2 ^ sh).toNat + 1) ++ binL u sh else binL 1048575 20 ++ binL u 32
def encL (o sh : Nat) (l : List Int) : List Nat := binL o 2 ++ binL sh 5 ++ l.flatMap fun r => encU (foldU r) sh

theorem pow_bd (q : Nat) (h : q < 20) : (2 : Int) ≤ 2 ^ (q + 1) ∧ (2 : Int) ^ (q + 1) ≤ 1048576 := by
  have h1 : (2 : Nat) ^ 1 ≤ 2 ^ (q + 1) := Nat.pow_le_pow_right (by decide) (by omega)
  have h2 : (2 : Nat) ^ (q + 1) ≤ 2 ^ 20 := Nat.pow_le_pow_right (by decide) (by omega)
  have h3 : ((2 ^ (q + 1) : Nat) : Int) = (2 : Int) ^ (q + 1) := by simp
  have h4 : (2 : Nat) ^ 20 = 1048576 := by decide
  omega
theorem foldU_bd {r : Int} (h1 : -67108864 ≤ r) (h2 : r ≤ 67108864) : 0 ≤ foldU r ∧ foldU r ≤ 268435456 := by
  unfold foldU; split <;> omega
theorem encU_length (u : Int) (sh : Nat) (hs : sh ≤ 30) : (encU u sh).length ≤ 52 := by
  unfold encU
  split
  · rw [List.length_append, binL_length, binL_length]; omega
  · rw [List.length_append, binL_length, binL_length]; omega
theorem flat_length (l : List Int) (sh : Nat) (hs : sh ≤ 30) : (l.flatMap fun r => encU (foldU r) sh).length ≤ 52 * l.length := by
  induction l with
  | nil => simp
  | cons r l ih =>
    have := encU_length (foldU r) sh hs
    simp only [List.flatMap_cons, List.length_append, List.length_cons]; omega

set_option maxRecDepth 100000 in
set_option maxHeartbeats 1000000 in
theorem write_any {T : TypeId} {pv : Value} {F : FuncId} {B : Nat} {St : (Nat → Prop) → World → List Nat → Prop} (hk : SinkOK T pv F B St) (S : Nat → Prop) (o sh : Nat) (ho : o ≤ 3) (hsh : sh ≤ 30) (al : Option Addr) (l : List Int) (cl : Nat) (bs : List Nat) (w : World)
    (hst : St S w bs) (hl : ∀ b off, al = some ⟨b, off, none⟩ → l ≠ [] → S b) (hc : Cells w al (l.map (Value.int .i64))) (hlen : l.length ≤ 4096) (hbs : bs.length ≤ 1000000) (hr : ∀ r ∈ l, -67108864 ≤ r ∧ r ≤ 67108864) :
    Calls Tryz.prog 123 #[.agg #[.int .i64 (o : Nat), .int .i64 (sh : Nat)], .iface T pv, .slice al l.length cl] w fun e w' => e = .returned (.tuple #[]) ∧ St S w' (bs ++ encL o sh l) ∧ KeepS S B w w' := by
  have HK := Lib.hid hk; have HST := Lib.hid hst; have HC := Lib.hid hc; have HR := Lib.hid hr
  have hmeth := hk.meth
  have hen := hk.enter
  clear hk hst hc hr
  go_enter Tryz.func123, Tryz.ntmps123
  have hs1 := HK.out.alloc S w bs (.cells #[.int .i64 (o : Nat), .int .i64 (sh : Nat)] 170) HST.out
  have hsz0 := HK.out.size S w bs HST.out
  go_wp2_with fail
  refine (HK.out.put _ _ bs o 2 hs1 (by omega) (by omega) (by omega) (by omega)).mono ?_
  rintro e w1 ⟨rfl, hs2, hk1⟩
  have hbx : w1.cell? ⟨w.heap.size, 1, none⟩ = some (.int .i64 (sh : Nat)) := hk1.cell (.inr rfl) (by simp)
  have HS2 := Lib.hid hs2; clear hs1 hs2
  go_wp2_with fail
  refine (HK.out.put _ _ _ sh 5 HS2.out (by omega) (by omega) (by omega) (by rw [List.length_append, binL_length]; omega)).mono ?_
  rintro e w2 ⟨rfl, hs3, hk2⟩
  have hk3 := hk1.trans hk2
  have HS3 := Lib.hid hs3; clear hs3 hk1 hk2 hbx HS2
  go_wp2
  go_loopw [20] (fun i wr => ∃ k : Nat, k ≤ l.length ∧ i = .int .i64 k ∧ St (fun k => S k ∨ k = w.heap.size) wr (bs ++ binL o 2 ++ binL sh 5 ++ (l.take k).flatMap fun r => encU (foldU r) sh) ∧ KeepS (fun k => S k ∨ k = w.heap.size) B (w.alloc (.cells #[.int .i64 (o : Nat), .int .i64 (sh : Nat)] 170)) wr) (fun i _ => l.length - (intOf i).toNat)
  case atStart => exact ⟨0, Nat.zero_le _, rfl, by simpa using HS3.out, hk3⟩
  case round =>
    clear hk3 HS3
    obtain ⟨k, hk, rfl, hst, hks⟩ := hrel
    have hbx : wr.cell? ⟨w.heap.size, 1, none⟩ = some (.int .i64 (sh : Nat)) := hks.cell (.inr rfl) (by simp)
    have hfl := flat_length (l.take k) sh hsh
    rw [List.length_take, Nat.min_eq_left hk] at hfl
    by_cases hlt : k < l.length
    · obtain ⟨r, hx⟩ := get_of_lt hlt
      obtain ⟨r1, r2⟩ := HR.out r (List.mem_of_getElem? hx)
      have hne : l ≠ [] := by intro h; rw [h] at hlt; simp at hlt
      obtain ⟨bl, ol, rfl⟩ := HC.out.addr (by intro h; exact hne (List.map_eq_nil_iff.1 h))
      have hSb : S bl := hl bl ol rfl hne
      clear hl hne
      have hc1 : wr.cell? ⟨bl, ol + k, none⟩ = some (.int .i64 r) := hks.cell (.inl hSb) (by
        have h0 := HC.out.int hx
        have h1 := World.block_lt_of_cell? w _ h0
        rw [World.cell?_alloc_lt _ _ _ (by simpa using h1)]; exact h0)
      obtain ⟨u1, u2⟩ := foldU_bd r1 r2
      have hq0 : 0 ≤ foldU r / 2 ^ sh := Int.ediv_nonneg u1 (Int.le_of_lt (Int.pow_pos (by decide)))
      obtain ⟨qn, hqn⟩ := Int.eq_ofNat_of_zero_le hq0
      have ht : (l.take (k + 1)).flatMap (fun r => encU (foldU r) sh) = (l.take k).flatMap (fun r => encU (foldU r) sh) ++ encU (foldU r) sh := by
        rw [take_get hx, List.flatMap_append]; simp
      have HT := Lib.hid ht; have HS := Lib.hid hst
      clear ht hst hx hq0
      have hmin : min sh 64 = sh := by omega
      by_cases hq : foldU r / 2 ^ sh < 20
      · have hqn2 : qn < 20 := by omega
        have he : encU (foldU r) sh = binL (2 ^ (qn + 1) - 2) (qn + 1) ++ binL (foldU r) sh := by
          rw [encU, if_pos hq, hqn]; rfl
        have HE := Lib.hid he; clear he hq
        go_wp2_with fail
        refine (folded_any _ _ (by omega) (by omega)).mono ?_
        rintro e w1 ⟨rfl, rfl⟩
        obtain ⟨p1, p2⟩ := pow_bd qn hqn2
        have a1 : IntKind.i64.wrap ((qn : Int) + 1) = (qn : Int) + 1 := IntWalk.i64_in _ (by omega)
        have a2 : ((qn : Int) + 1).toNat = qn + 1 := by omega
        have a3 : min (qn + 1) 64 = qn + 1 := by omega
        have a4 : IntKind.i64.wrap (2 ^ (qn + 1)) = 2 ^ (qn + 1) := IntWalk.i64_in _ (by omega)
        have a5 : IntKind.i64.wrap (2 ^ (qn + 1) - 2) = 2 ^ (qn + 1) - 2 := IntWalk.i64_in _ (by omega)
        have a6 : (0 : Int) ≤ (qn : Int) + 1 := by omega
        have hah := HK.out.ahead
        go_wp2
        go_still_tail 10, (by kernel_rfl)
        change wpList _ _ _ _ _ wr.drew
        have hksd := hks.drew
        have HSd := Lib.hid (HK.out.drew _ _ _ HS.out)
        clear hbx hks HS a1 a2 a3 a4 a5 a6
        generalize wr.drew = wd at *
        have hp := HK.out.put _ wd _ (2 ^ (qn + 1) - 2) (qn + 1) HSd.out (by omega) (by omega) (by omega) (by simp only [List.length_append, binL_length]; omega)
        rw [show (((qn + 1 : Nat) : Int)) = (qn : Int) + 1 from by omega] at hp
        have HP := Lib.hid hp; clear hp
        go_wp2_with fail
        refine HP.out.mono ?_
        rintro e w3 ⟨rfl, hs3, hk3⟩
        have hks3 := hksd.trans hk3
        have hbx3 : w3.cell? ⟨w.heap.size, 1, none⟩ = some (.int .i64 (sh : Nat)) := hks3.cell (.inr rfl) (by simp)
        have HS3 := Lib.hid hs3
        have hp := HK.out.put _ w3 _ (foldU r) sh hs3 u1 (by omega) (by omega) (by simp only [List.length_append, binL_length]; omega)
        have HP2 := Lib.hid hp
        clear hp hs3 hk3 hksd
        go_wp2_with fail
        refine HP2.out.mono ?_
        rintro e w4 ⟨rfl, hs4, hk4⟩
        have hks4 := hks3.trans hk4
        have HS4 := Lib.hid hs4
        clear hs4 hk4 hks3 hbx3
        go_wp2
        go_roundw
        case rel => exact ⟨k + 1, by omega, by go_num, by rw [HT.out, HE.out]; simpa [List.append_assoc] using HS4.out, hks4⟩
        case measure => simp [intOf]; omega
      · have he : encU (foldU r) sh = binL 1048575 20 ++ binL (foldU r) 32 := by rw [encU, if_neg hq]
        have HE := Lib.hid he; clear he
        have hqn2 : ¬ ((qn : Int) < 20) := by omega
        clear hq
        go_wp2_with fail
        refine (folded_any _ _ (by omega) (by omega)).mono ?_
        rintro e w1 ⟨rfl, rfl⟩
        have hp := HK.out.put _ wr _ 1048575 20 HS.out (by omega) (by omega) (by omega) (by simp only [List.length_append, binL_length]; omega)
        have HP := Lib.hid hp; clear hp
        go_wp2_with fail
        refine HP.out.mono ?_
        rintro e w3 ⟨rfl, hs3, hk3⟩
        have hks3 := hks.trans hk3
        have hp := HK.out.put _ w3 _ (foldU r) 32 hs3 u1 (by omega) (by omega) (by simp only [List.length_append, binL_length]; omega)
        have HP2 := Lib.hid hp
        clear hp hs3 hk3 hks
        go_wp2_with fail
        refine HP2.out.mono ?_
        rintro e w4 ⟨rfl, hs4, hk4⟩
        have hks4 := hks3.trans hk4
        have HS4 := Lib.hid hs4
        clear hs4 hk4 hks3
        go_wp2
        go_roundw
        case rel => exact ⟨k + 1, by omega, by go_num, by rw [HT.out, HE.out]; simpa [List.append_assoc] using HS4.out, hks4⟩
        case measure => simp [intOf]; omega
    · obtain rfl : k = l.length := by omega
      rw [List.take_length] at hst
      have hst2 := HK.out.mono _ S _ _ (fun k h => .inl h) hst
      have HS := Lib.hid hst2
      have HW : Hid (KeepS S B w wr) := ⟨((Below.refl B w).alloc hsz0 _).trans hks.below, fun j hj => by
        rw [hks.same j (.inl hj), Below.heap_alloc _ _ _ (HK.out.lt S w bs j HST.out hj)]⟩
      clear hst hst2 hks hbx
      go_wp2
      go_end0
      exact ⟨rfl, by simpa [encL, List.append_assoc] using HS.out, HW.out⟩
end Go.Proofs.YtoochleabcjljaaGreatDoor

/- Codes: the counter is a sink. -/
namespace Go.Proofs.YtoochleabcjljaaGreatDoor
open Go.RowKit

/-- a counter at block bc that has counted bs -/
def CtS (B bc : Nat) (S : Nat → Prop) (w : World) (bs : List Nat) : Prop :=
  B ≤ bc ∧ w.heap[bc]? = some (.cells #[.int .i64 (bs.length : Nat)] 233 (0, 0)) ∧ ∀ k, S k → k < w.heap.size ∧ k ≠ bc

theorem heap_lt {w : World} {b : Nat} {o : Obj} (h : w.heap[b]? = some o) : b < w.heap.size := (Array.getElem?_eq_some_iff.1 h).1

theorem counter_put (bc : Nat) (c : Nat) (n : Int) (k : Nat) (w : World) (h : w.heap[bc]? = some (.cells #[.int .i64 (c : Nat)] 233 (0, 0))) (hk : k ≤ 32) (hc : c ≤ 1099511627776) :
    Calls Tryz.prog 292 #[.pointer (some ⟨bc, 0, none⟩), .int .i64 n, .int .i64 (k : Nat)] w fun e w' => e = .returned (.tuple #[]) ∧ w' = w.setCell ⟨bc, 0, none⟩ (.int .i64 ((c + k : Nat) : Int)) := by
  have c0 : w.cell? ⟨bc, 0, none⟩ = some (.int .i64 (c : Nat)) := cell_of_one h
  have f0 : w.frozen? ⟨bc, 0, none⟩ = false := free_of_one h
  go_enter Tryz.func292, Tryz.ntmps292
  go_wp2
  go_end0
  exact ⟨rfl, by simp⟩

theorem counter_ok (B bc : Nat) : SinkOK 234 (.pointer (some ⟨bc, 0, none⟩)) 292 B (CtS B bc) where
  alloc := by
    rintro S w bs o ⟨h1, h2, h3⟩
    have hl := heap_lt h2
    refine ⟨h1, by rw [Below.heap_alloc _ _ _ hl]; exact h2, fun k hk => ?_⟩
    rcases hk with hk | rfl
    · have := h3 k hk; exact ⟨by simp; omega, this.2⟩
    · exact ⟨by simp, by omega⟩
  drew := fun S w bs h => h
  mono := fun S S' w bs hs h => ⟨h.1, h.2.1, fun k hk => h.2.2 k (hs k hk)⟩
  size := fun S w bs h => by have := heap_lt h.2.1; have := h.1; omega
  lt := fun S w bs k h hk => (h.2.2 k hk).1
  put := by
    rintro S w bs n k ⟨h1, h2, h3⟩ _ _ hk hl
    refine (counter_put bc bs.length n k w h2 hk hl).mono ?_
    rintro e w' ⟨rfl, rfl⟩
    refine ⟨rfl, ⟨h1, ?_, fun j hj => ?_⟩, (Below.refl _ _).setCell (p := ⟨bc, 0, none⟩) h1 _, fun j hj => Below.heap_setCell _ _ _ _ (h3 j hj).2⟩
    · rw [one_setCell h2, List.length_append, binL_length]
    · have := h3 j hj; exact ⟨by simpa using this.1, this.2⟩
  meth := fun w d => by kernel_rfl
  ahead := fun w d => by kernel_rfl
  enter := fun vs w => by kernel_rfl
end Go.Proofs.YtoochleabcjljaaGreatDoor

/- Codes: bits in bytes. -/
namespace Go.Proofs.YtoochleabcjljaaGreatDoor
open Go.RowKit

/-- one bit more behind n bits -/
def pushBit (l : List Nat) (n b : Nat) : List Nat := if n % 8 = 0 then l ++ [b * 128] else l.set (l.length - 1) (l.getD (l.length - 1) 0 + b * 2 ^ (7 - n % 8))
def octsP (l : List Nat) : List Nat × Nat := l.foldl (fun p b => (pushBit p.1 p.2 b, p.2 + 1)) ([], 0)
/-- bits as bytes, with bits 0 behind them -/
def octs (l : List Nat) : List Nat := (octsP l).1
theorem octsP_snd (l : List Nat) : (octsP l).2 = l.length := by
  suffices ∀ (p : List Nat × Nat), (l.foldl (fun p b => (pushBit p.1 p.2 b, p.2 + 1)) p).2 = p.2 + l.length by
    have := this ([], 0); simpa [octsP] using this
  induction l with
  | nil => intro p; simp
  | cons b l ih => intro p; rw [List.foldl_cons, ih]; simp; omega
theorem octs_snoc (l : List Nat) (b : Nat) : octs (l ++ [b]) = pushBit (octs l) l.length b := by
  have h := octsP_snd l
  unfold octs octsP at *
  rw [List.foldl_append, List.foldl_cons, List.foldl_nil, h]
theorem octs_nil : octs [] = [] := rfl

/-- the free bits of the last byte -/
def freeOf (n : Nat) : Nat := (8 - n % 8) % 8
theorem octs_len (l : List Nat) : (octs l).length = (l.length + 7) / 8 := by
  suffices ∀ n (l : List Nat), l.length = n → (octs l).length = (n + 7) / 8 from this _ l rfl
  intro n
  induction n with
  | zero => intro l hl; rw [List.length_eq_zero_iff.1 hl]; rfl
  | succ n ih =>
    intro l hl
    obtain ⟨l', b, rfl⟩ : ∃ l' b, l = l' ++ [b] := by
      rcases List.eq_nil_or_concat l with rfl | ⟨l', b, rfl⟩
      · simp at hl
      · exact ⟨l', b, by simp⟩
    simp at hl
    have h := ih l' hl
    rw [octs_snoc, pushBit, hl]
    split
    · rw [List.length_append, h]; simp; omega
    · rw [List.length_set, h]; omega

/-- the bytes are bytes; the free bits of the last one are 0 -/
theorem octs_ok (l : List Nat) (hl : ∀ b ∈ l, b ≤ 1) : (∀ d ∈ octs l, d < 256) ∧ (l.length % 8 ≠ 0 → (octs l).getD ((octs l).length - 1) 0 % 2 ^ (8 - l.length % 8) = 0) := by
  suffices ∀ n (l : List Nat), l.length = n → (∀ b ∈ l, b ≤ 1) → (∀ d ∈ octs l, d < 256) ∧ (n % 8 ≠ 0 → (octs l).getD ((octs l).length - 1) 0 % 2 ^ (8 - n % 8) = 0) from this _ l rfl hl
  intro n
  induction n with
  | zero => intro l hl _; rw [List.length_eq_zero_iff.1 hl, octs_nil]; simp
  | succ n ih =>
    intro l hl hb
    obtain ⟨l', b, rfl⟩ : ∃ l' b, l = l' ++ [b] := by
      rcases List.eq_nil_or_concat l with rfl | ⟨l', b, rfl⟩
      · simp at hl
      · exact ⟨l', b, by simp⟩
    simp at hl
    obtain ⟨h1, h2⟩ := ih l' hl (fun x hx => hb x (by simp [hx]))
    have hb1 : b ≤ 1 := hb b (by simp)
    have hlen := octs_len l'
    rw [hl] at hlen
    rw [octs_snoc, pushBit, hl]
    by_cases h0 : n % 8 = 0
    · rw [if_pos h0]
      refine ⟨?_, fun _ => ?_⟩
      · intro d hd
        rcases List.mem_append.1 hd with h | h
        · exact h1 d h
        · simp at h; subst h; omega
      · have e1 : (n + 1) % 8 = 1 := by omega
        rw [e1, List.length_append, List.length_singleton, Nat.add_sub_cancel, List.getD_eq_getElem?_getD, List.getElem?_append_right (Nat.le_refl _), Nat.sub_self]
        simp
    · rw [if_neg h0]
      have hpos : 0 < (octs l').length := by omega
      have hx := h2 h0
      obtain ⟨x, hxx⟩ := get_of_lt (show (octs l').length - 1 < (octs l').length by omega)
      have hgx : (octs l').getD ((octs l').length - 1) 0 = x := by rw [List.getD_eq_getElem?_getD, hxx]; rfl
      have hx256 := h1 x (List.mem_of_getElem? hxx)
      rw [hgx] at hx ⊢
      have hm : n % 8 < 8 := Nat.mod_lt _ (by decide)
      have key : ∀ r : Fin 8, r.val ≠ 0 → ∀ y : Fin 256, y.val % 2 ^ (8 - r.val) = 0 → ∀ c : Fin 2, y.val + c.val * 2 ^ (7 - r.val) < 256 ∧ (y.val + c.val * 2 ^ (7 - r.val)) % 2 ^ (7 - r.val) = 0 := by decide +kernel
      have hk := key ⟨n % 8, hm⟩ h0 ⟨x, hx256⟩ hx ⟨b, by omega⟩
      simp only at hk
      refine ⟨?_, fun hne => ?_⟩
      · intro d hd
        rcases List.mem_or_eq_of_mem_set hd with h | h
        · exact h1 d h
        · rw [h]; exact hk.1
      · rw [List.length_set, List.getD_eq_getElem?_getD, List.getElem?_set_self (by omega)]
        have e1 : 8 - (n + 1) % 8 = 7 - n % 8 := by omega
        rw [e1]; simpa using hk.2

theorem i64_wrap_nat (n : Int) (h0 : 0 ≤ n) (h1 : n < 2 ^ 63) : IntKind.i64.wrap n = n := IntWalk.i64_in n ⟨by omega, by omega⟩
theorem bit_and {x : Int} (h0 : 0 ≤ x) (h1 : x ≤ 4294967295) : bits BinOp.and IntKind.i64 x 1 = x % 2 := by
  obtain ⟨n, rfl⟩ := Int.eq_ofNat_of_zero_le h0
  have h := (bits_nat .i64 63 (by decide) i64_wrap_nat n 1 (by omega) (by decide)).1
  rw [show ((1 : Nat) : Int) = 1 from rfl] at h
  rw [h, Nat.and_one_is_mod]; simp
theorem u8_wrap_nat (n : Int) (h0 : 0 ≤ n) (h1 : n < 2 ^ 8) : IntKind.u8.wrap n = n := IntWalk.u8_in n ⟨by omega, by omega⟩
theorem or_add (x f b : Nat) (hx : x < 256) (hf : f ≤ 7) (hb : b ≤ 1) (h0 : x % 2 ^ (f + 1) = 0) : bits BinOp.or IntKind.u8 (x : Int) ((b * 2 ^ f : Nat) : Int) = ((x + b * 2 ^ f : Nat) : Int) := by
  have key : ∀ f : Fin 8, ∀ x : Fin 256, x.val % 2 ^ (f.val + 1) = 0 → ∀ c : Fin 2, c.val * 2 ^ f.val < 256 ∧ (x.val ||| c.val * 2 ^ f.val) = x.val + c.val * 2 ^ f.val := by decide +kernel
  have hk := key ⟨f, by omega⟩ ⟨x, hx⟩ h0 ⟨b, by omega⟩
  simp only at hk
  have h := (bits_nat .u8 8 (by decide) u8_wrap_nat x (b * 2 ^ f) (by omega) (by omega)).2
  rw [h, hk.2]
end Go.Proofs.YtoochleabcjljaaGreatDoor

/- strings.Builder in this translation (its copyCheck's panic is refused by the loader, so the shelf's laying does not fit): copyCheck and WriteString, after the shelf's own walks. -/
namespace Go.Proofs.YtoochleabcjljaaGreatDoor
open Go.RowKit

theorem Tryz.sizeBuilder : (Tryz.prog.info? 283).map (·.size) = some 2 := by kernel_rfl
theorem Tryz.liesBuilder : liesAt Tryz.prog Tryz.prog.depth 283 (2 / Tryz.prog.cellsOf 283) 0 283 1 = true := by kernel_rfl
theorem Tryz.infoByte : (Tryz.prog.info? 5).map (fun i => (i.zero, i.size, i.bytes)) = some (some (.int .u8 0), 1, 1) := by kernel_rfl

set_option maxHeartbeats 1000000 in
set_option maxRecDepth 100000 in
theorem copyCheck_used (b : Nat) (w : World) (h0 : w.cell? ⟨b, 0, none⟩ = some (.pointer (some ⟨b, 0, none⟩))) :
    Calls Tryz.prog 257 #[.pointer (some ⟨b, 0, none⟩)] w fun e w' => e = .returned (.tuple #[]) ∧ w' = w := by
  obtain ⟨j, hj, _⟩ := Option.map_eq_some_iff.1 Tryz.sizeBuilder
  go_enter Tryz.func257, Tryz.ntmps257
  go_wp2
  rw [Lib.run_neq_ptr_same w _ Tryz.underlying281 hj]
  go_wp2
  go_end0
  exact ⟨rfl, rfl⟩

set_option maxHeartbeats 1000000 in
set_option maxRecDepth 100000 in
theorem copyCheck_fresh (b : Nat) (w : World) (h0 : w.cell? ⟨b, 0, none⟩ = some (.pointer none)) (hsh : w.shape? b = some (283, 2)) (hfz : w.frozen? ⟨b, 0, none⟩ = false) :
    Calls Tryz.prog 257 #[.pointer (some ⟨b, 0, none⟩)] w fun e w' => e = .returned (.tuple #[]) ∧ w' = w.setCell ⟨b, 0, none⟩ (.pointer (some ⟨b, 0, none⟩)) := by
  obtain ⟨j, hj, hjs⟩ := Option.map_eq_some_iff.1 Tryz.sizeBuilder
  go_enter Tryz.func257, Tryz.ntmps257
  go_wp2
  rw [Lib.run_to_unsafe w ⟨b, 0, none⟩ Tryz.underlying281 Tryz.underlying308 hj (by rw [hjs]; decide) hsh (Nat.zero_lt_succ 1)]
  simp only [Result.andThen]
  rw [Oper.upon_value]
  go_wp2
  rw [run_callFunc_extern Tryz.func270 (by kernel_rfl) (by kernel_rfl) (by kernel_rfl) (e := Extern.AbiNoEscape.same) (by kernel_rfl)]
  rw [Lib.run_noEscape]
  simp only [Result.andThen]
  rw [Oper.upon_value]
  go_wp2
  rw [Lib.run_from_unsafe w ⟨b, 0, none⟩ Tryz.underlying308 Tryz.underlying281 hj hsh Tryz.liesBuilder]
  simp only [Result.andThen]
  rw [Oper.upon_value]
  go_wp2
  go_end0
  exact ⟨rfl, rfl⟩

theorem copyCheck_any (B b : Nat) (bs : List Value) (w : World) (h : Lib.IsBuilder 283 5 B b bs w) :
    Calls Tryz.prog 257 #[.pointer (some ⟨b, 0, none⟩)] w fun e w' => e = .returned (.tuple #[]) ∧ (Lib.BuilderAt 283 5 B b (.pointer (some ⟨b, 0, none⟩)) bs w' ∧ Below B w w') := by
  rcases h with h | h
  · refine (copyCheck_fresh b w h.cell0 h.shape h.frozen0).mono ?_
    rintro e w' ⟨rfl, rfl⟩
    exact ⟨rfl, h.used _, (Below.refl B w).setCell (p := ⟨b, 0, none⟩) h.1 _⟩
  · refine (copyCheck_used b w h.cell0).mono ?_
    rintro e w' ⟨rfl, rfl⟩
    exact ⟨rfl, h, Below.refl B _⟩

set_option maxHeartbeats 2000000 in
set_option maxRecDepth 100000 in
theorem writeString_any (B b : Nat) (bs : List Value) (s : ByteArray) (w : World) (h : Lib.IsBuilder 283 5 B b bs w) (hlen : bs.length + s.size ≤ 140737488355328) (hBw : B ≤ w.heap.size) :
    Calls Tryz.prog 243 #[.pointer (some ⟨b, 0, none⟩), .string s] w fun e w' => e = .returned (.tuple #[.int .i64 s.size, .nilIface]) ∧ (Lib.BuilderAt 283 5 B b (.pointer (some ⟨b, 0, none⟩)) (bs ++ Lib.strCells s) w' ∧ Below B w w') := by
  obtain ⟨i0, hi, hz0, hz1, hz2⟩ := info_parts Tryz.infoByte
  go_enter Tryz.func243, Tryz.ntmps243
  go_wp2_with (go_at_call 257; refine (copyCheck_any B b bs _ h).mono ?_)
  rintro e w1 ⟨rfl, h1, hb1⟩
  obtain ⟨hB, v, hbk, hown, hne⟩ := h1
  have c0 : w1.cell? ⟨b, 0, none⟩ = some (.pointer (some ⟨b, 0, none⟩)) := by rw [Lib.cell_of_heap hbk]; rfl
  have c1 : w1.cell? ⟨b, 1, none⟩ = some v := by rw [Lib.cell_of_heap hbk]; rfl
  go_wp2_with (at_builtin; refine Lib.wpList_append_own_string _ rfl _ _ 48 9 rfl B 5 i0 Tryz.underlying48 Tryz.underlying9 hi hz0 hz1 hz2 _ _ _ rfl hown s rfl ?c3 ?c4 ?c5 ?_)
  case c3 => unfold maxLen; omega
  case c4 => omega
  case c5 => have := hb1.size; omega
  intro v' w2 hown' hgrow _
  have hlt : b < w1.heap.size := by
    rcases Nat.lt_or_ge b w1.heap.size with h' | h'
    · exact h'
    · simp [Array.getElem?_eq_none h'] at hbk
  have hb2 : w2.heap[b]? = some (.cells #[.pointer (some ⟨b, 0, none⟩), v] 283 (0, 0)) := by
    rw [hgrow.block b hlt (fun e => hne e.symm)]
    exact hbk
  have d0 : w2.cell? ⟨b, 0, none⟩ = some (.pointer (some ⟨b, 0, none⟩)) := by rw [Lib.cell_of_heap hb2]; rfl
  have d1 : w2.cell? ⟨b, 1, none⟩ = some v := by rw [Lib.cell_of_heap hb2]; rfl
  have f1 : w2.frozen? ⟨b, 1, none⟩ = false := Lib.frozen_of_heap hb2 1
  obtain ⟨ao, n', cap, rfl⟩ : ∃ ao n' cap, v' = .slice ao n' cap := by
    rcases hown'.2 with ⟨hv, _⟩ | ⟨g, cap, cur, hv, _⟩
    · exact ⟨_, _, _, hv⟩
    · exact ⟨_, _, _, hv⟩
  go_wp2
  go_ret2
  refine ⟨rfl, ?_, ?_⟩
  · exact Lib.BuilderAt.put (T := 283) (e := 5) hB hb2 (bs' := bs ++ Lib.strCells s) (by simpa [Lib.strCells_length] using hown') (by decide)
  · exact (hb1.grown hgrow (by have := hb1.size; omega) (fun k hk => (hown.lt k hk).1)).setCell (p := ⟨b, 1, none⟩) hB _
end Go.Proofs.YtoochleabcjljaaGreatDoor
