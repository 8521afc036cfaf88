/- Parts of a proof, in build order: V0, A0, Bn, Bo, A1, Bp, B0, A2. -/
import Derived.Test.YtbjhjbjjfbmoeaaGreatDoorProg
import Derived.WalkKit
import Derived.WalkSpells
import Derived.WalkLawsBesides
import Derived.Lib.Hide
import Derived.Outline
import Derived.Deep.LoopGhost
import Derived.Deep.DeepMust
import Derived.Deep.DeepFit
import Derived.Deep.QuietTactic
import Derived.BigQuiet
import Derived.StillTailTactics
import Derived.Deep.RegionHeld3
import Derived.Deep.AppendLies
import Derived.Laws.Rows
import Derived.Deep.WholeRow
import Derived.Laws.ResultCell
import Derived.Laws.CopyOwn

/- Words of our own on cells, over any program: what a slice's cells hold, and how that stays. -/
namespace Go.Proofs.YtbjhjbjjfbmoeaaGreatDoor
open Go.RowKit

theorem ret_bool {a b : Bool} (h : a = b) : Ending.returned (.bool a) = .returned (.bool b) := by rw [h]
theorem ret_int {k : IntKind} {a b : Int} (h : a = b) : Ending.returned (.int k a) = .returned (.int k b) := by rw [h]

/-- The cells 'cs' lie from the address on (of no cells nothing is said). -/
def Cells (w : World) (ao : Option Addr) (cs : List Value) : Prop :=
  cs = [] ∨ ∃ b off, ao = some ⟨b, off, none⟩ ∧ ∀ j u, cs[j]? = some u → w.cell? ⟨b, off + j, none⟩ = some u

theorem Cells.nil (w : World) (ao : Option Addr) : Cells w ao [] := .inl rfl

theorem Cells.below {w w' : World} {B : Nat} {ao : Option Addr} {cs : List Value} (h : Cells w ao cs) (hb : Below B w w') (hB : w.heap.size ≤ B) : Cells w' ao cs := by
  rcases h with h | ⟨b, off, h1, h2⟩
  · exact .inl h
  · refine .inr ⟨b, off, h1, fun j u hu => ?_⟩
    have h3 := h2 j u hu
    have h4 := World.block_lt_of_cell? w _ h3
    rw [hb.cell (p := ⟨b, off + j, none⟩) (by simp at h4 ⊢; omega)]
    exact h3

/-- below, cell by cell -/
theorem cell_keep {w w' : World} {B : Nat} {p : Addr} {v : Value} (h : w.cell? p = some v) (hb : Below B w w') (hB : w.heap.size ≤ B) : w'.cell? p = some v := by
  have h4 := World.block_lt_of_cell? w _ h
  rw [hb.cell (p := p) (by omega)]; exact h

theorem Cells.int {w : World} {b off : Nat} {k : IntKind} {xs : List Int} (h : Cells w (some ⟨b, off, none⟩) (xs.map (Value.int k))) {i : Nat} {x : Int} (hx : xs[i]? = some x) : w.cell? ⟨b, off + i, none⟩ = some (.int k x) := by
  rcases h with h | ⟨b', off', h1, h2⟩
  · have : xs = [] := by simpa using h
    rw [this] at hx; simp at hx
  · simp only [Option.some.injEq, Addr.mk.injEq] at h1
    obtain ⟨rfl, rfl, _⟩ := h1
    exact h2 i _ (by simp [hx])

/-- a slice of no elements, or one whose address is known -/
theorem Cells.cases {w : World} {ao : Option Addr} {cs : List Value} (h : Cells w ao cs) : cs = [] ∨ ∃ b off, ao = some ⟨b, off, none⟩ := by
  rcases h with h | ⟨b, off, h1, _⟩
  · exact .inl h
  · exact .inr ⟨b, off, h1⟩

theorem Cells.addr {w : World} {ao : Option Addr} {cs : List Value} (h : Cells w ao cs) (hne : cs ≠ []) : ∃ b off, ao = some ⟨b, off, none⟩ := by
  rcases h.cases with h | h
  · exact absurd h hne
  · exact h

theorem get_of_lt {α : Type} {xs : List α} {i : Nat} (h : i < xs.length) : ∃ x, xs[i]? = some x := ⟨xs[i], by simp [h]⟩
theorem take_get {α : Type} {xs : List α} {i : Nat} {x : α} (h : xs[i]? = some x) : xs.take (i + 1) = xs.take i ++ [x] := by
  rw [List.take_add_one, h]; rfl
/-- pairs of numbers, cell by cell -/
def prs (l : List (Int × Int)) : List Value := l.flatMap fun t => [.int .i64 t.1, .int .i64 t.2]
theorem prs_nil : prs [] = [] := rfl
theorem prs_cons (t : Int × Int) (l : List (Int × Int)) : prs (t :: l) = .int .i64 t.1 :: .int .i64 t.2 :: prs l := rfl
theorem prs_append (a b : List (Int × Int)) : prs (a ++ b) = prs a ++ prs b := by simp [prs]
theorem prs_length (l : List (Int × Int)) : (prs l).length = l.length * 2 := by
  induction l with
  | nil => rfl
  | cons t l ih => simp only [prs_cons, List.length_cons, ih]; omega
theorem prs_fst {l : List (Int × Int)} {i : Nat} {t : Int × Int} (h : l[i]? = some t) : (prs l)[i * 2]? = some (.int .i64 t.1) := by
  induction l generalizing i with
  | nil => simp at h
  | cons s l ih =>
    cases i with
    | zero => simp at h; subst h; simp [prs_cons]
    | succ i =>
      have e : (i + 1) * 2 = i * 2 + 1 + 1 := by omega
      rw [prs_cons, e, List.getElem?_cons_succ, List.getElem?_cons_succ]; exact ih (by simpa using h)
theorem prs_snd {l : List (Int × Int)} {i : Nat} {t : Int × Int} (h : l[i]? = some t) : (prs l)[i * 2 + 1]? = some (.int .i64 t.2) := by
  induction l generalizing i with
  | nil => simp at h
  | cons s l ih =>
    cases i with
    | zero => simp at h; subst h; simp [prs_cons]
    | succ i =>
      have e : (i + 1) * 2 + 1 = i * 2 + 1 + 1 + 1 := by omega
      rw [prs_cons, e, List.getElem?_cons_succ, List.getElem?_cons_succ]; exact ih (by simpa using h)
theorem prs_ne {l : List (Int × Int)} (h : 0 < l.length) : prs l ≠ [] := by
  intro e; have := prs_length l; rw [e] at this; simp at this; omega
theorem Cells.at {w : World} {b off : Nat} {cs : List Value} (h : Cells w (some ⟨b, off, none⟩) cs) {j : Nat} {u : Value} (hu : cs[j]? = some u) : w.cell? ⟨b, off + j, none⟩ = some u := by
  rcases h with h | ⟨b', off', h1, h2⟩
  · rw [h] at hu; simp at hu
  · simp only [Option.some.injEq, Addr.mk.injEq] at h1
    obtain ⟨rfl, rfl, _⟩ := h1
    exact h2 j u hu

/-- the cells of a new block, kept -/
theorem box_keep {w w1 : World} {cs : Array Value} {T : TypeId} {B : Nat} (hb : Below B (w.alloc (.cells cs T)) w1) (hB : w.heap.size < B) (i : Nat) : w1.cell? ⟨w.heap.size, i, none⟩ = cs[i]? := by
  rw [hb.cell (p := ⟨w.heap.size, i, none⟩) hB]; simp

/-- an owned row, as a slice -/
theorem own_cells {w : World} {b : Nat} {e : TypeId} {s : Nat} {v : Value} {n : Nat} {xs : List Value} (h : w.ownsRow b e s v n xs) : ∃ a c, v = .slice a n c ∧ Cells w a xs := by
  obtain ⟨h0, h1⟩ := h
  rcases h1 with ⟨rfl, rfl⟩ | ⟨g, cap, cur, rfl, hb, hg, hn, hm, hs, ht⟩
  · refine ⟨none, 0, rfl, .inl ?_⟩
    simpa using h0
  · refine ⟨_, _, rfl, .inr ⟨g, 0, rfl, fun j u hu => ?_⟩⟩
    have h2 := World.ownsRow.cells (w := w) (base := b) (e := e) (size := s) (v := .slice (some ⟨g, 0, none⟩) n cap) (n := n) (xs := xs) ⟨h0, .inr ⟨g, cap, cur, rfl, hb, hg, hn, hm, hs, ht⟩⟩ rfl j u hu
    rw [Addr.add_lit] at h2
    exact h2
/-- the one cell of a new block, to be appended -/
theorem news1 (w : World) (u : Value) (T : TypeId) : ∀ (j : Nat) (v : Value), [u][j]? = some v → (w.alloc (.cells #[u] T)).cell? ((⟨w.heap.size, 0, none⟩ : Addr).add j) = some v := by
  intro j v hj
  match j, hj with
  | 0, hj => simp at hj; subst hj; simp [Addr.add]
theorem own_drewN {w : World} {b : Nat} {e : TypeId} {s : Nat} {v : Value} {n : Nat} {xs : List Value} (h : w.ownsRow b e s v n xs) (k : Nat) : (w.drewN k).ownsRow b e s v n xs := h
theorem bel_drewN {B : Nat} {a w : World} (h : Below B a w) (k : Nat) : Below B a (w.drewN k) := ⟨h.os, h.tape, h.output, h.size, h.block⟩
theorem div_pow_bd {x M : Int} (s : Nat) (h1 : -M ≤ x) (h2 : x ≤ M) (hM : 0 ≤ M) : -M ≤ x / 2 ^ s ∧ x / 2 ^ s ≤ M := by
  have hp : (0 : Int) < 2 ^ s := Int.pow_pos (by decide)
  have h1p : (1 : Int) ≤ 2 ^ s := by omega
  constructor
  · rw [Int.le_ediv_iff_mul_le hp]
    have : M * 1 ≤ M * 2 ^ s := Int.mul_le_mul_of_nonneg_left h1p hM
    rw [Int.neg_mul]; omega
  · by_cases hx : 0 ≤ x
    · have := Int.ediv_le_self (2 ^ s) hx; omega
    · have := Int.ediv_neg_of_neg_of_pos (by omega : x < 0) hp; omega
theorem min_if (a b : Int) : (if b < a then b else a) = min a b := by rw [Int.min_def]; split <;> split <;> omega
theorem max_if (a b : Int) : (if a < b then b else a) = max a b := by rw [Int.max_def]; split <;> split <;> omega

end Go.Proofs.YtbjhjbjjfbmoeaaGreatDoor

/- Small functions of numbers. -/
namespace Go.Proofs.YtbjhjbjjfbmoeaaGreatDoor
open Go.RowKit

/-- n is from lo to hi -/
def inB (lo n hi : Int) : Bool := decide (lo ≤ n ∧ n ≤ hi)
theorem inB_eq (lo n hi : Int) : inB lo n hi = (decide (lo ≤ n) && decide (n ≤ hi)) := by simp [inB]

theorem within_any (n lo hi : Int) (w : World) :
    Calls Tryz.prog 147 #[.int .i64 n, .int .i64 lo, .int .i64 hi] w fun e w' => e = .returned (.bool (inB lo n hi)) ∧ w = w' := by
  by_cases h1 : lo ≤ n
  · go_enter Tryz.func147, Tryz.ntmps147
    go_wp2
    go_ret
    exact ⟨ret_bool (by simp [inB]; try omega), rfl⟩
  · go_enter Tryz.func147, Tryz.ntmps147
    go_wp2
    go_ret
    exact ⟨ret_bool (by simp [inB]; try omega), rfl⟩

theorem in_any (n lo hi : Int) (w : World) :
    Calls Tryz.prog 42 #[.int .i64 n, .int .i64 lo, .int .i64 hi] w fun e w' => e = .returned (.bool (inB lo n hi)) ∧ w = w' := by
  by_cases h1 : lo ≤ n
  · go_enter Tryz.func42, Tryz.ntmps42
    go_wp2
    go_ret
    exact ⟨ret_bool (by simp [inB]; try omega), rfl⟩
  · go_enter Tryz.func42, Tryz.ntmps42
    go_wp2
    go_ret
    exact ⟨ret_bool (by simp [inB]; try omega), rfl⟩

theorem seriesOK1_any (n : Int) (w : World) :
    Calls Tryz.prog 193 #[.int .i64 n] w fun e w' => e = .returned (.bool (!inB (-8388608) n 8388608)) ∧ w = w' := by
  go_enter Tryz.func193, Tryz.ntmps193
  go_wp2_with (go_at_call 147; refine (within_any _ _ _ _).mono ?_; rintro e w' ⟨rfl, rfl⟩)
  go_ret
  exact ⟨rfl, rfl⟩

set_option maxRecDepth 100000 in
/-- slices.IndexFunc over ints, at whatever test that computes p and leaves what was there -/
theorem indexFunc_ints (F : FuncId) (capd : Array Value) (p : Int → Bool) (ao : Option Addr) (xs : List Int) (cap : Nat) (w : World) (hc : Cells w ao (xs.map (Value.int .i64))) (hl : xs.length ≤ 9223372036854775807)
    (hcf : ∀ (vs : Array Value) (wx : World), Sem.run Tryz.prog (callFunc F vs) wx = .ok (.enter F vs) wx)
    (hF : ∀ x wx, x ∈ xs → Below w.heap.size w wx → Calls Tryz.prog F (#[.int .i64 x] ++ capd) wx fun e w' => e = .returned (.bool (p x)) ∧ Below wx.heap.size wx w') :
    Calls Tryz.prog 175 #[.slice ao xs.length cap, .func (.func F) #[] capd] w fun e w' => (∃ r : Int, e = .returned (.int .i64 r) ∧ (0 ≤ r ↔ xs.any p = true)) ∧ Below w.heap.size w w' := by
  go_enter Tryz.func175, Tryz.ntmps175
  go_wp2
  go_loopw [8] (fun i wr => ∃ k : Nat, k ≤ xs.length ∧ i = .int .i64 k ∧ (xs.take k).any p = false ∧ Below w.heap.size w wr) (fun i _ => xs.length - (intOf i).toNat)
  case atStart => exact ⟨0, Nat.zero_le _, rfl, rfl, Below.refl _ _⟩
  case round =>
    obtain ⟨k, hk, rfl, hany, hb⟩ := hrel
    by_cases hlt : k < xs.length
    · obtain ⟨x, hx⟩ := get_of_lt hlt
      obtain ⟨b, off, rfl⟩ := hc.addr (by simpa using List.ne_nil_of_length_pos (by omega))
      have hcell := cell_keep (hc.int hx) hb (Nat.le_refl _)
      have HX := Lib.hid hx; clear hx
      have HC := Lib.hid hc; clear hc
      have HF := Lib.hid hF; clear hF
      have HA := Lib.hid hany; clear hany
      go_wp2_with fail
      refine (HF.out x wr (List.mem_of_getElem? HX.out) hb).mono ?_
      rintro e w1 ⟨rfl, hb1⟩
      have hb2 := hb.trans (hb1.mono hb.size)
      clear hb1
      by_cases hp : p x = true
      · go_wp2
        go_ret
        exact ⟨⟨_, rfl, by simp; exact ⟨x, List.mem_of_getElem? HX.out, hp⟩⟩, hb2⟩
      · simp only [Bool.not_eq_true] at hp
        go_wp2
        go_roundw
        case rel => exact ⟨k + 1, by omega, by go_num, by rw [take_get HX.out, List.any_append, HA.out]; simp [hp], hb2⟩
        case measure => simp [intOf]; omega
    · obtain rfl : k = xs.length := by omega
      rw [List.take_length] at hany
      have HA := Lib.hid hany; clear hany
      go_wp2
      go_ret
      exact ⟨⟨_, rfl, by rw [HA.out]; simp⟩, hb⟩
end Go.Proofs.YtbjhjbjjfbmoeaaGreatDoor

/- The bank: small functions. -/
namespace Go.Proofs.YtbjhjbjjfbmoeaaGreatDoor
open Go.RowKit

theorem hold_old (w : World) (o : Obj) (i : Nat) (h : i < w.heap.size) : (w.alloc o).heap[i]? = w.heap[i]? := by
  show (w.heap.push o)[i]? = w.heap[i]?
  rw [Array.getElem?_push, if_neg (Nat.ne_of_lt h)]

theorem bwithin_any (n lo hi : Int) (w : World) :
    Calls Tryz.prog 68 #[.int .i64 n, .int .i64 lo, .int .i64 hi] w fun e w' => e = .returned (.bool (inB lo n hi)) ∧ w = w' := by
  by_cases h1 : lo ≤ n
  · go_enter Tryz.func68, Tryz.ntmps68
    go_wp2
    go_ret
    exact ⟨ret_bool (by simp [inB]; try omega), rfl⟩
  · go_enter Tryz.func68, Tryz.ntmps68
    go_wp2
    go_ret
    exact ⟨ret_bool (by simp [inB]; try omega), rfl⟩

/-- the first quarter of the table -/
def quart : List Int := [0, 12, 25, 37, 49, 60, 71, 81, 90, 98, 106, 112, 117, 122, 125, 126, 127]
/-- a half of the table -/
def half0 (k : Int) : Int := if k ≤ 16 then quart.getD k.toNat 0 else quart.getD (32 - k).toNat 0
theorem quart_bd (k : Nat) : 0 ≤ quart.getD k 0 ∧ quart.getD k 0 ≤ 127 := by
  by_cases h : k < 17
  · have : ∀ k : Fin 17, 0 ≤ quart.getD k.val 0 ∧ quart.getD k.val 0 ≤ 127 := by decide
    exact this ⟨k, h⟩
  · have h' : quart[k]? = none := by simp [quart]; omega
    rw [List.getD_eq_getElem?_getD, h']; simp
theorem half0_pos (k : Int) : 0 ≤ half0 k ∧ half0 k ≤ 127 := by
  unfold half0; split <;> exact quart_bd _
theorem half0_bd (k : Int) : -9223372036854775808 ≤ half0 k ∧ half0 k ≤ 127 := by
  have := half0_pos k; omega
/-- the table -/
def tab (p : Int) : Int := if p % 64 < 32 then half0 (p % 64) else -half0 (p % 64 - 32)

theorem tab_bd (p : Int) : -127 ≤ tab p ∧ tab p ≤ 127 := by
  unfold tab
  split
  · have := half0_pos (p % 64); omega
  · have := half0_pos (p % 64 - 32); omega

set_option maxRecDepth 100000 in
theorem quarter_any (w : World) :
    Calls Tryz.prog 174 #[] w fun e w' => e = .returned (.agg (quart.map (Value.int .i64)).toArray) ∧ Below w.heap.size w w' := by
  go_enter Tryz.func174, Tryz.ntmps174
  go_wp2
  refine bodyPost_ret (v := .agg (quart.map (Value.int .i64)).toArray) ?_ rfl ⟨rfl, ?_⟩
  · exact results_cell_row rfl _ _ w.heap.size _ _ _ (.array 17 3) (by rfl) (heap_alloc_new _ _) Tryz.underlying248 rfl (by kernel_rfl)
  · exact (Below.refl _ _).alloc (by simp) _

/-- an element of an array by value -/
theorem run_index_val {P : Program} {w : World} (t e : TypeId) (n : Nat) (cs : Array Value) (k : IntKind) (i : Nat) (v : Value) (h : P.underlying t = some (.array n e)) (hs : (sizeOf e).run P w = .ok 1 w) (ha : (isAgg e).run P w = .ok false w) (hi : i < n) (hv : cs[i]? = some v) :
    (Instr.index t (.agg cs) (.int k i)).run P w = .ok v w := by
  have hn : 0 ≤ (i : Int) ∧ (i : Int) < (n : Int) := by omega
  simp [Instr.index, run_underlying h, asIntOf, hi, go_sem, hs, part, ha, hv]

theorem quart_get (k : Nat) (h : k ≤ 16) : (quart.map (Value.int .i64)).toArray[k]? = some (.int .i64 (quart.getD k 0)) := by
  have : k < quart.length := by simp [quart]; omega
  simp [List.getD_eq_getElem?_getD, this]

set_option maxRecDepth 100000 in
theorem table_low (p : Nat) (w : World) (h1 : p < 32) :
    Calls Tryz.prog 121 #[.int .i64 p] w fun e w' => e = .returned (.int .i64 (half0 p)) ∧ Below w.heap.size w w' := by
  have e1 : Int.tmod (p : Int) 64 = p := by rw [Int.tmod_eq_emod_of_nonneg (by omega)]; omega
  obtain ⟨A, hA⟩ : ∃ A, A = (quart.map (Value.int .i64)).toArray := ⟨_, rfl⟩
  have hq : ∀ w : World, Calls Tryz.prog 174 #[] w fun e w' => e = .returned (.agg A) ∧ Below w.heap.size w w' := by rw [hA]; exact quarter_any
  by_cases h2 : p ≤ 16
  · have hv : ∀ w, (Instr.index 248 (.agg A) (.int .i64 (p : Int))).run Tryz.prog w = .ok (.int .i64 (quart.getD p 0)) w := fun w => run_index_val 248 3 17 _ .i64 p _ Tryz.underlying248 (Tryz.sizeOf3 w) (Tryz.isAgg3 w) (by omega) (by rw [hA]; exact quart_get p h2)
    have hh : half0 p = quart.getD p 0 := by simp only [half0, Int.toNat_natCast]; rw [if_pos (by omega)]
    generalize quart.getD p 0 = y at hv hh
    have HH := Lib.hid hh; clear hh
    have HQ := Lib.hid hq; clear hq
    clear hA
    go_enter Tryz.func121, Tryz.ntmps121
    go_wp2_with (go_at_call 174; refine (HQ.out _).mono ?_; rintro e w1 ⟨rfl, hb⟩)
    go_ret
    exact ⟨by rw [HH.out]; rfl, hb⟩
  · have hv : ∀ w, (Instr.index 248 (.agg A) (.int .i64 (32 - (p : Int)))).run Tryz.prog w = .ok (.int .i64 (quart.getD (32 - p) 0)) w := fun w => by
      have := run_index_val (P := Tryz.prog) (w := w) 248 3 17 A .i64 (32 - p) _ Tryz.underlying248 (Tryz.sizeOf3 w) (Tryz.isAgg3 w) (by omega) (by rw [hA]; exact quart_get (32 - p) (by omega))
      rwa [show ((32 - p : Nat) : Int) = 32 - (p : Int) by omega] at this
    have hh : half0 p = quart.getD (32 - p) 0 := by simp only [half0]; rw [if_neg (by omega)]; congr 1; omega
    generalize quart.getD (32 - p) 0 = y at hv hh
    have HH := Lib.hid hh; clear hh
    have HQ := Lib.hid hq; clear hq
    clear hA
    go_enter Tryz.func121, Tryz.ntmps121
    go_wp2_with (go_at_call 174; refine (HQ.out _).mono ?_; rintro e w1 ⟨rfl, hb⟩)
    go_ret
    exact ⟨by rw [HH.out]; rfl, hb⟩

set_option maxRecDepth 100000 in
theorem table_any (p : Nat) (w : World) (h : p < 4611686018427387904) :
    Calls Tryz.prog 121 #[.int .i64 p] w fun e w' => e = .returned (.int .i64 (tab p)) ∧ Below w.heap.size w w' := by
  obtain ⟨q, hq⟩ : ∃ q, q = p % 64 := ⟨_, rfl⟩
  have hq1 : q < 64 := by omega
  have e1 : Int.tmod (p : Int) 64 = q := by rw [Int.tmod_eq_emod_of_nonneg (by omega)]; omega
  have ht : tab p = if (q : Int) < 32 then half0 q else -half0 ((q : Int) - 32) := by simp only [tab]; rw [show (p : Int) % 64 = q by omega]
  obtain ⟨A, hA⟩ : ∃ A, A = (quart.map (Value.int .i64)).toArray := ⟨_, rfl⟩
  have hqu : ∀ w : World, Calls Tryz.prog 174 #[] w fun e w' => e = .returned (.agg A) ∧ Below w.heap.size w w' := by rw [hA]; exact quarter_any
  have HQ := Lib.hid hqu; clear hqu
  by_cases h1 : q < 32
  · rw [if_pos (by omega)] at ht
    by_cases h2 : q ≤ 16
    · have hv : ∀ w, (Instr.index 248 (.agg A) (.int .i64 (q : Int))).run Tryz.prog w = .ok (.int .i64 (quart.getD q 0)) w := fun w => run_index_val 248 3 17 _ .i64 q _ Tryz.underlying248 (Tryz.sizeOf3 w) (Tryz.isAgg3 w) (by omega) (by rw [hA]; exact quart_get q h2)
      have hh : tab p = quart.getD q 0 := by rw [ht]; simp only [half0, Int.toNat_natCast]; rw [if_pos (by omega)]
      generalize quart.getD q 0 = y at hv hh
      have HH := Lib.hid hh; clear hh ht
      clear hA hq
      go_enter Tryz.func121, Tryz.ntmps121
      go_wp2_with (go_at_call 174; refine (HQ.out _).mono ?_; rintro e w1 ⟨rfl, hb⟩)
      go_ret
      exact ⟨by rw [HH.out]; rfl, hb⟩
    · have hv : ∀ w, (Instr.index 248 (.agg A) (.int .i64 (32 - (q : Int)))).run Tryz.prog w = .ok (.int .i64 (quart.getD (32 - q) 0)) w := fun w => by
        have := run_index_val (P := Tryz.prog) (w := w) 248 3 17 A .i64 (32 - q) _ Tryz.underlying248 (Tryz.sizeOf3 w) (Tryz.isAgg3 w) (by omega) (by rw [hA]; exact quart_get (32 - q) (by omega))
        rwa [show ((32 - q : Nat) : Int) = 32 - (q : Int) by omega] at this
      have hh : tab p = quart.getD (32 - q) 0 := by rw [ht]; simp only [half0]; rw [if_neg (by omega)]; congr 1; omega
      generalize quart.getD (32 - q) 0 = y at hv hh
      have HH := Lib.hid hh; clear hh ht
      clear hA hq
      go_enter Tryz.func121, Tryz.ntmps121
      go_wp2_with (go_at_call 174; refine (HQ.out _).mono ?_; rintro e w1 ⟨rfl, hb⟩)
      go_ret
      exact ⟨by rw [HH.out]; rfl, hb⟩
  · rw [if_neg (by omega)] at ht
    have e3 : (q : Int) - 32 = ((q - 32 : Nat) : Int) := by omega
    have hlow := fun w => table_low (q - 32) w (by omega)
    have hb2 := fun w => hlow w
    rw [e3] at ht
    have HT := Lib.hid ht; clear ht
    have HL := Lib.hid hlow; clear hlow hb2
    clear hA hq
    have hw := half0_pos ((q - 32 : Nat) : Int)
    generalize half0 ((q - 32 : Nat) : Int) = y at *
    go_enter Tryz.func121, Tryz.ntmps121
    go_wp2_with (go_at_call 121; refine (HL.out _).mono ?_; rintro e w1 ⟨rfl, hb⟩)
    go_ret
    exact ⟨by rw [HT.out]; rfl, hb⟩
end Go.Proofs.YtbjhjbjjfbmoeaaGreatDoor

/- The bank: the wave of a chirp. -/
namespace Go.Proofs.YtbjhjbjjfbmoeaaGreatDoor
open Go.RowKit

/-- a shape: its length, 64 samples -/
def shp (L : Int) (xs : List Int) : Array Value := (Value.int .i64 L :: xs.map (Value.int .i64)).toArray
/-- the first i samples of a wave of p, q; zeros behind them -/
def smp (p q : Nat) (i : Nat) : List Int := (List.range 64).map fun t => if t < i then tab (p * t + q * t * t : Nat) else 0
theorem smp_length (p q i : Nat) : (smp p q i).length = 64 := by simp [smp]
theorem smp_at (p q i k : Nat) (h : k < 64) : (smp p q i)[k]? = some (if k < i then tab (p * k + q * k * k : Nat) else 0) := by simp [smp, h]
theorem shp_size (L : Int) (xs : List Int) : (shp L xs).size = xs.length + 1 := by simp [shp]
theorem shp_one (L : Int) (xs : List Int) : (shp L xs).all (·.oneCell') = true := by
  rw [Array.all_eq_true_iff_forall_mem]
  intro v hv
  simp only [shp, List.mem_toArray, List.mem_cons, List.mem_map] at hv
  rcases hv with rfl | ⟨x, _, rfl⟩ <;> rfl
theorem shp_zero (L : Int) (xs : List Int) : (shp L xs)[0]? = some (.int .i64 L) := by simp [shp]
theorem shp_succ (L : Int) (xs : List Int) (i : Nat) (x : Int) (h : xs[i]? = some x) : (shp L xs)[1 + i]? = some (.int .i64 x) := by
  rw [Nat.add_comm]; simp [shp, h]
theorem shp_set (L : Int) (p q i : Nat) (h : i < 64) : (shp L (smp p q i)).setIfInBounds (1 + i) (.int .i64 (tab (p * i + q * i * i : Nat))) = shp L (smp p q (i + 1)) := by
  apply Array.ext_getElem?
  intro j
  rw [Array.getElem?_setIfInBounds]
  cases j with
  | zero => simp [shp]
  | succ j =>
    by_cases hj : j = i
    · subst hj
      rw [if_pos (by omega), if_pos (by rw [shp_size, smp_length]; omega), Nat.add_comm j 1, shp_succ L _ j (tab (p * j + q * j * j : Nat)) (by simp [smp, h])]
    · rw [if_neg (by omega)]
      simp only [shp, smp, List.getElem?_toArray, List.getElem?_cons_succ, List.getElem?_map]
      by_cases hk : j < 64
      · rw [List.getElem?_range hk]
        simp only [Option.map_some]
        congr 2
        by_cases h1 : j < i
        · rw [if_pos h1, if_pos (by omega)]
        · rw [if_neg h1, if_neg (by omega)]
      · rw [List.getElem?_eq_none (by simp; omega)]; rfl

/-- many cells at once, out of and into a block -/
theorem run_loadCells_row {P : Program} (w : World) (g : Nat) (t : TypeId) (cs : Array Value) (fr : Nat × Nat) (n : Nat) (hg : w.heap[g]? = some (.cells cs t fr)) (hn : cs.size = n) :
    (loadCellsFrom ⟨g, 0, none⟩ 0 n #[]).run P w = .ok cs w := by
  subst hn
  have := run_loadCells_list (P := P) w ⟨g, 0, none⟩ cs.toList (fun j v hv => by
    have hadd : (⟨g, 0, none⟩ : Addr).add j = ⟨g, j, none⟩ := by unfold Addr.add; split <;> simp_all
    rw [hadd, cell_of_row w g j cs t fr hg]
    simpa using hv)
  simpa [loadCells] using this
theorem run_storeCells_row {P : Program} (w : World) (g : Nat) (t : TypeId) (old : Array Value) (l : List Value) (hg : w.heap[g]? = some (.cells old t (0, 0))) (ho : old.size = l.length) (h1 : ∀ v ∈ l, v.oneCell' = true) :
    (storeCells ⟨g, 0, none⟩ l 0).run P w = .ok () (w.setRow g l.toArray) := by
  have := run_storeCells_from (P := P) g t l 0 old w hg (by omega) h1
  simpa [ho] using this

theorem zero101 : Tryz.zeroCells101 = shp 0 (smp 0 0 0) := by kernel_rfl
theorem shp_mem {L : Int} {xs : List Int} : ∀ v ∈ (shp L xs).toList, v.oneCell' = true := by
  intro v hv
  simp only [shp, List.mem_cons, List.mem_map] at hv
  rcases hv with rfl | ⟨x, _, rfl⟩ <;> rfl
theorem smp_zero (p q : Nat) : smp p q 0 = smp 0 0 0 := by simp [smp]

set_option maxRecDepth 100000 in
set_option maxHeartbeats 4000000 in
theorem wave_ok (L p q : Nat) (w : World) (hp : p < 64) (hq : q < 64) (h1 : 4 ≤ L) (h2 : L ≤ 64) :
    Calls Tryz.prog 60 #[.int .i64 L, .agg #[.int .i64 p, .int .i64 q]] w fun e w' => e = .returned (.tuple #[.agg (shp L (smp p q L)), .bool true]) ∧ Below w.heap.size w w' := by
  have i1 : inB 4 (L : Int) 64 = true := by simp [inB]; omega
  have i2 : inB 0 (p : Int) 63 = true := by simp [inB]; omega
  have i3 : inB 0 (q : Int) 63 = true := by simp [inB]; omega
  obtain ⟨Z, hZ⟩ : ∃ Z, Z = shp 0 (smp 0 0 0) := ⟨_, rfl⟩
  have z : Tryz.zeroCells101 = Z := by rw [hZ]; exact zero101
  have hZs : Z.size = 65 := by rw [hZ, shp_size, smp_length]
  have hset : Z.toList.set 0 (.int .i64 (L : Int)) = (shp L (smp p q 0)).toList := by rw [hZ, smp_zero p q]; simp [shp]
  have hZn : ¬ Z = #[] := by intro h; rw [h] at hZs; simp at hZs
  have HZ := Lib.hid hZ; clear hZ
  obtain ⟨W3, hW3⟩ : ∃ W3, W3 = ((w.alloc (.cells #[.int .i64 p, .int .i64 q] 23)).alloc (.cells Z 101)).alloc (.cells (shp L (smp p q 0)) 101) := ⟨_, rfl⟩
  have hst : (storeCells ⟨w.heap.size + 1 + 1, 0, none⟩ (Z.toList.set 0 (.int .i64 (L : Int))) 0).run Tryz.prog (((w.alloc (.cells #[.int .i64 p, .int .i64 q] 23)).alloc (.cells Z 101)).alloc (.cells Z 101)) = .ok () W3 := by
    have hsz : ((w.alloc (.cells #[.int .i64 p, .int .i64 q] 23)).alloc (.cells Z 101)).heap.size = w.heap.size + 1 + 1 := by simp
    rw [hset, ← hsz]
    rw [run_storeCells_row _ _ 101 Z _ (heap_alloc_new _ _) (by rw [hZs, Array.length_toList, shp_size, smp_length]) shp_mem]
    rw [hW3]
    congr 1
    exact World.setRow_alloc_new _ _ _ _
  have hb3 : Below (w.heap.size + 2) ((w.alloc (.cells #[.int .i64 p, .int .i64 q] 23)).alloc (.cells Z 101)) W3 := by
    rw [hW3]; exact (Below.refl _ _).alloc (by simp) _
  have hh3 : W3.heap[w.heap.size + 2]? = some (.cells (shp L (smp p q 0)) 101 (0, 0)) := by
    have hsz : ((w.alloc (.cells #[.int .i64 p, .int .i64 q] 23)).alloc (.cells Z 101)).heap.size = w.heap.size + 2 := by simp
    rw [hW3, ← hsz]; exact heap_alloc_new _ _
  have HH3 := Lib.hid hh3; clear hh3
  have HB3 := Lib.hid hb3; clear hb3
  clear hW3 hset
  go_enter Tryz.func60, Tryz.ntmps60
  go_wp2_with (go_at_call 68; refine (bwithin_any _ _ _ _).mono ?_; rintro e w' ⟨rfl, rfl⟩)
  go_loopw [27] (fun i wr => ∃ k : Nat, k ≤ L ∧ i = .int .i64 k ∧ wr.heap[w.heap.size + 2]? = some (.cells (shp L (smp p q k)) 101 (0, 0)) ∧ Below (w.heap.size + 2) ((w.alloc (.cells #[.int .i64 p, .int .i64 q] 23)).alloc (.cells Z 101)) wr) (fun i _ => L - (intOf i).toNat)
  case atStart => exact ⟨0, Nat.zero_le _, rfl, HH3.out, HB3.out⟩
  case round =>
    obtain ⟨k, hk, rfl, hrow, hb⟩ := hrel
    have hc0 : wr.cell? ⟨w.heap.size, 0, none⟩ = some (.int .i64 p) := cell_keep (B := w.heap.size + 2) (by simp) hb (by simp)
    have hc1 : wr.cell? ⟨w.heap.size, 1, none⟩ = some (.int .i64 q) := cell_keep (B := w.heap.size + 2) (by simp) hb (by simp)
    have hsz : w.heap.size + 2 < wr.heap.size := (Array.getElem?_eq_some_iff.1 hrow).1
    have hbw : Below w.heap.size w wr := (((Below.refl _ _).alloc (Nat.le_refl _) _).alloc (by simp) _).trans (hb.mono (by omega))
    clear hst
    by_cases hlt : k < L
    · have b1 : p * k ≤ 64 * 64 := Nat.mul_le_mul (by omega) (by omega)
      have b2 : q * k ≤ 64 * 64 := Nat.mul_le_mul (by omega) (by omega)
      have b3 : q * k * k ≤ 64 * 64 * 64 := Nat.mul_le_mul b2 (by omega)
      have c1 : 0 ≤ (p : Int) * k ∧ (p : Int) * k ≤ 4096 := by rw [← Int.natCast_mul]; omega
      have c2 : 0 ≤ (q : Int) * k ∧ (q : Int) * k ≤ 4096 := by rw [← Int.natCast_mul]; omega
      have c3 : 0 ≤ (q : Int) * k * k ∧ (q : Int) * k * k ≤ 262144 := by rw [← Int.natCast_mul, ← Int.natCast_mul]; omega
      have q1 : IntKind.i64.wrap ((p : Int) * k) = (p : Int) * k := IntWalk.i64_in _ (by omega)
      have q2 : IntKind.i64.wrap ((q : Int) * k) = (q : Int) * k := IntWalk.i64_in _ (by omega)
      have q3 : IntKind.i64.wrap ((q : Int) * k * k) = (q : Int) * k * k := IntWalk.i64_in _ (by omega)
      have q4 : IntKind.i64.wrap ((p : Int) * k + (q : Int) * k * k) = (p : Int) * k + (q : Int) * k * k := IntWalk.i64_in _ (by omega)
      have htab : ∀ w, Calls Tryz.prog 121 #[.int .i64 ((p : Int) * k + (q : Int) * k * k)] w fun e w' => e = .returned (.int .i64 (tab (p * k + q * k * k : Nat))) ∧ Below w.heap.size w w' := fun w => by
        have := table_any (p * k + q * k * k) w (by omega)
        push_cast at this ⊢
        exact this
      have hse := shp_set L p q k (by omega)
      generalize tab (p * k + q * k * k : Nat) = v at htab hse
      have hz : (shp L (smp p q k))[1 + k]? = some (.int .i64 0) := shp_succ _ _ _ _ (by rw [smp_at p q k k (by omega), if_neg (by omega)])
      have HT := Lib.hid htab; clear htab
      have HS := Lib.hid hse; clear hse
      have HR := Lib.hid hrow; clear hrow
      have HZ2 := Lib.hid hz; clear hz
      go_wp2_with (go_at_call 121; refine (HT.out _).mono ?_; rintro e w1 ⟨rfl, hb1⟩; have hr1 : w1.heap[w.heap.size + 2]? = _ := (hb1.block _ hsz).trans HR.out; have hcc : w1.cell? ⟨w.heap.size + 1 + 1, 1 + k, none⟩ = some (.int .i64 0) := (cell_of_row w1 _ _ _ _ _ hr1).trans HZ2.out; have hfr : w1.frozen? ⟨w.heap.size + 1 + 1, 1 + k, none⟩ = false := frozen_of_row w1 _ _ _ _ hr1; have HR1 := Lib.hid hr1; clear hr1)
      go_roundw
      case rel => exact ⟨k + 1, by omega, by go_num, (heap_setCell_same w1 _ _ _ _ _ HR1.out).trans (by rw [HS.out]), (hb.trans (hb1.mono (by omega))).setCell (by simp) _⟩
      case measure => simp [intOf]; omega
    · obtain rfl : k = L := by omega
      have hss : (shp k (smp p q k)).size = 65 := by rw [shp_size, smp_length]
      have hr1 : wr.heap[w.heap.size + 1]? = some (.cells Z 101 (0, 0)) := by
        rw [hb.block _ (by omega)]
        have hsz : (w.alloc (.cells #[.int .i64 p, .int .i64 q] 23)).heap.size = w.heap.size + 1 := by simp
        rw [← hsz]; exact heap_alloc_new _ _
      have hsc := run_storeCells_row (P := Tryz.prog) wr (w.heap.size + 1) 101 Z (shp k (smp p q k)).toList hr1 (by rw [hZs, Array.length_toList, hss]) shp_mem
      have hr2 := setRow_heap wr (w.heap.size + 1) Z (shp k (smp p q k)) 101 (0, 0) hr1
      have HR2 := Lib.hid hr2; clear hr2
      have hne : ¬ shp k (smp p q k) = #[] := by intro h; rw [h] at hss; simp at hss
      have HRO := Lib.hid hrow
      clear hrow hr1
      have hi : (Tryz.prog.info? 101).map (·.size) = some (shp k (smp p q k)).size := by rw [hss]; kernel_rfl
      have HI := Lib.hid hi; clear hi
      rw [Array.toArray_toList] at hsc
      generalize hV : shp k (smp p q k) = V at *
      have HV := Lib.hid hV; clear hV
      go_wp2_with (refine wpList_load_row (by rfl) 101 _ (by rfl) (w.heap.size + 1 + 1) (by rfl) _ V _ _ HRO.out Tryz.underlying101 (by rfl) HI.out ?_)
      refine bodyPost_ret (v := .tuple #[.agg V, .bool true]) ?_ rfl ⟨by rw [HV.out], below_setRow hbw (by omega) _⟩
      rw [results_cell_tmp rfl]
      have hfin := run_loadVar_row (P := Tryz.prog) (wr.setRow (w.heap.size + 1) V) (w.heap.size + 1) 101 101 V (0, 0) _ HR2.out Tryz.underlying101 (by rfl) HI.out
      simp [asAddr, Result.andThen, hfin]

def waveOK (L p q : Int) : Bool := inB 4 L 64 && inB 0 p 63 && inB 0 q 63

set_option maxHeartbeats 4000000 in
theorem wave_bad (L p q : Int) (w : World) (h : waveOK L p q = false) :
    Calls Tryz.prog 60 #[.int .i64 L, .agg #[.int .i64 p, .int .i64 q]] w fun e w' => e = .returned (.tuple #[.agg (shp 0 (smp 0 0 0)), .bool false]) ∧ Below w.heap.size w w' := by
  obtain ⟨Z, hZ⟩ : ∃ Z, Z = shp 0 (smp 0 0 0) := ⟨_, rfl⟩
  have z : Tryz.zeroCells101 = Z := by rw [hZ]; exact zero101
  have hZs : Z.size = 65 := by rw [hZ, shp_size, smp_length]
  have hZn : ¬ Z = #[] := by intro h; rw [h] at hZs; simp at hZs
  have hm : ∀ v ∈ Z.toList, v.oneCell' = true := by rw [hZ]; exact shp_mem
  have hsz : (w.alloc (.cells #[.int .i64 p, .int .i64 q] 23)).heap.size = w.heap.size + 1 := by simp
  have hr1 : ((w.alloc (.cells #[.int .i64 p, .int .i64 q] 23)).alloc (.cells Z 101)).heap[w.heap.size + 1]? = some (.cells Z 101 (0, 0)) := by rw [← hsz]; exact heap_alloc_new _ _
  have hst := run_storeCells_row (P := Tryz.prog) _ (w.heap.size + 1) 101 Z Z.toList hr1 (by simp) hm
  have hi : (Tryz.prog.info? 101).map (·.size) = some Z.size := by rw [hZs]; kernel_rfl
  have hset : ((w.alloc (.cells #[.int .i64 p, .int .i64 q] 23)).alloc (.cells Z 101)).setRow (w.heap.size + 1) Z = (w.alloc (.cells #[.int .i64 p, .int .i64 q] 23)).alloc (.cells Z 101) := by
    rw [← hsz]; exact World.setRow_alloc_new _ _ _ _
  rw [Array.toArray_toList, hset] at hst
  have HZ := Lib.hid hZ; clear hZ
  have HR := Lib.hid hr1; clear hr1
  have HI := Lib.hid hi; clear hi
  clear hm hset hsz
  have fin : ∀ (tm : Array Value), tm.getD 4 undef = .pointer (some ⟨w.heap.size + 1, 0, none⟩) → tm.getD 5 undef = .bool false → bodyPost Tryz.prog Tryz.f60 (fun e w' => e = .returned (.tuple #[.agg (shp 0 (smp 0 0 0)), .bool false]) ∧ Below w.heap.size w w') .ret { tmps := tm, defers := [] } ((w.alloc (.cells #[.int .i64 p, .int .i64 q] 23)).alloc (.cells Z 101)) := by
    intro tm e1 e2
    refine bodyPost_ret (v := .tuple #[.agg Z, .bool false]) ?_ rfl ⟨by rw [HZ.out], ((Below.refl _ _).alloc (Nat.le_refl _) _).alloc (by simp) _⟩
    rw [results_cell_tmp rfl, e1, e2]
    have hfin := run_loadVar_row (P := Tryz.prog) ((w.alloc (.cells #[.int .i64 p, .int .i64 q] 23)).alloc (.cells Z 101)) (w.heap.size + 1) 101 101 Z (0, 0) _ HR.out Tryz.underlying101 (by rfl) HI.out
    simp [asAddr, Result.andThen, hfin]
  have FIN := Lib.hid fin; clear fin
  by_cases h1 : inB 4 L 64 = true
  · by_cases h2 : inB 0 p 63 = true
    · have h3 : inB 0 q 63 = false := by
        cases e : inB 0 q 63
        · rfl
        · simp [waveOK, h1, h2, e] at h
      clear h
      go_enter Tryz.func60, Tryz.ntmps60
      go_wp2_with (go_at_call 68; refine (bwithin_any _ _ _ _).mono ?_; rintro e w' ⟨rfl, rfl⟩)
      exact FIN.out _ rfl rfl
    · have h2 : inB 0 p 63 = false := by simpa using h2
      clear h
      go_enter Tryz.func60, Tryz.ntmps60
      go_wp2_with (go_at_call 68; refine (bwithin_any _ _ _ _).mono ?_; rintro e w' ⟨rfl, rfl⟩)
      exact FIN.out _ rfl rfl
  · have h1 : inB 4 L 64 = false := by simpa using h1
    clear h
    go_enter Tryz.func60, Tryz.ntmps60
    go_wp2_with (go_at_call 68; refine (bwithin_any _ _ _ _).mono ?_; rintro e w' ⟨rfl, rfl⟩)
    exact FIN.out _ rfl rfl

/-- the wave's samples -/
def wav (L p q : Int) : List Int := smp p.toNat q.toNat L.toNat
/-- what wave returns -/
def waveV (L p q : Int) : Array Value := if waveOK L p q then shp L (wav L p q) else shp 0 (smp 0 0 0)

theorem wave_any (L p q : Int) (w : World) :
    Calls Tryz.prog 60 #[.int .i64 L, .agg #[.int .i64 p, .int .i64 q]] w fun e w' => e = .returned (.tuple #[.agg (waveV L p q), .bool (waveOK L p q)]) ∧ Below w.heap.size w w' := by
  cases h : waveOK L p q
  · have e1 : waveV L p q = shp 0 (smp 0 0 0) := by simp [waveV, h]
    rw [e1]; exact wave_bad L p q w h
  · have h' := h
    simp only [waveOK, inB, Bool.and_eq_true, decide_eq_true_eq] at h'
    have e1 : waveV L p q = shp L (wav L p q) := by simp [waveV, h]
    rw [e1]
    have := wave_ok L.toNat p.toNat q.toNat w (by omega) (by omega) (by omega) (by omega)
    rw [show ((L.toNat : Nat) : Int) = L by omega, show ((p.toNat : Nat) : Int) = p by omega, show ((q.toNat : Nat) : Int) = q by omega] at this
    exact this
end Go.Proofs.YtbjhjbjjfbmoeaaGreatDoor

/- Series: CheckSeries, of the program and of the reference. -/
namespace Go.Proofs.YtbjhjbjjfbmoeaaGreatDoor
open Go.RowKit

set_option maxRecDepth 100000 in
theorem containsFunc_ints (F : FuncId) (capd : Array Value) (p : Int → Bool) (ao : Option Addr) (xs : List Int) (cap : Nat) (w : World) (hc : Cells w ao (xs.map (Value.int .i64))) (hl : xs.length ≤ 9223372036854775807)
    (hcf : ∀ (vs : Array Value) (wx : World), Sem.run Tryz.prog (callFunc F vs) wx = .ok (.enter F vs) wx)
    (hF : ∀ x wx, x ∈ xs → Below w.heap.size w wx → Calls Tryz.prog F (#[.int .i64 x] ++ capd) wx fun e w' => e = .returned (.bool (p x)) ∧ Below wx.heap.size wx w') :
    Calls Tryz.prog 122 #[.slice ao xs.length cap, .func (.func F) #[] capd] w fun e w' => e = .returned (.bool (xs.any p)) ∧ Below w.heap.size w w' := by
  have HC := Lib.hid hc; clear hc
  have HF := Lib.hid hF; clear hF
  have HCF := Lib.hid hcf; clear hcf
  go_enter Tryz.func122, Tryz.ntmps122
  go_wp2_with fail
  refine (indexFunc_ints F capd p ao xs cap w HC.out hl HCF.out HF.out).mono ?_
  rintro e w1 ⟨⟨r, rfl, hr⟩, hb⟩
  have HR := Lib.hid hr; clear hr
  go_wp2
  go_ret
  exact ⟨ret_bool (by rw [Bool.eq_iff_iff, decide_eq_true_iff]; exact HR.out), hb⟩

/-- a series -/
def serOK (xs : List Int) : Bool := decide (xs.length ≤ 4096) && xs.all (fun n => inB (-8388608) n 8388608)
def serErr (xs : List Int) : Int := if serOK xs then 0 else 55

theorem seriesOK_any (ao : Option Addr) (xs : List Int) (cap : Nat) (w : World) (hc : Cells w ao (xs.map (Value.int .i64))) (hl : xs.length ≤ 9223372036854775807) :
    Calls Tryz.prog 148 #[.slice ao xs.length cap] w fun e w' => e = .returned (.bool (serOK xs)) ∧ Below w.heap.size w w' := by
  have HC := Lib.hid hc; clear hc
  by_cases h : xs.length ≤ 4096
  · go_enter Tryz.func148, Tryz.ntmps148
    go_wp2_with fail
    refine (containsFunc_ints 193 #[] (fun n => !inB (-8388608) n 8388608) ao xs cap w HC.out hl (fun _ _ => by kernel_rfl) (fun x wx _ _ => (seriesOK1_any x wx).mono fun e w' h => ⟨h.1, h.2 ▸ Below.refl _ _⟩)).mono ?_
    rintro e w1 ⟨rfl, hb⟩
    go_wp2
    go_ret
    exact ⟨ret_bool (by simp [serOK, h, List.all_eq_not_any_not]), hb⟩
  · go_enter Tryz.func148, Tryz.ntmps148
    go_wp2
    go_ret
    exact ⟨ret_bool (by simp [serOK]; omega), Below.refl _ _⟩

theorem checkSeries_any (ao : Option Addr) (xs : List Int) (cap : Nat) (w : World) (hc : Cells w ao (xs.map (Value.int .i64))) (hl : xs.length ≤ 9223372036854775807) :
    Calls Tryz.prog 101 #[.slice ao xs.length cap] w fun e w' => e = .returned (.int .i64 (serErr xs)) ∧ Below w.heap.size w w' := by
  have HC := Lib.hid hc; clear hc
  cases hs : serOK xs
  all_goals
    go_enter Tryz.func101, Tryz.ntmps101
    go_wp2_with fail
    refine (seriesOK_any ao xs cap w HC.out hl).mono ?_
    rintro e w1 ⟨rfl, hb⟩
    go_wp2
    go_ret
    exact ⟨ret_int (by simp [serErr, hs]), hb⟩

end Go.Proofs.YtbjhjbjjfbmoeaaGreatDoor

/- The bank: outputs, Filter. -/
namespace Go.Proofs.YtbjhjbjjfbmoeaaGreatDoor
open Go.RowKit

/-- the sum of n products from a on, at t -/
def dotTo (xs ds : List Int) (t a : Nat) : Nat → Int
  | 0 => 0
  | n + 1 => dotTo xs ds t a n + xs.getD (a + n) 0 * ds.getD (t + (a + n)) 0

theorem dot_prod {x y : Int} (h1 : -127 ≤ x) (h2 : x ≤ 127) (h3 : -32768 ≤ y) (h4 : y ≤ 32768) : -4161536 ≤ x * y ∧ x * y ≤ 4161536 := by
  have ha : x.natAbs ≤ 127 := by omega
  have hx : y.natAbs ≤ 32768 := by omega
  have h := Nat.mul_le_mul ha hx
  rw [← Int.natAbs_mul] at h
  omega
theorem getD_in {xs : List Int} {M : Int} (hM : 0 ≤ M) (h : ∀ x ∈ xs, -M ≤ x ∧ x ≤ M) (i : Nat) : -M ≤ xs.getD i 0 ∧ xs.getD i 0 ≤ M := by
  rw [List.getD_eq_getElem?_getD]
  cases e : xs[i]? with
  | none => simp; omega
  | some v => exact h v (List.mem_of_getElem? e)
theorem dotTo_bd {xs ds : List Int} (h1 : ∀ x ∈ xs, -127 ≤ x ∧ x ≤ 127) (h2 : ∀ x ∈ ds, -32768 ≤ x ∧ x ≤ 32768) (t a n : Nat) : -(4161536 * (n : Int)) ≤ dotTo xs ds t a n ∧ dotTo xs ds t a n ≤ 4161536 * (n : Int) := by
  induction n with
  | zero => simp [dotTo]
  | succ n ih =>
    have g1 := getD_in (by omega) h1 (a + n)
    have g2 := getD_in (by omega) h2 (t + (a + n))
    have := dot_prod g1.1 g1.2 g2.1 g2.2
    simp only [dotTo]
    push_cast
    omega

set_option maxHeartbeats 4000000 in
theorem output_any (L : Int) (xs ds : List Int) (ao : Option Addr) (cap : Nat) (t a b : Nat) (w : World) (hx : xs.length = 64) (hc : Cells w ao (ds.map (Value.int .i64))) (hab : a ≤ b) (hb : b ≤ 64) (ht : t + b ≤ ds.length) (hl : ds.length ≤ 512)
    (h1 : ∀ x ∈ xs, -127 ≤ x ∧ x ≤ 127) (h2 : ∀ x ∈ ds, -32768 ≤ x ∧ x ≤ 32768) :
    Calls Tryz.prog 81 #[.agg (shp L xs), .slice ao ds.length cap, .int .i64 t, .int .i64 a, .int .i64 b] w fun e w' => e = .returned (.int .i64 (dotTo xs ds t a (b - a))) ∧ Below w.heap.size w w' := by
  have hcell : ∀ i x, xs[i]? = some x → (shp L xs)[1 + i]? = some (.int .i64 x) := shp_succ L xs
  generalize shp L xs = V at hcell
  have HX := Lib.hid hcell; clear hcell
  have HC := Lib.hid hc; clear hc
  have H1 := Lib.hid h1; clear h1
  have H2 := Lib.hid h2; clear h2
  go_enter Tryz.func81, Tryz.ntmps81
  go_wp2
  go_loopw [11, 12] (fun s i wr => ∃ n : Nat, n ≤ b - a ∧ i = .int .i64 ((a + n : Nat) : Int) ∧ s = .int .i64 (dotTo xs ds t a n) ∧ Below (w.heap.size + 1) (w.alloc (.cells V 101)) wr) (fun _ i _ => b - (intOf i).toNat)
  case atStart => exact ⟨0, Nat.zero_le _, rfl, rfl, Below.refl _ _⟩
  case round =>
    obtain ⟨n, hn, rfl, rfl, hbe⟩ := hrel
    have hbw : Below w.heap.size w wr := ((Below.refl _ _).alloc (Nat.le_refl _) _).trans (hbe.mono (by omega))
    have bd := dotTo_bd H1.out H2.out t a n
    by_cases hlt : a + n < b
    · obtain ⟨x, hxx⟩ := get_of_lt (show a + n < xs.length by omega)
      obtain ⟨y, hy⟩ := get_of_lt (show t + (a + n) < ds.length by omega)
      obtain ⟨bd1, off, rfl⟩ := HC.out.addr (by simpa using List.ne_nil_of_length_pos (by omega))
      have hcell2 := cell_keep (HC.out.int hy) hbw (Nat.le_refl _)
      have hcell1 : wr.cell? ⟨w.heap.size, 1 + (a + n), none⟩ = some (.int .i64 x) := (box_keep hbe (by simp) _).trans (HX.out _ _ hxx)
      have m1 := H1.out x (List.mem_of_getElem? hxx)
      have m2 := H2.out y (List.mem_of_getElem? hy)
      have pd := dot_prod m1.1 m1.2 m2.1 m2.2
      have e1 : dotTo xs ds t a (n + 1) = dotTo xs ds t a n + x * y := by simp [dotTo, hxx, hy]
      have E1 := Lib.hid e1; clear e1
      have q1 : IntKind.i64.wrap (x * y) = x * y := IntWalk.i64_in _ (by omega)
      clear hxx hy
      generalize hm : a + n = m at *
      have HM := Lib.hid hm; clear hm
      go_wp2
      have q2 : IntKind.i64.wrap ((t : Int) + m) = (t : Int) + m := IntWalk.i64_in _ (by omega)
      have q3 : 0 ≤ (t : Int) + m := by omega
      have q4 : (t : Int) + m < ds.length := by omega
      have q5 : ((t : Int) + m).toNat = t + m := by omega
      have q6 : (m : Int) < 64 := by omega
      have q7 : IntKind.i64.wrap (dotTo xs ds t a n + x * y) = dotTo xs ds t a n + x * y := IntWalk.i64_in _ (by omega)
      go_quiet (fail)
      clear q1 q2 q3 q4 q5 q6 q7
      go_wp2
      go_roundw
      case rel => exact ⟨n + 1, by have := HM.out; omega, by have := HM.out; go_num, by rw [E1.out], bel_drewN hbe _⟩
      case measure => simp [intOf]; omega
    · obtain rfl : b = a + n := by omega
      have e : a + n - a = n := by omega
      have E := Lib.hid e; clear e
      go_wp2
      go_ret
      exact ⟨by rw [E.out]; rfl, hbw⟩
end Go.Proofs.YtbjhjbjjfbmoeaaGreatDoor

/- Lines: CheckLine, lined, Inject, amplitude. -/
namespace Go.Proofs.YtbjhjbjjfbmoeaaGreatDoor
open Go.RowKit

/-- a line -/
def sumL (xs : List Int) : Int := xs.foldl (· + ·) 0
theorem sumL_snoc (xs : List Int) (x : Int) : sumL (xs ++ [x]) = sumL xs + x := by simp [sumL]
def lineOK (xs : List Int) : Bool := xs.all (fun n => inB (-1000) n 1000) && (inB 2 xs.length 32 && (decide (sumL xs = 0) && xs.any (fun n => n != 0)))
def lineErr (xs : List Int) : Int := if lineOK xs then 0 else 54

theorem sumL_bd {xs : List Int} (h : ∀ x ∈ xs, -1000 ≤ x ∧ x ≤ 1000) : -(1000 * (xs.length : Int)) ≤ sumL xs ∧ sumL xs ≤ 1000 * (xs.length : Int) := by
  suffices ∀ (xs : List Int) (a : Int), (∀ x ∈ xs, -1000 ≤ x ∧ x ≤ 1000) → a - 1000 * (xs.length : Int) ≤ xs.foldl (· + ·) a ∧ xs.foldl (· + ·) a ≤ a + 1000 * (xs.length : Int) by
    have := this xs 0 h; simp only [sumL]; omega
  intro xs
  induction xs with
  | nil => intro a _; simp
  | cons x xs ih =>
    intro a h
    have h1 := h x (by simp)
    have h2 := ih (a + x) (fun y hy => h y (by simp [hy]))
    simp only [List.foldl_cons, List.length_cons]
    push_cast
    omega

theorem checkLine_any (ao : Option Addr) (xs : List Int) (cap : Nat) (w : World) (hc : Cells w ao (xs.map (Value.int .i64))) (hl : xs.length ≤ 17592186044416) :
    Calls Tryz.prog 192 #[.slice ao xs.length cap] w fun e w' => e = .returned (.int .i64 (lineErr xs)) ∧ w = w' := by
  have HC := Lib.hid hc; clear hc
  go_enter Tryz.func192, Tryz.ntmps192
  go_wp2
  go_loop [3, 4, 9] (fun sm so i => ∃ k : Nat, k ≤ xs.length ∧ i = .int .i64 k ∧ sm = .int .i64 (sumL (xs.take k)) ∧ so = .bool ((xs.take k).any (fun n => n != 0)) ∧ (xs.take k).all (fun n => inB (-1000) n 1000) = true) (fun _ _ i => xs.length - (intOf i).toNat)
  case atStart => exact ⟨0, Nat.zero_le _, rfl, rfl, rfl, rfl⟩
  case round =>
    obtain ⟨k, hk, rfl, rfl, rfl, hall⟩ := hrel
    have hbd := sumL_bd (xs := xs.take k) (fun x hx => by have := List.all_eq_true.1 hall x hx; simpa [inB] using this)
    rw [List.length_take, Nat.min_eq_left hk] at hbd
    obtain ⟨hb1, hb2⟩ := hbd
    by_cases hlt : k < xs.length
    · obtain ⟨x, hx⟩ := get_of_lt hlt
      obtain ⟨b, off, rfl⟩ := HC.out.addr (by simpa using List.ne_nil_of_length_pos (by omega))
      have hcell := HC.out.int hx
      have ht := take_get hx
      cases hin : inB (-1000) x 1000
      · have he : lineErr xs = 54 := by
          have : xs.all (fun n => inB (-1000) n 1000) = false := List.all_eq_false.2 ⟨x, List.mem_of_getElem? hx, by simp [hin]⟩
          simp [lineErr, lineOK, this]
        have HE := Lib.hid he; clear he hx ht hall
        go_wp2_with (go_at_call 147; refine (within_any _ _ _ _).mono ?_; rintro e w' ⟨rfl, rfl⟩)
        go_ret
        exact ⟨ret_int HE.out.symm, rfl⟩
      · have hx1 : -1000 ≤ x ∧ x ≤ 1000 := by simpa [inB] using hin
        obtain ⟨hx1, hx2⟩ := hx1
        have hs : sumL (xs.take (k + 1)) = sumL (xs.take k) + x := by rw [ht, sumL_snoc]
        have ha : (xs.take (k + 1)).all (fun n => inB (-1000) n 1000) = true := by rw [ht, List.all_append, hall]; simp [hin]
        have hn : (xs.take (k + 1)).any (fun n => n != 0) = ((xs.take k).any (fun n => n != 0) || x != 0) := by rw [ht, List.any_append]; simp
        have HS := Lib.hid hs; have HA := Lib.hid ha; have HN := Lib.hid hn
        clear hs ha hn ht hx hall
        generalize (xs.take k).any (fun n => n != 0) = so at *
        generalize sumL (xs.take k) = sm at *
        cases so
        all_goals
          go_wp2_with (go_at_call 147; refine (within_any _ _ _ _).mono ?_; rintro e w' ⟨rfl, rfl⟩)
          go_round
          case rel => exact ⟨k + 1, by omega, by go_num, by rw [HS.out], by rw [HN.out]; simp, HA.out⟩
          case measure => simp [intOf]; omega
    · obtain rfl : k = xs.length := by omega
      rw [List.take_length] at hall hb1 hb2 ⊢
      have he : lineErr xs = if (inB 2 xs.length 32 && (decide (sumL xs = 0) && xs.any (fun n => n != 0))) then 0 else 54 := by simp only [lineErr, lineOK, hall, Bool.true_and]
      have HE := Lib.hid he; clear he hall
      generalize xs.any (fun n => n != 0) = so at *
      generalize sumL xs = sm at *
      by_cases hsm : sm = 0
      · subst hsm
        cases so
        all_goals
          cases hin : inB 2 xs.length 32
          all_goals
            have HIN := Lib.hid hin
            go_wp2_with (go_at_call 147; refine (within_any _ _ _ _).mono ?_; rintro e w' ⟨rfl, rfl⟩)
            go_ret
            exact ⟨ret_int (by rw [HE.out, HIN.out]; rfl), rfl⟩
      · have h1 : (sm != 0) = true := by simpa using hsm
        have hd : decide (sm = 0) = false := by simpa using hsm
        have HD := Lib.hid hd; clear hd
        cases hin : inB 2 xs.length 32
        all_goals
          have HIN := Lib.hid hin
          go_wp2_with (go_at_call 147; refine (within_any _ _ _ _).mono ?_; rintro e w' ⟨rfl, rfl⟩)
          go_ret
          exact ⟨ret_int (by rw [HE.out, HIN.out, HD.out]; rfl), rfl⟩
end Go.Proofs.YtbjhjbjjfbmoeaaGreatDoor

/- Models: CheckModel, of the program and of the reference. -/
namespace Go.Proofs.YtbjhjbjjfbmoeaaGreatDoor
open Go.RowKit

/-- a wrong tap -/
def tapBad (t : Int × Int) : Bool := decide (t.2 < t.1 ∨ t.1 < -1048576 ∨ 1048576 < t.2)

theorem checkModel1_any (a b : Int) (w : World) :
    Calls Tryz.prog 159 #[.agg #[.int .i64 a, .int .i64 b]] w fun e w' => e = .returned (.bool (tapBad (a, b))) ∧ Below w.heap.size w w' := by
  by_cases h1 : b < a
  · go_enter Tryz.func159, Tryz.ntmps159
    go_wp2
    go_ret
    exact ⟨ret_bool (by simp [tapBad, h1]), (Below.refl _ _).alloc (Nat.le_refl _) _⟩
  · by_cases h2 : a < -1048576
    · go_enter Tryz.func159, Tryz.ntmps159
      go_wp2
      go_ret
      exact ⟨ret_bool (by simp [tapBad, h2]), (Below.refl _ _).alloc (Nat.le_refl _) _⟩
    · go_enter Tryz.func159, Tryz.ntmps159
      go_wp2
      go_ret
      exact ⟨ret_bool (by rw [Bool.eq_iff_iff]; simp only [tapBad, decide_eq_true_eq]; omega), (Below.refl _ _).alloc (Nat.le_refl _) _⟩

set_option maxRecDepth 100000 in
/-- slices.IndexFunc over pairs, at whatever test that computes p and leaves what was there -/
theorem indexFunc_taps (F : FuncId) (capd : Array Value) (p : Int × Int → Bool) (ao : Option Addr) (xs : List (Int × Int)) (cap : Nat) (w : World) (hc : Cells w ao (prs xs)) (hl : xs.length ≤ 9223372036854775807)
    (hcf : ∀ (vs : Array Value) (wx : World), Sem.run Tryz.prog (callFunc F vs) wx = .ok (.enter F vs) wx)
    (hF : ∀ x wx, x ∈ xs → Below w.heap.size w wx → Calls Tryz.prog F (#[.agg #[.int .i64 x.1, .int .i64 x.2]] ++ capd) wx fun e w' => e = .returned (.bool (p x)) ∧ Below wx.heap.size wx w') :
    Calls Tryz.prog 203 #[.slice ao xs.length cap, .func (.func F) #[] capd] w fun e w' => (∃ r : Int, e = .returned (.int .i64 r) ∧ (0 ≤ r ↔ xs.any p = true)) ∧ Below w.heap.size w w' := by
  go_enter Tryz.func203, Tryz.ntmps203
  go_wp2
  go_loopw [8] (fun i wr => ∃ k : Nat, k ≤ xs.length ∧ i = .int .i64 k ∧ (xs.take k).any p = false ∧ Below w.heap.size w wr) (fun i _ => xs.length - (intOf i).toNat)
  case atStart => exact ⟨0, Nat.zero_le _, rfl, rfl, Below.refl _ _⟩
  case round =>
    obtain ⟨k, hk, rfl, hany, hb⟩ := hrel
    by_cases hlt : k < xs.length
    · obtain ⟨x, hx⟩ := get_of_lt hlt
      obtain ⟨b, off, rfl⟩ := hc.addr (prs_ne (by omega))
      have hcell1 := cell_keep (hc.at (prs_fst hx)) hb (Nat.le_refl _)
      have hcell2 := cell_keep (hc.at (prs_snd hx)) hb (Nat.le_refl _)
      rw [← Nat.add_assoc] at hcell2
      obtain ⟨x1, x2⟩ := x
      simp only at hcell1 hcell2
      have HX := Lib.hid hx; clear hx
      have HC := Lib.hid hc; clear hc
      have HF := Lib.hid hF; clear hF
      have HA := Lib.hid hany; clear hany
      go_wp2_with fail
      refine (HF.out (x1, x2) wr (List.mem_of_getElem? HX.out) hb).mono ?_
      rintro e w1 ⟨rfl, hb1⟩
      have hb2 := hb.trans (hb1.mono hb.size)
      clear hb1
      by_cases hp : p (x1, x2) = true
      · go_wp2
        go_ret
        exact ⟨⟨_, rfl, by simp; exact ⟨x1, x2, List.mem_of_getElem? HX.out, hp⟩⟩, hb2⟩
      · simp only [Bool.not_eq_true] at hp
        go_wp2
        go_roundw
        case rel => exact ⟨k + 1, by omega, by go_num, by rw [take_get HX.out, List.any_append, HA.out]; simp [hp], hb2⟩
        case measure => simp [intOf]; omega
    · obtain rfl : k = xs.length := by omega
      rw [List.take_length] at hany
      have HA := Lib.hid hany; clear hany
      go_wp2
      go_ret
      exact ⟨⟨_, rfl, by rw [HA.out]; simp⟩, hb⟩
end Go.Proofs.YtbjhjbjjfbmoeaaGreatDoor
