/- Parts of a proof, in build order: V0, A0, A1, B0, A2, A3, A4, B1. -/
import Derived.Test.YtmafjfhnejeogaaGreatDoorProg
import Derived.WalkKit
import Derived.WalkSpells
import Derived.WalkLawsBesides
import Derived.Lib.Hide
import Derived.Outline
import Derived.Deep.LoopGhost
import Derived.Deep.DeepMust
import Derived.Deep.DeepFit
import Derived.Deep.QuietTactic
import Derived.BigQuiet
import Derived.StillTailTactics
import Derived.Deep.RegionHeld3
import Derived.Deep.AppendLies

/- Words of our own on cells, over any program: what a slice's cells hold, and how that stays. -/
namespace Go.Proofs.YtmafjfhnejeogaaGreatDoor
open Go.RowKit

theorem ret_bool {a b : Bool} (h : a = b) : Ending.returned (.bool a) = .returned (.bool b) := by rw [h]
theorem ret_int {k : IntKind} {a b : Int} (h : a = b) : Ending.returned (.int k a) = .returned (.int k b) := by rw [h]

/-- The cells 'cs' lie from the address on (of no cells nothing is said). -/
def Cells (w : World) (ao : Option Addr) (cs : List Value) : Prop :=
  cs = [] ∨ ∃ b off, ao = some ⟨b, off, none⟩ ∧ ∀ j u, cs[j]? = some u → w.cell? ⟨b, off + j, none⟩ = some u

theorem Cells.nil (w : World) (ao : Option Addr) : Cells w ao [] := .inl rfl

theorem Cells.below {w w' : World} {B : Nat} {ao : Option Addr} {cs : List Value} (h : Cells w ao cs) (hb : Below B w w') (hB : w.heap.size ≤ B) : Cells w' ao cs := by
  rcases h with h | ⟨b, off, h1, h2⟩
  · exact .inl h
  · refine .inr ⟨b, off, h1, fun j u hu => ?_⟩
    have h3 := h2 j u hu
    have h4 := World.block_lt_of_cell? w _ h3
    rw [hb.cell (p := ⟨b, off + j, none⟩) (by simp at h4 ⊢; omega)]
    exact h3

/-- below, cell by cell -/
theorem cell_keep {w w' : World} {B : Nat} {p : Addr} {v : Value} (h : w.cell? p = some v) (hb : Below B w w') (hB : w.heap.size ≤ B) : w'.cell? p = some v := by
  have h4 := World.block_lt_of_cell? w _ h
  rw [hb.cell (p := p) (by omega)]; exact h

theorem Cells.int {w : World} {b off : Nat} {k : IntKind} {xs : List Int} (h : Cells w (some ⟨b, off, none⟩) (xs.map (Value.int k))) {i : Nat} {x : Int} (hx : xs[i]? = some x) : w.cell? ⟨b, off + i, none⟩ = some (.int k x) := by
  rcases h with h | ⟨b', off', h1, h2⟩
  · have : xs = [] := by simpa using h
    rw [this] at hx; simp at hx
  · simp only [Option.some.injEq, Addr.mk.injEq] at h1
    obtain ⟨rfl, rfl, _⟩ := h1
    exact h2 i _ (by simp [hx])

/-- a slice of no elements, or one whose address is known -/
theorem Cells.cases {w : World} {ao : Option Addr} {cs : List Value} (h : Cells w ao cs) : cs = [] ∨ ∃ b off, ao = some ⟨b, off, none⟩ := by
  rcases h with h | ⟨b, off, h1, _⟩
  · exact .inl h
  · exact .inr ⟨b, off, h1⟩

theorem Cells.addr {w : World} {ao : Option Addr} {cs : List Value} (h : Cells w ao cs) (hne : cs ≠ []) : ∃ b off, ao = some ⟨b, off, none⟩ := by
  rcases h.cases with h | h
  · exact absurd h hne
  · exact h

theorem get_of_lt {α : Type} {xs : List α} {i : Nat} (h : i < xs.length) : ∃ x, xs[i]? = some x := ⟨xs[i], by simp [h]⟩
theorem take_get {α : Type} {xs : List α} {i : Nat} {x : α} (h : xs[i]? = some x) : xs.take (i + 1) = xs.take i ++ [x] := by
  rw [List.take_add_one, h]; rfl
/-- pairs of numbers, cell by cell -/
def prs (l : List (Int × Int)) : List Value := l.flatMap fun t => [.int .i64 t.1, .int .i64 t.2]
theorem prs_nil : prs [] = [] := rfl
theorem prs_cons (t : Int × Int) (l : List (Int × Int)) : prs (t :: l) = .int .i64 t.1 :: .int .i64 t.2 :: prs l := rfl
theorem prs_append (a b : List (Int × Int)) : prs (a ++ b) = prs a ++ prs b := by simp [prs]
theorem prs_length (l : List (Int × Int)) : (prs l).length = l.length * 2 := by
  induction l with
  | nil => rfl
  | cons t l ih => simp only [prs_cons, List.length_cons, ih]; omega
theorem prs_fst {l : List (Int × Int)} {i : Nat} {t : Int × Int} (h : l[i]? = some t) : (prs l)[i * 2]? = some (.int .i64 t.1) := by
  induction l generalizing i with
  | nil => simp at h
  | cons s l ih =>
    cases i with
    | zero => simp at h; subst h; simp [prs_cons]
    | succ i =>
      have e : (i + 1) * 2 = i * 2 + 1 + 1 := by omega
      rw [prs_cons, e, List.getElem?_cons_succ, List.getElem?_cons_succ]; exact ih (by simpa using h)
theorem prs_snd {l : List (Int × Int)} {i : Nat} {t : Int × Int} (h : l[i]? = some t) : (prs l)[i * 2 + 1]? = some (.int .i64 t.2) := by
  induction l generalizing i with
  | nil => simp at h
  | cons s l ih =>
    cases i with
    | zero => simp at h; subst h; simp [prs_cons]
    | succ i =>
      have e : (i + 1) * 2 + 1 = i * 2 + 1 + 1 + 1 := by omega
      rw [prs_cons, e, List.getElem?_cons_succ, List.getElem?_cons_succ]; exact ih (by simpa using h)
theorem prs_ne {l : List (Int × Int)} (h : 0 < l.length) : prs l ≠ [] := by
  intro e; have := prs_length l; rw [e] at this; simp at this; omega
theorem Cells.at {w : World} {b off : Nat} {cs : List Value} (h : Cells w (some ⟨b, off, none⟩) cs) {j : Nat} {u : Value} (hu : cs[j]? = some u) : w.cell? ⟨b, off + j, none⟩ = some u := by
  rcases h with h | ⟨b', off', h1, h2⟩
  · rw [h] at hu; simp at hu
  · simp only [Option.some.injEq, Addr.mk.injEq] at h1
    obtain ⟨rfl, rfl, _⟩ := h1
    exact h2 j u hu

/-- the cells of a new block, kept -/
theorem box_keep {w w1 : World} {cs : Array Value} {T : TypeId} {B : Nat} (hb : Below B (w.alloc (.cells cs T)) w1) (hB : w.heap.size < B) (i : Nat) : w1.cell? ⟨w.heap.size, i, none⟩ = cs[i]? := by
  rw [hb.cell (p := ⟨w.heap.size, i, none⟩) hB]; simp

/-- an owned row, as a slice -/
theorem own_cells {w : World} {b : Nat} {e : TypeId} {s : Nat} {v : Value} {n : Nat} {xs : List Value} (h : w.ownsRow b e s v n xs) : ∃ a c, v = .slice a n c ∧ Cells w a xs := by
  obtain ⟨h0, h1⟩ := h
  rcases h1 with ⟨rfl, rfl⟩ | ⟨g, cap, cur, rfl, hb, hg, hn, hm, hs, ht⟩
  · refine ⟨none, 0, rfl, .inl ?_⟩
    simpa using h0
  · refine ⟨_, _, rfl, .inr ⟨g, 0, rfl, fun j u hu => ?_⟩⟩
    have h2 := World.ownsRow.cells (w := w) (base := b) (e := e) (size := s) (v := .slice (some ⟨g, 0, none⟩) n cap) (n := n) (xs := xs) ⟨h0, .inr ⟨g, cap, cur, rfl, hb, hg, hn, hm, hs, ht⟩⟩ rfl j u hu
    rw [Addr.add_lit] at h2
    exact h2
/-- the one cell of a new block, to be appended -/
theorem news1 (w : World) (u : Value) (T : TypeId) : ∀ (j : Nat) (v : Value), [u][j]? = some v → (w.alloc (.cells #[u] T)).cell? ((⟨w.heap.size, 0, none⟩ : Addr).add j) = some v := by
  intro j v hj
  match j, hj with
  | 0, hj => simp at hj; subst hj; simp [Addr.add]
theorem own_drewN {w : World} {b : Nat} {e : TypeId} {s : Nat} {v : Value} {n : Nat} {xs : List Value} (h : w.ownsRow b e s v n xs) (k : Nat) : (w.drewN k).ownsRow b e s v n xs := h
theorem bel_drewN {B : Nat} {a w : World} (h : Below B a w) (k : Nat) : Below B a (w.drewN k) := ⟨h.os, h.tape, h.output, h.size, h.block⟩
theorem div_pow_bd {x M : Int} (s : Nat) (h1 : -M ≤ x) (h2 : x ≤ M) (hM : 0 ≤ M) : -M ≤ x / 2 ^ s ∧ x / 2 ^ s ≤ M := by
  have hp : (0 : Int) < 2 ^ s := Int.pow_pos (by decide)
  have h1p : (1 : Int) ≤ 2 ^ s := by omega
  constructor
  · rw [Int.le_ediv_iff_mul_le hp]
    have : M * 1 ≤ M * 2 ^ s := Int.mul_le_mul_of_nonneg_left h1p hM
    rw [Int.neg_mul]; omega
  · by_cases hx : 0 ≤ x
    · have := Int.ediv_le_self (2 ^ s) hx; omega
    · have := Int.ediv_neg_of_neg_of_pos (by omega : x < 0) hp; omega
theorem min_if (a b : Int) : (if b < a then b else a) = min a b := by rw [Int.min_def]; split <;> split <;> omega
theorem max_if (a b : Int) : (if a < b then b else a) = max a b := by rw [Int.max_def]; split <;> split <;> omega

end Go.Proofs.YtmafjfhnejeogaaGreatDoor

/- Small functions of numbers. -/
namespace Go.Proofs.YtmafjfhnejeogaaGreatDoor
open Go.RowKit

/-- n is from lo to hi -/
def inB (lo n hi : Int) : Bool := decide (lo ≤ n ∧ n ≤ hi)
theorem inB_eq (lo n hi : Int) : inB lo n hi = (decide (lo ≤ n) && decide (n ≤ hi)) := by simp [inB]

theorem within_any (n lo hi : Int) (w : World) :
    Calls Tryz.prog 44 #[.int .i64 n, .int .i64 lo, .int .i64 hi] w fun e w' => e = .returned (.bool (inB lo n hi)) ∧ w = w' := by
  by_cases h1 : lo ≤ n
  · go_enter Tryz.func44, Tryz.ntmps44
    go_wp2
    go_ret
    exact ⟨ret_bool (by simp [inB]; try omega), rfl⟩
  · go_enter Tryz.func44, Tryz.ntmps44
    go_wp2
    go_ret
    exact ⟨ret_bool (by simp [inB]; try omega), rfl⟩

theorem in_any (n lo hi : Int) (w : World) :
    Calls Tryz.prog 45 #[.int .i64 n, .int .i64 lo, .int .i64 hi] w fun e w' => e = .returned (.bool (inB lo n hi)) ∧ w = w' := by
  by_cases h1 : lo ≤ n
  · go_enter Tryz.func45, Tryz.ntmps45
    go_wp2
    go_ret
    exact ⟨ret_bool (by simp [inB]; try omega), rfl⟩
  · go_enter Tryz.func45, Tryz.ntmps45
    go_wp2
    go_ret
    exact ⟨ret_bool (by simp [inB]; try omega), rfl⟩

theorem seriesOK1_any (n : Int) (w : World) :
    Calls Tryz.prog 114 #[.int .i64 n] w fun e w' => e = .returned (.bool (!inB (-8388608) n 8388608)) ∧ w = w' := by
  go_enter Tryz.func114, Tryz.ntmps114
  go_wp2_with (go_at_call 44; refine (within_any _ _ _ _).mono ?_; rintro e w' ⟨rfl, rfl⟩)
  go_ret
  exact ⟨rfl, rfl⟩

set_option maxRecDepth 100000 in
/-- slices.IndexFunc over ints, at whatever test that computes p and leaves what was there -/
theorem indexFunc_ints (F : FuncId) (capd : Array Value) (p : Int → Bool) (ao : Option Addr) (xs : List Int) (cap : Nat) (w : World) (hc : Cells w ao (xs.map (Value.int .i64))) (hl : xs.length ≤ 9223372036854775807)
    (hcf : ∀ (vs : Array Value) (wx : World), Sem.run Tryz.prog (callFunc F vs) wx = .ok (.enter F vs) wx)
    (hF : ∀ x wx, x ∈ xs → Below w.heap.size w wx → Calls Tryz.prog F (#[.int .i64 x] ++ capd) wx fun e w' => e = .returned (.bool (p x)) ∧ Below wx.heap.size wx w') :
    Calls Tryz.prog 167 #[.slice ao xs.length cap, .func (.func F) #[] capd] w fun e w' => (∃ r : Int, e = .returned (.int .i64 r) ∧ (0 ≤ r ↔ xs.any p = true)) ∧ Below w.heap.size w w' := by
  go_enter Tryz.func167, Tryz.ntmps167
  go_wp2
  go_loopw [8] (fun i wr => ∃ k : Nat, k ≤ xs.length ∧ i = .int .i64 k ∧ (xs.take k).any p = false ∧ Below w.heap.size w wr) (fun i _ => xs.length - (intOf i).toNat)
  case atStart => exact ⟨0, Nat.zero_le _, rfl, rfl, Below.refl _ _⟩
  case round =>
    obtain ⟨k, hk, rfl, hany, hb⟩ := hrel
    by_cases hlt : k < xs.length
    · obtain ⟨x, hx⟩ := get_of_lt hlt
      obtain ⟨b, off, rfl⟩ := hc.addr (by simpa using List.ne_nil_of_length_pos (by omega))
      have hcell := cell_keep (hc.int hx) hb (Nat.le_refl _)
      have HX := Lib.hid hx; clear hx
      have HC := Lib.hid hc; clear hc
      have HF := Lib.hid hF; clear hF
      have HA := Lib.hid hany; clear hany
      go_wp2_with fail
      refine (HF.out x wr (List.mem_of_getElem? HX.out) hb).mono ?_
      rintro e w1 ⟨rfl, hb1⟩
      have hb2 := hb.trans (hb1.mono hb.size)
      clear hb1
      by_cases hp : p x = true
      · go_wp2
        go_ret
        exact ⟨⟨_, rfl, by simp; exact ⟨x, List.mem_of_getElem? HX.out, hp⟩⟩, hb2⟩
      · simp only [Bool.not_eq_true] at hp
        go_wp2
        go_roundw
        case rel => exact ⟨k + 1, by omega, by go_num, by rw [take_get HX.out, List.any_append, HA.out]; simp [hp], hb2⟩
        case measure => simp [intOf]; omega
    · obtain rfl : k = xs.length := by omega
      rw [List.take_length] at hany
      have HA := Lib.hid hany; clear hany
      go_wp2
      go_ret
      exact ⟨⟨_, rfl, by rw [HA.out]; simp⟩, hb⟩
end Go.Proofs.YtmafjfhnejeogaaGreatDoor

/- Series: CheckSeries, of the program and of the reference. -/
namespace Go.Proofs.YtmafjfhnejeogaaGreatDoor
open Go.RowKit

set_option maxRecDepth 100000 in
theorem containsFunc_ints (F : FuncId) (capd : Array Value) (p : Int → Bool) (ao : Option Addr) (xs : List Int) (cap : Nat) (w : World) (hc : Cells w ao (xs.map (Value.int .i64))) (hl : xs.length ≤ 9223372036854775807)
    (hcf : ∀ (vs : Array Value) (wx : World), Sem.run Tryz.prog (callFunc F vs) wx = .ok (.enter F vs) wx)
    (hF : ∀ x wx, x ∈ xs → Below w.heap.size w wx → Calls Tryz.prog F (#[.int .i64 x] ++ capd) wx fun e w' => e = .returned (.bool (p x)) ∧ Below wx.heap.size wx w') :
    Calls Tryz.prog 113 #[.slice ao xs.length cap, .func (.func F) #[] capd] w fun e w' => e = .returned (.bool (xs.any p)) ∧ Below w.heap.size w w' := by
  have HC := Lib.hid hc; clear hc
  have HF := Lib.hid hF; clear hF
  have HCF := Lib.hid hcf; clear hcf
  go_enter Tryz.func113, Tryz.ntmps113
  go_wp2_with fail
  refine (indexFunc_ints F capd p ao xs cap w HC.out hl HCF.out HF.out).mono ?_
  rintro e w1 ⟨⟨r, rfl, hr⟩, hb⟩
  have HR := Lib.hid hr; clear hr
  go_wp2
  go_ret
  exact ⟨ret_bool (by rw [Bool.eq_iff_iff, decide_eq_true_iff]; exact HR.out), hb⟩

/-- a series -/
def serOK (xs : List Int) : Bool := decide (xs.length ≤ 4096) && xs.all (fun n => inB (-8388608) n 8388608)
def serErr (xs : List Int) : Int := if serOK xs then 0 else 55

theorem seriesOK_any (ao : Option Addr) (xs : List Int) (cap : Nat) (w : World) (hc : Cells w ao (xs.map (Value.int .i64))) (hl : xs.length ≤ 9223372036854775807) :
    Calls Tryz.prog 48 #[.slice ao xs.length cap] w fun e w' => e = .returned (.bool (serOK xs)) ∧ Below w.heap.size w w' := by
  have HC := Lib.hid hc; clear hc
  by_cases h : xs.length ≤ 4096
  · go_enter Tryz.func48, Tryz.ntmps48
    go_wp2_with fail
    refine (containsFunc_ints 114 #[] (fun n => !inB (-8388608) n 8388608) ao xs cap w HC.out hl (fun _ _ => by kernel_rfl) (fun x wx _ _ => (seriesOK1_any x wx).mono fun e w' h => ⟨h.1, h.2 ▸ Below.refl _ _⟩)).mono ?_
    rintro e w1 ⟨rfl, hb⟩
    go_wp2
    go_ret
    exact ⟨ret_bool (by simp [serOK, h, List.all_eq_not_any_not]), hb⟩
  · go_enter Tryz.func48, Tryz.ntmps48
    go_wp2
    go_ret
    exact ⟨ret_bool (by simp [serOK]; omega), Below.refl _ _⟩

theorem checkSeries_any (ao : Option Addr) (xs : List Int) (cap : Nat) (w : World) (hc : Cells w ao (xs.map (Value.int .i64))) (hl : xs.length ≤ 9223372036854775807) :
    Calls Tryz.prog 112 #[.slice ao xs.length cap] w fun e w' => e = .returned (.int .i64 (serErr xs)) ∧ Below w.heap.size w w' := by
  have HC := Lib.hid hc; clear hc
  cases hs : serOK xs
  all_goals
    go_enter Tryz.func112, Tryz.ntmps112
    go_wp2_with fail
    refine (seriesOK_any ao xs cap w HC.out hl).mono ?_
    rintro e w1 ⟨rfl, hb⟩
    go_wp2
    go_ret
    exact ⟨ret_int (by simp [serErr, hs]), hb⟩

theorem refCheckSeries_any (ao : Option Addr) (xs : List Int) (cap : Nat) (w : World) (hc : Cells w ao (xs.map (Value.int .i64))) (hl : xs.length ≤ 9223372036854775807) :
    Calls Tryz.prog 50 #[.slice ao xs.length cap] w fun e w' => e = .returned (.int .i64 (serErr xs)) ∧ Below w.heap.size w w' := by
  have HC := Lib.hid hc; clear hc
  go_enter Tryz.func50, Tryz.ntmps50
  go_wp2
  go_loopw [3, 4] (fun o i wr => ∃ k : Nat, k ≤ xs.length ∧ i = .int .i64 k ∧ o = .bool (decide (xs.length ≤ 4096) && (xs.take k).all (fun n => inB (-8388608) n 8388608)) ∧ Below w.heap.size w wr) (fun _ i _ => xs.length - (intOf i).toNat)
  case atStart => exact ⟨0, Nat.zero_le _, rfl, by simp; omega, Below.refl _ _⟩
  case round =>
    obtain ⟨k, hk, rfl, rfl, hb⟩ := hrel
    by_cases hlt : k < xs.length
    · obtain ⟨x, hx⟩ := get_of_lt hlt
      obtain ⟨b, off, rfl⟩ := HC.out.addr (by simpa using List.ne_nil_of_length_pos (by omega))
      have hcell := cell_keep (HC.out.int hx) hb (Nat.le_refl _)
      have hn : (decide (xs.length ≤ 4096) && (xs.take (k + 1)).all (fun n => inB (-8388608) n 8388608)) = ((decide (xs.length ≤ 4096) && (xs.take k).all (fun n => inB (-8388608) n 8388608)) && inB (-8388608) x 8388608) := by
        rw [take_get hx, List.all_append]; simp [Bool.and_assoc]
      have HX := Lib.hid hx; clear hx
      have HN := Lib.hid hn; clear hn
      generalize (decide (xs.length ≤ 4096) && (xs.take k).all (fun n => inB (-8388608) n 8388608)) = o at *
      cases o
      · go_wp2
        go_roundw
        case rel => exact ⟨k + 1, by omega, by go_num, by rw [HN.out]; rfl, hb⟩
        case measure => simp [intOf]; omega
      · go_wp2_with (go_at_call 45; refine (in_any _ _ _ _).mono ?_; rintro e w' ⟨rfl, rfl⟩)
        go_roundw
        case rel => exact ⟨k + 1, by omega, by go_num, by rw [HN.out]; simp, hb⟩
        case measure => simp [intOf]; omega
    · obtain rfl : k = xs.length := by omega
      have hn : serOK xs = (decide (xs.length ≤ 4096) && (xs.take xs.length).all (fun n => inB (-8388608) n 8388608)) := by simp [serOK]
      have HN := Lib.hid hn; clear hn
      generalize (decide (xs.length ≤ 4096) && (xs.take xs.length).all (fun n => inB (-8388608) n 8388608)) = o at *
      cases o
      all_goals
        go_wp2
        go_ret
        exact ⟨ret_int (by simp [serErr, HN.out]), hb⟩
end Go.Proofs.YtmafjfhnejeogaaGreatDoor

/- Lines: CheckLine, lined, Inject, amplitude. -/
namespace Go.Proofs.YtmafjfhnejeogaaGreatDoor
open Go.RowKit

/-- a line -/
def sumL (xs : List Int) : Int := xs.foldl (· + ·) 0
theorem sumL_snoc (xs : List Int) (x : Int) : sumL (xs ++ [x]) = sumL xs + x := by simp [sumL]
def lineOK (xs : List Int) : Bool := xs.all (fun n => inB (-1000) n 1000) && (inB 2 xs.length 32 && (decide (sumL xs = 0) && xs.any (fun n => n != 0)))
def lineErr (xs : List Int) : Int := if lineOK xs then 0 else 54

theorem sumL_bd {xs : List Int} (h : ∀ x ∈ xs, -1000 ≤ x ∧ x ≤ 1000) : -(1000 * (xs.length : Int)) ≤ sumL xs ∧ sumL xs ≤ 1000 * (xs.length : Int) := by
  suffices ∀ (xs : List Int) (a : Int), (∀ x ∈ xs, -1000 ≤ x ∧ x ≤ 1000) → a - 1000 * (xs.length : Int) ≤ xs.foldl (· + ·) a ∧ xs.foldl (· + ·) a ≤ a + 1000 * (xs.length : Int) by
    have := this xs 0 h; simp only [sumL]; omega
  intro xs
  induction xs with
  | nil => intro a _; simp
  | cons x xs ih =>
    intro a h
    have h1 := h x (by simp)
    have h2 := ih (a + x) (fun y hy => h y (by simp [hy]))
    simp only [List.foldl_cons, List.length_cons]
    push_cast
    omega

theorem checkLine_any (ao : Option Addr) (xs : List Int) (cap : Nat) (w : World) (hc : Cells w ao (xs.map (Value.int .i64))) (hl : xs.length ≤ 17592186044416) :
    Calls Tryz.prog 11 #[.slice ao xs.length cap] w fun e w' => e = .returned (.int .i64 (lineErr xs)) ∧ w = w' := by
  have HC := Lib.hid hc; clear hc
  go_enter Tryz.func11, Tryz.ntmps11
  go_wp2
  go_loop [3, 4, 9] (fun sm so i => ∃ k : Nat, k ≤ xs.length ∧ i = .int .i64 k ∧ sm = .int .i64 (sumL (xs.take k)) ∧ so = .bool ((xs.take k).any (fun n => n != 0)) ∧ (xs.take k).all (fun n => inB (-1000) n 1000) = true) (fun _ _ i => xs.length - (intOf i).toNat)
  case atStart => exact ⟨0, Nat.zero_le _, rfl, rfl, rfl, rfl⟩
  case round =>
    obtain ⟨k, hk, rfl, rfl, rfl, hall⟩ := hrel
    have hbd := sumL_bd (xs := xs.take k) (fun x hx => by have := List.all_eq_true.1 hall x hx; simpa [inB] using this)
    rw [List.length_take, Nat.min_eq_left hk] at hbd
    obtain ⟨hb1, hb2⟩ := hbd
    by_cases hlt : k < xs.length
    · obtain ⟨x, hx⟩ := get_of_lt hlt
      obtain ⟨b, off, rfl⟩ := HC.out.addr (by simpa using List.ne_nil_of_length_pos (by omega))
      have hcell := HC.out.int hx
      have ht := take_get hx
      cases hin : inB (-1000) x 1000
      · have he : lineErr xs = 54 := by
          have : xs.all (fun n => inB (-1000) n 1000) = false := List.all_eq_false.2 ⟨x, List.mem_of_getElem? hx, by simp [hin]⟩
          simp [lineErr, lineOK, this]
        have HE := Lib.hid he; clear he hx ht hall
        go_wp2_with (go_at_call 44; refine (within_any _ _ _ _).mono ?_; rintro e w' ⟨rfl, rfl⟩)
        go_ret
        exact ⟨ret_int HE.out.symm, rfl⟩
      · have hx1 : -1000 ≤ x ∧ x ≤ 1000 := by simpa [inB] using hin
        obtain ⟨hx1, hx2⟩ := hx1
        have hs : sumL (xs.take (k + 1)) = sumL (xs.take k) + x := by rw [ht, sumL_snoc]
        have ha : (xs.take (k + 1)).all (fun n => inB (-1000) n 1000) = true := by rw [ht, List.all_append, hall]; simp [hin]
        have hn : (xs.take (k + 1)).any (fun n => n != 0) = ((xs.take k).any (fun n => n != 0) || x != 0) := by rw [ht, List.any_append]; simp
        have HS := Lib.hid hs; have HA := Lib.hid ha; have HN := Lib.hid hn
        clear hs ha hn ht hx hall
        generalize (xs.take k).any (fun n => n != 0) = so at *
        generalize sumL (xs.take k) = sm at *
        cases so
        all_goals
          go_wp2_with (go_at_call 44; refine (within_any _ _ _ _).mono ?_; rintro e w' ⟨rfl, rfl⟩)
          go_round
          case rel => exact ⟨k + 1, by omega, by go_num, by rw [HS.out], by rw [HN.out]; simp, HA.out⟩
          case measure => simp [intOf]; omega
    · obtain rfl : k = xs.length := by omega
      rw [List.take_length] at hall hb1 hb2 ⊢
      have he : lineErr xs = if (inB 2 xs.length 32 && (decide (sumL xs = 0) && xs.any (fun n => n != 0))) then 0 else 54 := by simp only [lineErr, lineOK, hall, Bool.true_and]
      have HE := Lib.hid he; clear he hall
      generalize xs.any (fun n => n != 0) = so at *
      generalize sumL xs = sm at *
      by_cases hsm : sm = 0
      · subst hsm
        cases so
        all_goals
          cases hin : inB 2 xs.length 32
          all_goals
            have HIN := Lib.hid hin
            go_wp2_with (go_at_call 44; refine (within_any _ _ _ _).mono ?_; rintro e w' ⟨rfl, rfl⟩)
            go_ret
            exact ⟨ret_int (by rw [HE.out, HIN.out]; rfl), rfl⟩
      · have h1 : (sm != 0) = true := by simpa using hsm
        have hd : decide (sm = 0) = false := by simpa using hsm
        have HD := Lib.hid hd; clear hd
        cases hin : inB 2 xs.length 32
        all_goals
          have HIN := Lib.hid hin
          go_wp2_with (go_at_call 44; refine (within_any _ _ _ _).mono ?_; rintro e w' ⟨rfl, rfl⟩)
          go_ret
          exact ⟨ret_int (by rw [HE.out, HIN.out, HD.out]; rfl), rfl⟩
end Go.Proofs.YtmafjfhnejeogaaGreatDoor

/- Models: CheckModel, of the program and of the reference. -/
namespace Go.Proofs.YtmafjfhnejeogaaGreatDoor
open Go.RowKit

/-- a wrong tap -/
def tapBad (t : Int × Int) : Bool := decide (t.2 < t.1 ∨ t.1 < -1048576 ∨ 1048576 < t.2)

theorem checkModel1_any (a b : Int) (w : World) :
    Calls Tryz.prog 181 #[.agg #[.int .i64 a, .int .i64 b]] w fun e w' => e = .returned (.bool (tapBad (a, b))) ∧ Below w.heap.size w w' := by
  by_cases h1 : b < a
  · go_enter Tryz.func181, Tryz.ntmps181
    go_wp2
    go_ret
    exact ⟨ret_bool (by simp [tapBad, h1]), (Below.refl _ _).alloc (Nat.le_refl _) _⟩
  · by_cases h2 : a < -1048576
    · go_enter Tryz.func181, Tryz.ntmps181
      go_wp2
      go_ret
      exact ⟨ret_bool (by simp [tapBad, h2]), (Below.refl _ _).alloc (Nat.le_refl _) _⟩
    · go_enter Tryz.func181, Tryz.ntmps181
      go_wp2
      go_ret
      exact ⟨ret_bool (by rw [Bool.eq_iff_iff]; simp only [tapBad, decide_eq_true_eq]; omega), (Below.refl _ _).alloc (Nat.le_refl _) _⟩

set_option maxRecDepth 100000 in
/-- slices.IndexFunc over pairs, at whatever test that computes p and leaves what was there -/
theorem indexFunc_taps (F : FuncId) (capd : Array Value) (p : Int × Int → Bool) (ao : Option Addr) (xs : List (Int × Int)) (cap : Nat) (w : World) (hc : Cells w ao (prs xs)) (hl : xs.length ≤ 9223372036854775807)
    (hcf : ∀ (vs : Array Value) (wx : World), Sem.run Tryz.prog (callFunc F vs) wx = .ok (.enter F vs) wx)
    (hF : ∀ x wx, x ∈ xs → Below w.heap.size w wx → Calls Tryz.prog F (#[.agg #[.int .i64 x.1, .int .i64 x.2]] ++ capd) wx fun e w' => e = .returned (.bool (p x)) ∧ Below wx.heap.size wx w') :
    Calls Tryz.prog 219 #[.slice ao xs.length cap, .func (.func F) #[] capd] w fun e w' => (∃ r : Int, e = .returned (.int .i64 r) ∧ (0 ≤ r ↔ xs.any p = true)) ∧ Below w.heap.size w w' := by
  go_enter Tryz.func219, Tryz.ntmps219
  go_wp2
  go_loopw [8] (fun i wr => ∃ k : Nat, k ≤ xs.length ∧ i = .int .i64 k ∧ (xs.take k).any p = false ∧ Below w.heap.size w wr) (fun i _ => xs.length - (intOf i).toNat)
  case atStart => exact ⟨0, Nat.zero_le _, rfl, rfl, Below.refl _ _⟩
  case round =>
    obtain ⟨k, hk, rfl, hany, hb⟩ := hrel
    by_cases hlt : k < xs.length
    · obtain ⟨x, hx⟩ := get_of_lt hlt
      obtain ⟨b, off, rfl⟩ := hc.addr (prs_ne (by omega))
      have hcell1 := cell_keep (hc.at (prs_fst hx)) hb (Nat.le_refl _)
      have hcell2 := cell_keep (hc.at (prs_snd hx)) hb (Nat.le_refl _)
      rw [← Nat.add_assoc] at hcell2
      obtain ⟨x1, x2⟩ := x
      simp only at hcell1 hcell2
      have HX := Lib.hid hx; clear hx
      have HC := Lib.hid hc; clear hc
      have HF := Lib.hid hF; clear hF
      have HA := Lib.hid hany; clear hany
      go_wp2_with fail
      refine (HF.out (x1, x2) wr (List.mem_of_getElem? HX.out) hb).mono ?_
      rintro e w1 ⟨rfl, hb1⟩
      have hb2 := hb.trans (hb1.mono hb.size)
      clear hb1
      by_cases hp : p (x1, x2) = true
      · go_wp2
        go_ret
        exact ⟨⟨_, rfl, by simp; exact ⟨x1, x2, List.mem_of_getElem? HX.out, hp⟩⟩, hb2⟩
      · simp only [Bool.not_eq_true] at hp
        go_wp2
        go_roundw
        case rel => exact ⟨k + 1, by omega, by go_num, by rw [take_get HX.out, List.any_append, HA.out]; simp [hp], hb2⟩
        case measure => simp [intOf]; omega
    · obtain rfl : k = xs.length := by omega
      rw [List.take_length] at hany
      have HA := Lib.hid hany; clear hany
      go_wp2
      go_ret
      exact ⟨⟨_, rfl, by rw [HA.out]; simp⟩, hb⟩
end Go.Proofs.YtmafjfhnejeogaaGreatDoor

/- Models: CheckModel, of the program and of the reference. -/
namespace Go.Proofs.YtmafjfhnejeogaaGreatDoor
open Go.RowKit

set_option maxRecDepth 100000 in
theorem containsFunc_taps (F : FuncId) (capd : Array Value) (p : Int × Int → Bool) (ao : Option Addr) (xs : List (Int × Int)) (cap : Nat) (w : World) (hc : Cells w ao (prs xs)) (hl : xs.length ≤ 9223372036854775807)
    (hcf : ∀ (vs : Array Value) (wx : World), Sem.run Tryz.prog (callFunc F vs) wx = .ok (.enter F vs) wx)
    (hF : ∀ x wx, x ∈ xs → Below w.heap.size w wx → Calls Tryz.prog F (#[.agg #[.int .i64 x.1, .int .i64 x.2]] ++ capd) wx fun e w' => e = .returned (.bool (p x)) ∧ Below wx.heap.size wx w') :
    Calls Tryz.prog 182 #[.slice ao xs.length cap, .func (.func F) #[] capd] w fun e w' => e = .returned (.bool (xs.any p)) ∧ Below w.heap.size w w' := by
  have HC := Lib.hid hc; clear hc
  have HF := Lib.hid hF; clear hF
  have HCF := Lib.hid hcf; clear hcf
  go_enter Tryz.func182, Tryz.ntmps182
  go_wp2_with fail
  refine (indexFunc_taps F capd p ao xs cap w HC.out hl HCF.out HF.out).mono ?_
  rintro e w1 ⟨⟨r, rfl, hr⟩, hb⟩
  have HR := Lib.hid hr; clear hr
  go_wp2
  go_ret
  exact ⟨ret_bool (by rw [Bool.eq_iff_iff, decide_eq_true_iff]; exact HR.out), hb⟩

/-- a model -/
def modOK (ts : List (Int × Int)) (sh : Int) : Bool := inB 1 ts.length 16 && (!ts.any tapBad && inB 0 sh 20)
def modErr (ts : List (Int × Int)) (sh : Int) : Int := if modOK ts sh then 0 else 53

theorem checkModel_any (ao : Option Addr) (ts : List (Int × Int)) (cap : Nat) (sh : Int) (w : World) (hc : Cells w ao (prs ts)) (hl : ts.length ≤ 9223372036854775807) :
    Calls Tryz.prog 121 #[.agg #[.slice ao ts.length cap, .int .i64 sh]] w fun e w' => e = .returned (.int .i64 (modErr ts sh)) ∧ Below w.heap.size w w' := by
  have HC := Lib.hid hc; clear hc
  cases h1 : inB 1 ts.length 16
  · have hm : modErr ts sh = 53 := by simp [modErr, modOK, h1]
    have HM := Lib.hid hm; clear hm
    go_enter Tryz.func121, Tryz.ntmps121
    go_wp2_with fail
    refine (within_any _ _ _ _).mono ?_
    rintro e w1 ⟨rfl, rfl⟩
    go_wp2
    go_ret
    exact ⟨ret_int (HM.out).symm, (Below.refl _ _).alloc (Nat.le_refl _) _⟩
  · cases h2 : ts.any tapBad
    · have hm : modErr ts sh = if inB 0 sh 20 then 0 else 53 := by simp [modErr, modOK, h1, h2]
      have HM := Lib.hid hm; clear hm
      have H2 := Lib.hid h2; clear h2
      cases h3 : inB 0 sh 20
      all_goals
        have H3 := Lib.hid h3
        go_enter Tryz.func121, Tryz.ntmps121
        go_wp2_with fail
        refine (within_any _ _ _ _).mono ?_
        rintro e w1 ⟨rfl, rfl⟩
        go_wp2_with fail
        refine (containsFunc_taps 181 #[] tapBad ao ts cap _ (HC.out.below ((Below.refl _ _).alloc (Nat.le_refl _) _) (Nat.le_refl _)) hl (fun _ _ => by kernel_rfl) (fun x wx _ _ => checkModel1_any x.1 x.2 wx)).mono ?_
        rintro e w1 ⟨rfl, hb⟩
        rw [H2.out]
        have hc1 : w1.cell? ⟨w.heap.size, 1, none⟩ = some (.int .i64 sh) := box_keep hb (by simp) 1
        go_wp2_with fail
        refine (within_any _ _ _ _).mono ?_
        rintro e w1 ⟨rfl, rfl⟩
        go_wp2
        go_ret
        exact ⟨ret_int (by rw [HM.out, H3.out]; rfl), ((Below.refl _ _).alloc (Nat.le_refl _) _).trans (hb.mono (by simp))⟩
    · have hm : modErr ts sh = 53 := by simp [modErr, modOK, h1, h2]
      have HM := Lib.hid hm; clear hm
      have H2 := Lib.hid h2; clear h2
      go_enter Tryz.func121, Tryz.ntmps121
      go_wp2_with fail
      refine (within_any _ _ _ _).mono ?_
      rintro e w1 ⟨rfl, rfl⟩
      go_wp2_with fail
      refine (containsFunc_taps 181 #[] tapBad ao ts cap _ (HC.out.below ((Below.refl _ _).alloc (Nat.le_refl _) _) (Nat.le_refl _)) hl (fun _ _ => by kernel_rfl) (fun x wx _ _ => checkModel1_any x.1 x.2 wx)).mono ?_
      rintro e w1 ⟨rfl, hb⟩
      rw [H2.out]
      go_wp2
      go_ret
      exact ⟨ret_int (HM.out).symm, ((Below.refl _ _).alloc (Nat.le_refl _) _).trans (hb.mono (by simp))⟩
end Go.Proofs.YtmafjfhnejeogaaGreatDoor

/- Strain, of the program. -/
namespace Go.Proofs.YtmafjfhnejeogaaGreatDoor
open Go.RowKit

/-- the sum of the lesser, of the greater products of the first n taps at t -/
def loS (ts : List (Int × Int)) (xs : List Int) (t : Nat) : Nat → Int
  | 0 => 0
  | n + 1 => loS ts xs t n + min ((ts.getD n (0, 0)).1 * xs.getD (t - n) 0) ((ts.getD n (0, 0)).2 * xs.getD (t - n) 0)
def hiS (ts : List (Int × Int)) (xs : List Int) (t : Nat) : Nat → Int
  | 0 => 0
  | n + 1 => hiS ts xs t n + max ((ts.getD n (0, 0)).1 * xs.getD (t - n) 0) ((ts.getD n (0, 0)).2 * xs.getD (t - n) 0)
def bandAt (ts : List (Int × Int)) (sh : Nat) (xs : List Int) (t : Nat) : Int × Int :=
  (loS ts xs t (min ts.length (t + 1)) / 2 ^ sh, -(-(hiS ts xs t (min ts.length (t + 1))) / 2 ^ sh))
def bands (ts : List (Int × Int)) (sh : Nat) (xs : List Int) (n : Nat) : List (Int × Int) := (List.range n).map (bandAt ts sh xs)
def strErr (ts : List (Int × Int)) (sh : Int) (xs : List Int) : Int := if modErr ts sh ≠ 0 then modErr ts sh else serErr xs
def strain (ts : List (Int × Int)) (sh : Int) (xs : List Int) : List (Int × Int) := if strErr ts sh xs = 0 then bands ts sh.toNat xs xs.length else []

theorem bands_length (ts : List (Int × Int)) (sh : Nat) (xs : List Int) (n : Nat) : (bands ts sh xs n).length = n := by simp [bands]
theorem bands_succ (ts : List (Int × Int)) (sh : Nat) (xs : List Int) (n : Nat) : bands ts sh xs (n + 1) = bands ts sh xs n ++ [bandAt ts sh xs n] := by simp [bands, List.range_succ]

/-- the bounds of products -/
theorem prod_bd {a x : Int} (h1 : -1048576 ≤ a) (h2 : a ≤ 1048576) (h3 : -8388608 ≤ x) (h4 : x ≤ 8388608) : -8796093022208 ≤ a * x ∧ a * x ≤ 8796093022208 := by
  have ha : a.natAbs ≤ 1048576 := by omega
  have hx : x.natAbs ≤ 8388608 := by omega
  have h := Nat.mul_le_mul ha hx
  rw [← Int.natAbs_mul] at h
  omega

theorem modErr_zero {ts : List (Int × Int)} {sh : Int} (h : modErr ts sh = 0) : 1 ≤ ts.length ∧ ts.length ≤ 16 ∧ 0 ≤ sh ∧ sh ≤ 20 ∧ ∀ t ∈ ts, t.1 ≤ t.2 ∧ -1048576 ≤ t.1 ∧ t.2 ≤ 1048576 := by
  have h1 : modOK ts sh = true := by
    cases e : modOK ts sh
    · simp [modErr, e] at h
    · rfl
  simp only [modOK, inB, Bool.and_eq_true, decide_eq_true_eq, Bool.not_eq_true', List.any_eq_false, tapBad] at h1
  refine ⟨by omega, by omega, by omega, by omega, fun t ht => ?_⟩
  have := h1.2.1 t ht
  omega

theorem serErr_zero {xs : List Int} (h : serErr xs = 0) : xs.length ≤ 4096 ∧ ∀ x ∈ xs, -8388608 ≤ x ∧ x ≤ 8388608 := by
  have h1 : serOK xs = true := by
    cases e : serOK xs
    · simp [serErr, e] at h
    · rfl
  simpa [serOK, inB] using h1

theorem lohi_bd {ts : List (Int × Int)} {xs : List Int} {sh : Int} (h : modErr ts sh = 0) (hx : serErr xs = 0) (t : Nat) (ht : t < xs.length) (n : Nat) (hn : n ≤ ts.length) (hnt : n ≤ t + 1) :
    -(8796093022208 * (n : Int)) ≤ loS ts xs t n ∧ loS ts xs t n ≤ 8796093022208 * (n : Int) ∧ -(8796093022208 * (n : Int)) ≤ hiS ts xs t n ∧ hiS ts xs t n ≤ 8796093022208 * (n : Int) := by
  induction n with
  | zero => simp [loS, hiS]
  | succ n ih =>
    have ih := ih (by omega) (by omega)
    have m1 := (modErr_zero h).2.2.2.2 (ts.getD n (0, 0)) (by
      rw [List.getD_eq_getElem?_getD, List.getElem?_eq_getElem (by omega)]; exact List.getElem_mem _)
    have m2 := (serErr_zero hx).2 (xs.getD (t - n) 0) (by
      rw [List.getD_eq_getElem?_getD, List.getElem?_eq_getElem (by omega)]; exact List.getElem_mem _)
    have p1 := prod_bd (a := (ts.getD n (0, 0)).1) (x := xs.getD (t - n) 0) (by omega) (by omega) (by omega) (by omega)
    have p2 := prod_bd (a := (ts.getD n (0, 0)).2) (x := xs.getD (t - n) 0) (by omega) (by omega) (by omega) (by omega)
    simp only [loS, hiS]
    push_cast
    omega

theorem Tryz.infoBand : (Tryz.prog.info? 98).map (fun i => (i.zero, i.size, i.bytes)) = some (some (.agg #[.int .i64 0, .int .i64 0]), 2, 16) := by kernel_rfl

set_option maxRecDepth 100000 in
theorem strain_any (ao : Option Addr) (ts : List (Int × Int)) (cap : Nat) (sh : Int) (ax : Option Addr) (xs : List Int) (cx : Nat) (w : World) (hc : Cells w ao (prs ts)) (hl : ts.length ≤ 9223372036854775807) (hx : Cells w ax (xs.map (Value.int .i64))) (hlx : xs.length ≤ 9223372036854775807) :
    Calls Tryz.prog 57 #[.agg #[.slice ao ts.length cap, .int .i64 sh], .slice ax xs.length cx] w fun e w' => (∃ a c, e = .returned (.tuple #[.slice a (strain ts sh xs).length c, .int .i64 (strErr ts sh xs)]) ∧ Cells w' a (prs (strain ts sh xs))) ∧ Below w.heap.size w w' := by
  have HC := Lib.hid hc; clear hc
  have HX := Lib.hid hx; clear hx
  by_cases h1 : modErr ts sh = 0
  · by_cases h2 : serErr xs = 0
    · go_enter Tryz.func57, Tryz.ntmps57
      go_wp2_with fail
      refine (checkModel_any ao ts cap sh _ (HC.out.below ((Below.refl _ _).alloc (Nat.le_refl _) _) (Nat.le_refl _)) hl).mono ?_
      rintro e w1 ⟨rfl, hb⟩
      rw [h1]
      go_wp2_with fail
      refine (checkSeries_any ax xs cx _ (HX.out.below (((Below.refl _ _).alloc (Nat.le_refl _) _).trans (hb.mono (by simp))) (Nat.le_refl _)) hlx).mono ?_
      rintro e w2 ⟨rfl, hb2⟩
      rw [h2]
      have hm := modErr_zero h1
      have hs := serErr_zero h2
      have hbd := fun t ht n hn hnt => lohi_bd h1 h2 t ht n hn hnt
      have H1 := Lib.hid h1; clear h1
      have H2 := Lib.hid h2; clear h2
      obtain ⟨hm1, hm2, hm3, hm4, hm5⟩ := hm
      obtain ⟨hs1, hs2⟩ := hs
      have HM5 := Lib.hid hm5; clear hm5
      have HS2 := Lib.hid hs2; clear hs2
      have HBD := Lib.hid hbd; clear hbd
      obtain ⟨shn, rfl⟩ := Int.eq_ofNat_of_zero_le hm3
      have hbe : Below (w.heap.size + 1) (w.alloc (.cells #[.slice ao ts.length cap, .int .i64 shn] 96)) w2 := (hb.mono (by simp)).trans (hb2.mono (by have := hb.size; simpa using this))
      clear hb hb2
      obtain ⟨i0, hi, hz0, hz1, hz2⟩ := info_parts Tryz.infoBand
      go_wp2
      go_loopw [8, 28] (fun v i wr => ∃ k : Nat, k ≤ xs.length ∧ i = .int .i64 k ∧ wr.ownsRow (w.heap.size + 1) 98 2 v k (prs (bands ts shn xs k)) ∧ Below (w.heap.size + 1) (w.alloc (.cells #[.slice ao ts.length cap, .int .i64 shn] 96)) wr) (fun _ i _ => xs.length - (intOf i).toNat)
      case atStart => exact ⟨0, Nat.zero_le _, rfl, World.ownsRow_nil _ _ _ _, hbe⟩
      case round =>
        obtain ⟨k, hk, rfl, hown, hb⟩ := hrel
        obtain ⟨wo, rfl⟩ : ∃ wo : World, wo = wr := ⟨_, rfl⟩
        have hc0 : wo.cell? ⟨w.heap.size, 0, none⟩ = some (.slice ao ts.length cap) := box_keep hb (by simp) 0
        have hc1 : wo.cell? ⟨w.heap.size, 1, none⟩ = some (.int .i64 shn) := box_keep hb (by simp) 1
        have hsz : w.heap.size + 1 ≤ wo.heap.size := by have := hb.size; simpa using this
        by_cases hlt : k < xs.length
        · have HO := Lib.hid hown; clear hown
          go_wp2
          go_loopw [10, 11, 34] (fun lo hi j wi => ∃ n : Nat, n ≤ ts.length ∧ n ≤ k + 1 ∧ j = .int .i64 n ∧ lo = .int .i64 (loS ts xs k n) ∧ hi = .int .i64 (hiS ts xs k n) ∧ wi.ownsRow (w.heap.size + 1) 98 2 u8 k (prs (bands ts shn xs k)) ∧ Below (w.heap.size + 1) (w.alloc (.cells #[.slice ao ts.length cap, .int .i64 shn] 96)) wi) (fun _ _ j _ => ts.length - (intOf j).toNat)
          case atStart => exact ⟨0, Nat.zero_le _, Nat.zero_le _, rfl, rfl, rfl, HO.out, hb⟩
          case round =>
            clear hb hc0 hc1 hsz
            obtain ⟨n, hn, hnk, rfl, rfl, rfl, hown, hb⟩ := hrel
            have HO := Lib.hid hown; clear hown
            have hc0 : wr.cell? ⟨w.heap.size, 0, none⟩ = some (.slice ao ts.length cap) := box_keep hb (by simp) 0
            have hc1 : wr.cell? ⟨w.heap.size, 1, none⟩ = some (.int .i64 shn) := box_keep hb (by simp) 1
            have hsz : w.heap.size + 1 ≤ wr.heap.size := by have := hb.size; simpa using this
            have hbw : Below w.heap.size w wr := ((Below.refl _ _).alloc (Nat.le_refl _) _).trans (hb.mono (by omega))
            obtain ⟨b1, b2, b3, b4⟩ := HBD.out k hlt n hn hnk
            by_cases hgo : n < ts.length ∧ n ≤ k
            · obtain ⟨hg1, hg2⟩ := hgo
              obtain ⟨⟨x1, x2⟩, hx⟩ := get_of_lt hg1
              obtain ⟨y, hy⟩ := get_of_lt (show k - n < xs.length by omega)
              obtain ⟨b, off, rfl⟩ := HC.out.addr (prs_ne (by omega))
              obtain ⟨bx, ox, rfl⟩ := HX.out.addr (by simpa using List.ne_nil_of_length_pos (by omega))
              have hcell1 := cell_keep (HC.out.at (prs_fst hx)) hbw (Nat.le_refl _)
              have hcell2 := cell_keep (HC.out.at (prs_snd hx)) hbw (Nat.le_refl _)
              rw [← Nat.add_assoc] at hcell2
              simp only at hcell1 hcell2
              have hcell3 := cell_keep (HX.out.int hy) hbw (Nat.le_refl _)
              have t1 := HM5.out _ (List.mem_of_getElem? hx)
              have t2 := HS2.out _ (List.mem_of_getElem? hy)
              simp only at t1
              have p1 := prod_bd (a := x1) (x := y) (by omega) (by omega) (by omega) (by omega)
              have p2 := prod_bd (a := x2) (x := y) (by omega) (by omega) (by omega) (by omega)
              have e1 : loS ts xs k (n + 1) = loS ts xs k n + min (x1 * y) (x2 * y) := by simp [loS, hx, hy]
              have e2 : hiS ts xs k (n + 1) = hiS ts xs k n + max (x1 * y) (x2 * y) := by simp [hiS, hx, hy]
              have E1 := Lib.hid e1; clear e1
              have E2 := Lib.hid e2; clear e2
              clear hx hy
              go_wp2
              have q1 : IntKind.i64.wrap ((k : Int) - n) = (k : Int) - n := IntWalk.i64_in _ (by omega)
              have q2 : 0 ≤ (k : Int) - n := by omega
              have q3 : (k : Int) - n < xs.length := by omega
              have q4 : ((k : Int) - n).toNat = k - n := by omega
              have q5 : IntKind.i64.wrap (x1 * y) = x1 * y := IntWalk.i64_in _ (by omega)
              have q6 : IntKind.i64.wrap (x2 * y) = x2 * y := IntWalk.i64_in _ (by omega)
              have q7 := cell_keep hcell3 ((Below.refl _ _).alloc (Nat.le_refl _) (.cells #[.int .i64 x1, .int .i64 x2] 93)) (Nat.le_refl _)
              go_quiet (fail)
              clear q1 q2 q3 q4 q5 q6 q7
              go_wp2
              go_roundw
              case rel => exact ⟨n + 1, by omega, by omega, by go_num, by first | rw [E1.out, min_if] | rw [E1.out], by first | rw [E2.out, max_if] | rw [E2.out], own_drewN (HO.out.alloc _) _, bel_drewN (hb.alloc hsz _) _⟩
              case measure => simp [intOf]; omega
            · have hn' : n = min ts.length (k + 1) := by omega
              have hfin : bandAt ts shn xs k = (loS ts xs k n / 2 ^ shn, -(-(hiS ts xs k n) / 2 ^ shn)) := by rw [bandAt, ← hn']
              have HF := Lib.hid hfin; clear hfin hn'
              by_cases hex : n < ts.length
              · have hkn : n = k + 1 := by omega
                obtain ⟨⟨x1, x2⟩, hx⟩ := get_of_lt hex
                obtain ⟨b, off, rfl⟩ := HC.out.addr (prs_ne (by omega))
                have hcell1 := cell_keep (HC.out.at (prs_fst hx)) hbw (Nat.le_refl _)
                have hcell2 := cell_keep (HC.out.at (prs_snd hx)) hbw (Nat.le_refl _)
                rw [← Nat.add_assoc] at hcell2
                simp only at hcell1 hcell2
                clear hx
                have hkn' : k < n := by omega
                have HKN := Lib.hid hkn; clear hkn
                go_wp2
                have hoq := HO.out.alloc (.cells #[.int .i64 x1, .int .i64 x2] 93)
                have hbq := hb.alloc hsz (.cells #[.int .i64 x1, .int .i64 x2] 93)
                generalize wr.alloc (.cells #[.int .i64 x1, .int .i64 x2] 93) = wq at *
                clear hb hc0 hc1 hsz hbw hcell1 hcell2
                have hne : ¬ some w.heap.size = u8.ownBlock := fun e => by have := (hoq.lt _ e.symm).1; omega
                have hob : ∀ j, u8.ownBlock = some j → w.heap.size + 1 ≤ j := fun j e => (hoq.lt j e).1
                have HOB := Lib.hid hob; clear hob
                have HOQ := Lib.hid hoq; clear hoq
                have hc1 : wq.cell? ⟨w.heap.size, 1, none⟩ = some (.int .i64 shn) := box_keep hbq (by simp) 1
                have hsz : w.heap.size + 1 ≤ wq.heap.size := by have := hbq.size; simpa using this
                have hd := div_pow_bd (x := -(hiS ts xs k n)) (M := 140737488355328) shn (by omega) (by omega) (by omega)
                have g1 : IntKind.i64.wrap (-(hiS ts xs k n)) = -(hiS ts xs k n) := IntWalk.i64_in _ (by omega)
                have g2 : IntKind.i64.wrap (-(-(hiS ts xs k n) / 2 ^ shn)) = -(-(hiS ts xs k n) / 2 ^ shn) := IntWalk.i64_in _ (by omega)
                have g3 : min shn 64 = shn := by omega
                go_region_held3 (fun w' => w'.cell? ⟨w.heap.size, 1, none⟩ = some (.int .i64 shn))
                  (first | go_keep | (rw [hgrow.cell_far _ (by simp; omega) hne]; assumption))
                  ((refine step_append_lies _ (by rfl) _ _ _ (by rfl) (w.heap.size + 1) 98 i0 _ 2 16 Tryz.underlying89 hi hz0 hz1 hz2 rfl (by omega) u8 k (prs (bands ts shn xs k)) (by rfl) ((HOQ.out.alloc _).drew) ⟨wq.heap.size, 0, none⟩ 1 1 [.int .i64 (loS ts xs k n / 2 ^ shn), .int .i64 (-(-(hiS ts xs k n) / 2 ^ shn))] (by rfl) (by rfl) (World.news_of_block (cs := #[.int .i64 (loS ts xs k n / 2 ^ shn), .int .i64 (-(-(hiS ts xs k n) / 2 ^ shn))]) (t := 98) (fr := (0, 0)) (heap_alloc_new wq _)) (by simp [Value.oneCell']) (by omega) (by unfold maxLen; omega) (by omega) (by simp; omega) (wq.heap.size + 1) (by simp) ?_; intro gg cp wz hown1 hgrow hat hlt1))
                have hfin := hown1
                rw [show prs (bands ts shn xs k) ++ [.int .i64 (loS ts xs k n / 2 ^ shn), .int .i64 (-(-(hiS ts xs k n) / 2 ^ shn))] = prs (bands ts shn xs (k + 1)) from by rw [bands_succ, prs_append, HF.out]; rfl] at hfin
                have hbz := (bel_drewN (hbq.alloc hsz (.cells #[.int .i64 (loS ts xs k n / 2 ^ shn), .int .i64 (-(-(hiS ts xs k n) / 2 ^ shn))] 98)) 1).grown hgrow (by simp; omega) HOB.out
                clear hown1 hgrow g1 g2 g3 hd
                have HFIN := Lib.hid hfin; clear hfin
                go_wp2
                go_roundw
                case rel => exact ⟨k + 1, by omega, by go_num, HFIN.out, hbz⟩
                case measure => simp [intOf]; omega
              · go_wp2
                have hoq := HO.out
                have hbq := hb
                obtain ⟨wq, rfl⟩ : ∃ wq : World, wq = wr := ⟨_, rfl⟩
                clear hb hc0 hc1 hsz hbw
                have hne : ¬ some w.heap.size = u8.ownBlock := fun e => by have := (hoq.lt _ e.symm).1; omega
                have hob : ∀ j, u8.ownBlock = some j → w.heap.size + 1 ≤ j := fun j e => (hoq.lt j e).1
                have HOB := Lib.hid hob; clear hob
                have HOQ := Lib.hid hoq; clear hoq
                have hc1 : wq.cell? ⟨w.heap.size, 1, none⟩ = some (.int .i64 shn) := box_keep hbq (by simp) 1
                have hsz : w.heap.size + 1 ≤ wq.heap.size := by have := hbq.size; simpa using this
                have hd := div_pow_bd (x := -(hiS ts xs k n)) (M := 140737488355328) shn (by omega) (by omega) (by omega)
                have g1 : IntKind.i64.wrap (-(hiS ts xs k n)) = -(hiS ts xs k n) := IntWalk.i64_in _ (by omega)
                have g2 : IntKind.i64.wrap (-(-(hiS ts xs k n) / 2 ^ shn)) = -(-(hiS ts xs k n) / 2 ^ shn) := IntWalk.i64_in _ (by omega)
                have g3 : min shn 64 = shn := by omega
                go_region_held3 (fun w' => w'.cell? ⟨w.heap.size, 1, none⟩ = some (.int .i64 shn))
                  (first | go_keep | (rw [hgrow.cell_far _ (by simp; omega) hne]; assumption))
                  ((refine step_append_lies _ (by rfl) _ _ _ (by rfl) (w.heap.size + 1) 98 i0 _ 2 16 Tryz.underlying89 hi hz0 hz1 hz2 rfl (by omega) u8 k (prs (bands ts shn xs k)) (by rfl) ((HOQ.out.alloc _).drew) ⟨wq.heap.size, 0, none⟩ 1 1 [.int .i64 (loS ts xs k n / 2 ^ shn), .int .i64 (-(-(hiS ts xs k n) / 2 ^ shn))] (by rfl) (by rfl) (World.news_of_block (cs := #[.int .i64 (loS ts xs k n / 2 ^ shn), .int .i64 (-(-(hiS ts xs k n) / 2 ^ shn))]) (t := 98) (fr := (0, 0)) (heap_alloc_new wq _)) (by simp [Value.oneCell']) (by omega) (by unfold maxLen; omega) (by omega) (by simp; omega) (wq.heap.size + 1) (by simp) ?_; intro gg cp wz hown1 hgrow hat hlt1))
                have hfin := hown1
                rw [show prs (bands ts shn xs k) ++ [.int .i64 (loS ts xs k n / 2 ^ shn), .int .i64 (-(-(hiS ts xs k n) / 2 ^ shn))] = prs (bands ts shn xs (k + 1)) from by rw [bands_succ, prs_append, HF.out]; rfl] at hfin
                have hbz := (bel_drewN (hbq.alloc hsz (.cells #[.int .i64 (loS ts xs k n / 2 ^ shn), .int .i64 (-(-(hiS ts xs k n) / 2 ^ shn))] 98)) 1).grown hgrow (by simp; omega) HOB.out
                clear hown1 hgrow g1 g2 g3 hd
                have HFIN := Lib.hid hfin; clear hfin
                go_wp2
                go_roundw
                case rel => exact ⟨k + 1, by omega, by go_num, HFIN.out, hbz⟩
                case measure => simp [intOf]; omega
        · obtain rfl : k = xs.length := by omega
          obtain ⟨a, c, rfl, hcs⟩ := own_cells hown
          have hst : strain ts shn xs = bands ts shn xs xs.length := by simp [strain, strErr, H1.out, H2.out]
          have hse : strErr ts shn xs = 0 := by simp [strErr, H1.out, H2.out]
          have HST := Lib.hid hst; clear hst
          have HSE := Lib.hid hse; clear hse
          have HCS := Lib.hid hcs; clear hcs
          have HO := Lib.hid hown; clear hown
          go_wp2
          go_ret2
          refine ⟨⟨a, c, ?_, ?_⟩, ((Below.refl _ _).alloc (Nat.le_refl _) _).trans (hb.mono (by omega))⟩
          · rw [HST.out, HSE.out, bands_length]; rfl
          · rw [HST.out]; exact HCS.out
    · have hst : strain ts sh xs = [] := by simp [strain, strErr, h1, h2]
      have hse : strErr ts sh xs = serErr xs := by simp [strErr, h1]
      have HST := Lib.hid hst; clear hst
      have HSE := Lib.hid hse; clear hse
      have h3 : (serErr xs != 0) = true := by simpa using h2
      have h4 : (serErr xs == 0) = false := by simpa using h2
      go_enter Tryz.func57, Tryz.ntmps57
      go_wp2_with fail
      refine (checkModel_any ao ts cap sh _ (HC.out.below ((Below.refl _ _).alloc (Nat.le_refl _) _) (Nat.le_refl _)) hl).mono ?_
      rintro e w1 ⟨rfl, hb⟩
      rw [h1]
      go_wp2_with fail
      refine (checkSeries_any ax xs cx _ (HX.out.below (((Below.refl _ _).alloc (Nat.le_refl _) _).trans (hb.mono (by simp))) (Nat.le_refl _)) hlx).mono ?_
      rintro e w2 ⟨rfl, hb2⟩
      go_wp2
      go_ret2
      refine ⟨⟨none, 0, ?_, ?_⟩, (((Below.refl _ _).alloc (Nat.le_refl _) _).trans (hb.mono (by simp))).trans (hb2.mono (by have := hb.size; simp at this; omega))⟩
      · rw [HST.out, HSE.out]; rfl
      · rw [HST.out]; exact Cells.nil _ _
  · have hst : strain ts sh xs = [] := by simp [strain, strErr, h1]
    have hse : strErr ts sh xs = modErr ts sh := by simp [strErr, h1]
    have HST := Lib.hid hst; clear hst
    have HSE := Lib.hid hse; clear hse
    have h3 : (modErr ts sh != 0) = true := by simpa using h1
    have h4 : (modErr ts sh == 0) = false := by simpa using h1
    go_enter Tryz.func57, Tryz.ntmps57
    go_wp2_with fail
    refine (checkModel_any ao ts cap sh _ (HC.out.below ((Below.refl _ _).alloc (Nat.le_refl _) _) (Nat.le_refl _)) hl).mono ?_
    rintro e w1 ⟨rfl, hb⟩
    go_wp2
    go_ret2
    refine ⟨⟨none, 0, ?_, ?_⟩, ((Below.refl _ _).alloc (Nat.le_refl _) _).trans (hb.mono (by simp))⟩
    · rw [HST.out, HSE.out]; rfl
    · rw [HST.out]; exact Cells.nil _ _
end Go.Proofs.YtmafjfhnejeogaaGreatDoor

/- Lines: lined, Inject, amplitude. -/
namespace Go.Proofs.YtmafjfhnejeogaaGreatDoor
open Go.RowKit

def linedErr (sh xs : List Int) : Int := if lineErr sh ≠ 0 then lineErr sh else serErr xs

theorem lined_any (ao : Option Addr) (sh : List Int) (cap : Nat) (ax : Option Addr) (xs : List Int) (cx : Nat) (w : World) (hc : Cells w ao (sh.map (Value.int .i64))) (hl : sh.length ≤ 17592186044416) (hx : Cells w ax (xs.map (Value.int .i64))) (hlx : xs.length ≤ 9223372036854775807) :
    Calls Tryz.prog 47 #[.slice ao sh.length cap, .slice ax xs.length cx] w fun e w' => e = .returned (.int .i64 (linedErr sh xs)) ∧ Below w.heap.size w w' := by
  have HC := Lib.hid hc; clear hc
  have HX := Lib.hid hx; clear hx
  by_cases h1 : lineErr sh = 0
  · have he : linedErr sh xs = serErr xs := by simp [linedErr, h1]
    have HE := Lib.hid he; clear he
    have H1 := Lib.hid h1; clear h1
    go_enter Tryz.func47, Tryz.ntmps47
    go_wp2_with fail
    refine (checkLine_any ao sh cap _ HC.out hl).mono ?_
    rintro e w1 ⟨rfl, rfl⟩
    rw [H1.out]
    go_wp2_with fail
    refine (checkSeries_any ax xs cx _ HX.out hlx).mono ?_
    rintro e w2 ⟨rfl, hb2⟩
    go_wp2
    go_ret
    exact ⟨ret_int HE.out.symm, hb2⟩
  · have he : linedErr sh xs = lineErr sh := by simp [linedErr, h1]
    have HE := Lib.hid he; clear he
    have h3 : (lineErr sh != 0) = true := by simpa using h1
    have h4 : (lineErr sh == 0) = false := by simpa using h1
    go_enter Tryz.func47, Tryz.ntmps47
    go_wp2_with fail
    refine (checkLine_any ao sh cap _ HC.out hl).mono ?_
    rintro e w1 ⟨rfl, rfl⟩
    go_wp2
    go_ret
    exact ⟨ret_int HE.out.symm, Below.refl _ _⟩

theorem lineErr_zero {xs : List Int} (h : lineErr xs = 0) : 2 ≤ xs.length ∧ xs.length ≤ 32 ∧ sumL xs = 0 ∧ ∀ x ∈ xs, -1000 ≤ x ∧ x ≤ 1000 := by
  have h1 : lineOK xs = true := by
    cases e : lineOK xs
    · simp [lineErr, e] at h
    · rfl
  simp only [lineOK, inB, Bool.and_eq_true, decide_eq_true_eq, List.all_eq_true] at h1
  exact ⟨by omega, by omega, h1.2.2.1, h1.1⟩

theorem linedErr_zero {sh xs : List Int} (h : linedErr sh xs = 0) : lineErr sh = 0 ∧ serErr xs = 0 := by
  by_cases h1 : lineErr sh = 0
  · exact ⟨h1, by simpa [linedErr, h1] using h⟩
  · simp [linedErr, h1] at h

def injAt (sh : List Int) (a : Int) (xs : List Int) (t : Nat) : Int := xs.getD t 0 + a * sh.getD (t % sh.length) 0
def inj (sh : List Int) (a : Int) (xs : List Int) (n : Nat) : List Int := (List.range n).map (injAt sh a xs)
theorem inj_length (sh : List Int) (a : Int) (xs : List Int) (n : Nat) : (inj sh a xs n).length = n := by simp [inj]
theorem inj_succ (sh : List Int) (a : Int) (xs : List Int) (n : Nat) : inj sh a xs (n + 1) = inj sh a xs n ++ [injAt sh a xs n] := by simp [inj, List.range_succ]
def injErr (sh : List Int) (a : Int) (xs : List Int) : Int :=
  if linedErr sh xs ≠ 0 then linedErr sh xs else if inB (-1000) a 1000 = false then 8 else if serOK (inj sh a xs xs.length) = false then 8 else 0
def injRes (sh : List Int) (a : Int) (xs : List Int) : List Int := if injErr sh a xs = 0 then inj sh a xs xs.length else []

theorem mul_bd {a x A X : Int} (h1 : -A ≤ a) (h2 : a ≤ A) (h3 : -X ≤ x) (h4 : x ≤ X) : -(A * X) ≤ a * x ∧ a * x ≤ A * X := by
  have ha : a.natAbs ≤ A.natAbs := by omega
  have hx : x.natAbs ≤ X.natAbs := by omega
  have h := Nat.mul_le_mul ha hx
  rw [← Int.natAbs_mul, ← Int.natAbs_mul] at h
  have : 0 ≤ A * X := Int.mul_nonneg (by omega) (by omega)
  omega

theorem Tryz.infoInt : (Tryz.prog.info? 3).map (fun i => (i.zero, i.size, i.bytes)) = some (some (.int .i64 0), 1, 8) := by kernel_rfl

set_option maxRecDepth 100000 in
set_option maxHeartbeats 1000000 in
theorem inject_any (ao : Option Addr) (sh : List Int) (cap : Nat) (a : Int) (ax : Option Addr) (xs : List Int) (cx : Nat) (w : World) (hc : Cells w ao (sh.map (Value.int .i64))) (hl : sh.length ≤ 17592186044416) (hx : Cells w ax (xs.map (Value.int .i64))) (hlx : xs.length ≤ 9223372036854775807) :
    Calls Tryz.prog 14 #[.slice ao sh.length cap, .int .i64 a, .slice ax xs.length cx] w fun e w' => (∃ b c, e = .returned (.tuple #[.slice b (injRes sh a xs).length c, .int .i64 (injErr sh a xs)]) ∧ Cells w' b ((injRes sh a xs).map (Value.int .i64))) ∧ Below w.heap.size w w' := by
  have HC := Lib.hid hc; clear hc
  have HX := Lib.hid hx; clear hx
  by_cases h1 : linedErr sh xs = 0
  · cases h2 : inB (-1000) a 1000
    · have he : injErr sh a xs = 8 := by simp [injErr, h1, h2]
      have hr : injRes sh a xs = [] := by simp [injRes, he]
      have HE := Lib.hid he; clear he
      have HR := Lib.hid hr; clear hr
      have H1 := Lib.hid h1; clear h1
      go_enter Tryz.func14, Tryz.ntmps14
      go_wp2_with fail
      refine (lined_any ao sh cap ax xs cx _ HC.out hl HX.out hlx).mono ?_
      rintro e w1 ⟨rfl, hb⟩
      rw [H1.out]
      go_wp2_with fail
      refine (within_any _ _ _ _).mono ?_
      rintro e w2 ⟨rfl, rfl⟩
      go_wp2
      go_ret2
      exact ⟨⟨none, 0, by rw [HE.out, HR.out]; rfl, by rw [HR.out]; exact Cells.nil _ _⟩, hb⟩
    · obtain ⟨hl1, hl2⟩ := linedErr_zero h1
      have l1 := lineErr_zero hl1
      have l2 := serErr_zero hl2
      obtain ⟨l11, l12, _, l13⟩ := l1
      obtain ⟨l21, l22⟩ := l2
      have ha : -1000 ≤ a ∧ a ≤ 1000 := by simpa [inB] using h2
      obtain ⟨ha1, ha2⟩ := ha
      have he : injErr sh a xs = if serOK (inj sh a xs xs.length) = false then 8 else 0 := by simp [injErr, h1, h2]
      have HE := Lib.hid he; clear he
      have H1 := Lib.hid h1; clear h1
      have L13 := Lib.hid l13; clear l13
      have L22 := Lib.hid l22; clear l22
      have H2 := Lib.hid h2; clear h2
      clear hl1 hl2
      obtain ⟨i0, hi, hz0, hz1, hz2⟩ := info_parts Tryz.infoInt
      go_enter Tryz.func14, Tryz.ntmps14
      go_wp2_with fail
      refine (lined_any ao sh cap ax xs cx _ HC.out hl HX.out hlx).mono ?_
      rintro e w1 ⟨rfl, hb⟩
      rw [H1.out]
      go_wp2_with fail
      refine (within_any _ _ _ _).mono ?_
      rintro e w2 ⟨rfl, rfl⟩
      rw [H2.out]
      go_wp2
      go_loopw [9, 23] (fun v i wr => ∃ k : Nat, k ≤ xs.length ∧ i = .int .i64 k ∧ wr.ownsRow w.heap.size 3 1 v k ((inj sh a xs k).map (Value.int .i64)) ∧ Below w.heap.size w wr) (fun _ i _ => xs.length - (intOf i).toNat)
      case atStart => exact ⟨0, Nat.zero_le _, rfl, World.ownsRow_nil _ _ _ _, hb⟩
      case round =>
        clear hb
        obtain ⟨k, hk, rfl, hown, hb⟩ := hrel
        by_cases hlt : k < xs.length
        · obtain ⟨x, hx⟩ := get_of_lt hlt
          have hm0 : k % sh.length < sh.length := Nat.mod_lt _ (by omega)
          obtain ⟨y, hy⟩ := get_of_lt hm0
          obtain ⟨b, off, rfl⟩ := HC.out.addr (by simpa using List.ne_nil_of_length_pos (by omega))
          obtain ⟨bx, ox, rfl⟩ := HX.out.addr (by simpa using List.ne_nil_of_length_pos (by omega))
          have c1 := cell_keep (HX.out.int hx) hb (Nat.le_refl _)
          have c2 := cell_keep (HC.out.int hy) hb (Nat.le_refl _)
          have t1 := L22.out _ (List.mem_of_getElem? hx)
          have t2 := L13.out _ (List.mem_of_getElem? hy)
          have p1 := mul_bd ha1 ha2 t2.1 t2.2
          obtain ⟨t11, t12⟩ := t1
          obtain ⟨p11, p12⟩ := p1
          have hat : injAt sh a xs k = x + a * y := by simp [injAt, hx, hy]
          have HAT := Lib.hid hat; clear hat hx hy
          have hsz := hb.size
          have HOB : Hid (∀ j, u9.ownBlock = some j → w.heap.size ≤ j) := fun j e => (hown.lt j e).1
          go_wp2_with (at_builtin; refine wpList_append_own _ rfl _ _ 22 rfl w.heap.size 3 i0 (.int .i64 0) 1 8 Tryz.underlying22 hi hz0 hz1 hz2 rfl (by decide) _ _ _ rfl (hown.alloc _) ⟨wr.heap.size, 0, none⟩ 1 1 [.int .i64 (x + a * y)] rfl rfl (news1 _ _ _) (by simp [Value.oneCell']) (by unfold maxLen; omega) (by omega) (by simp; omega) ?_; intro v1 wz hown1 hgrow _)
          all_goals
            have hfin := hown1
            rw [show (inj sh a xs k).map (Value.int .i64) ++ [.int .i64 (x + a * y)] = (inj sh a xs (k + 1)).map (Value.int .i64) from by rw [inj_succ, List.map_append, HAT.out]; rfl] at hfin
            have hbz := (hb.alloc hsz (.cells #[.int .i64 (x + a * y)] 3)).grown hgrow (by simp; omega) HOB.out
            clear hown1 hgrow hown
            have HFIN := Lib.hid hfin; clear hfin
            go_wp2
            go_roundw
            case rel => exact ⟨k + 1, by omega, by go_num, HFIN.out, hbz⟩
            case measure => simp [intOf]; omega
        · obtain rfl : k = xs.length := by omega
          obtain ⟨g, c, rfl, hcs⟩ := own_cells hown
          have hli : (inj sh a xs xs.length).length = xs.length := inj_length _ _ _ _
          have HCS := Lib.hid hcs; clear hcs hown
          have hser := fun (wx : World) (h : Cells wx g ((inj sh a xs xs.length).map (Value.int .i64))) => seriesOK_any g (inj sh a xs xs.length) c wx h (by rw [hli]; omega)
          rw [hli] at hser
          have HL := Lib.hid hli; clear hli
          have HSER := Lib.hid hser; clear hser
          cases hok : serOK (inj sh a xs xs.length)
          · have he : injErr sh a xs = 8 := by rw [HE.out, hok]; rfl
            have hr : injRes sh a xs = [] := by simp [injRes, he]
            have HE2 := Lib.hid he; clear he
            have HR2 := Lib.hid hr; clear hr
            have HOK := Lib.hid hok; clear hok
            go_wp2_with fail
            refine (HSER.out _ HCS.out).mono ?_
            rintro e w2 ⟨rfl, hb2⟩
            rw [HOK.out]
            go_wp2
            go_ret2
            exact ⟨⟨none, 0, by rw [HE2.out, HR2.out]; rfl, by rw [HR2.out]; exact Cells.nil _ _⟩, hb.trans (hb2.mono hb.size)⟩
          · have he : injErr sh a xs = 0 := by rw [HE.out, hok]; rfl
            have hr : injRes sh a xs = inj sh a xs xs.length := by simp [injRes, he]
            have HE2 := Lib.hid he; clear he
            have HR2 := Lib.hid hr; clear hr
            have HOK := Lib.hid hok; clear hok
            go_wp2_with fail
            refine (HSER.out _ HCS.out).mono ?_
            rintro e w2 ⟨rfl, hb2⟩
            rw [HOK.out]
            go_wp2
            go_ret2
            exact ⟨⟨g, c, by rw [HE2.out, HR2.out, HL.out]; rfl, by rw [HR2.out]; exact HCS.out.below hb2 (Nat.le_refl _)⟩, hb.trans (hb2.mono hb.size)⟩
  · have he : injErr sh a xs = linedErr sh xs := by simp [injErr, h1]
    have hr : injRes sh a xs = [] := by simp [injRes, he, h1]
    have HE := Lib.hid he; clear he
    have HR := Lib.hid hr; clear hr
    have h3 : (linedErr sh xs != 0) = true := by simpa using h1
    have h4 : (linedErr sh xs == 0) = false := by simpa using h1
    go_enter Tryz.func14, Tryz.ntmps14
    go_wp2_with fail
    refine (lined_any ao sh cap ax xs cx _ HC.out hl HX.out hlx).mono ?_
    rintro e w1 ⟨rfl, hb⟩
    go_wp2
    go_ret2
    exact ⟨⟨none, 0, by rw [HE.out, HR.out]; rfl, by rw [HR.out]; exact Cells.nil _ _⟩, hb⟩
end Go.Proofs.YtmafjfhnejeogaaGreatDoor
