/- Parts of a proof, in build order: V0, A0, A1, A2, A3, A4, W0, A5. -/
import Derived.Test.YtoochleabcjljaaDoorProg
import Derived.WalkKit
import Derived.WalkSpells
import Derived.WalkLawsBesides
import Derived.Lib.Hide
import Derived.Outline
import Derived.Deep.LoopGhost
import Derived.Deep.DeepMust
import Derived.Deep.DeepFit
import Derived.Deep.QuietTactic
import Derived.BigQuiet
import Derived.StillTailTactics
import Derived.Deep.RegionHeld3
import Derived.Deep.AppendLies

/- Words of our own on cells, over any program: what a slice's cells hold, and how that stays. -/
namespace Go.Proofs.YtoochleabcjljaaDoor
open Go.RowKit

theorem ret_bool {a b : Bool} (h : a = b) : Ending.returned (.bool a) = .returned (.bool b) := by rw [h]
theorem ret_int {k : IntKind} {a b : Int} (h : a = b) : Ending.returned (.int k a) = .returned (.int k b) := by rw [h]

/-- The cells 'cs' lie from the address on (of no cells nothing is said). -/
def Cells (w : World) (ao : Option Addr) (cs : List Value) : Prop :=
  cs = [] ∨ ∃ b off, ao = some ⟨b, off, none⟩ ∧ ∀ j u, cs[j]? = some u → w.cell? ⟨b, off + j, none⟩ = some u

theorem Cells.nil (w : World) (ao : Option Addr) : Cells w ao [] := .inl rfl

theorem Cells.below {w w' : World} {B : Nat} {ao : Option Addr} {cs : List Value} (h : Cells w ao cs) (hb : Below B w w') (hB : w.heap.size ≤ B) : Cells w' ao cs := by
  rcases h with h | ⟨b, off, h1, h2⟩
  · exact .inl h
  · refine .inr ⟨b, off, h1, fun j u hu => ?_⟩
    have h3 := h2 j u hu
    have h4 := World.block_lt_of_cell? w _ h3
    rw [hb.cell (p := ⟨b, off + j, none⟩) (by simp at h4 ⊢; omega)]
    exact h3

/-- below, cell by cell -/
theorem cell_keep {w w' : World} {B : Nat} {p : Addr} {v : Value} (h : w.cell? p = some v) (hb : Below B w w') (hB : w.heap.size ≤ B) : w'.cell? p = some v := by
  have h4 := World.block_lt_of_cell? w _ h
  rw [hb.cell (p := p) (by omega)]; exact h

theorem Cells.int {w : World} {b off : Nat} {k : IntKind} {xs : List Int} (h : Cells w (some ⟨b, off, none⟩) (xs.map (Value.int k))) {i : Nat} {x : Int} (hx : xs[i]? = some x) : w.cell? ⟨b, off + i, none⟩ = some (.int k x) := by
  rcases h with h | ⟨b', off', h1, h2⟩
  · have : xs = [] := by simpa using h
    rw [this] at hx; simp at hx
  · simp only [Option.some.injEq, Addr.mk.injEq] at h1
    obtain ⟨rfl, rfl, _⟩ := h1
    exact h2 i _ (by simp [hx])

/-- a slice of no elements, or one whose address is known -/
theorem Cells.cases {w : World} {ao : Option Addr} {cs : List Value} (h : Cells w ao cs) : cs = [] ∨ ∃ b off, ao = some ⟨b, off, none⟩ := by
  rcases h with h | ⟨b, off, h1, _⟩
  · exact .inl h
  · exact .inr ⟨b, off, h1⟩

theorem Cells.addr {w : World} {ao : Option Addr} {cs : List Value} (h : Cells w ao cs) (hne : cs ≠ []) : ∃ b off, ao = some ⟨b, off, none⟩ := by
  rcases h.cases with h | h
  · exact absurd h hne
  · exact h

theorem get_of_lt {α : Type} {xs : List α} {i : Nat} (h : i < xs.length) : ∃ x, xs[i]? = some x := ⟨xs[i], by simp [h]⟩
theorem take_get {α : Type} {xs : List α} {i : Nat} {x : α} (h : xs[i]? = some x) : xs.take (i + 1) = xs.take i ++ [x] := by
  rw [List.take_add_one, h]; rfl
/-- pairs of numbers, cell by cell -/
def prs (l : List (Int × Int)) : List Value := l.flatMap fun t => [.int .i64 t.1, .int .i64 t.2]
theorem prs_nil : prs [] = [] := rfl
theorem prs_cons (t : Int × Int) (l : List (Int × Int)) : prs (t :: l) = .int .i64 t.1 :: .int .i64 t.2 :: prs l := rfl
theorem prs_append (a b : List (Int × Int)) : prs (a ++ b) = prs a ++ prs b := by simp [prs]
theorem prs_length (l : List (Int × Int)) : (prs l).length = l.length * 2 := by
  induction l with
  | nil => rfl
  | cons t l ih => simp only [prs_cons, List.length_cons, ih]; omega
theorem prs_fst {l : List (Int × Int)} {i : Nat} {t : Int × Int} (h : l[i]? = some t) : (prs l)[i * 2]? = some (.int .i64 t.1) := by
  induction l generalizing i with
  | nil => simp at h
  | cons s l ih =>
    cases i with
    | zero => simp at h; subst h; simp [prs_cons]
    | succ i =>
      have e : (i + 1) * 2 = i * 2 + 1 + 1 := by omega
      rw [prs_cons, e, List.getElem?_cons_succ, List.getElem?_cons_succ]; exact ih (by simpa using h)
theorem prs_snd {l : List (Int × Int)} {i : Nat} {t : Int × Int} (h : l[i]? = some t) : (prs l)[i * 2 + 1]? = some (.int .i64 t.2) := by
  induction l generalizing i with
  | nil => simp at h
  | cons s l ih =>
    cases i with
    | zero => simp at h; subst h; simp [prs_cons]
    | succ i =>
      have e : (i + 1) * 2 + 1 = i * 2 + 1 + 1 + 1 := by omega
      rw [prs_cons, e, List.getElem?_cons_succ, List.getElem?_cons_succ]; exact ih (by simpa using h)
theorem prs_ne {l : List (Int × Int)} (h : 0 < l.length) : prs l ≠ [] := by
  intro e; have := prs_length l; rw [e] at this; simp at this; omega
theorem Cells.at {w : World} {b off : Nat} {cs : List Value} (h : Cells w (some ⟨b, off, none⟩) cs) {j : Nat} {u : Value} (hu : cs[j]? = some u) : w.cell? ⟨b, off + j, none⟩ = some u := by
  rcases h with h | ⟨b', off', h1, h2⟩
  · rw [h] at hu; simp at hu
  · simp only [Option.some.injEq, Addr.mk.injEq] at h1
    obtain ⟨rfl, rfl, _⟩ := h1
    exact h2 j u hu

/-- the cells of a new block, kept -/
theorem box_keep {w w1 : World} {cs : Array Value} {T : TypeId} {B : Nat} (hb : Below B (w.alloc (.cells cs T)) w1) (hB : w.heap.size < B) (i : Nat) : w1.cell? ⟨w.heap.size, i, none⟩ = cs[i]? := by
  rw [hb.cell (p := ⟨w.heap.size, i, none⟩) hB]; simp

/-- an owned row, as a slice -/
theorem own_cells {w : World} {b : Nat} {e : TypeId} {s : Nat} {v : Value} {n : Nat} {xs : List Value} (h : w.ownsRow b e s v n xs) : ∃ a c, v = .slice a n c ∧ Cells w a xs := by
  obtain ⟨h0, h1⟩ := h
  rcases h1 with ⟨rfl, rfl⟩ | ⟨g, cap, cur, rfl, hb, hg, hn, hm, hs, ht⟩
  · refine ⟨none, 0, rfl, .inl ?_⟩
    simpa using h0
  · refine ⟨_, _, rfl, .inr ⟨g, 0, rfl, fun j u hu => ?_⟩⟩
    have h2 := World.ownsRow.cells (w := w) (base := b) (e := e) (size := s) (v := .slice (some ⟨g, 0, none⟩) n cap) (n := n) (xs := xs) ⟨h0, .inr ⟨g, cap, cur, rfl, hb, hg, hn, hm, hs, ht⟩⟩ rfl j u hu
    rw [Addr.add_lit] at h2
    exact h2
/-- the one cell of a new block, to be appended -/
theorem news1 (w : World) (u : Value) (T : TypeId) : ∀ (j : Nat) (v : Value), [u][j]? = some v → (w.alloc (.cells #[u] T)).cell? ((⟨w.heap.size, 0, none⟩ : Addr).add j) = some v := by
  intro j v hj
  match j, hj with
  | 0, hj => simp at hj; subst hj; simp [Addr.add]
theorem own_drewN {w : World} {b : Nat} {e : TypeId} {s : Nat} {v : Value} {n : Nat} {xs : List Value} (h : w.ownsRow b e s v n xs) (k : Nat) : (w.drewN k).ownsRow b e s v n xs := h
theorem bel_drewN {B : Nat} {a w : World} (h : Below B a w) (k : Nat) : Below B a (w.drewN k) := ⟨h.os, h.tape, h.output, h.size, h.block⟩
theorem div_pow_bd {x M : Int} (s : Nat) (h1 : -M ≤ x) (h2 : x ≤ M) (hM : 0 ≤ M) : -M ≤ x / 2 ^ s ∧ x / 2 ^ s ≤ M := by
  have hp : (0 : Int) < 2 ^ s := Int.pow_pos (by decide)
  have h1p : (1 : Int) ≤ 2 ^ s := by omega
  constructor
  · rw [Int.le_ediv_iff_mul_le hp]
    have : M * 1 ≤ M * 2 ^ s := Int.mul_le_mul_of_nonneg_left h1p hM
    rw [Int.neg_mul]; omega
  · by_cases hx : 0 ≤ x
    · have := Int.ediv_le_self (2 ^ s) hx; omega
    · have := Int.ediv_neg_of_neg_of_pos (by omega : x < 0) hp; omega
theorem min_if (a b : Int) : (if b < a then b else a) = min a b := by rw [Int.min_def]; split <;> split <;> omega
theorem max_if (a b : Int) : (if a < b then b else a) = max a b := by rw [Int.max_def]; split <;> split <;> omega

end Go.Proofs.YtoochleabcjljaaDoor

/- Small functions of numbers. -/
namespace Go.Proofs.YtoochleabcjljaaDoor
open Go.RowKit

/-- n is from lo to hi -/
def inB (lo n hi : Int) : Bool := decide (lo ≤ n ∧ n ≤ hi)
theorem inB_eq (lo n hi : Int) : inB lo n hi = (decide (lo ≤ n) && decide (n ≤ hi)) := by simp [inB]

theorem within_any (n lo hi : Int) (w : World) :
    Calls Tryd.prog 22 #[.int .i64 n, .int .i64 lo, .int .i64 hi] w fun e w' => e = .returned (.bool (inB lo n hi)) ∧ w = w' := by
  by_cases h1 : lo ≤ n
  · go_enter Tryd.func22, Tryd.ntmps22
    go_wp2
    go_ret
    exact ⟨ret_bool (by simp [inB]; try omega), rfl⟩
  · go_enter Tryd.func22, Tryd.ntmps22
    go_wp2
    go_ret
    exact ⟨ret_bool (by simp [inB]; try omega), rfl⟩

theorem in_any (n lo hi : Int) (w : World) :
    Calls Tryd.prog 24 #[.int .i64 n, .int .i64 lo, .int .i64 hi] w fun e w' => e = .returned (.bool (inB lo n hi)) ∧ w = w' := by
  by_cases h1 : lo ≤ n
  · go_enter Tryd.func24, Tryd.ntmps24
    go_wp2
    go_ret
    exact ⟨ret_bool (by simp [inB]; try omega), rfl⟩
  · go_enter Tryd.func24, Tryd.ntmps24
    go_wp2
    go_ret
    exact ⟨ret_bool (by simp [inB]; try omega), rfl⟩

theorem seriesOK1_any (n : Int) (w : World) :
    Calls Tryd.prog 36 #[.int .i64 n] w fun e w' => e = .returned (.bool (!inB (-8388608) n 8388608)) ∧ w = w' := by
  go_enter Tryd.func36, Tryd.ntmps36
  go_wp2_with (go_at_call 22; refine (within_any _ _ _ _).mono ?_; rintro e w' ⟨rfl, rfl⟩)
  go_ret
  exact ⟨rfl, rfl⟩

set_option maxRecDepth 100000 in
/-- slices.IndexFunc over ints, at whatever test that computes p and leaves what was there -/
theorem indexFunc_ints (F : FuncId) (capd : Array Value) (p : Int → Bool) (ao : Option Addr) (xs : List Int) (cap : Nat) (w : World) (hc : Cells w ao (xs.map (Value.int .i64))) (hl : xs.length ≤ 9223372036854775807)
    (hcf : ∀ (vs : Array Value) (wx : World), Sem.run Tryd.prog (callFunc F vs) wx = .ok (.enter F vs) wx)
    (hF : ∀ x wx, x ∈ xs → Below w.heap.size w wx → Calls Tryd.prog F (#[.int .i64 x] ++ capd) wx fun e w' => e = .returned (.bool (p x)) ∧ Below wx.heap.size wx w') :
    Calls Tryd.prog 43 #[.slice ao xs.length cap, .func (.func F) #[] capd] w fun e w' => (∃ r : Int, e = .returned (.int .i64 r) ∧ (0 ≤ r ↔ xs.any p = true)) ∧ Below w.heap.size w w' := by
  go_enter Tryd.func43, Tryd.ntmps43
  go_wp2
  go_loopw [8] (fun i wr => ∃ k : Nat, k ≤ xs.length ∧ i = .int .i64 k ∧ (xs.take k).any p = false ∧ Below w.heap.size w wr) (fun i _ => xs.length - (intOf i).toNat)
  case atStart => exact ⟨0, Nat.zero_le _, rfl, rfl, Below.refl _ _⟩
  case round =>
    obtain ⟨k, hk, rfl, hany, hb⟩ := hrel
    by_cases hlt : k < xs.length
    · obtain ⟨x, hx⟩ := get_of_lt hlt
      obtain ⟨b, off, rfl⟩ := hc.addr (by simpa using List.ne_nil_of_length_pos (by omega))
      have hcell := cell_keep (hc.int hx) hb (Nat.le_refl _)
      have HX := Lib.hid hx; clear hx
      have HC := Lib.hid hc; clear hc
      have HF := Lib.hid hF; clear hF
      have HA := Lib.hid hany; clear hany
      go_wp2_with fail
      refine (HF.out x wr (List.mem_of_getElem? HX.out) hb).mono ?_
      rintro e w1 ⟨rfl, hb1⟩
      have hb2 := hb.trans (hb1.mono hb.size)
      clear hb1
      by_cases hp : p x = true
      · go_wp2
        go_ret
        exact ⟨⟨_, rfl, by simp; exact ⟨x, List.mem_of_getElem? HX.out, hp⟩⟩, hb2⟩
      · simp only [Bool.not_eq_true] at hp
        go_wp2
        go_roundw
        case rel => exact ⟨k + 1, by omega, by go_num, by rw [take_get HX.out, List.any_append, HA.out]; simp [hp], hb2⟩
        case measure => simp [intOf]; omega
    · obtain rfl : k = xs.length := by omega
      rw [List.take_length] at hany
      have HA := Lib.hid hany; clear hany
      go_wp2
      go_ret
      exact ⟨⟨_, rfl, by rw [HA.out]; simp⟩, hb⟩
end Go.Proofs.YtoochleabcjljaaDoor

/- Series: CheckSeries, of the program and of the reference. -/
namespace Go.Proofs.YtoochleabcjljaaDoor
open Go.RowKit

set_option maxRecDepth 100000 in
theorem containsFunc_ints (F : FuncId) (capd : Array Value) (p : Int → Bool) (ao : Option Addr) (xs : List Int) (cap : Nat) (w : World) (hc : Cells w ao (xs.map (Value.int .i64))) (hl : xs.length ≤ 9223372036854775807)
    (hcf : ∀ (vs : Array Value) (wx : World), Sem.run Tryd.prog (callFunc F vs) wx = .ok (.enter F vs) wx)
    (hF : ∀ x wx, x ∈ xs → Below w.heap.size w wx → Calls Tryd.prog F (#[.int .i64 x] ++ capd) wx fun e w' => e = .returned (.bool (p x)) ∧ Below wx.heap.size wx w') :
    Calls Tryd.prog 35 #[.slice ao xs.length cap, .func (.func F) #[] capd] w fun e w' => e = .returned (.bool (xs.any p)) ∧ Below w.heap.size w w' := by
  have HC := Lib.hid hc; clear hc
  have HF := Lib.hid hF; clear hF
  have HCF := Lib.hid hcf; clear hcf
  go_enter Tryd.func35, Tryd.ntmps35
  go_wp2_with fail
  refine (indexFunc_ints F capd p ao xs cap w HC.out hl HCF.out HF.out).mono ?_
  rintro e w1 ⟨⟨r, rfl, hr⟩, hb⟩
  have HR := Lib.hid hr; clear hr
  go_wp2
  go_ret
  exact ⟨ret_bool (by rw [Bool.eq_iff_iff, decide_eq_true_iff]; exact HR.out), hb⟩

/-- a series -/
def serOK (xs : List Int) : Bool := decide (xs.length ≤ 4096) && xs.all (fun n => inB (-8388608) n 8388608)
def serErr (xs : List Int) : Int := if serOK xs then 0 else 55

theorem seriesOK_any (ao : Option Addr) (xs : List Int) (cap : Nat) (w : World) (hc : Cells w ao (xs.map (Value.int .i64))) (hl : xs.length ≤ 9223372036854775807) :
    Calls Tryd.prog 25 #[.slice ao xs.length cap] w fun e w' => e = .returned (.bool (serOK xs)) ∧ Below w.heap.size w w' := by
  have HC := Lib.hid hc; clear hc
  by_cases h : xs.length ≤ 4096
  · go_enter Tryd.func25, Tryd.ntmps25
    go_wp2_with fail
    refine (containsFunc_ints 36 #[] (fun n => !inB (-8388608) n 8388608) ao xs cap w HC.out hl (fun _ _ => by kernel_rfl) (fun x wx _ _ => (seriesOK1_any x wx).mono fun e w' h => ⟨h.1, h.2 ▸ Below.refl _ _⟩)).mono ?_
    rintro e w1 ⟨rfl, hb⟩
    go_wp2
    go_ret
    exact ⟨ret_bool (by simp [serOK, h, List.all_eq_not_any_not]), hb⟩
  · go_enter Tryd.func25, Tryd.ntmps25
    go_wp2
    go_ret
    exact ⟨ret_bool (by simp [serOK]; omega), Below.refl _ _⟩

theorem checkSeries_any (ao : Option Addr) (xs : List Int) (cap : Nat) (w : World) (hc : Cells w ao (xs.map (Value.int .i64))) (hl : xs.length ≤ 9223372036854775807) :
    Calls Tryd.prog 10 #[.slice ao xs.length cap] w fun e w' => e = .returned (.int .i64 (serErr xs)) ∧ Below w.heap.size w w' := by
  have HC := Lib.hid hc; clear hc
  cases hs : serOK xs
  all_goals
    go_enter Tryd.func10, Tryd.ntmps10
    go_wp2_with fail
    refine (seriesOK_any ao xs cap w HC.out hl).mono ?_
    rintro e w1 ⟨rfl, hb⟩
    go_wp2
    go_ret
    exact ⟨ret_int (by simp [serErr, hs]), hb⟩

theorem refCheckSeries_any (ao : Option Addr) (xs : List Int) (cap : Nat) (w : World) (hc : Cells w ao (xs.map (Value.int .i64))) (hl : xs.length ≤ 9223372036854775807) :
    Calls Tryd.prog 11 #[.slice ao xs.length cap] w fun e w' => e = .returned (.int .i64 (serErr xs)) ∧ Below w.heap.size w w' := by
  have HC := Lib.hid hc; clear hc
  go_enter Tryd.func11, Tryd.ntmps11
  go_wp2
  go_loopw [3, 4] (fun o i wr => ∃ k : Nat, k ≤ xs.length ∧ i = .int .i64 k ∧ o = .bool (decide (xs.length ≤ 4096) && (xs.take k).all (fun n => inB (-8388608) n 8388608)) ∧ Below w.heap.size w wr) (fun _ i _ => xs.length - (intOf i).toNat)
  case atStart => exact ⟨0, Nat.zero_le _, rfl, by simp; omega, Below.refl _ _⟩
  case round =>
    obtain ⟨k, hk, rfl, rfl, hb⟩ := hrel
    by_cases hlt : k < xs.length
    · obtain ⟨x, hx⟩ := get_of_lt hlt
      obtain ⟨b, off, rfl⟩ := HC.out.addr (by simpa using List.ne_nil_of_length_pos (by omega))
      have hcell := cell_keep (HC.out.int hx) hb (Nat.le_refl _)
      have hn : (decide (xs.length ≤ 4096) && (xs.take (k + 1)).all (fun n => inB (-8388608) n 8388608)) = ((decide (xs.length ≤ 4096) && (xs.take k).all (fun n => inB (-8388608) n 8388608)) && inB (-8388608) x 8388608) := by
        rw [take_get hx, List.all_append]; simp [Bool.and_assoc]
      have HX := Lib.hid hx; clear hx
      have HN := Lib.hid hn; clear hn
      generalize (decide (xs.length ≤ 4096) && (xs.take k).all (fun n => inB (-8388608) n 8388608)) = o at *
      cases o
      · go_wp2
        go_roundw
        case rel => exact ⟨k + 1, by omega, by go_num, by rw [HN.out]; rfl, hb⟩
        case measure => simp [intOf]; omega
      · go_wp2_with (go_at_call 24; refine (in_any _ _ _ _).mono ?_; rintro e w' ⟨rfl, rfl⟩)
        go_roundw
        case rel => exact ⟨k + 1, by omega, by go_num, by rw [HN.out]; simp, hb⟩
        case measure => simp [intOf]; omega
    · obtain rfl : k = xs.length := by omega
      have hn : serOK xs = (decide (xs.length ≤ 4096) && (xs.take xs.length).all (fun n => inB (-8388608) n 8388608)) := by simp [serOK]
      have HN := Lib.hid hn; clear hn
      generalize (decide (xs.length ≤ 4096) && (xs.take xs.length).all (fun n => inB (-8388608) n 8388608)) = o at *
      cases o
      all_goals
        go_wp2
        go_ret
        exact ⟨ret_int (by simp [serErr, HN.out]), hb⟩
end Go.Proofs.YtoochleabcjljaaDoor

/- Models: CheckModel, of the program and of the reference. -/
namespace Go.Proofs.YtoochleabcjljaaDoor
open Go.RowKit

/-- a wrong tap -/
def tapBad (t : Int × Int) : Bool := decide (t.2 < t.1 ∨ t.1 < -1048576 ∨ 1048576 < t.2)

theorem checkModel1_any (a b : Int) (w : World) :
    Calls Tryd.prog 21 #[.agg #[.int .i64 a, .int .i64 b]] w fun e w' => e = .returned (.bool (tapBad (a, b))) ∧ Below w.heap.size w w' := by
  by_cases h1 : b < a
  · go_enter Tryd.func21, Tryd.ntmps21
    go_wp2
    go_ret
    exact ⟨ret_bool (by simp [tapBad, h1]), (Below.refl _ _).alloc (Nat.le_refl _) _⟩
  · by_cases h2 : a < -1048576
    · go_enter Tryd.func21, Tryd.ntmps21
      go_wp2
      go_ret
      exact ⟨ret_bool (by simp [tapBad, h2]), (Below.refl _ _).alloc (Nat.le_refl _) _⟩
    · go_enter Tryd.func21, Tryd.ntmps21
      go_wp2
      go_ret
      exact ⟨ret_bool (by rw [Bool.eq_iff_iff]; simp only [tapBad, decide_eq_true_eq]; omega), (Below.refl _ _).alloc (Nat.le_refl _) _⟩

set_option maxRecDepth 100000 in
/-- slices.IndexFunc over pairs, at whatever test that computes p and leaves what was there -/
theorem indexFunc_taps (F : FuncId) (capd : Array Value) (p : Int × Int → Bool) (ao : Option Addr) (xs : List (Int × Int)) (cap : Nat) (w : World) (hc : Cells w ao (prs xs)) (hl : xs.length ≤ 9223372036854775807)
    (hcf : ∀ (vs : Array Value) (wx : World), Sem.run Tryd.prog (callFunc F vs) wx = .ok (.enter F vs) wx)
    (hF : ∀ x wx, x ∈ xs → Below w.heap.size w wx → Calls Tryd.prog F (#[.agg #[.int .i64 x.1, .int .i64 x.2]] ++ capd) wx fun e w' => e = .returned (.bool (p x)) ∧ Below wx.heap.size wx w') :
    Calls Tryd.prog 34 #[.slice ao xs.length cap, .func (.func F) #[] capd] w fun e w' => (∃ r : Int, e = .returned (.int .i64 r) ∧ (0 ≤ r ↔ xs.any p = true)) ∧ Below w.heap.size w w' := by
  go_enter Tryd.func34, Tryd.ntmps34
  go_wp2
  go_loopw [8] (fun i wr => ∃ k : Nat, k ≤ xs.length ∧ i = .int .i64 k ∧ (xs.take k).any p = false ∧ Below w.heap.size w wr) (fun i _ => xs.length - (intOf i).toNat)
  case atStart => exact ⟨0, Nat.zero_le _, rfl, rfl, Below.refl _ _⟩
  case round =>
    obtain ⟨k, hk, rfl, hany, hb⟩ := hrel
    by_cases hlt : k < xs.length
    · obtain ⟨x, hx⟩ := get_of_lt hlt
      obtain ⟨b, off, rfl⟩ := hc.addr (prs_ne (by omega))
      have hcell1 := cell_keep (hc.at (prs_fst hx)) hb (Nat.le_refl _)
      have hcell2 := cell_keep (hc.at (prs_snd hx)) hb (Nat.le_refl _)
      rw [← Nat.add_assoc] at hcell2
      obtain ⟨x1, x2⟩ := x
      simp only at hcell1 hcell2
      have HX := Lib.hid hx; clear hx
      have HC := Lib.hid hc; clear hc
      have HF := Lib.hid hF; clear hF
      have HA := Lib.hid hany; clear hany
      go_wp2_with fail
      refine (HF.out (x1, x2) wr (List.mem_of_getElem? HX.out) hb).mono ?_
      rintro e w1 ⟨rfl, hb1⟩
      have hb2 := hb.trans (hb1.mono hb.size)
      clear hb1
      by_cases hp : p (x1, x2) = true
      · go_wp2
        go_ret
        exact ⟨⟨_, rfl, by simp; exact ⟨x1, x2, List.mem_of_getElem? HX.out, hp⟩⟩, hb2⟩
      · simp only [Bool.not_eq_true] at hp
        go_wp2
        go_roundw
        case rel => exact ⟨k + 1, by omega, by go_num, by rw [take_get HX.out, List.any_append, HA.out]; simp [hp], hb2⟩
        case measure => simp [intOf]; omega
    · obtain rfl : k = xs.length := by omega
      rw [List.take_length] at hany
      have HA := Lib.hid hany; clear hany
      go_wp2
      go_ret
      exact ⟨⟨_, rfl, by rw [HA.out]; simp⟩, hb⟩
end Go.Proofs.YtoochleabcjljaaDoor

/- Models: CheckModel, of the program and of the reference. -/
namespace Go.Proofs.YtoochleabcjljaaDoor
open Go.RowKit

set_option maxRecDepth 100000 in
theorem containsFunc_taps (F : FuncId) (capd : Array Value) (p : Int × Int → Bool) (ao : Option Addr) (xs : List (Int × Int)) (cap : Nat) (w : World) (hc : Cells w ao (prs xs)) (hl : xs.length ≤ 9223372036854775807)
    (hcf : ∀ (vs : Array Value) (wx : World), Sem.run Tryd.prog (callFunc F vs) wx = .ok (.enter F vs) wx)
    (hF : ∀ x wx, x ∈ xs → Below w.heap.size w wx → Calls Tryd.prog F (#[.agg #[.int .i64 x.1, .int .i64 x.2]] ++ capd) wx fun e w' => e = .returned (.bool (p x)) ∧ Below wx.heap.size wx w') :
    Calls Tryd.prog 23 #[.slice ao xs.length cap, .func (.func F) #[] capd] w fun e w' => e = .returned (.bool (xs.any p)) ∧ Below w.heap.size w w' := by
  have HC := Lib.hid hc; clear hc
  have HF := Lib.hid hF; clear hF
  have HCF := Lib.hid hcf; clear hcf
  go_enter Tryd.func23, Tryd.ntmps23
  go_wp2_with fail
  refine (indexFunc_taps F capd p ao xs cap w HC.out hl HCF.out HF.out).mono ?_
  rintro e w1 ⟨⟨r, rfl, hr⟩, hb⟩
  have HR := Lib.hid hr; clear hr
  go_wp2
  go_ret
  exact ⟨ret_bool (by rw [Bool.eq_iff_iff, decide_eq_true_iff]; exact HR.out), hb⟩

/-- a model -/
def modOK (ts : List (Int × Int)) (sh : Int) : Bool := inB 1 ts.length 16 && (!ts.any tapBad && inB 0 sh 20)
def modErr (ts : List (Int × Int)) (sh : Int) : Int := if modOK ts sh then 0 else 53

theorem checkModel_any (ao : Option Addr) (ts : List (Int × Int)) (cap : Nat) (sh : Int) (w : World) (hc : Cells w ao (prs ts)) (hl : ts.length ≤ 9223372036854775807) :
    Calls Tryd.prog 8 #[.agg #[.slice ao ts.length cap, .int .i64 sh]] w fun e w' => e = .returned (.int .i64 (modErr ts sh)) ∧ Below w.heap.size w w' := by
  have HC := Lib.hid hc; clear hc
  cases h1 : inB 1 ts.length 16
  · have hm : modErr ts sh = 53 := by simp [modErr, modOK, h1]
    have HM := Lib.hid hm; clear hm
    go_enter Tryd.func8, Tryd.ntmps8
    go_wp2_with fail
    refine (within_any _ _ _ _).mono ?_
    rintro e w1 ⟨rfl, rfl⟩
    go_wp2
    go_ret
    exact ⟨ret_int (HM.out).symm, (Below.refl _ _).alloc (Nat.le_refl _) _⟩
  · cases h2 : ts.any tapBad
    · have hm : modErr ts sh = if inB 0 sh 20 then 0 else 53 := by simp [modErr, modOK, h1, h2]
      have HM := Lib.hid hm; clear hm
      have H2 := Lib.hid h2; clear h2
      cases h3 : inB 0 sh 20
      all_goals
        have H3 := Lib.hid h3
        go_enter Tryd.func8, Tryd.ntmps8
        go_wp2_with fail
        refine (within_any _ _ _ _).mono ?_
        rintro e w1 ⟨rfl, rfl⟩
        go_wp2_with fail
        refine (containsFunc_taps 21 #[] tapBad ao ts cap _ (HC.out.below ((Below.refl _ _).alloc (Nat.le_refl _) _) (Nat.le_refl _)) hl (fun _ _ => by kernel_rfl) (fun x wx _ _ => checkModel1_any x.1 x.2 wx)).mono ?_
        rintro e w1 ⟨rfl, hb⟩
        rw [H2.out]
        have hc1 : w1.cell? ⟨w.heap.size, 1, none⟩ = some (.int .i64 sh) := box_keep hb (by simp) 1
        go_wp2_with fail
        refine (within_any _ _ _ _).mono ?_
        rintro e w1 ⟨rfl, rfl⟩
        go_wp2
        go_ret
        exact ⟨ret_int (by rw [HM.out, H3.out]; rfl), ((Below.refl _ _).alloc (Nat.le_refl _) _).trans (hb.mono (by simp))⟩
    · have hm : modErr ts sh = 53 := by simp [modErr, modOK, h1, h2]
      have HM := Lib.hid hm; clear hm
      have H2 := Lib.hid h2; clear h2
      go_enter Tryd.func8, Tryd.ntmps8
      go_wp2_with fail
      refine (within_any _ _ _ _).mono ?_
      rintro e w1 ⟨rfl, rfl⟩
      go_wp2_with fail
      refine (containsFunc_taps 21 #[] tapBad ao ts cap _ (HC.out.below ((Below.refl _ _).alloc (Nat.le_refl _) _) (Nat.le_refl _)) hl (fun _ _ => by kernel_rfl) (fun x wx _ _ => checkModel1_any x.1 x.2 wx)).mono ?_
      rintro e w1 ⟨rfl, hb⟩
      rw [H2.out]
      go_wp2
      go_ret
      exact ⟨ret_int (HM.out).symm, ((Below.refl _ _).alloc (Nat.le_refl _) _).trans (hb.mono (by simp))⟩
end Go.Proofs.YtoochleabcjljaaDoor

/- Strain, of the program. -/
namespace Go.Proofs.YtoochleabcjljaaDoor
open Go.RowKit

/-- the sum of the lesser, of the greater products of the first n taps at t -/
def loS (ts : List (Int × Int)) (xs : List Int) (t : Nat) : Nat → Int
  | 0 => 0
  | n + 1 => loS ts xs t n + min ((ts.getD n (0, 0)).1 * xs.getD (t - n) 0) ((ts.getD n (0, 0)).2 * xs.getD (t - n) 0)
def hiS (ts : List (Int × Int)) (xs : List Int) (t : Nat) : Nat → Int
  | 0 => 0
  | n + 1 => hiS ts xs t n + max ((ts.getD n (0, 0)).1 * xs.getD (t - n) 0) ((ts.getD n (0, 0)).2 * xs.getD (t - n) 0)
def bandAt (ts : List (Int × Int)) (sh : Nat) (xs : List Int) (t : Nat) : Int × Int :=
  (loS ts xs t (min ts.length (t + 1)) / 2 ^ sh, -(-(hiS ts xs t (min ts.length (t + 1))) / 2 ^ sh))
def bands (ts : List (Int × Int)) (sh : Nat) (xs : List Int) (n : Nat) : List (Int × Int) := (List.range n).map (bandAt ts sh xs)
def strErr (ts : List (Int × Int)) (sh : Int) (xs : List Int) : Int := if modErr ts sh ≠ 0 then modErr ts sh else serErr xs
def strain (ts : List (Int × Int)) (sh : Int) (xs : List Int) : List (Int × Int) := if strErr ts sh xs = 0 then bands ts sh.toNat xs xs.length else []

theorem bands_length (ts : List (Int × Int)) (sh : Nat) (xs : List Int) (n : Nat) : (bands ts sh xs n).length = n := by simp [bands]
theorem bands_succ (ts : List (Int × Int)) (sh : Nat) (xs : List Int) (n : Nat) : bands ts sh xs (n + 1) = bands ts sh xs n ++ [bandAt ts sh xs n] := by simp [bands, List.range_succ]

/-- the bounds of products -/
theorem prod_bd {a x : Int} (h1 : -1048576 ≤ a) (h2 : a ≤ 1048576) (h3 : -8388608 ≤ x) (h4 : x ≤ 8388608) : -8796093022208 ≤ a * x ∧ a * x ≤ 8796093022208 := by
  have ha : a.natAbs ≤ 1048576 := by omega
  have hx : x.natAbs ≤ 8388608 := by omega
  have h := Nat.mul_le_mul ha hx
  rw [← Int.natAbs_mul] at h
  omega

theorem modErr_zero {ts : List (Int × Int)} {sh : Int} (h : modErr ts sh = 0) : 1 ≤ ts.length ∧ ts.length ≤ 16 ∧ 0 ≤ sh ∧ sh ≤ 20 ∧ ∀ t ∈ ts, t.1 ≤ t.2 ∧ -1048576 ≤ t.1 ∧ t.2 ≤ 1048576 := by
  have h1 : modOK ts sh = true := by
    cases e : modOK ts sh
    · simp [modErr, e] at h
    · rfl
  simp only [modOK, inB, Bool.and_eq_true, decide_eq_true_eq, Bool.not_eq_true', List.any_eq_false, tapBad] at h1
  refine ⟨by omega, by omega, by omega, by omega, fun t ht => ?_⟩
  have := h1.2.1 t ht
  omega

theorem serErr_zero {xs : List Int} (h : serErr xs = 0) : xs.length ≤ 4096 ∧ ∀ x ∈ xs, -8388608 ≤ x ∧ x ≤ 8388608 := by
  have h1 : serOK xs = true := by
    cases e : serOK xs
    · simp [serErr, e] at h
    · rfl
  simpa [serOK, inB] using h1

theorem lohi_bd {ts : List (Int × Int)} {xs : List Int} {sh : Int} (h : modErr ts sh = 0) (hx : serErr xs = 0) (t : Nat) (ht : t < xs.length) (n : Nat) (hn : n ≤ ts.length) (hnt : n ≤ t + 1) :
    -(8796093022208 * (n : Int)) ≤ loS ts xs t n ∧ loS ts xs t n ≤ 8796093022208 * (n : Int) ∧ -(8796093022208 * (n : Int)) ≤ hiS ts xs t n ∧ hiS ts xs t n ≤ 8796093022208 * (n : Int) := by
  induction n with
  | zero => simp [loS, hiS]
  | succ n ih =>
    have ih := ih (by omega) (by omega)
    have m1 := (modErr_zero h).2.2.2.2 (ts.getD n (0, 0)) (by
      rw [List.getD_eq_getElem?_getD, List.getElem?_eq_getElem (by omega)]; exact List.getElem_mem _)
    have m2 := (serErr_zero hx).2 (xs.getD (t - n) 0) (by
      rw [List.getD_eq_getElem?_getD, List.getElem?_eq_getElem (by omega)]; exact List.getElem_mem _)
    have p1 := prod_bd (a := (ts.getD n (0, 0)).1) (x := xs.getD (t - n) 0) (by omega) (by omega) (by omega) (by omega)
    have p2 := prod_bd (a := (ts.getD n (0, 0)).2) (x := xs.getD (t - n) 0) (by omega) (by omega) (by omega) (by omega)
    simp only [loS, hiS]
    push_cast
    omega

theorem Tryd.infoBand : (Tryd.prog.info? 39).map (fun i => (i.zero, i.size, i.bytes)) = some (some (.agg #[.int .i64 0, .int .i64 0]), 2, 16) := by kernel_rfl

set_option maxRecDepth 100000 in
theorem strain_any (ao : Option Addr) (ts : List (Int × Int)) (cap : Nat) (sh : Int) (ax : Option Addr) (xs : List Int) (cx : Nat) (w : World) (hc : Cells w ao (prs ts)) (hl : ts.length ≤ 9223372036854775807) (hx : Cells w ax (xs.map (Value.int .i64))) (hlx : xs.length ≤ 9223372036854775807) :
    Calls Tryd.prog 6 #[.agg #[.slice ao ts.length cap, .int .i64 sh], .slice ax xs.length cx] w fun e w' => (∃ a c, e = .returned (.tuple #[.slice a (strain ts sh xs).length c, .int .i64 (strErr ts sh xs)]) ∧ Cells w' a (prs (strain ts sh xs))) ∧ Below w.heap.size w w' := by
  have HC := Lib.hid hc; clear hc
  have HX := Lib.hid hx; clear hx
  by_cases h1 : modErr ts sh = 0
  · by_cases h2 : serErr xs = 0
    · go_enter Tryd.func6, Tryd.ntmps6
      go_wp2_with fail
      refine (checkModel_any ao ts cap sh _ (HC.out.below ((Below.refl _ _).alloc (Nat.le_refl _) _) (Nat.le_refl _)) hl).mono ?_
      rintro e w1 ⟨rfl, hb⟩
      rw [h1]
      go_wp2_with fail
      refine (checkSeries_any ax xs cx _ (HX.out.below (((Below.refl _ _).alloc (Nat.le_refl _) _).trans (hb.mono (by simp))) (Nat.le_refl _)) hlx).mono ?_
      rintro e w2 ⟨rfl, hb2⟩
      rw [h2]
      have hm := modErr_zero h1
      have hs := serErr_zero h2
      have hbd := fun t ht n hn hnt => lohi_bd h1 h2 t ht n hn hnt
      have H1 := Lib.hid h1; clear h1
      have H2 := Lib.hid h2; clear h2
      obtain ⟨hm1, hm2, hm3, hm4, hm5⟩ := hm
      obtain ⟨hs1, hs2⟩ := hs
      have HM5 := Lib.hid hm5; clear hm5
      have HS2 := Lib.hid hs2; clear hs2
      have HBD := Lib.hid hbd; clear hbd
      obtain ⟨shn, rfl⟩ := Int.eq_ofNat_of_zero_le hm3
      have hbe : Below (w.heap.size + 1) (w.alloc (.cells #[.slice ao ts.length cap, .int .i64 shn] 24)) w2 := (hb.mono (by simp)).trans (hb2.mono (by have := hb.size; simpa using this))
      clear hb hb2
      obtain ⟨i0, hi, hz0, hz1, hz2⟩ := info_parts Tryd.infoBand
      go_wp2
      go_loopw [8, 28] (fun v i wr => ∃ k : Nat, k ≤ xs.length ∧ i = .int .i64 k ∧ wr.ownsRow (w.heap.size + 1) 39 2 v k (prs (bands ts shn xs k)) ∧ Below (w.heap.size + 1) (w.alloc (.cells #[.slice ao ts.length cap, .int .i64 shn] 24)) wr) (fun _ i _ => xs.length - (intOf i).toNat)
      case atStart => exact ⟨0, Nat.zero_le _, rfl, World.ownsRow_nil _ _ _ _, hbe⟩
      case round =>
        obtain ⟨k, hk, rfl, hown, hb⟩ := hrel
        obtain ⟨wo, rfl⟩ : ∃ wo : World, wo = wr := ⟨_, rfl⟩
        have hc0 : wo.cell? ⟨w.heap.size, 0, none⟩ = some (.slice ao ts.length cap) := box_keep hb (by simp) 0
        have hc1 : wo.cell? ⟨w.heap.size, 1, none⟩ = some (.int .i64 shn) := box_keep hb (by simp) 1
        have hsz : w.heap.size + 1 ≤ wo.heap.size := by have := hb.size; simpa using this
        by_cases hlt : k < xs.length
        · have HO := Lib.hid hown; clear hown
          go_wp2
          go_loopw [10, 11, 34] (fun lo hi j wi => ∃ n : Nat, n ≤ ts.length ∧ n ≤ k + 1 ∧ j = .int .i64 n ∧ lo = .int .i64 (loS ts xs k n) ∧ hi = .int .i64 (hiS ts xs k n) ∧ wi.ownsRow (w.heap.size + 1) 39 2 u8 k (prs (bands ts shn xs k)) ∧ Below (w.heap.size + 1) (w.alloc (.cells #[.slice ao ts.length cap, .int .i64 shn] 24)) wi) (fun _ _ j _ => ts.length - (intOf j).toNat)
          case atStart => exact ⟨0, Nat.zero_le _, Nat.zero_le _, rfl, rfl, rfl, HO.out, hb⟩
          case round =>
            clear hb hc0 hc1 hsz
            obtain ⟨n, hn, hnk, rfl, rfl, rfl, hown, hb⟩ := hrel
            have HO := Lib.hid hown; clear hown
            have hc0 : wr.cell? ⟨w.heap.size, 0, none⟩ = some (.slice ao ts.length cap) := box_keep hb (by simp) 0
            have hc1 : wr.cell? ⟨w.heap.size, 1, none⟩ = some (.int .i64 shn) := box_keep hb (by simp) 1
            have hsz : w.heap.size + 1 ≤ wr.heap.size := by have := hb.size; simpa using this
            have hbw : Below w.heap.size w wr := ((Below.refl _ _).alloc (Nat.le_refl _) _).trans (hb.mono (by omega))
            obtain ⟨b1, b2, b3, b4⟩ := HBD.out k hlt n hn hnk
            by_cases hgo : n < ts.length ∧ n ≤ k
            · obtain ⟨hg1, hg2⟩ := hgo
              obtain ⟨⟨x1, x2⟩, hx⟩ := get_of_lt hg1
              obtain ⟨y, hy⟩ := get_of_lt (show k - n < xs.length by omega)
              obtain ⟨b, off, rfl⟩ := HC.out.addr (prs_ne (by omega))
              obtain ⟨bx, ox, rfl⟩ := HX.out.addr (by simpa using List.ne_nil_of_length_pos (by omega))
              have hcell1 := cell_keep (HC.out.at (prs_fst hx)) hbw (Nat.le_refl _)
              have hcell2 := cell_keep (HC.out.at (prs_snd hx)) hbw (Nat.le_refl _)
              rw [← Nat.add_assoc] at hcell2
              simp only at hcell1 hcell2
              have hcell3 := cell_keep (HX.out.int hy) hbw (Nat.le_refl _)
              have t1 := HM5.out _ (List.mem_of_getElem? hx)
              have t2 := HS2.out _ (List.mem_of_getElem? hy)
              simp only at t1
              have p1 := prod_bd (a := x1) (x := y) (by omega) (by omega) (by omega) (by omega)
              have p2 := prod_bd (a := x2) (x := y) (by omega) (by omega) (by omega) (by omega)
              have e1 : loS ts xs k (n + 1) = loS ts xs k n + min (x1 * y) (x2 * y) := by simp [loS, hx, hy]
              have e2 : hiS ts xs k (n + 1) = hiS ts xs k n + max (x1 * y) (x2 * y) := by simp [hiS, hx, hy]
              have E1 := Lib.hid e1; clear e1
              have E2 := Lib.hid e2; clear e2
              clear hx hy
              go_wp2
              have q1 : IntKind.i64.wrap ((k : Int) - n) = (k : Int) - n := IntWalk.i64_in _ (by omega)
              have q2 : 0 ≤ (k : Int) - n := by omega
              have q3 : (k : Int) - n < xs.length := by omega
              have q4 : ((k : Int) - n).toNat = k - n := by omega
              have q5 : IntKind.i64.wrap (x1 * y) = x1 * y := IntWalk.i64_in _ (by omega)
              have q6 : IntKind.i64.wrap (x2 * y) = x2 * y := IntWalk.i64_in _ (by omega)
              have q7 := cell_keep hcell3 ((Below.refl _ _).alloc (Nat.le_refl _) (.cells #[.int .i64 x1, .int .i64 x2] 37)) (Nat.le_refl _)
              go_quiet (fail)
              clear q1 q2 q3 q4 q5 q6 q7
              go_wp2
              go_roundw
              case rel => exact ⟨n + 1, by omega, by omega, by go_num, by first | rw [E1.out, min_if] | rw [E1.out], by first | rw [E2.out, max_if] | rw [E2.out], own_drewN (HO.out.alloc _) _, bel_drewN (hb.alloc hsz _) _⟩
              case measure => simp [intOf]; omega
            · have hn' : n = min ts.length (k + 1) := by omega
              have hfin : bandAt ts shn xs k = (loS ts xs k n / 2 ^ shn, -(-(hiS ts xs k n) / 2 ^ shn)) := by rw [bandAt, ← hn']
              have HF := Lib.hid hfin; clear hfin hn'
              by_cases hex : n < ts.length
              · have hkn : n = k + 1 := by omega
                obtain ⟨⟨x1, x2⟩, hx⟩ := get_of_lt hex
                obtain ⟨b, off, rfl⟩ := HC.out.addr (prs_ne (by omega))
                have hcell1 := cell_keep (HC.out.at (prs_fst hx)) hbw (Nat.le_refl _)
                have hcell2 := cell_keep (HC.out.at (prs_snd hx)) hbw (Nat.le_refl _)
                rw [← Nat.add_assoc] at hcell2
                simp only at hcell1 hcell2
                clear hx
                have hkn' : k < n := by omega
                have HKN := Lib.hid hkn; clear hkn
                go_wp2
                have hoq := HO.out.alloc (.cells #[.int .i64 x1, .int .i64 x2] 37)
                have hbq := hb.alloc hsz (.cells #[.int .i64 x1, .int .i64 x2] 37)
                generalize wr.alloc (.cells #[.int .i64 x1, .int .i64 x2] 37) = wq at *
                clear hb hc0 hc1 hsz hbw hcell1 hcell2
                have hne : ¬ some w.heap.size = u8.ownBlock := fun e => by have := (hoq.lt _ e.symm).1; omega
                have hob : ∀ j, u8.ownBlock = some j → w.heap.size + 1 ≤ j := fun j e => (hoq.lt j e).1
                have HOB := Lib.hid hob; clear hob
                have HOQ := Lib.hid hoq; clear hoq
                have hc1 : wq.cell? ⟨w.heap.size, 1, none⟩ = some (.int .i64 shn) := box_keep hbq (by simp) 1
                have hsz : w.heap.size + 1 ≤ wq.heap.size := by have := hbq.size; simpa using this
                have hd := div_pow_bd (x := -(hiS ts xs k n)) (M := 140737488355328) shn (by omega) (by omega) (by omega)
                have g1 : IntKind.i64.wrap (-(hiS ts xs k n)) = -(hiS ts xs k n) := IntWalk.i64_in _ (by omega)
                have g2 : IntKind.i64.wrap (-(-(hiS ts xs k n) / 2 ^ shn)) = -(-(hiS ts xs k n) / 2 ^ shn) := IntWalk.i64_in _ (by omega)
                have g3 : min shn 64 = shn := by omega
                go_region_held3 (fun w' => w'.cell? ⟨w.heap.size, 1, none⟩ = some (.int .i64 shn))
                  (first | go_keep | (rw [hgrow.cell_far _ (by simp; omega) hne]; assumption))
                  ((refine step_append_lies _ (by rfl) _ _ _ (by rfl) (w.heap.size + 1) 39 i0 _ 2 16 Tryd.underlying26 hi hz0 hz1 hz2 rfl (by omega) u8 k (prs (bands ts shn xs k)) (by rfl) ((HOQ.out.alloc _).drew) ⟨wq.heap.size, 0, none⟩ 1 1 [.int .i64 (loS ts xs k n / 2 ^ shn), .int .i64 (-(-(hiS ts xs k n) / 2 ^ shn))] (by rfl) (by rfl) (World.news_of_block (cs := #[.int .i64 (loS ts xs k n / 2 ^ shn), .int .i64 (-(-(hiS ts xs k n) / 2 ^ shn))]) (t := 39) (fr := (0, 0)) (heap_alloc_new wq _)) (by simp [Value.oneCell']) (by omega) (by unfold maxLen; omega) (by omega) (by simp; omega) (wq.heap.size + 1) (by simp) ?_; intro gg cp wz hown1 hgrow hat hlt1))
                have hfin := hown1
                rw [show prs (bands ts shn xs k) ++ [.int .i64 (loS ts xs k n / 2 ^ shn), .int .i64 (-(-(hiS ts xs k n) / 2 ^ shn))] = prs (bands ts shn xs (k + 1)) from by rw [bands_succ, prs_append, HF.out]; rfl] at hfin
                have hbz := (bel_drewN (hbq.alloc hsz (.cells #[.int .i64 (loS ts xs k n / 2 ^ shn), .int .i64 (-(-(hiS ts xs k n) / 2 ^ shn))] 39)) 1).grown hgrow (by simp; omega) HOB.out
                clear hown1 hgrow g1 g2 g3 hd
                have HFIN := Lib.hid hfin; clear hfin
                go_wp2
                go_roundw
                case rel => exact ⟨k + 1, by omega, by go_num, HFIN.out, hbz⟩
                case measure => simp [intOf]; omega
              · go_wp2
                have hoq := HO.out
                have hbq := hb
                obtain ⟨wq, rfl⟩ : ∃ wq : World, wq = wr := ⟨_, rfl⟩
                clear hb hc0 hc1 hsz hbw
                have hne : ¬ some w.heap.size = u8.ownBlock := fun e => by have := (hoq.lt _ e.symm).1; omega
                have hob : ∀ j, u8.ownBlock = some j → w.heap.size + 1 ≤ j := fun j e => (hoq.lt j e).1
                have HOB := Lib.hid hob; clear hob
                have HOQ := Lib.hid hoq; clear hoq
                have hc1 : wq.cell? ⟨w.heap.size, 1, none⟩ = some (.int .i64 shn) := box_keep hbq (by simp) 1
                have hsz : w.heap.size + 1 ≤ wq.heap.size := by have := hbq.size; simpa using this
                have hd := div_pow_bd (x := -(hiS ts xs k n)) (M := 140737488355328) shn (by omega) (by omega) (by omega)
                have g1 : IntKind.i64.wrap (-(hiS ts xs k n)) = -(hiS ts xs k n) := IntWalk.i64_in _ (by omega)
                have g2 : IntKind.i64.wrap (-(-(hiS ts xs k n) / 2 ^ shn)) = -(-(hiS ts xs k n) / 2 ^ shn) := IntWalk.i64_in _ (by omega)
                have g3 : min shn 64 = shn := by omega
                go_region_held3 (fun w' => w'.cell? ⟨w.heap.size, 1, none⟩ = some (.int .i64 shn))
                  (first | go_keep | (rw [hgrow.cell_far _ (by simp; omega) hne]; assumption))
                  ((refine step_append_lies _ (by rfl) _ _ _ (by rfl) (w.heap.size + 1) 39 i0 _ 2 16 Tryd.underlying26 hi hz0 hz1 hz2 rfl (by omega) u8 k (prs (bands ts shn xs k)) (by rfl) ((HOQ.out.alloc _).drew) ⟨wq.heap.size, 0, none⟩ 1 1 [.int .i64 (loS ts xs k n / 2 ^ shn), .int .i64 (-(-(hiS ts xs k n) / 2 ^ shn))] (by rfl) (by rfl) (World.news_of_block (cs := #[.int .i64 (loS ts xs k n / 2 ^ shn), .int .i64 (-(-(hiS ts xs k n) / 2 ^ shn))]) (t := 39) (fr := (0, 0)) (heap_alloc_new wq _)) (by simp [Value.oneCell']) (by omega) (by unfold maxLen; omega) (by omega) (by simp; omega) (wq.heap.size + 1) (by simp) ?_; intro gg cp wz hown1 hgrow hat hlt1))
                have hfin := hown1
                rw [show prs (bands ts shn xs k) ++ [.int .i64 (loS ts xs k n / 2 ^ shn), .int .i64 (-(-(hiS ts xs k n) / 2 ^ shn))] = prs (bands ts shn xs (k + 1)) from by rw [bands_succ, prs_append, HF.out]; rfl] at hfin
                have hbz := (bel_drewN (hbq.alloc hsz (.cells #[.int .i64 (loS ts xs k n / 2 ^ shn), .int .i64 (-(-(hiS ts xs k n) / 2 ^ shn))] 39)) 1).grown hgrow (by simp; omega) HOB.out
                clear hown1 hgrow g1 g2 g3 hd
                have HFIN := Lib.hid hfin; clear hfin
                go_wp2
                go_roundw
                case rel => exact ⟨k + 1, by omega, by go_num, HFIN.out, hbz⟩
                case measure => simp [intOf]; omega
        · obtain rfl : k = xs.length := by omega
          obtain ⟨a, c, rfl, hcs⟩ := own_cells hown
          have hst : strain ts shn xs = bands ts shn xs xs.length := by simp [strain, strErr, H1.out, H2.out]
          have hse : strErr ts shn xs = 0 := by simp [strErr, H1.out, H2.out]
          have HST := Lib.hid hst; clear hst
          have HSE := Lib.hid hse; clear hse
          have HCS := Lib.hid hcs; clear hcs
          have HO := Lib.hid hown; clear hown
          go_wp2
          go_ret2
          refine ⟨⟨a, c, ?_, ?_⟩, ((Below.refl _ _).alloc (Nat.le_refl _) _).trans (hb.mono (by omega))⟩
          · rw [HST.out, HSE.out, bands_length]; rfl
          · rw [HST.out]; exact HCS.out
    · have hst : strain ts sh xs = [] := by simp [strain, strErr, h1, h2]
      have hse : strErr ts sh xs = serErr xs := by simp [strErr, h1]
      have HST := Lib.hid hst; clear hst
      have HSE := Lib.hid hse; clear hse
      have h3 : (serErr xs != 0) = true := by simpa using h2
      have h4 : (serErr xs == 0) = false := by simpa using h2
      go_enter Tryd.func6, Tryd.ntmps6
      go_wp2_with fail
      refine (checkModel_any ao ts cap sh _ (HC.out.below ((Below.refl _ _).alloc (Nat.le_refl _) _) (Nat.le_refl _)) hl).mono ?_
      rintro e w1 ⟨rfl, hb⟩
      rw [h1]
      go_wp2_with fail
      refine (checkSeries_any ax xs cx _ (HX.out.below (((Below.refl _ _).alloc (Nat.le_refl _) _).trans (hb.mono (by simp))) (Nat.le_refl _)) hlx).mono ?_
      rintro e w2 ⟨rfl, hb2⟩
      go_wp2
      go_ret2
      refine ⟨⟨none, 0, ?_, ?_⟩, (((Below.refl _ _).alloc (Nat.le_refl _) _).trans (hb.mono (by simp))).trans (hb2.mono (by have := hb.size; simp at this; omega))⟩
      · rw [HST.out, HSE.out]; rfl
      · rw [HST.out]; exact Cells.nil _ _
  · have hst : strain ts sh xs = [] := by simp [strain, strErr, h1]
    have hse : strErr ts sh xs = modErr ts sh := by simp [strErr, h1]
    have HST := Lib.hid hst; clear hst
    have HSE := Lib.hid hse; clear hse
    have h3 : (modErr ts sh != 0) = true := by simpa using h1
    have h4 : (modErr ts sh == 0) = false := by simpa using h1
    go_enter Tryd.func6, Tryd.ntmps6
    go_wp2_with fail
    refine (checkModel_any ao ts cap sh _ (HC.out.below ((Below.refl _ _).alloc (Nat.le_refl _) _) (Nat.le_refl _)) hl).mono ?_
    rintro e w1 ⟨rfl, hb⟩
    go_wp2
    go_ret2
    refine ⟨⟨none, 0, ?_, ?_⟩, ((Below.refl _ _).alloc (Nat.le_refl _) _).trans (hb.mono (by simp))⟩
    · rw [HST.out, HSE.out]; rfl
    · rw [HST.out]; exact Cells.nil _ _
end Go.Proofs.YtoochleabcjljaaDoor

/- RecordWithin: the plain law: bands of narrower taps are within. -/
namespace Go.Proofs.YtoochleabcjljaaDoor
open Go.RowKit

/-- the number that is picked from low to high -/
def pk (bits : List Int) (k : Nat) (lo hi : Int) : Int := if bits.length = 0 then lo else lo + bits.getD (k % bits.length) 0 % (hi - lo + 1)
theorem pk_bd {bits : List Int} {k : Nat} {lo hi : Int} (h : lo ≤ hi) : lo ≤ pk bits k lo hi ∧ pk bits k lo hi ≤ hi := by
  unfold pk
  split
  · omega
  · have h1 := Int.emod_nonneg (bits.getD (k % bits.length) 0) (show hi - lo + 1 ≠ 0 by omega)
    have h2 := Int.emod_lt_of_pos (bits.getD (k % bits.length) 0) (show 0 < hi - lo + 1 by omega)
    omega
def exAt (bits : List Int) (ts : List (Int × Int)) (i : Nat) : Int := pk bits i (ts.getD i (0, 0)).1 (ts.getD i (0, 0)).2
def naAt (bits : List Int) (ts : List (Int × Int)) (i : Nat) : Int := pk bits (i + 1) (ts.getD i (0, 0)).1 (exAt bits ts i)
def exL (bits : List Int) (ts : List (Int × Int)) (n : Nat) : List (Int × Int) := (List.range n).map fun i => (exAt bits ts i, exAt bits ts i)
def naL (bits : List Int) (ts : List (Int × Int)) (n : Nat) : List (Int × Int) := (List.range n).map fun i => (naAt bits ts i, exAt bits ts i)
theorem exL_length (bits : List Int) (ts : List (Int × Int)) (n : Nat) : (exL bits ts n).length = n := by simp [exL]
theorem naL_length (bits : List Int) (ts : List (Int × Int)) (n : Nat) : (naL bits ts n).length = n := by simp [naL]
theorem exL_succ (bits : List Int) (ts : List (Int × Int)) (n : Nat) : exL bits ts (n + 1) = exL bits ts n ++ [(exAt bits ts n, exAt bits ts n)] := by simp [exL, List.range_succ]
theorem naL_succ (bits : List Int) (ts : List (Int × Int)) (n : Nat) : naL bits ts (n + 1) = naL bits ts n ++ [(naAt bits ts n, exAt bits ts n)] := by simp [naL, List.range_succ]
theorem exL_get {bits : List Int} {ts : List (Int × Int)} {n i : Nat} (h : i < n) : (exL bits ts n).getD i (0, 0) = (exAt bits ts i, exAt bits ts i) := by
  rw [List.getD_eq_getElem?_getD, exL, List.getElem?_map, List.getElem?_range h]; rfl
theorem naL_get {bits : List Int} {ts : List (Int × Int)} {n i : Nat} (h : i < n) : (naL bits ts n).getD i (0, 0) = (naAt bits ts i, exAt bits ts i) := by
  rw [List.getD_eq_getElem?_getD, naL, List.getElem?_map, List.getElem?_range h]; rfl

theorem mid_mul {lo q hi x : Int} (h1 : lo ≤ q) (h2 : q ≤ hi) : min (lo * x) (hi * x) ≤ q * x ∧ q * x ≤ max (lo * x) (hi * x) := by
  rcases Int.le_total 0 x with hx | hx
  · have a := Int.mul_le_mul_of_nonneg_right h1 hx
    have b := Int.mul_le_mul_of_nonneg_right h2 hx
    omega
  · have a := Int.mul_le_mul_of_nonpos_right h1 hx
    have b := Int.mul_le_mul_of_nonpos_right h2 hx
    omega

theorem taps_at {ts : List (Int × Int)} (h : ∀ t ∈ ts, t.1 ≤ t.2 ∧ -1048576 ≤ t.1 ∧ t.2 ≤ 1048576) {i : Nat} (hi : i < ts.length) : (ts.getD i (0, 0)).1 ≤ (ts.getD i (0, 0)).2 ∧ -1048576 ≤ (ts.getD i (0, 0)).1 ∧ (ts.getD i (0, 0)).2 ≤ 1048576 :=
  h _ (by rw [List.getD_eq_getElem?_getD, List.getElem?_eq_getElem hi]; exact List.getElem_mem _)
theorem ex_bd {bits : List Int} {ts : List (Int × Int)} (h : ∀ t ∈ ts, t.1 ≤ t.2 ∧ -1048576 ≤ t.1 ∧ t.2 ≤ 1048576) {i : Nat} (hi : i < ts.length) :
    (ts.getD i (0, 0)).1 ≤ naAt bits ts i ∧ naAt bits ts i ≤ exAt bits ts i ∧ exAt bits ts i ≤ (ts.getD i (0, 0)).2 := by
  have h1 := taps_at h hi
  have h2 := pk_bd (bits := bits) (k := i) h1.1
  have h3 := pk_bd (bits := bits) (k := i + 1) (lo := (ts.getD i (0, 0)).1) (hi := exAt bits ts i) h2.1
  exact ⟨h3.1, h3.2, h2.2⟩

/-- the sum of an instrument with these taps -/
def exS (bits : List Int) (ts : List (Int × Int)) (xs : List Int) (t : Nat) : Nat → Int
  | 0 => 0
  | n + 1 => exS bits ts xs t n + exAt bits ts n * xs.getD (t - n) 0

theorem sums {bits : List Int} {ts : List (Int × Int)} (h : ∀ t ∈ ts, t.1 ≤ t.2 ∧ -1048576 ≤ t.1 ∧ t.2 ≤ 1048576) (xs : List Int) (t : Nat) (n : Nat) (hn : n ≤ ts.length) :
    loS (exL bits ts ts.length) xs t n = exS bits ts xs t n ∧ hiS (exL bits ts ts.length) xs t n = exS bits ts xs t n ∧
    loS ts xs t n ≤ loS (naL bits ts ts.length) xs t n ∧ loS (naL bits ts ts.length) xs t n ≤ exS bits ts xs t n ∧
    exS bits ts xs t n ≤ hiS (naL bits ts ts.length) xs t n ∧ hiS (naL bits ts ts.length) xs t n ≤ hiS ts xs t n := by
  induction n with
  | zero => simp [loS, hiS, exS]
  | succ n ih =>
    have ih := ih (by omega)
    obtain ⟨b1, b2, b3⟩ := ex_bd (bits := bits) h (show n < ts.length by omega)
    have m1 := mid_mul (x := xs.getD (t - n) 0) b1 (show naAt bits ts n ≤ (ts.getD n (0, 0)).2 by omega)
    have m2 := mid_mul (x := xs.getD (t - n) 0) (show (ts.getD n (0, 0)).1 ≤ exAt bits ts n by omega) b3
    simp only [loS, hiS, exS, exL_get (show n < ts.length by omega), naL_get (show n < ts.length by omega)]
    omega

theorem up_mono {a b m : Int} (hm : 0 < m) (h : a ≤ b) : -(-a / m) ≤ -(-b / m) := by
  have := Int.ediv_le_ediv hm (show -b ≤ -a by omega)
  omega
theorem down_mono {a b m : Int} (hm : 0 < m) (h : a ≤ b) : a / m ≤ b / m := Int.ediv_le_ediv hm h
theorem up_down {a m : Int} (hm : 0 < m) : -(-a / m) - a / m ≤ 1 := by
  have h1 := Int.mul_ediv_add_emod a m
  have h2 := Int.emod_lt_of_pos a hm
  have h3 : -(a / m) - 1 ≤ -a / m := by
    rw [Int.le_ediv_iff_mul_le hm, Int.sub_mul, Int.neg_mul, Int.mul_comm (a / m)]
    omega
  omega

theorem ex_mod {bits : List Int} {ts : List (Int × Int)} {sh : Int} (h : modErr ts sh = 0) : modErr (exL bits ts ts.length) sh = 0 ∧ modErr (naL bits ts ts.length) sh = 0 := by
  obtain ⟨h1, h2, h3, h4, h5⟩ := modErr_zero h
  have key : ∀ l : List (Int × Int), l.length = ts.length → (∀ t ∈ l, t.1 ≤ t.2 ∧ -1048576 ≤ t.1 ∧ t.2 ≤ 1048576) → modErr l sh = 0 := by
    intro l hl hb
    have : modOK l sh = true := by
      simp only [modOK, inB, Bool.and_eq_true, decide_eq_true_eq, Bool.not_eq_true', List.any_eq_false, tapBad]
      refine ⟨by omega, fun t ht => ?_, by omega⟩
      have := hb t ht
      simp; omega
    simp [modErr, this]
  constructor
  · refine key _ (exL_length _ _ _) fun t ht => ?_
    obtain ⟨i, hi, rfl⟩ := List.mem_map.1 ht
    have hi := List.mem_range.1 hi
    have a := ex_bd (bits := bits) h5 hi
    have b := taps_at h5 hi
    simp only
    omega
  · refine key _ (naL_length _ _ _) fun t ht => ?_
    obtain ⟨i, hi, rfl⟩ := List.mem_map.1 ht
    have hi := List.mem_range.1 hi
    have a := ex_bd (bits := bits) h5 hi
    have b := taps_at h5 hi
    simp only
    omega

/-- what is asked at each time -/
theorem within_at {bits : List Int} {ts : List (Int × Int)} {sh : Int} (h : modErr ts sh = 0) (xs : List Int) (t : Nat) (s : Nat) :
    (bandAt ts s xs t).1 ≤ exS bits ts xs t (min ts.length (t + 1)) / 2 ^ s ∧ -(-(exS bits ts xs t (min ts.length (t + 1))) / 2 ^ s) ≤ (bandAt ts s xs t).2 ∧
    bandAt (exL bits ts ts.length) s xs t = (exS bits ts xs t (min ts.length (t + 1)) / 2 ^ s, -(-(exS bits ts xs t (min ts.length (t + 1))) / 2 ^ s)) ∧
    -(-(exS bits ts xs t (min ts.length (t + 1))) / 2 ^ s) - exS bits ts xs t (min ts.length (t + 1)) / 2 ^ s ≤ 1 ∧
    (bandAt ts s xs t).1 ≤ (bandAt (naL bits ts ts.length) s xs t).1 ∧ (bandAt (naL bits ts ts.length) s xs t).2 ≤ (bandAt ts s xs t).2 ∧
    (bandAt (naL bits ts ts.length) s xs t).1 ≤ exS bits ts xs t (min ts.length (t + 1)) / 2 ^ s ∧ -(-(exS bits ts xs t (min ts.length (t + 1))) / 2 ^ s) ≤ (bandAt (naL bits ts ts.length) s xs t).2 := by
  have hm : (0 : Int) < 2 ^ s := Int.pow_pos (by decide)
  obtain ⟨s1, s2, s3, s4, s5, s6⟩ := sums (bits := bits) (modErr_zero h).2.2.2.2 xs t (min ts.length (t + 1)) (Nat.min_le_left _ _)
  simp only [bandAt, exL_length, naL_length, s1, s2]
  exact ⟨down_mono hm (by omega), up_mono hm (by omega), trivial, up_down hm, down_mono hm s3, up_mono hm s6, down_mono hm s4, up_mono hm s5⟩
end Go.Proofs.YtoochleabcjljaaDoor

/- Small functions of ringdownref00: Down, Up, Mod; sameBands. -/
namespace Go.Proofs.YtoochleabcjljaaDoor
open Go.RowKit

theorem tdiv_floor {a b : Int} (hb : 0 < b) : (a.tmod b < 0 → a.tdiv b - 1 = a / b) ∧ (¬ a.tmod b < 0 → a.tdiv b = a / b) := by
  have h1 := Int.mul_tdiv_add_tmod a b
  have h2 := Int.mul_ediv_add_emod a b
  have h3 := Int.emod_nonneg a (by omega : b ≠ 0)
  have h4 := Int.emod_lt_of_pos a hb
  have h5 : a.tmod b < b := Int.tmod_lt_of_pos a hb
  have h6 : -b < a.tmod b := by have := Int.lt_tmod_of_pos a hb; omega
  refine ⟨fun h => ?_, fun h => ?_⟩
  · have e : b * (a.tdiv b - 1 - a / b) = a % b - b - a.tmod b := by rw [Int.mul_sub, Int.mul_sub]; omega
    have : a.tdiv b - 1 - a / b = 0 := by
      rcases Int.lt_trichotomy (a.tdiv b - 1 - a / b) 0 with hl | hl | hl
      · have := Int.mul_le_mul_of_nonneg_left (show a.tdiv b - 1 - a / b ≤ -1 by omega) (Int.le_of_lt hb); omega
      · exact hl
      · have := Int.mul_le_mul_of_nonneg_left (show 1 ≤ a.tdiv b - 1 - a / b by omega) (Int.le_of_lt hb); omega
    omega
  · have e : b * (a.tdiv b - a / b) = a % b - a.tmod b := by rw [Int.mul_sub]; omega
    have : a.tdiv b - a / b = 0 := by
      rcases Int.lt_trichotomy (a.tdiv b - a / b) 0 with hl | hl | hl
      · have := Int.mul_le_mul_of_nonneg_left (show a.tdiv b - a / b ≤ -1 by omega) (Int.le_of_lt hb); omega
      · exact hl
      · have := Int.mul_le_mul_of_nonneg_left (show 1 ≤ a.tdiv b - a / b by omega) (Int.le_of_lt hb); omega
    omega

theorem down_any (a b : Int) (w : World) (hb : 1 ≤ b) (ha : -9223372036854775807 ≤ a) (ha' : a ≤ 9223372036854775807) :
    Calls Tryd.prog 15 #[.int .i64 a, .int .i64 b] w fun e w' => e = .returned (.int .i64 (a / b)) ∧ w = w' := by
  have hf := tdiv_floor (a := a) (b := b) (by omega)
  have h0 : (b == 0) = false := by simp; omega
  have hq : -9223372036854775807 ≤ a.tdiv b ∧ a.tdiv b ≤ 9223372036854775807 := by
    have h := Int.natAbs_tdiv_le_natAbs a b
    omega
  have hr : -9223372036854775807 ≤ a.tmod b ∧ a.tmod b ≤ 9223372036854775807 := by
    have h := Int.natAbs_tmod a b
    have h2 := Nat.mod_le a.natAbs b.natAbs
    omega
  obtain ⟨q1, q2⟩ := hq
  obtain ⟨r1, r2⟩ := hr
  have H1 := Lib.hid hf; clear hf
  by_cases hm : a.tmod b < 0
  · go_enter Tryd.func15, Tryd.ntmps15
    go_wp2
    go_ret
    exact ⟨ret_int (H1.out.1 hm), rfl⟩
  · go_enter Tryd.func15, Tryd.ntmps15
    go_wp2
    go_ret
    exact ⟨ret_int (H1.out.2 hm), rfl⟩

theorem ediv_bd {a b M : Int} (hb : 1 ≤ b) (h1 : -M ≤ a) (h2 : a ≤ M) (hM : 0 ≤ M) : -M ≤ a / b ∧ a / b ≤ M := by
  have hp : (0 : Int) < b := by omega
  constructor
  · rw [Int.le_ediv_iff_mul_le hp]
    have : M * 1 ≤ M * b := Int.mul_le_mul_of_nonneg_left hb hM
    rw [Int.neg_mul]; omega
  · by_cases hx : 0 ≤ a
    · have := Int.ediv_le_self b hx; omega
    · have := Int.ediv_neg_of_neg_of_pos (by omega : a < 0) hp; omega

theorem up_any (a b : Int) (w : World) (hb : 1 ≤ b) (ha : -9223372036854775807 ≤ a) (ha' : a ≤ 9223372036854775807) :
    Calls Tryd.prog 16 #[.int .i64 a, .int .i64 b] w fun e w' => e = .returned (.int .i64 (-(-a / b))) ∧ w = w' := by
  have h1 := ediv_bd (a := -a) (M := 9223372036854775807) hb (by omega) (by omega) (by omega)
  obtain ⟨q1, q2⟩ := h1
  go_enter Tryd.func16, Tryd.ntmps16
  go_wp2_with (go_at_call 15; refine (down_any _ _ _ (by omega) (by omega) (by omega)).mono ?_; rintro e w' ⟨rfl, rfl⟩)
  go_ret
  exact ⟨rfl, rfl⟩
end Go.Proofs.YtoochleabcjljaaDoor
