/- Parts of a proof, in build order: V0, A0, C0, C1, C2, S0, E0, E1. -/
import Derived.Test.YtoochleabcjljaaGreatDoorProg
import Derived.WalkKit
import Derived.WalkSpells
import Derived.WalkLawsBesides
import Derived.Lib.Hide
import Derived.Outline
import Derived.Deep.LoopGhost
import Derived.Deep.DeepMust
import Derived.Deep.DeepFit
import Derived.Deep.QuietTactic
import Derived.BigQuiet
import Derived.StillTailTactics
import Derived.Deep.RegionHeld3
import Derived.Deep.AppendLies
import Derived.Test.YtoochleabcjljaaGreatDoorShelf

/- Words of our own on cells, over any program: what a slice's cells hold, and how that stays. -/
namespace Go.Proofs.YtoochleabcjljaaGreatDoor
open Go.RowKit

theorem ret_bool {a b : Bool} (h : a = b) : Ending.returned (.bool a) = .returned (.bool b) := by rw [h]
theorem ret_int {k : IntKind} {a b : Int} (h : a = b) : Ending.returned (.int k a) = .returned (.int k b) := by rw [h]

/-- The cells 'cs' lie from the address on (of no cells nothing is said). -/
def Cells (w : World) (ao : Option Addr) (cs : List Value) : Prop :=
  cs = [] ∨ ∃ b off, ao = some ⟨b, off, none⟩ ∧ ∀ j u, cs[j]? = some u → w.cell? ⟨b, off + j, none⟩ = some u

theorem Cells.nil (w : World) (ao : Option Addr) : Cells w ao [] := .inl rfl

theorem Cells.below {w w' : World} {B : Nat} {ao : Option Addr} {cs : List Value} (h : Cells w ao cs) (hb : Below B w w') (hB : w.heap.size ≤ B) : Cells w' ao cs := by
  rcases h with h | ⟨b, off, h1, h2⟩
  · exact .inl h
  · refine .inr ⟨b, off, h1, fun j u hu => ?_⟩
    have h3 := h2 j u hu
    have h4 := World.block_lt_of_cell? w _ h3
    rw [hb.cell (p := ⟨b, off + j, none⟩) (by simp at h4 ⊢; omega)]
    exact h3

/-- below, cell by cell -/
theorem cell_keep {w w' : World} {B : Nat} {p : Addr} {v : Value} (h : w.cell? p = some v) (hb : Below B w w') (hB : w.heap.size ≤ B) : w'.cell? p = some v := by
  have h4 := World.block_lt_of_cell? w _ h
  rw [hb.cell (p := p) (by omega)]; exact h

theorem Cells.int {w : World} {b off : Nat} {k : IntKind} {xs : List Int} (h : Cells w (some ⟨b, off, none⟩) (xs.map (Value.int k))) {i : Nat} {x : Int} (hx : xs[i]? = some x) : w.cell? ⟨b, off + i, none⟩ = some (.int k x) := by
  rcases h with h | ⟨b', off', h1, h2⟩
  · have : xs = [] := by simpa using h
    rw [this] at hx; simp at hx
  · simp only [Option.some.injEq, Addr.mk.injEq] at h1
    obtain ⟨rfl, rfl, _⟩ := h1
    exact h2 i _ (by simp [hx])

/-- a slice of no elements, or one whose address is known -/
theorem Cells.cases {w : World} {ao : Option Addr} {cs : List Value} (h : Cells w ao cs) : cs = [] ∨ ∃ b off, ao = some ⟨b, off, none⟩ := by
  rcases h with h | ⟨b, off, h1, _⟩
  · exact .inl h
  · exact .inr ⟨b, off, h1⟩

theorem Cells.addr {w : World} {ao : Option Addr} {cs : List Value} (h : Cells w ao cs) (hne : cs ≠ []) : ∃ b off, ao = some ⟨b, off, none⟩ := by
  rcases h.cases with h | h
  · exact absurd h hne
  · exact h

theorem get_of_lt {α : Type} {xs : List α} {i : Nat} (h : i < xs.length) : ∃ x, xs[i]? = some x := ⟨xs[i], by simp [h]⟩
theorem take_get {α : Type} {xs : List α} {i : Nat} {x : α} (h : xs[i]? = some x) : xs.take (i + 1) = xs.take i ++ [x] := by
  rw [List.take_add_one, h]; rfl
/-- pairs of numbers, cell by cell -/
def prs (l : List (Int × Int)) : List Value := l.flatMap fun t => [.int .i64 t.1, .int .i64 t.2]
theorem prs_nil : prs [] = [] := rfl
theorem prs_cons (t : Int × Int) (l : List (Int × Int)) : prs (t :: l) = .int .i64 t.1 :: .int .i64 t.2 :: prs l := rfl
theorem prs_append (a b : List (Int × Int)) : prs (a ++ b) = prs a ++ prs b := by simp [prs]
theorem prs_length (l : List (Int × Int)) : (prs l).length = l.length * 2 := by
  induction l with
  | nil => rfl
  | cons t l ih => simp only [prs_cons, List.length_cons, ih]; omega
theorem prs_fst {l : List (Int × Int)} {i : Nat} {t : Int × Int} (h : l[i]? = some t) : (prs l)[i * 2]? = some (.int .i64 t.1) := by
  induction l generalizing i with
  | nil => simp at h
  | cons s l ih =>
    cases i with
    | zero => simp at h; subst h; simp [prs_cons]
    | succ i =>
      have e : (i + 1) * 2 = i * 2 + 1 + 1 := by omega
      rw [prs_cons, e, List.getElem?_cons_succ, List.getElem?_cons_succ]; exact ih (by simpa using h)
theorem prs_snd {l : List (Int × Int)} {i : Nat} {t : Int × Int} (h : l[i]? = some t) : (prs l)[i * 2 + 1]? = some (.int .i64 t.2) := by
  induction l generalizing i with
  | nil => simp at h
  | cons s l ih =>
    cases i with
    | zero => simp at h; subst h; simp [prs_cons]
    | succ i =>
      have e : (i + 1) * 2 + 1 = i * 2 + 1 + 1 + 1 := by omega
      rw [prs_cons, e, List.getElem?_cons_succ, List.getElem?_cons_succ]; exact ih (by simpa using h)
theorem prs_ne {l : List (Int × Int)} (h : 0 < l.length) : prs l ≠ [] := by
  intro e; have := prs_length l; rw [e] at this; simp at this; omega
theorem Cells.at {w : World} {b off : Nat} {cs : List Value} (h : Cells w (some ⟨b, off, none⟩) cs) {j : Nat} {u : Value} (hu : cs[j]? = some u) : w.cell? ⟨b, off + j, none⟩ = some u := by
  rcases h with h | ⟨b', off', h1, h2⟩
  · rw [h] at hu; simp at hu
  · simp only [Option.some.injEq, Addr.mk.injEq] at h1
    obtain ⟨rfl, rfl, _⟩ := h1
    exact h2 j u hu

/-- the cells of a new block, kept -/
theorem box_keep {w w1 : World} {cs : Array Value} {T : TypeId} {B : Nat} (hb : Below B (w.alloc (.cells cs T)) w1) (hB : w.heap.size < B) (i : Nat) : w1.cell? ⟨w.heap.size, i, none⟩ = cs[i]? := by
  rw [hb.cell (p := ⟨w.heap.size, i, none⟩) hB]; simp

/-- an owned row, as a slice -/
theorem own_cells {w : World} {b : Nat} {e : TypeId} {s : Nat} {v : Value} {n : Nat} {xs : List Value} (h : w.ownsRow b e s v n xs) : ∃ a c, v = .slice a n c ∧ Cells w a xs := by
  obtain ⟨h0, h1⟩ := h
  rcases h1 with ⟨rfl, rfl⟩ | ⟨g, cap, cur, rfl, hb, hg, hn, hm, hs, ht⟩
  · refine ⟨none, 0, rfl, .inl ?_⟩
    simpa using h0
  · refine ⟨_, _, rfl, .inr ⟨g, 0, rfl, fun j u hu => ?_⟩⟩
    have h2 := World.ownsRow.cells (w := w) (base := b) (e := e) (size := s) (v := .slice (some ⟨g, 0, none⟩) n cap) (n := n) (xs := xs) ⟨h0, .inr ⟨g, cap, cur, rfl, hb, hg, hn, hm, hs, ht⟩⟩ rfl j u hu
    rw [Addr.add_lit] at h2
    exact h2
/-- the one cell of a new block, to be appended -/
theorem news1 (w : World) (u : Value) (T : TypeId) : ∀ (j : Nat) (v : Value), [u][j]? = some v → (w.alloc (.cells #[u] T)).cell? ((⟨w.heap.size, 0, none⟩ : Addr).add j) = some v := by
  intro j v hj
  match j, hj with
  | 0, hj => simp at hj; subst hj; simp [Addr.add]
theorem own_drewN {w : World} {b : Nat} {e : TypeId} {s : Nat} {v : Value} {n : Nat} {xs : List Value} (h : w.ownsRow b e s v n xs) (k : Nat) : (w.drewN k).ownsRow b e s v n xs := h
theorem bel_drewN {B : Nat} {a w : World} (h : Below B a w) (k : Nat) : Below B a (w.drewN k) := ⟨h.os, h.tape, h.output, h.size, h.block⟩
theorem div_pow_bd {x M : Int} (s : Nat) (h1 : -M ≤ x) (h2 : x ≤ M) (hM : 0 ≤ M) : -M ≤ x / 2 ^ s ∧ x / 2 ^ s ≤ M := by
  have hp : (0 : Int) < 2 ^ s := Int.pow_pos (by decide)
  have h1p : (1 : Int) ≤ 2 ^ s := by omega
  constructor
  · rw [Int.le_ediv_iff_mul_le hp]
    have : M * 1 ≤ M * 2 ^ s := Int.mul_le_mul_of_nonneg_left h1p hM
    rw [Int.neg_mul]; omega
  · by_cases hx : 0 ≤ x
    · have := Int.ediv_le_self (2 ^ s) hx; omega
    · have := Int.ediv_neg_of_neg_of_pos (by omega : x < 0) hp; omega
theorem min_if (a b : Int) : (if b < a then b else a) = min a b := by rw [Int.min_def]; split <;> split <;> omega
theorem max_if (a b : Int) : (if a < b then b else a) = max a b := by rw [Int.max_def]; split <;> split <;> omega

end Go.Proofs.YtoochleabcjljaaGreatDoor

/- Small functions of numbers. -/
namespace Go.Proofs.YtoochleabcjljaaGreatDoor
open Go.RowKit

/-- n is from lo to hi -/
def inB (lo n hi : Int) : Bool := decide (lo ≤ n ∧ n ≤ hi)
theorem inB_eq (lo n hi : Int) : inB lo n hi = (decide (lo ≤ n) && decide (n ≤ hi)) := by simp [inB]

theorem within_any (n lo hi : Int) (w : World) :
    Calls Tryz.prog 53 #[.int .i64 n, .int .i64 lo, .int .i64 hi] w fun e w' => e = .returned (.bool (inB lo n hi)) ∧ w = w' := by
  by_cases h1 : lo ≤ n
  · go_enter Tryz.func53, Tryz.ntmps53
    go_wp2
    go_ret
    exact ⟨ret_bool (by simp [inB]; try omega), rfl⟩
  · go_enter Tryz.func53, Tryz.ntmps53
    go_wp2
    go_ret
    exact ⟨ret_bool (by simp [inB]; try omega), rfl⟩

theorem in_any (n lo hi : Int) (w : World) :
    Calls Tryz.prog 54 #[.int .i64 n, .int .i64 lo, .int .i64 hi] w fun e w' => e = .returned (.bool (inB lo n hi)) ∧ w = w' := by
  by_cases h1 : lo ≤ n
  · go_enter Tryz.func54, Tryz.ntmps54
    go_wp2
    go_ret
    exact ⟨ret_bool (by simp [inB]; try omega), rfl⟩
  · go_enter Tryz.func54, Tryz.ntmps54
    go_wp2
    go_ret
    exact ⟨ret_bool (by simp [inB]; try omega), rfl⟩

theorem seriesOK1_any (n : Int) (w : World) :
    Calls Tryz.prog 112 #[.int .i64 n] w fun e w' => e = .returned (.bool (!inB (-8388608) n 8388608)) ∧ w = w' := by
  go_enter Tryz.func112, Tryz.ntmps112
  go_wp2_with (go_at_call 53; refine (within_any _ _ _ _).mono ?_; rintro e w' ⟨rfl, rfl⟩)
  go_ret
  exact ⟨rfl, rfl⟩

set_option maxRecDepth 100000 in
/-- slices.IndexFunc over ints, at whatever test that computes p and leaves what was there -/
theorem indexFunc_ints (F : FuncId) (capd : Array Value) (p : Int → Bool) (ao : Option Addr) (xs : List Int) (cap : Nat) (w : World) (hc : Cells w ao (xs.map (Value.int .i64))) (hl : xs.length ≤ 9223372036854775807)
    (hcf : ∀ (vs : Array Value) (wx : World), Sem.run Tryz.prog (callFunc F vs) wx = .ok (.enter F vs) wx)
    (hF : ∀ x wx, x ∈ xs → Below w.heap.size w wx → Calls Tryz.prog F (#[.int .i64 x] ++ capd) wx fun e w' => e = .returned (.bool (p x)) ∧ Below wx.heap.size wx w') :
    Calls Tryz.prog 166 #[.slice ao xs.length cap, .func (.func F) #[] capd] w fun e w' => (∃ r : Int, e = .returned (.int .i64 r) ∧ (0 ≤ r ↔ xs.any p = true)) ∧ Below w.heap.size w w' := by
  go_enter Tryz.func166, Tryz.ntmps166
  go_wp2
  go_loopw [8] (fun i wr => ∃ k : Nat, k ≤ xs.length ∧ i = .int .i64 k ∧ (xs.take k).any p = false ∧ Below w.heap.size w wr) (fun i _ => xs.length - (intOf i).toNat)
  case atStart => exact ⟨0, Nat.zero_le _, rfl, rfl, Below.refl _ _⟩
  case round =>
    obtain ⟨k, hk, rfl, hany, hb⟩ := hrel
    by_cases hlt : k < xs.length
    · obtain ⟨x, hx⟩ := get_of_lt hlt
      obtain ⟨b, off, rfl⟩ := hc.addr (by simpa using List.ne_nil_of_length_pos (by omega))
      have hcell := cell_keep (hc.int hx) hb (Nat.le_refl _)
      have HX := Lib.hid hx; clear hx
      have HC := Lib.hid hc; clear hc
      have HF := Lib.hid hF; clear hF
      have HA := Lib.hid hany; clear hany
      go_wp2_with fail
      refine (HF.out x wr (List.mem_of_getElem? HX.out) hb).mono ?_
      rintro e w1 ⟨rfl, hb1⟩
      have hb2 := hb.trans (hb1.mono hb.size)
      clear hb1
      by_cases hp : p x = true
      · go_wp2
        go_ret
        exact ⟨⟨_, rfl, by simp; exact ⟨x, List.mem_of_getElem? HX.out, hp⟩⟩, hb2⟩
      · simp only [Bool.not_eq_true] at hp
        go_wp2
        go_roundw
        case rel => exact ⟨k + 1, by omega, by go_num, by rw [take_get HX.out, List.any_append, HA.out]; simp [hp], hb2⟩
        case measure => simp [intOf]; omega
    · obtain rfl : k = xs.length := by omega
      rw [List.take_length] at hany
      have HA := Lib.hid hany; clear hany
      go_wp2
      go_ret
      exact ⟨⟨_, rfl, by rw [HA.out]; simp⟩, hb⟩
end Go.Proofs.YtoochleabcjljaaGreatDoor

/- Names: num.IsName. -/
namespace Go.Proofs.YtoochleabcjljaaGreatDoor
open Go.RowKit

/-- may the byte c (a number) stand at the place i of a name? -/
def chOK (i : Nat) (c : Nat) : Bool := decide (97 ≤ c ∧ c ≤ 122 ∨ i ≠ 0 ∧ (c = 95 ∨ 48 ≤ c ∧ c ≤ 57))
def chAt (s : ByteArray) (i : Nat) : Nat := (s.data.toList.getD i 0).toNat
def nameTo (s : ByteArray) (k : Nat) : Bool := (List.range k).all fun i => chOK i (chAt s i)
def nameOK (s : ByteArray) : Bool := nameTo s s.size && (decide (1 ≤ s.size) && decide (s.size ≤ 16))
theorem nameTo_succ (s : ByteArray) (k : Nat) : nameTo s (k + 1) = (nameTo s k && chOK k (chAt s k)) := by simp [nameTo, List.range_succ, List.all_append]
theorem nameTo_false {s : ByteArray} {k : Nat} (h : chOK k (chAt s k) = false) (hk : k < s.size) : nameOK s = false := by
  have : nameTo s s.size = false := by
    rw [nameTo, List.all_eq_false]; exact ⟨k, by simpa using hk, by simp [h]⟩
  simp [nameOK, this]
theorem chAt_eq {s : ByteArray} {k : Nat} (h : k < s.size) : chAt s k = s[k].toNat := by
  unfold chAt
  rw [List.getD_eq_getElem?_getD, List.getElem?_eq_getElem (by simpa using h)]; rfl

set_option maxRecDepth 100000 in
theorem isName_any (s : ByteArray) (w : World) (hs : s.size ≤ 9223372036854775807) :
    Calls Tryz.prog 66 #[.string s] w fun e w' => e = .returned (.bool (nameOK s)) ∧ w = w' := by
  go_enter Tryz.func66, Tryz.ntmps66
  go_wp2
  go_loop [8] (fun i => ∃ k : Nat, k ≤ s.size ∧ i = .int .i64 k ∧ nameTo s k = true) (fun i => s.size - (intOf i).toNat)
  case atStart => exact ⟨0, Nat.zero_le _, rfl, rfl⟩
  case round =>
    obtain ⟨k, hk, rfl, hn⟩ := hrel
    by_cases hlt : k < s.size
    · have hsu := nameTo_succ s k
      rw [hn, Bool.true_and] at hsu
      have hfa := fun h => nameTo_false (s := s) (k := k) h hlt
      rw [chAt_eq hlt] at hsu hfa
      have HSU := Lib.hid hsu; have HFA := Lib.hid hfa; clear hsu hfa hn
      have hc : chOK k s[k].toNat = true ∨ chOK k s[k].toNat = false := by cases chOK k s[k].toNat <;> simp
      rcases hc with hc | hc
      · have HSU2 : Hid (nameTo s (k + 1) = true) := by show nameTo s (k + 1) = true; rw [HSU.out, hc]
        simp only [chOK, decide_eq_true_eq] at hc
        rcases hc with ⟨h1, h2⟩ | ⟨h0, h3 | ⟨h1, h2⟩⟩
        · have g1 : (97 : Int) ≤ s[k].toNat := by omega
          have g2 : (s[k].toNat : Int) ≤ 122 := by omega
          clear h1 h2
          go_wp2
          go_round
          case rel => exact ⟨k + 1, by omega, by go_num, HSU2.out⟩
          case measure => simp [intOf]; omega
        · have g0 : ((k : Int) == 0) = false := by rw [beq_eq_false_iff_ne]; omega
          have g1 : ¬ (97 : Int) ≤ s[k].toNat := by omega
          have g2 : ((s[k].toNat : Int) != 95) = false := by simp [h3]
          clear h3 h0
          go_wp2
          go_round
          case rel => exact ⟨k + 1, by omega, by go_num, HSU2.out⟩
          case measure => simp [intOf]; omega
        · have g0 : ((k : Int) == 0) = false := by rw [beq_eq_false_iff_ne]; omega
          have g1 : ¬ (97 : Int) ≤ s[k].toNat := by omega
          have g2 : ((s[k].toNat : Int) != 95) = true := by rw [bne_iff_ne]; omega
          have g3 : ¬ (s[k].toNat : Int) < 48 := by omega
          have g4 : ¬ (57 : Int) < s[k].toNat := by omega
          clear h1 h2 h0
          go_wp2
          go_round
          case rel => exact ⟨k + 1, by omega, by go_num, HSU2.out⟩
          case measure => simp [intOf]; omega
      · have HF : Hid (nameOK s = false) := HFA.out hc
        simp only [chOK, decide_eq_false_iff_not] at hc
        have g1 : (s[k].toNat : Int) < 97 ∨ (122 : Int) < s[k].toNat := by omega
        have g2 : k = 0 ∨ 0 < k := by omega
        rcases g1 with g1 | g1
        all_goals
          try have g5 : decide ((s[k].toNat : Int) ≤ 122) = false := by rw [decide_eq_false_iff_not]; omega
          rcases g2 with g2 | g2
          · subst g2
            clear hc
            go_wp2
            go_ret
            exact ⟨ret_bool HF.out.symm, rfl⟩
          · have g0 : ((k : Int) == 0) = false := by rw [beq_eq_false_iff_ne]; omega
            have g4 : ((s[k].toNat : Int) != 95) = true := by rw [bne_iff_ne]; omega
            have g3 : (s[k].toNat : Int) < 48 ∨ 57 < (s[k].toNat : Int) := by omega
            clear hc g2
            rcases g3 with g3 | g3
            all_goals first | (exfalso; omega) | (go_wp2; go_ret; exact ⟨ret_bool HF.out.symm, rfl⟩)
    · obtain rfl : k = s.size := by omega
      have hf : nameOK s = (decide (1 ≤ s.size) && decide (s.size ≤ 16)) := by rw [nameOK, hn, Bool.true_and]
      have HF := Lib.hid hf; clear hf hn
      by_cases h1 : (1 : Int) ≤ s.size
      · go_wp2
        go_ret
        exact ⟨ret_bool (by rw [HF.out, Bool.eq_iff_iff]; simp; omega), rfl⟩
      · go_wp2
        go_ret
        exact ⟨ret_bool (by rw [HF.out, Bool.eq_iff_iff]; simp; omega), rfl⟩
end Go.Proofs.YtoochleabcjljaaGreatDoor

/- Books: slices of channels; slices.IndexFunc and ContainsFunc over them. -/
namespace Go.Proofs.YtoochleabcjljaaGreatDoor
open Go.RowKit

structure Chan where
  name : ByteArray
  rate : Int
  bits : Int

/-- channels, cell by cell -/
def chs (l : List Chan) : List Value := l.flatMap fun t => [.string t.name, .int .i64 t.rate, .int .i64 t.bits]
theorem chs_cons (t : Chan) (l : List Chan) : chs (t :: l) = .string t.name :: .int .i64 t.rate :: .int .i64 t.bits :: chs l := rfl
theorem chs_append (a b : List Chan) : chs (a ++ b) = chs a ++ chs b := by simp [chs]
theorem chs_length (l : List Chan) : (chs l).length = l.length * 3 := by
  induction l with
  | nil => rfl
  | cons t l ih => simp only [chs_cons, List.length_cons, ih]; omega
theorem chs_get {l : List Chan} {i : Nat} {t : Chan} (h : l[i]? = some t) : (chs l)[i * 3]? = some (.string t.name) ∧ (chs l)[i * 3 + 1]? = some (.int .i64 t.rate) ∧ (chs l)[i * 3 + 2]? = some (.int .i64 t.bits) := by
  induction l generalizing i with
  | nil => simp at h
  | cons s l ih =>
    cases i with
    | zero => simp at h; subst h; simp [chs_cons]
    | succ i =>
      have e : (i + 1) * 3 = i * 3 + 1 + 1 + 1 := by omega
      have e1 : (i + 1) * 3 + 1 = i * 3 + 1 + 1 + 1 + 1 := by omega
      have e2 : (i + 1) * 3 + 2 = i * 3 + 2 + 1 + 1 + 1 := by omega
      rw [chs_cons, e2, e1, e]
      simp only [List.getElem?_cons_succ]
      exact ih (by simpa using h)
theorem chs_ne {l : List Chan} (h : 0 < l.length) : chs l ≠ [] := by
  intro e; have := chs_length l; rw [e] at this; simp at this; omega
theorem chs_take (l : List Chan) (i : Nat) : chs (l.take i) = (chs l).take (i * 3) := by
  induction l generalizing i with
  | nil => simp [chs]
  | cons t l ih =>
    cases i with
    | zero => simp [chs]
    | succ i =>
      have e : (i + 1) * 3 = i * 3 + 1 + 1 + 1 := by omega
      rw [List.take_succ_cons, chs_cons, chs_cons, e, List.take_succ_cons, List.take_succ_cons, List.take_succ_cons, ih]
theorem Cells.take' {w : World} {ao : Option Addr} {cs : List Value} (h : Cells w ao cs) (n : Nat) : Cells w ao (cs.take n) := by
  rcases h with h | ⟨b, off, h1, h2⟩
  · exact .inl (by simp [h])
  · refine .inr ⟨b, off, h1, fun j u hu => h2 j u ?_⟩
    rw [List.getElem?_take] at hu
    split at hu
    · exact hu
    · simp at hu

set_option maxRecDepth 100000 in
/-- slices.IndexFunc over channels -/
theorem indexFunc_chans (F : FuncId) (capd : Array Value) (p : Chan → Bool) (ao : Option Addr) (xs : List Chan) (cap : Nat) (w : World) (hc : Cells w ao (chs xs)) (hl : xs.length ≤ 9223372036854775807)
    (hcf : ∀ (vs : Array Value) (wx : World), Sem.run Tryz.prog (callFunc F vs) wx = .ok (.enter F vs) wx)
    (hF : ∀ x wx, x ∈ xs → Below w.heap.size w wx → Calls Tryz.prog F (#[.agg #[.string x.name, .int .i64 x.rate, .int .i64 x.bits]] ++ capd) wx fun e w' => e = .returned (.bool (p x)) ∧ Below wx.heap.size wx w') :
    Calls Tryz.prog 80 #[.slice ao xs.length cap, .func (.func F) #[] capd] w fun e w' => (∃ r : Int, e = .returned (.int .i64 r) ∧ (0 ≤ r ↔ xs.any p = true) ∧ (∀ i : Nat, r = i → ∃ x, xs[i]? = some x ∧ p x = true ∧ (xs.take i).any p = false)) ∧ Below w.heap.size w w' := by
  go_enter Tryz.func80, Tryz.ntmps80
  go_wp2
  go_loopw [8] (fun i wr => ∃ k : Nat, k ≤ xs.length ∧ i = .int .i64 k ∧ (xs.take k).any p = false ∧ Below w.heap.size w wr) (fun i _ => xs.length - (intOf i).toNat)
  case atStart => exact ⟨0, Nat.zero_le _, rfl, rfl, Below.refl _ _⟩
  case round =>
    obtain ⟨k, hk, rfl, hany, hb⟩ := hrel
    by_cases hlt : k < xs.length
    · obtain ⟨x, hx⟩ := get_of_lt hlt
      obtain ⟨b, off, rfl⟩ := hc.addr (chs_ne (by omega))
      obtain ⟨g0, g1, g2⟩ := chs_get hx
      have hcell1 := cell_keep (hc.at g0) hb (Nat.le_refl _)
      have hcell2 := cell_keep (hc.at g1) hb (Nat.le_refl _)
      have hcell3 := cell_keep (hc.at g2) hb (Nat.le_refl _)
      rw [← Nat.add_assoc] at hcell2 hcell3
      clear g0 g1 g2
      have HX := Lib.hid hx; clear hx
      have HC := Lib.hid hc; clear hc
      have HF := Lib.hid hF; clear hF
      have HA := Lib.hid hany; clear hany
      go_wp2_with fail
      refine (HF.out x wr (List.mem_of_getElem? HX.out) hb).mono ?_
      rintro e w1 ⟨rfl, hb1⟩
      have hb2 := hb.trans (hb1.mono hb.size)
      clear hb1
      by_cases hp : p x = true
      · go_wp2
        go_ret
        refine ⟨⟨_, rfl, ?_, ?_⟩, hb2⟩
        · simp only [Int.natCast_nonneg, true_iff, List.any_eq_true]
          exact ⟨x, List.mem_of_getElem? HX.out, hp⟩
        · intro i hi
          obtain rfl : k = i := by omega
          exact ⟨x, HX.out, hp, HA.out⟩
      · simp only [Bool.not_eq_true] at hp
        go_wp2
        go_roundw
        case rel => exact ⟨k + 1, by omega, by go_num, by rw [take_get HX.out, List.any_append, HA.out]; simp [hp], hb2⟩
        case measure => simp [intOf]; omega
    · obtain rfl : k = xs.length := by omega
      rw [List.take_length] at hany
      have HA := Lib.hid hany; clear hany
      go_wp2
      go_ret
      exact ⟨⟨_, rfl, by rw [HA.out]; simp, fun i hi => by omega⟩, hb⟩

set_option maxRecDepth 100000 in
theorem containsFunc_chans (F : FuncId) (capd : Array Value) (p : Chan → Bool) (ao : Option Addr) (xs : List Chan) (cap : Nat) (w : World) (hc : Cells w ao (chs xs)) (hl : xs.length ≤ 9223372036854775807)
    (hcf : ∀ (vs : Array Value) (wx : World), Sem.run Tryz.prog (callFunc F vs) wx = .ok (.enter F vs) wx)
    (hF : ∀ x wx, x ∈ xs → Below w.heap.size w wx → Calls Tryz.prog F (#[.agg #[.string x.name, .int .i64 x.rate, .int .i64 x.bits]] ++ capd) wx fun e w' => e = .returned (.bool (p x)) ∧ Below wx.heap.size wx w') :
    Calls Tryz.prog 67 #[.slice ao xs.length cap, .func (.func F) #[] capd] w fun e w' => e = .returned (.bool (xs.any p)) ∧ Below w.heap.size w w' := by
  have HC := Lib.hid hc; clear hc
  have HF := Lib.hid hF; clear hF
  have HCF := Lib.hid hcf; clear hcf
  go_enter Tryz.func67, Tryz.ntmps67
  go_wp2_with fail
  refine (indexFunc_chans F capd p ao xs cap w HC.out hl HCF.out HF.out).mono ?_
  rintro e w1 ⟨⟨r, rfl, hr, _⟩, hb⟩
  have HR := Lib.hid hr; clear hr
  go_wp2
  go_ret
  exact ⟨ret_bool (by rw [Bool.eq_iff_iff, decide_eq_true_iff]; exact HR.out), hb⟩

/-- have two channels the same name? -/
def sameName (a b : ByteArray) : Bool := a.toList == b.toList

theorem checkBook1_any (x : Chan) (bc : Nat) (t : ByteArray) (w : World) (hc : w.cell? ⟨bc, 0, none⟩ = some (.string t)) :
    Calls Tryz.prog 68 #[.agg #[.string x.name, .int .i64 x.rate, .int .i64 x.bits], .pointer (some ⟨bc, 0, none⟩)] w fun e w' => e = .returned (.bool (sameName x.name t)) ∧ Below w.heap.size w w' := by
  have hc1 := cell_keep hc ((Below.refl _ _).alloc (Nat.le_refl _) (.cells #[.string x.name, .int .i64 x.rate, .int .i64 x.bits] 106)) (Nat.le_refl _)
  go_enter Tryz.func68, Tryz.ntmps68
  go_wp2
  go_ret
  exact ⟨rfl, (Below.refl _ _).alloc (Nat.le_refl _) _⟩
end Go.Proofs.YtoochleabcjljaaGreatDoor

/- Books: CheckBook. -/
namespace Go.Proofs.YtoochleabcjljaaGreatDoor
open Go.RowKit

def pow2B (r : Int) : Bool := decide (r = 1 ∨ r = 2 ∨ r = 4 ∨ r = 8 ∨ r = 16 ∨ r = 32 ∨ r = 64)
def chanOK (c : Chan) : Bool := nameOK c.name && (inB 1 c.rate 64 && (pow2B c.rate && inB 2 c.bits 24))
def dupB (bs : List Chan) (c : Chan) : Bool := bs.any fun x => sameName x.name c.name
def bookTo (bs : List Chan) : Nat → Bool
  | 0 => true
  | k + 1 => bookTo bs k && match bs[k]? with | some c => chanOK c && !dupB (bs.take k) c | none => true
def bookOK (bs : List Chan) : Bool := inB 1 bs.length 16 && bookTo bs bs.length
def bookErr (bs : List Chan) : Int := if bookOK bs then 0 else 50
theorem bookTo_succ {bs : List Chan} {k : Nat} {c : Chan} (h : bs[k]? = some c) : bookTo bs (k + 1) = (bookTo bs k && (chanOK c && !dupB (bs.take k) c)) := by
  simp [bookTo, h]

theorem pow2_nat : ∀ n : Fin 65, 1 ≤ n.val → (bits BinOp.and IntKind.i64 (n.val : Int) ((n.val : Int) - 1) == 0) = pow2B n.val := by decide +kernel
theorem pow2_bits {r : Int} (h1 : 1 ≤ r) (h2 : r ≤ 64) : (bits BinOp.and IntKind.i64 r (r - 1) == 0) = pow2B r := by
  obtain ⟨n, rfl⟩ := Int.eq_ofNat_of_zero_le (show 0 ≤ r by omega)
  exact pow2_nat ⟨n, by omega⟩ (by show 1 ≤ n; omega)

set_option maxRecDepth 100000 in
set_option maxHeartbeats 1000000 in
theorem checkBook_any (ao : Option Addr) (bs : List Chan) (cap : Nat) (w : World) (hc : Cells w ao (chs bs)) (hl : bs.length ≤ 9223372036854775807) (hcap : bs.length ≤ cap) (hcap2 : cap ≤ 9223372036854775807) (hn : ∀ c ∈ bs, c.name.size ≤ 9223372036854775807) (hr : ∀ c ∈ bs, -9223372036854775808 ≤ c.rate) :
    Calls Tryz.prog 24 #[.slice ao bs.length cap] w fun e w' => e = .returned (.int .i64 (bookErr bs)) ∧ Below w.heap.size w w' := by
  have HC := Lib.hid hc; clear hc
  have HN := Lib.hid hn; have HR := Lib.hid hr; clear hn hr
  go_enter Tryz.func24, Tryz.ntmps24
  go_wp2_with (go_at_call 53; refine (within_any _ _ _ _).mono ?_; rintro e w' ⟨rfl, rfl⟩)
  go_loopw [3, 11] (fun o i wr => ∃ k : Nat, k ≤ bs.length ∧ i = .int .i64 k ∧ o = .bool (inB 1 bs.length 16 && bookTo bs k) ∧ Below w.heap.size w wr) (fun _ i _ => bs.length - (intOf i).toNat)
  case atStart => exact ⟨0, Nat.zero_le _, rfl, by simp [bookTo], Below.refl _ _⟩
  case round =>
    obtain ⟨k, hk, rfl, rfl, hb⟩ := hrel
    by_cases hlt : k < bs.length
    · obtain ⟨c, hx⟩ := get_of_lt hlt
      obtain ⟨b, off, rfl⟩ := HC.out.addr (chs_ne (by omega))
      obtain ⟨g0, g1, g2⟩ := chs_get hx
      have hcell1 := cell_keep (HC.out.at g0) hb (Nat.le_refl _)
      have hcell2 := cell_keep (HC.out.at g1) hb (Nat.le_refl _)
      have hcell3 := cell_keep (HC.out.at g2) hb (Nat.le_refl _)
      rw [← Nat.add_assoc] at hcell2 hcell3
      clear g0 g1 g2
      have hst := bookTo_succ hx
      have hsz := hb.size
      have hnm := HN.out c (List.mem_of_getElem? hx)
      have hrt := HR.out c (List.mem_of_getElem? hx)
      have hn2 : (inB 1 bs.length 16 && bookTo bs (k + 1)) = ((inB 1 bs.length 16 && bookTo bs k) && (chanOK c && !dupB (bs.take k) c)) := by rw [hst, Bool.and_assoc]
      have HNX := Lib.hid hn2; clear hst hn2 hx
      generalize (inB 1 bs.length 16 && bookTo bs k) = o at *
      cases o
      · go_wp2
        go_roundw
        case rel => exact ⟨k + 1, by omega, by go_num, by rw [HNX.out]; rfl, hb.alloc hsz _⟩
        case measure => simp [intOf]; omega
      · cases h1 : nameOK c.name
        · have he : (chanOK c && !dupB (bs.take k) c) = false := by simp [chanOK, h1]
          have HE := Lib.hid he; clear he
          go_wp2_with fail
          refine (isName_any _ _ hnm).mono ?_
          rintro e w1 ⟨rfl, rfl⟩
          go_wp2
          go_roundw
          case rel => exact ⟨k + 1, by omega, by go_num, by rw [HNX.out, HE.out]; rfl, hb.alloc hsz _⟩
          case measure => simp [intOf]; omega
        · cases h2 : inB 1 c.rate 64
          · have he : (chanOK c && !dupB (bs.take k) c) = false := by simp [chanOK, h2]
            have HE := Lib.hid he; clear he
            go_wp2_with fail
            refine (isName_any _ _ hnm).mono ?_
            rintro e w1 ⟨rfl, rfl⟩
            rw [h1]
            go_wp2_with fail
            refine (within_any _ _ _ _).mono ?_
            rintro e w1 ⟨rfl, rfl⟩
            go_wp2
            go_roundw
            case rel => exact ⟨k + 1, by omega, by go_num, by rw [HNX.out, HE.out]; rfl, hb.alloc hsz _⟩
            case measure => simp [intOf]; omega
          · have H2 := Lib.hid h2
            have hr2 : 1 ≤ c.rate ∧ c.rate ≤ 64 := by simpa [inB] using h2
            obtain ⟨hr1, hr2⟩ := hr2
            have hp2 := pow2_bits hr1 hr2
            cases h3 : pow2B c.rate
            · have he : (chanOK c && !dupB (bs.take k) c) = false := by simp [chanOK, h3]
              have HE := Lib.hid he; clear he
              rw [h3] at hp2
              go_wp2_with fail
              refine (isName_any _ _ hnm).mono ?_
              rintro e w1 ⟨rfl, rfl⟩
              rw [h1]
              go_wp2_with fail
              refine (within_any _ _ _ _).mono ?_
              rintro e w1 ⟨rfl, rfl⟩
              rw [H2.out]
              go_wp2
              go_roundw
              case rel => exact ⟨k + 1, by omega, by go_num, by rw [HNX.out, HE.out]; rfl, hb.alloc hsz _⟩
              case measure => simp [intOf]; omega
            · cases h4 : inB 2 c.bits 24
              · have he : (chanOK c && !dupB (bs.take k) c) = false := by simp [chanOK, h4]
                have HE := Lib.hid he; clear he
                rw [h3] at hp2
                go_wp2_with fail
                refine (isName_any _ _ hnm).mono ?_
                rintro e w1 ⟨rfl, rfl⟩
                rw [h1]
                go_wp2_with fail
                refine (within_any _ _ _ _).mono ?_
                rintro e w1 ⟨rfl, rfl⟩
                rw [H2.out]
                go_wp2_with fail
                refine (within_any _ _ _ _).mono ?_
                rintro e w1 ⟨rfl, rfl⟩
                go_wp2
                go_roundw
                case rel => exact ⟨k + 1, by omega, by go_num, by rw [HNX.out, HE.out]; rfl, hb.alloc hsz _⟩
                case measure => simp [intOf]; omega
              · have he : (chanOK c && !dupB (bs.take k) c) = !dupB (bs.take k) c := by simp [chanOK, h1, h2, h3, h4]
                have HE := Lib.hid he; clear he
                rw [h3] at hp2
                have hlk : (bs.take k).length = k := by rw [List.length_take]; omega
                have hbx := hb.alloc hsz (.cells #[.string c.name, .int .i64 c.rate, .int .i64 c.bits] 106)
                have hcon := containsFunc_chans 68 #[.pointer (some ⟨wr.heap.size, 0, none⟩)] (fun x => sameName x.name c.name) (some ⟨b, off, none⟩) (bs.take k) cap (wr.alloc (.cells #[.string c.name, .int .i64 c.rate, .int .i64 c.bits] 106))
                  (by rw [chs_take]; exact (HC.out.below hbx (Nat.le_refl _)).take' _) (by rw [hlk]; omega) (fun _ _ => by kernel_rfl) (fun x wx _ hbe => checkBook1_any x wr.heap.size c.name wx (box_keep hbe (by simp) 0))
                rw [hlk] at hcon
                have HCON := Lib.hid hcon; clear hcon hlk
                have H4 := Lib.hid h4
                go_wp2_with fail
                refine (isName_any _ _ hnm).mono ?_
                rintro e w1 ⟨rfl, rfl⟩
                rw [h1]
                go_wp2_with fail
                refine (within_any _ _ _ _).mono ?_
                rintro e w1 ⟨rfl, rfl⟩
                rw [H2.out]
                go_wp2_with fail
                refine (within_any _ _ _ _).mono ?_
                rintro e w1 ⟨rfl, rfl⟩
                rw [H4.out]
                go_wp2_with fail
                refine HCON.out.mono ?_
                rintro e w1 ⟨rfl, hb1⟩
                go_wp2
                go_roundw
                case rel => exact ⟨k + 1, by omega, by go_num, by rw [HNX.out, HE.out]; rfl, hbx.trans (hb1.mono hbx.size)⟩
                case measure => simp [intOf]; omega
    · obtain rfl : k = bs.length := by omega
      have hf : bookErr bs = if (inB 1 bs.length 16 && bookTo bs bs.length) then 0 else 50 := rfl
      have HF := Lib.hid hf; clear hf
      generalize (inB 1 bs.length 16 && bookTo bs bs.length) = o at *
      cases o
      all_goals
        go_wp2
        go_ret
        exact ⟨ret_int (by rw [HF.out]; rfl), hb⟩
end Go.Proofs.YtoochleabcjljaaGreatDoor

/- The chapter's own checks: IsName, Find. -/
namespace Go.Proofs.YtoochleabcjljaaGreatDoor
open Go.RowKit

theorem nameOK_of {s : ByteArray} (h : nameTo s s.size = true) (h1 : 1 ≤ s.size) (h2 : s.size ≤ 16) : nameOK s = true := by simp [nameOK, h, h1, h2]

set_option maxRecDepth 100000 in
set_option maxHeartbeats 1000000 in
theorem refIsName_any (s : ByteArray) (w : World) (hs : s.size ≤ 9223372036854775807) :
    Calls Tryz.prog 69 #[.string s] w fun e w' => e = .returned (.bool (nameOK s)) ∧ w = w' := by
  by_cases h0 : s.size < 1
  · have hn : nameOK s = false := by
      have : decide (1 ≤ s.size) = false := decide_eq_false (by omega)
      simp [nameOK, this]
    have HN := Lib.hid hn; clear hn
    have h0' : (s.size : Int) < 1 := by omega
    go_enter Tryz.func69, Tryz.ntmps69
    go_wp2
    go_ret
    exact ⟨ret_bool HN.out.symm, rfl⟩
  · by_cases h1 : 16 < s.size
    · have hn : nameOK s = false := by
        have : decide (s.size ≤ 16) = false := decide_eq_false (by omega)
        simp [nameOK, this]
      have HN := Lib.hid hn; clear hn
      go_enter Tryz.func69, Tryz.ntmps69
      go_wp2
      go_ret
      exact ⟨ret_bool HN.out.symm, rfl⟩
    · have hp : 0 < s.size := by omega
      by_cases hc : 97 ≤ s[0].toNat ∧ s[0].toNat ≤ 122
      · obtain ⟨hc1, hc2⟩ := hc
        have g1 : ¬ ((s[0].toNat : Int) < 97) := by omega
        have g2 : ¬ ((122 : Int) < s[0].toNat) := by omega
        go_enter Tryz.func69, Tryz.ntmps69
        go_wp2
        go_loop [3] (fun i => ∃ k : Nat, k ≤ s.size ∧ i = .int .i64 k ∧ nameTo s k = true) (fun i => s.size - (intOf i).toNat)
        case atStart => exact ⟨0, Nat.zero_le _, rfl, rfl⟩
        case round =>
          obtain ⟨k, hk, rfl, hn⟩ := hrel
          by_cases hlt : k < s.size
          · have hsu := nameTo_succ s k
            rw [hn, Bool.true_and] at hsu
            have hfa := fun h => nameTo_false (s := s) (k := k) h hlt
            have hk0 : k = 0 → 97 ≤ s[k].toNat ∧ s[k].toNat ≤ 122 := fun h => by subst h; exact ⟨hc1, hc2⟩
            rw [chAt_eq hlt] at hsu hfa
            have HSU := Lib.hid hsu; have HFA := Lib.hid hfa; have HK0 := Lib.hid hk0
            clear hsu hfa hn hk0 g1 g2 hc1 hc2
            have hb : ((97 ≤ s[k].toNat ∧ s[k].toNat ≤ 122) ∨ (s[k].toNat = 95 ∨ 48 ≤ s[k].toNat ∧ s[k].toNat ≤ 57)) ∨ ¬ ((97 ≤ s[k].toNat ∧ s[k].toNat ≤ 122) ∨ (s[k].toNat = 95 ∨ 48 ≤ s[k].toNat ∧ s[k].toNat ≤ 57)) := Decidable.em _
            generalize hbk : s[k].toNat = c at *
            rcases hb with (⟨h2, h3⟩ | (h2 | ⟨h2, h3⟩)) | hb
            · have HSU2 : Hid (nameTo s (k + 1) = true) := by show _ = _; rw [HSU.out]; simp [chOK]; omega
              have d1 : ¬ ((c : Int) < 97) := by omega
              have d2 : ¬ ((122 : Int) < c) := by omega
              go_wp2
              go_round
              case rel => exact ⟨k + 1, by omega, by go_num, HSU2.out⟩
              case measure => simp [intOf]; omega
            · have hk1 : k ≠ 0 := fun h => by have := HK0.out h; omega
              have HSU2 : Hid (nameTo s (k + 1) = true) := by show _ = _; rw [HSU.out]; simp [chOK]; omega
              subst h2
              go_wp2
              go_round
              case rel => exact ⟨k + 1, by omega, by go_num, HSU2.out⟩
              case measure => simp [intOf]; omega
            · have hk1 : k ≠ 0 := fun h => by have := HK0.out h; omega
              have HSU2 : Hid (nameTo s (k + 1) = true) := by show _ = _; rw [HSU.out]; simp [chOK]; omega
              have d1 : (c : Int) < 97 := by omega
              have d2 : ¬ ((c : Int) < 48) := by omega
              have d3 : ¬ ((57 : Int) < c) := by omega
              go_wp2
              go_round
              case rel => exact ⟨k + 1, by omega, by go_num, HSU2.out⟩
              case measure => simp [intOf]; omega
            · have HN : Hid (nameOK s = false) := HFA.out (by simp [chOK]; omega)
              have e0 : ((c : Int) != 95) = true := by rw [bne_iff_ne]; omega
              have hj : (c < 97 ∧ c < 48) ∨ (48 ≤ c ∧ c < 97 ∧ 57 < c) ∨ (122 < c) := by omega
              clear hb
              rcases hj with ⟨h2, h3⟩ | ⟨h2, h3, h4⟩ | h2
              · have d1 : (c : Int) < 97 := by omega
                have d2 : (c : Int) < 48 := by omega
                go_wp2
                go_ret
                exact ⟨ret_bool HN.out.symm, rfl⟩
              · have d1 : (c : Int) < 97 := by omega
                have d2 : ¬ ((c : Int) < 48) := by omega
                have d3 : (57 : Int) < c := by omega
                go_wp2
                go_ret
                exact ⟨ret_bool HN.out.symm, rfl⟩
              · have d1 : ¬ ((c : Int) < 97) := by omega
                have d2 : (122 : Int) < c := by omega
                have d3 : ¬ ((c : Int) < 48) := by omega
                have d4 : (57 : Int) < c := by omega
                go_wp2
                go_ret
                exact ⟨ret_bool HN.out.symm, rfl⟩
          · obtain rfl : k = s.size := by omega
            have HN : Hid (nameOK s = true) := nameOK_of hn (by omega) (by omega)
            go_wp2
            go_ret
            exact ⟨ret_bool HN.out.symm, rfl⟩
      · have HN : Hid (nameOK s = false) := nameTo_false (k := 0) (by rw [chAt_eq hp]; simp [chOK]; omega) hp
        have hj : s[0].toNat < 97 ∨ (97 ≤ s[0].toNat ∧ 122 < s[0].toNat) := by omega
        clear hc
        rcases hj with h2 | ⟨h2, h3⟩
        · have d1 : (s[0].toNat : Int) < 97 := by omega
          go_enter Tryz.func69, Tryz.ntmps69
          go_wp2
          go_ret
          exact ⟨ret_bool HN.out.symm, rfl⟩
        · have d1 : ¬ ((s[0].toNat : Int) < 97) := by omega
          have d2 : (122 : Int) < s[0].toNat := by omega
          go_enter Tryz.func69, Tryz.ntmps69
          go_wp2
          go_ret
          exact ⟨ret_bool HN.out.symm, rfl⟩

/-- Find: is a number in a list? -/
theorem refFind_any (ao : Option Addr) (xs : List Int) (cap : Nat) (n : Int) (w : World) (hc : Cells w ao (xs.map (Value.int .i64))) (hl : xs.length ≤ 9223372036854775807) :
    Calls Tryz.prog 70 #[.slice ao xs.length cap, .int .i64 n] w fun e w' => (∃ r : Int, e = .returned (.int .i64 r) ∧ (0 ≤ r ↔ n ∈ xs)) ∧ w = w' := by
  have HC := Lib.hid hc; clear hc
  go_enter Tryz.func70, Tryz.ntmps70
  go_wp2
  go_loop [5] (fun i => ∃ k : Nat, k ≤ xs.length ∧ i = .int .i64 k ∧ n ∉ xs.take k) (fun i => xs.length - (intOf i).toNat)
  case atStart => exact ⟨0, Nat.zero_le _, rfl, by simp⟩
  case round =>
    obtain ⟨k, hk, rfl, hn⟩ := hrel
    have HN := Lib.hid hn; clear hn
    by_cases hlt : k < xs.length
    · obtain ⟨x, hx⟩ := get_of_lt hlt
      obtain ⟨b, off, rfl⟩ := HC.out.addr (by simpa using List.ne_nil_of_length_pos (by omega))
      have c0 := HC.out.int hx
      have HX := Lib.hid hx; clear hx
      by_cases hxn : x = n
      · have h1 : (x == n) = true := by simp [hxn]
        have HXN := Lib.hid hxn; clear hxn
        go_wp2
        go_ret
        refine ⟨⟨_, rfl, ?_⟩, rfl⟩
        simp only [Int.natCast_nonneg, true_iff]
        rw [← HXN.out]; exact List.mem_of_getElem? HX.out
      · have h1 : (x == n) = false := by simp [hxn]
        have HXN := Lib.hid hxn; clear hxn
        go_wp2
        go_round
        case rel =>
          refine ⟨k + 1, by omega, by go_num, ?_⟩
          have h2 := HN.out
          have h3 := HXN.out
          rw [take_get HX.out, List.mem_append, List.mem_singleton]
          rintro (h | h)
          · exact h2 h
          · exact h3 h.symm
        case measure => simp [intOf]; omega
    · obtain rfl : k = xs.length := by omega
      rw [List.take_length] at HN
      go_wp2
      go_ret
      exact ⟨⟨_, rfl, ⟨fun h => absurd h (by decide), fun h => absurd h HN.out⟩⟩, rfl⟩
end Go.Proofs.YtoochleabcjljaaGreatDoor

/- Codes: check, folded, residues. -/
namespace Go.Proofs.YtoochleabcjljaaGreatDoor
open Go.RowKit

/-- bytes, cell by cell -/
def bys (l : List Nat) : List Value := l.map fun d => Value.int .u8 (d : Nat)
theorem bys_length (l : List Nat) : (bys l).length = l.length := by simp [bys]
theorem bys_append (a b : List Nat) : bys (a ++ b) = bys a ++ bys b := by simp [bys]
theorem bys_get {l : List Nat} {i d : Nat} (h : l[i]? = some d) : (bys l)[i]? = some (.int .u8 (d : Nat)) := by simp [bys, h]
theorem bys_ne {l : List Nat} (h : 0 < l.length) : bys l ≠ [] := by
  intro e; have := bys_length l; rw [e] at this; simp at this; omega

def chkL (l : List Nat) : Nat := l.foldl (fun n b => (n * 257 + b + 1) % 16777213) 0
theorem chkL_snoc (l : List Nat) (b : Nat) : chkL (l ++ [b]) = (chkL l * 257 + b + 1) % 16777213 := by simp [chkL]
theorem chkL_lt (l : List Nat) : chkL l < 16777213 := by
  rcases List.eq_nil_or_concat l with rfl | ⟨l', b, rfl⟩
  · decide
  · rw [List.concat_eq_append, chkL_snoc]; exact Nat.mod_lt _ (by decide)

theorem check_any (ao : Option Addr) (l : List Nat) (cap : Nat) (w : World) (hc : Cells w ao (bys l)) (hb : ∀ d ∈ l, d < 256) (hl : l.length ≤ 9223372036854775807) :
    Calls Tryz.prog 125 #[.slice ao l.length cap] w fun e w' => e = .returned (.int .i64 (chkL l : Nat)) ∧ w = w' := by
  have HC := Lib.hid hc; have HB := Lib.hid hb; clear hc hb
  go_enter Tryz.func125, Tryz.ntmps125
  go_wp2
  go_loop [3, 8] (fun n i => ∃ k : Nat, k ≤ l.length ∧ i = .int .i64 k ∧ n = .int .i64 (chkL (l.take k) : Nat)) (fun _ i => l.length - (intOf i).toNat)
  case atStart => exact ⟨0, Nat.zero_le _, rfl, rfl⟩
  case round =>
    obtain ⟨k, hk, rfl, rfl⟩ := hrel
    have hlt1 := chkL_lt (l.take k)
    by_cases hlt : k < l.length
    · obtain ⟨x, hx⟩ := get_of_lt hlt
      obtain ⟨b, off, rfl⟩ := HC.out.addr (bys_ne (by omega))
      have hcell := HC.out.at (bys_get hx)
      have hx2 := HB.out x (List.mem_of_getElem? hx)
      have hs : chkL (l.take (k + 1)) = (chkL (l.take k) * 257 + x + 1) % 16777213 := by rw [take_get hx, chkL_snoc]
      have HS := Lib.hid hs; clear hs hx
      generalize chkL (l.take k) = n at *
      go_wp2
      go_round
      case rel => exact ⟨k + 1, by omega, by go_num, by rw [HS.out]; simp⟩
      case measure => simp [intOf]; omega
    · obtain rfl : k = l.length := by omega
      go_wp2
      go_ret
      exact ⟨ret_int (by simp), rfl⟩

def foldU (r : Int) : Int := if r < 0 then -2 * r - 1 else 2 * r
theorem folded_any (r : Int) (w : World) (h1 : -1099511627776 ≤ r) (h2 : r ≤ 1099511627776) :
    Calls Tryz.prog 177 #[.int .i64 r] w fun e w' => e = .returned (.int .i64 (foldU r)) ∧ w = w' := by
  by_cases h : r < 0
  · go_enter Tryz.func177, Tryz.ntmps177
    go_wp2
    go_ret
    exact ⟨ret_int (by rw [foldU, if_pos h]), rfl⟩
  · go_enter Tryz.func177, Tryz.ntmps177
    go_wp2
    go_ret
    exact ⟨ret_int (by rw [foldU, if_neg (by omega)]), rfl⟩

/-- the differences of neighbours -/
def diffs (xs : List Int) : List Int := (List.range xs.length).map fun i => if i = 0 then xs.getD 0 0 else xs.getD i 0 - xs.getD (i - 1) 0
def resid (xs : List Int) : Nat → List Int
  | 0 => xs
  | o + 1 => diffs (resid xs o)
theorem diffs_length (xs : List Int) : (diffs xs).length = xs.length := by simp [diffs]
theorem resid_length (xs : List Int) (o : Nat) : (resid xs o).length = xs.length := by
  induction o with
  | zero => rfl
  | succ o ih => simp [resid, diffs_length, ih]
theorem diffs_get {xs : List Int} {i : Nat} (h : i < xs.length) : (diffs xs)[i]? = some (if i = 0 then xs.getD 0 0 else xs.getD i 0 - xs.getD (i - 1) 0) := by
  simp [diffs, h]

/-- a round of the differences, from the end -/
theorem diff_step {xs : List Int} {k : Nat} (h0 : 0 < k) (hk : k < xs.length) :
    (xs.take (k + 1) ++ (diffs xs).drop (k + 1)).set k (xs.getD k 0 - xs.getD (k - 1) 0) = xs.take k ++ (diffs xs).drop k := by
  rw [List.take_add_one, List.getElem?_eq_getElem hk, Option.toList_some, List.append_assoc, List.set_append_right _ _ (by rw [List.length_take]; omega)]
  have hl : (xs.take k).length = k := by rw [List.length_take]; omega
  rw [hl, Nat.sub_self]
  have hd : k < (diffs xs).length := by rw [diffs_length]; exact hk
  have := diffs_get hk
  rw [if_neg (by omega)] at this
  rw [List.drop_eq_getElem_cons hd, (List.getElem?_eq_some_iff.1 this).2]
  simp
theorem diff_end {xs : List Int} (h : 0 < xs.length) : xs.take 1 ++ (diffs xs).drop 1 = diffs xs := by
  have hd : 0 < (diffs xs).length := by rw [diffs_length]; exact h
  have := diffs_get h
  rw [if_pos rfl] at this
  have e : (diffs xs) = (diffs xs)[0] :: (diffs xs).drop 1 := by
    have := List.drop_eq_getElem_cons hd
    rwa [List.drop_zero] at this
  have e2 : (diffs xs)[0] = xs.getD 0 0 := (List.getElem?_eq_some_iff.1 this).2
  rw [e2] at e
  conv => rhs; rw [e]
  rw [show xs.take 1 = [xs.getD 0 0] from by
    match xs, h with
    | x :: t, _ => simp]
  rfl

theorem diffs_bd {xs : List Int} {M : Int} (hM : 0 ≤ M) (h : ∀ x ∈ xs, -M ≤ x ∧ x ≤ M) : ∀ x ∈ diffs xs, -(2 * M) ≤ x ∧ x ≤ 2 * M := by
  have hg : ∀ i, -M ≤ xs.getD i 0 ∧ xs.getD i 0 ≤ M := by
    intro i
    rw [List.getD_eq_getElem?_getD]
    cases hx : xs[i]? with
    | none => simp; omega
    | some x => exact h x (List.mem_of_getElem? hx)
  intro x hx
  simp only [diffs, List.mem_map, List.mem_range] at hx
  obtain ⟨i, _, rfl⟩ := hx
  have h1 := hg 0; have h2 := hg i; have h3 := hg (i - 1)
  split <;> omega
theorem resid_bd {xs : List Int} (h : ∀ x ∈ xs, -8388608 ≤ x ∧ x ≤ 8388608) (o : Nat) (ho : o ≤ 3) : ∀ x ∈ resid xs o, -67108864 ≤ x ∧ x ≤ 67108864 := by
  match o, ho with
  | 0, _ => intro x hx; have := h x hx; omega
  | 1, _ => intro x hx; have := diffs_bd (M := 8388608) (by omega) h x hx; omega
  | 2, _ => intro x hx; have := diffs_bd (M := 16777216) (by omega) (diffs_bd (M := 8388608) (by omega) h) x hx; omega
  | 3, _ => intro x hx; have := diffs_bd (M := 33554432) (by omega) (diffs_bd (M := 16777216) (by omega) (diffs_bd (M := 8388608) (by omega) h)) x hx; omega

theorem clone_any (ao : Option Addr) (xs : List Int) (cap : Nat) (w : World) (hc : Cells w ao (xs.map (Value.int .i64))) (hl : xs.length * 8 ≤ 140737488355328) :
    Calls Tryz.prog 178 #[.slice ao xs.length cap] w fun e w' => (∃ v, e = .returned v ∧ w'.ownsRow w.heap.size 3 1 v xs.length (xs.map (Value.int .i64))) ∧ Below w.heap.size w w' := by
  by_cases h0 : xs = []
  · subst h0
    cases ao with
    | none =>
      refine (Tryz.slices_Clone_int_nil 0 cap w).mono ?_
      rintro e w' ⟨rfl, rfl⟩
      exact ⟨⟨_, rfl, World.ownsRow_nil _ _ _ _⟩, Below.refl _ _⟩
    | some a =>
      refine (Tryz.slices_Clone_int_zero a cap w).mono ?_
      rintro e w' ⟨v, rfl, ho, _, hb⟩
      exact ⟨⟨_, rfl, ho⟩, hb⟩
  · obtain ⟨b, off, rfl⟩ := hc.addr (by simpa using h0)
    refine (Tryz.slices_Clone_int b off xs.length cap xs w (Nat.le_refl _) hl (fun j hj => ?_)).mono ?_
    · obtain ⟨x, hx⟩ := get_of_lt hj
      rw [List.getD_eq_getElem?_getD, hx]
      exact hc.int hx
    · rintro e w' ⟨v, rfl, ho, _, hb⟩
      rw [List.take_length] at ho
      exact ⟨⟨_, rfl, ho⟩, hb⟩
end Go.Proofs.YtoochleabcjljaaGreatDoor

/- Codes: residues. -/
namespace Go.Proofs.YtoochleabcjljaaGreatDoor
open Go.RowKit

set_option maxRecDepth 100000 in
set_option maxHeartbeats 1000000 in
theorem residues_any (ao : Option Addr) (xs : List Int) (cap : Nat) (o : Nat) (w : World) (hc : Cells w ao (xs.map (Value.int .i64))) (hl : xs.length ≤ 4096) (ho : o ≤ 3) (hx : ∀ x ∈ xs, -8388608 ≤ x ∧ x ≤ 8388608) :
    Calls Tryz.prog 124 #[.slice ao xs.length cap, .int .i64 (o : Nat)] w fun e w' => (∃ a c, e = .returned (.slice a (resid xs o).length c) ∧ Cells w' a ((resid xs o).map (Value.int .i64)) ∧ ∀ b off, a = some ⟨b, off, none⟩ → w.heap.size ≤ b) ∧ Below w.heap.size w w' := by
  have HC := Lib.hid hc; have HX := Lib.hid hx; clear hc hx
  go_enter Tryz.func124, Tryz.ntmps124
  go_wp2_with fail
  refine (clone_any ao xs cap w HC.out (by omega)).mono ?_
  rintro e w1 ⟨⟨v, rfl, hown⟩, hb1⟩
  obtain ⟨g, cg, hv⟩ : ∃ g cg, v = .slice g xs.length cg := by
    obtain ⟨a, c, h, _⟩ := own_cells hown; exact ⟨a, c, h⟩
  subst hv
  have HO := Lib.hid hown; clear hown
  go_wp2
  go_loopw [10] (fun i wr => ∃ k : Nat, k ≤ o ∧ i = .int .i64 k ∧ wr.ownsRow w.heap.size 3 1 (.slice g xs.length cg) xs.length ((resid xs k).map (Value.int .i64)) ∧ Below w.heap.size w wr) (fun i _ => o - (intOf i).toNat)
  case atStart => exact ⟨0, Nat.zero_le _, rfl, HO.out, hb1⟩
  case round =>
    clear hb1
    obtain ⟨k, hk, rfl, hown, hb⟩ := hrel
    obtain ⟨wo, rfl⟩ : ∃ wo : World, wo = wr := ⟨_, rfl⟩
    have HO2 := Lib.hid hown; clear hown
    by_cases hlt : k < o
    · have hrl := resid_length xs k
      have hrb := resid_bd HX.out k (by omega)
      generalize hys : resid xs k = ys at *
      have HYS : Hid (resid xs (k + 1) = diffs ys) := by rw [← hys]; rfl
      clear hys
      have HYB := Lib.hid hrb; clear hrb
      have hrl2 : xs.length = ys.length := hrl.symm
      have hyl : ys.length ≤ 4096 := by omega
      clear hl
      generalize xs.length = n at *
      subst hrl2
      clear hrl
      go_wp2
      go_loopw [6] (fun i wi => ∃ j : Nat, j ≤ ys.length ∧ (j = 0 → ys.length = 0) ∧ i = .int .i64 ((j : Int) - 1) ∧ wi.ownsRow w.heap.size 3 1 (.slice g ys.length cg) ys.length ((ys.take j ++ (diffs ys).drop j).map (Value.int .i64)) ∧ Below w.heap.size w wi) (fun i _ => (intOf i + 1).toNat)
      case atStart =>
        refine ⟨ys.length, Nat.le_refl _, fun h => h, rfl, ?_, hb⟩
        rw [List.take_length, List.drop_eq_nil_of_le (by rw [diffs_length]; omega), List.append_nil]
        exact HO2.out
      case round =>
        clear hb
        obtain ⟨j, hj, hj0, rfl, hown, hb⟩ := hrel
        by_cases h1 : 1 < j
        · obtain ⟨q, rfl⟩ : ∃ q, j = q + 2 := ⟨j - 2, by omega⟩
          have e1 : (((q + 2 : Nat) : Int) - 1) = ((q + 1 : Nat) : Int) := by omega
          rw [e1]
          obtain ⟨x, hx⟩ := get_of_lt (show q + 1 < ys.length by omega)
          obtain ⟨y, hy⟩ := get_of_lt (show q < ys.length by omega)
          have hst := diff_step (xs := ys) (k := q + 1) (by omega) (by omega)
          have hxg : ys.getD (q + 1) 0 = x := by rw [List.getD_eq_getElem?_getD, hx]; rfl
          have hyg : ys.getD (q + 1 - 1) 0 = y := by rw [Nat.add_sub_cancel, List.getD_eq_getElem?_getD, hy]; rfl
          rw [hxg, hyg] at hst
          have bx := HYB.out x (List.mem_of_getElem? hx)
          have bY := HYB.out y (List.mem_of_getElem? hy)
          obtain ⟨bx1, bx2⟩ := bx
          obtain ⟨by1, by2⟩ := bY
          obtain ⟨a, c, hv, hcs⟩ := own_cells hown
          simp only [Value.slice.injEq, true_and] at hv
          obtain ⟨rfl, rfl⟩ := hv
          obtain ⟨gb, go, rfl⟩ := hcs.addr (List.ne_nil_of_length_pos (by rw [List.length_map, List.length_append, List.length_take]; omega))
          have hg0 : go = 0 := by
            rcases hown.2 with ⟨h, _⟩ | ⟨_, _, _, h, _⟩
            · simp at h
            · simp at h; exact h.1.2
          subst hg0
          have hlx : (ys.take (q + 2)).length = q + 2 := by rw [List.length_take]; omega
          have c1 : wr.cell? ⟨gb, q + 1, none⟩ = some (.int .i64 x) := by
            rw [hown.cellAt (q + 1) (by omega), List.getElem?_map, List.getElem?_append_left (by rw [hlx]; omega), List.getElem?_take, if_pos (by omega), hx]; rfl
          have c2 : wr.cell? ⟨gb, q, none⟩ = some (.int .i64 y) := by
            rw [hown.cellAt q (by omega), List.getElem?_map, List.getElem?_append_left (by rw [hlx]; omega), List.getElem?_take, if_pos (by omega), hy]; rfl
          have f1 := hown.frozenAt (q + 1)
          have hsto := (hown.stored (q + 1) (.int .i64 (x - y))).1
          rw [← List.map_set, hst] at hsto
          have hgb : w.heap.size ≤ gb := (hown.lt gb rfl).1
          have hb2 : Below w.heap.size w (wr.setCell ⟨gb, q + 1, none⟩ (.int .i64 (x - y))) := hb.setCell hgb _
          have HST := Lib.hid hsto; have HB2 := Lib.hid hb2
          clear hsto hb2 hst hxg hyg hx hy hcs hown e1 hj0 hlx
          have i1 : (q : Int) + 1 < ys.length := by omega
          have i2 : (q : Int) < ys.length := by omega
          have i3 : (0 : Int) ≤ q := by omega
          have i4 : (0 : Int) ≤ (q : Int) + 1 := by omega
          have i5 : (q : Int) + 1 = ((q + 1 : Nat) : Int) := by omega
          have I5 := Lib.hid i5; clear i5
          have q1 : IntKind.i64.wrap (((q + 1 : Nat) : Int) - 1) = (q : Int) := by rw [IntWalk.i64_in _ (by omega)]; omega
          have q6 : IntKind.i64.wrap (q : Int) = (q : Int) := IntWalk.i64_in _ (by omega)
          have q2 : IntKind.i64.wrap (x - y) = x - y := IntWalk.i64_in _ (by omega)
          have q5 : IntKind.i64.wrap ((q : Int) + 1 - 1) = (q : Int) := by rw [IntWalk.i64_in _ (by omega)]; omega
          have q3 : (((q : Int) + 1)).toNat = q + 1 := by omega
          go_wp2
          go_still_tail 11, (by kernel_rfl)
          change wpList _ _ _ _ _ wr.drew
          have c1d : wr.drew.cell? ⟨gb, q + 1, none⟩ = some (.int .i64 x) := c1
          have f1d : wr.drew.frozen? ⟨gb, q + 1, none⟩ = false := f1
          have HSTd : Hid ((wr.drew.setCell ⟨gb, q + 1, none⟩ (.int .i64 (x - y))).ownsRow w.heap.size 3 1 (.slice (some ⟨gb, 0, none⟩) ys.length cg) ys.length ((ys.take (q + 1) ++ (diffs ys).drop (q + 1)).map (Value.int .i64))) := HST.out
          have HB2d : Hid (Below w.heap.size w (wr.drew.setCell ⟨gb, q + 1, none⟩ (.int .i64 (x - y)))) := by
            have h := HB2.out
            exact ⟨h.os, h.tape, h.output, h.size, h.block⟩
          clear HST HB2 c1 c2 f1 q1 q2 q5 q6 q3
          generalize wr.drew = wd at *
          go_wp2
          go_roundw
          case rel => exact ⟨q + 1, by omega, by omega, by go_num, HSTd.out, HB2d.out⟩
          case measure => simp [intOf]; omega
        · have hfin : wr.ownsRow w.heap.size 3 1 (.slice g ys.length cg) ys.length ((diffs ys).map (Value.int .i64)) := by
            by_cases hj1 : j = 1
            · subst hj1; rw [diff_end (by omega)] at hown; exact hown
            · obtain rfl : j = 0 := by omega
              have h0 := hj0 rfl
              have e0 : ys = [] := List.length_eq_zero_iff.1 h0
              subst e0
              simpa [diffs] using hown
          have HF := Lib.hid hfin; clear hfin hown hj0
          have hle : ((j : Int) - 1) ≤ 0 := by omega
          go_wp2
          go_roundw
          case rel => exact ⟨k + 1, by omega, by go_num, by rw [HYS.out]; exact HF.out, hb⟩
          case measure => simp [intOf]; omega
    · obtain rfl : k = o := by omega
      obtain ⟨a, c, hv, hcs⟩ := own_cells HO2.out
      simp only [Value.slice.injEq, true_and] at hv
      obtain ⟨rfl, rfl⟩ := hv
      have HCS := Lib.hid hcs; clear hcs
      have hrl := resid_length xs k
      have HRL := Lib.hid hrl; clear hrl
      go_wp2
      go_ret
      exact ⟨⟨_, _, by rw [HRL.out]; rfl, HCS.out, fun b off h => (HO2.out.lt b (by rw [h]; rfl)).1⟩, hb⟩
end Go.Proofs.YtoochleabcjljaaGreatDoor
