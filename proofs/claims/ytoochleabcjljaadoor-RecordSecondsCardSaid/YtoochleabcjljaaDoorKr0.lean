/- Parts of a proof, in build order: V0, A0, C0, C1, C2, A1, C3, C4. -/
import Derived.Test.YtoochleabcjljaaDoorProg
import Derived.WalkKit
import Derived.WalkSpells
import Derived.WalkLawsBesides
import Derived.Lib.Hide
import Derived.Outline
import Derived.Deep.LoopGhost
import Derived.Deep.DeepMust
import Derived.Deep.DeepFit
import Derived.Deep.QuietTactic
import Derived.BigQuiet
import Derived.StillTailTactics
import Derived.Deep.RegionHeld3
import Derived.Deep.AppendLies

/- Words of our own on cells, over any program: what a slice's cells hold, and how that stays. -/
namespace Go.Proofs.YtoochleabcjljaaDoor
open Go.RowKit

theorem ret_bool {a b : Bool} (h : a = b) : Ending.returned (.bool a) = .returned (.bool b) := by rw [h]
theorem ret_int {k : IntKind} {a b : Int} (h : a = b) : Ending.returned (.int k a) = .returned (.int k b) := by rw [h]

/-- The cells 'cs' lie from the address on (of no cells nothing is said). -/
def Cells (w : World) (ao : Option Addr) (cs : List Value) : Prop :=
  cs = [] ∨ ∃ b off, ao = some ⟨b, off, none⟩ ∧ ∀ j u, cs[j]? = some u → w.cell? ⟨b, off + j, none⟩ = some u

theorem Cells.nil (w : World) (ao : Option Addr) : Cells w ao [] := .inl rfl

theorem Cells.below {w w' : World} {B : Nat} {ao : Option Addr} {cs : List Value} (h : Cells w ao cs) (hb : Below B w w') (hB : w.heap.size ≤ B) : Cells w' ao cs := by
  rcases h with h | ⟨b, off, h1, h2⟩
  · exact .inl h
  · refine .inr ⟨b, off, h1, fun j u hu => ?_⟩
    have h3 := h2 j u hu
    have h4 := World.block_lt_of_cell? w _ h3
    rw [hb.cell (p := ⟨b, off + j, none⟩) (by simp at h4 ⊢; omega)]
    exact h3

/-- below, cell by cell -/
theorem cell_keep {w w' : World} {B : Nat} {p : Addr} {v : Value} (h : w.cell? p = some v) (hb : Below B w w') (hB : w.heap.size ≤ B) : w'.cell? p = some v := by
  have h4 := World.block_lt_of_cell? w _ h
  rw [hb.cell (p := p) (by omega)]; exact h

theorem Cells.int {w : World} {b off : Nat} {k : IntKind} {xs : List Int} (h : Cells w (some ⟨b, off, none⟩) (xs.map (Value.int k))) {i : Nat} {x : Int} (hx : xs[i]? = some x) : w.cell? ⟨b, off + i, none⟩ = some (.int k x) := by
  rcases h with h | ⟨b', off', h1, h2⟩
  · have : xs = [] := by simpa using h
    rw [this] at hx; simp at hx
  · simp only [Option.some.injEq, Addr.mk.injEq] at h1
    obtain ⟨rfl, rfl, _⟩ := h1
    exact h2 i _ (by simp [hx])

/-- a slice of no elements, or one whose address is known -/
theorem Cells.cases {w : World} {ao : Option Addr} {cs : List Value} (h : Cells w ao cs) : cs = [] ∨ ∃ b off, ao = some ⟨b, off, none⟩ := by
  rcases h with h | ⟨b, off, h1, _⟩
  · exact .inl h
  · exact .inr ⟨b, off, h1⟩

theorem Cells.addr {w : World} {ao : Option Addr} {cs : List Value} (h : Cells w ao cs) (hne : cs ≠ []) : ∃ b off, ao = some ⟨b, off, none⟩ := by
  rcases h.cases with h | h
  · exact absurd h hne
  · exact h

theorem get_of_lt {α : Type} {xs : List α} {i : Nat} (h : i < xs.length) : ∃ x, xs[i]? = some x := ⟨xs[i], by simp [h]⟩
theorem take_get {α : Type} {xs : List α} {i : Nat} {x : α} (h : xs[i]? = some x) : xs.take (i + 1) = xs.take i ++ [x] := by
  rw [List.take_add_one, h]; rfl
/-- pairs of numbers, cell by cell -/
def prs (l : List (Int × Int)) : List Value := l.flatMap fun t => [.int .i64 t.1, .int .i64 t.2]
theorem prs_nil : prs [] = [] := rfl
theorem prs_cons (t : Int × Int) (l : List (Int × Int)) : prs (t :: l) = .int .i64 t.1 :: .int .i64 t.2 :: prs l := rfl
theorem prs_append (a b : List (Int × Int)) : prs (a ++ b) = prs a ++ prs b := by simp [prs]
theorem prs_length (l : List (Int × Int)) : (prs l).length = l.length * 2 := by
  induction l with
  | nil => rfl
  | cons t l ih => simp only [prs_cons, List.length_cons, ih]; omega
theorem prs_fst {l : List (Int × Int)} {i : Nat} {t : Int × Int} (h : l[i]? = some t) : (prs l)[i * 2]? = some (.int .i64 t.1) := by
  induction l generalizing i with
  | nil => simp at h
  | cons s l ih =>
    cases i with
    | zero => simp at h; subst h; simp [prs_cons]
    | succ i =>
      have e : (i + 1) * 2 = i * 2 + 1 + 1 := by omega
      rw [prs_cons, e, List.getElem?_cons_succ, List.getElem?_cons_succ]; exact ih (by simpa using h)
theorem prs_snd {l : List (Int × Int)} {i : Nat} {t : Int × Int} (h : l[i]? = some t) : (prs l)[i * 2 + 1]? = some (.int .i64 t.2) := by
  induction l generalizing i with
  | nil => simp at h
  | cons s l ih =>
    cases i with
    | zero => simp at h; subst h; simp [prs_cons]
    | succ i =>
      have e : (i + 1) * 2 + 1 = i * 2 + 1 + 1 + 1 := by omega
      rw [prs_cons, e, List.getElem?_cons_succ, List.getElem?_cons_succ]; exact ih (by simpa using h)
theorem prs_ne {l : List (Int × Int)} (h : 0 < l.length) : prs l ≠ [] := by
  intro e; have := prs_length l; rw [e] at this; simp at this; omega
theorem Cells.at {w : World} {b off : Nat} {cs : List Value} (h : Cells w (some ⟨b, off, none⟩) cs) {j : Nat} {u : Value} (hu : cs[j]? = some u) : w.cell? ⟨b, off + j, none⟩ = some u := by
  rcases h with h | ⟨b', off', h1, h2⟩
  · rw [h] at hu; simp at hu
  · simp only [Option.some.injEq, Addr.mk.injEq] at h1
    obtain ⟨rfl, rfl, _⟩ := h1
    exact h2 j u hu

/-- the cells of a new block, kept -/
theorem box_keep {w w1 : World} {cs : Array Value} {T : TypeId} {B : Nat} (hb : Below B (w.alloc (.cells cs T)) w1) (hB : w.heap.size < B) (i : Nat) : w1.cell? ⟨w.heap.size, i, none⟩ = cs[i]? := by
  rw [hb.cell (p := ⟨w.heap.size, i, none⟩) hB]; simp

/-- an owned row, as a slice -/
theorem own_cells {w : World} {b : Nat} {e : TypeId} {s : Nat} {v : Value} {n : Nat} {xs : List Value} (h : w.ownsRow b e s v n xs) : ∃ a c, v = .slice a n c ∧ Cells w a xs := by
  obtain ⟨h0, h1⟩ := h
  rcases h1 with ⟨rfl, rfl⟩ | ⟨g, cap, cur, rfl, hb, hg, hn, hm, hs, ht⟩
  · refine ⟨none, 0, rfl, .inl ?_⟩
    simpa using h0
  · refine ⟨_, _, rfl, .inr ⟨g, 0, rfl, fun j u hu => ?_⟩⟩
    have h2 := World.ownsRow.cells (w := w) (base := b) (e := e) (size := s) (v := .slice (some ⟨g, 0, none⟩) n cap) (n := n) (xs := xs) ⟨h0, .inr ⟨g, cap, cur, rfl, hb, hg, hn, hm, hs, ht⟩⟩ rfl j u hu
    rw [Addr.add_lit] at h2
    exact h2
/-- the one cell of a new block, to be appended -/
theorem news1 (w : World) (u : Value) (T : TypeId) : ∀ (j : Nat) (v : Value), [u][j]? = some v → (w.alloc (.cells #[u] T)).cell? ((⟨w.heap.size, 0, none⟩ : Addr).add j) = some v := by
  intro j v hj
  match j, hj with
  | 0, hj => simp at hj; subst hj; simp [Addr.add]
theorem own_drewN {w : World} {b : Nat} {e : TypeId} {s : Nat} {v : Value} {n : Nat} {xs : List Value} (h : w.ownsRow b e s v n xs) (k : Nat) : (w.drewN k).ownsRow b e s v n xs := h
theorem bel_drewN {B : Nat} {a w : World} (h : Below B a w) (k : Nat) : Below B a (w.drewN k) := ⟨h.os, h.tape, h.output, h.size, h.block⟩
theorem div_pow_bd {x M : Int} (s : Nat) (h1 : -M ≤ x) (h2 : x ≤ M) (hM : 0 ≤ M) : -M ≤ x / 2 ^ s ∧ x / 2 ^ s ≤ M := by
  have hp : (0 : Int) < 2 ^ s := Int.pow_pos (by decide)
  have h1p : (1 : Int) ≤ 2 ^ s := by omega
  constructor
  · rw [Int.le_ediv_iff_mul_le hp]
    have : M * 1 ≤ M * 2 ^ s := Int.mul_le_mul_of_nonneg_left h1p hM
    rw [Int.neg_mul]; omega
  · by_cases hx : 0 ≤ x
    · have := Int.ediv_le_self (2 ^ s) hx; omega
    · have := Int.ediv_neg_of_neg_of_pos (by omega : x < 0) hp; omega
theorem min_if (a b : Int) : (if b < a then b else a) = min a b := by rw [Int.min_def]; split <;> split <;> omega
theorem max_if (a b : Int) : (if a < b then b else a) = max a b := by rw [Int.max_def]; split <;> split <;> omega

end Go.Proofs.YtoochleabcjljaaDoor

/- Small functions of numbers. -/
namespace Go.Proofs.YtoochleabcjljaaDoor
open Go.RowKit

/-- n is from lo to hi -/
def inB (lo n hi : Int) : Bool := decide (lo ≤ n ∧ n ≤ hi)
theorem inB_eq (lo n hi : Int) : inB lo n hi = (decide (lo ≤ n) && decide (n ≤ hi)) := by simp [inB]

theorem within_any (n lo hi : Int) (w : World) :
    Calls Tryd.prog 22 #[.int .i64 n, .int .i64 lo, .int .i64 hi] w fun e w' => e = .returned (.bool (inB lo n hi)) ∧ w = w' := by
  by_cases h1 : lo ≤ n
  · go_enter Tryd.func22, Tryd.ntmps22
    go_wp2
    go_ret
    exact ⟨ret_bool (by simp [inB]; try omega), rfl⟩
  · go_enter Tryd.func22, Tryd.ntmps22
    go_wp2
    go_ret
    exact ⟨ret_bool (by simp [inB]; try omega), rfl⟩

theorem in_any (n lo hi : Int) (w : World) :
    Calls Tryd.prog 24 #[.int .i64 n, .int .i64 lo, .int .i64 hi] w fun e w' => e = .returned (.bool (inB lo n hi)) ∧ w = w' := by
  by_cases h1 : lo ≤ n
  · go_enter Tryd.func24, Tryd.ntmps24
    go_wp2
    go_ret
    exact ⟨ret_bool (by simp [inB]; try omega), rfl⟩
  · go_enter Tryd.func24, Tryd.ntmps24
    go_wp2
    go_ret
    exact ⟨ret_bool (by simp [inB]; try omega), rfl⟩

theorem seriesOK1_any (n : Int) (w : World) :
    Calls Tryd.prog 36 #[.int .i64 n] w fun e w' => e = .returned (.bool (!inB (-8388608) n 8388608)) ∧ w = w' := by
  go_enter Tryd.func36, Tryd.ntmps36
  go_wp2_with (go_at_call 22; refine (within_any _ _ _ _).mono ?_; rintro e w' ⟨rfl, rfl⟩)
  go_ret
  exact ⟨rfl, rfl⟩

set_option maxRecDepth 100000 in
/-- slices.IndexFunc over ints, at whatever test that computes p and leaves what was there -/
theorem indexFunc_ints (F : FuncId) (capd : Array Value) (p : Int → Bool) (ao : Option Addr) (xs : List Int) (cap : Nat) (w : World) (hc : Cells w ao (xs.map (Value.int .i64))) (hl : xs.length ≤ 9223372036854775807)
    (hcf : ∀ (vs : Array Value) (wx : World), Sem.run Tryd.prog (callFunc F vs) wx = .ok (.enter F vs) wx)
    (hF : ∀ x wx, x ∈ xs → Below w.heap.size w wx → Calls Tryd.prog F (#[.int .i64 x] ++ capd) wx fun e w' => e = .returned (.bool (p x)) ∧ Below wx.heap.size wx w') :
    Calls Tryd.prog 43 #[.slice ao xs.length cap, .func (.func F) #[] capd] w fun e w' => (∃ r : Int, e = .returned (.int .i64 r) ∧ (0 ≤ r ↔ xs.any p = true)) ∧ Below w.heap.size w w' := by
  go_enter Tryd.func43, Tryd.ntmps43
  go_wp2
  go_loopw [8] (fun i wr => ∃ k : Nat, k ≤ xs.length ∧ i = .int .i64 k ∧ (xs.take k).any p = false ∧ Below w.heap.size w wr) (fun i _ => xs.length - (intOf i).toNat)
  case atStart => exact ⟨0, Nat.zero_le _, rfl, rfl, Below.refl _ _⟩
  case round =>
    obtain ⟨k, hk, rfl, hany, hb⟩ := hrel
    by_cases hlt : k < xs.length
    · obtain ⟨x, hx⟩ := get_of_lt hlt
      obtain ⟨b, off, rfl⟩ := hc.addr (by simpa using List.ne_nil_of_length_pos (by omega))
      have hcell := cell_keep (hc.int hx) hb (Nat.le_refl _)
      have HX := Lib.hid hx; clear hx
      have HC := Lib.hid hc; clear hc
      have HF := Lib.hid hF; clear hF
      have HA := Lib.hid hany; clear hany
      go_wp2_with fail
      refine (HF.out x wr (List.mem_of_getElem? HX.out) hb).mono ?_
      rintro e w1 ⟨rfl, hb1⟩
      have hb2 := hb.trans (hb1.mono hb.size)
      clear hb1
      by_cases hp : p x = true
      · go_wp2
        go_ret
        exact ⟨⟨_, rfl, by simp; exact ⟨x, List.mem_of_getElem? HX.out, hp⟩⟩, hb2⟩
      · simp only [Bool.not_eq_true] at hp
        go_wp2
        go_roundw
        case rel => exact ⟨k + 1, by omega, by go_num, by rw [take_get HX.out, List.any_append, HA.out]; simp [hp], hb2⟩
        case measure => simp [intOf]; omega
    · obtain rfl : k = xs.length := by omega
      rw [List.take_length] at hany
      have HA := Lib.hid hany; clear hany
      go_wp2
      go_ret
      exact ⟨⟨_, rfl, by rw [HA.out]; simp⟩, hb⟩
end Go.Proofs.YtoochleabcjljaaDoor

/- Names: num.IsName. -/
namespace Go.Proofs.YtoochleabcjljaaDoor
open Go.RowKit

/-- may the byte c (a number) stand at the place i of a name? -/
def chOK (i : Nat) (c : Nat) : Bool := decide (97 ≤ c ∧ c ≤ 122 ∨ i ≠ 0 ∧ (c = 95 ∨ 48 ≤ c ∧ c ≤ 57))
def chAt (s : ByteArray) (i : Nat) : Nat := (s.data.toList.getD i 0).toNat
def nameTo (s : ByteArray) (k : Nat) : Bool := (List.range k).all fun i => chOK i (chAt s i)
def nameOK (s : ByteArray) : Bool := nameTo s s.size && (decide (1 ≤ s.size) && decide (s.size ≤ 16))
theorem nameTo_succ (s : ByteArray) (k : Nat) : nameTo s (k + 1) = (nameTo s k && chOK k (chAt s k)) := by simp [nameTo, List.range_succ, List.all_append]
theorem nameTo_false {s : ByteArray} {k : Nat} (h : chOK k (chAt s k) = false) (hk : k < s.size) : nameOK s = false := by
  have : nameTo s s.size = false := by
    rw [nameTo, List.all_eq_false]; exact ⟨k, by simpa using hk, by simp [h]⟩
  simp [nameOK, this]
theorem chAt_eq {s : ByteArray} {k : Nat} (h : k < s.size) : chAt s k = s[k].toNat := by
  unfold chAt
  rw [List.getD_eq_getElem?_getD, List.getElem?_eq_getElem (by simpa using h)]; rfl

set_option maxRecDepth 100000 in
theorem isName_any (s : ByteArray) (w : World) (hs : s.size ≤ 9223372036854775807) :
    Calls Tryd.prog 58 #[.string s] w fun e w' => e = .returned (.bool (nameOK s)) ∧ w = w' := by
  go_enter Tryd.func58, Tryd.ntmps58
  go_wp2
  go_loop [8] (fun i => ∃ k : Nat, k ≤ s.size ∧ i = .int .i64 k ∧ nameTo s k = true) (fun i => s.size - (intOf i).toNat)
  case atStart => exact ⟨0, Nat.zero_le _, rfl, rfl⟩
  case round =>
    obtain ⟨k, hk, rfl, hn⟩ := hrel
    by_cases hlt : k < s.size
    · have hsu := nameTo_succ s k
      rw [hn, Bool.true_and] at hsu
      have hfa := fun h => nameTo_false (s := s) (k := k) h hlt
      rw [chAt_eq hlt] at hsu hfa
      have HSU := Lib.hid hsu; have HFA := Lib.hid hfa; clear hsu hfa hn
      have hc : chOK k s[k].toNat = true ∨ chOK k s[k].toNat = false := by cases chOK k s[k].toNat <;> simp
      rcases hc with hc | hc
      · have HSU2 : Hid (nameTo s (k + 1) = true) := by show nameTo s (k + 1) = true; rw [HSU.out, hc]
        simp only [chOK, decide_eq_true_eq] at hc
        rcases hc with ⟨h1, h2⟩ | ⟨h0, h3 | ⟨h1, h2⟩⟩
        · have g1 : (97 : Int) ≤ s[k].toNat := by omega
          have g2 : (s[k].toNat : Int) ≤ 122 := by omega
          clear h1 h2
          go_wp2
          go_round
          case rel => exact ⟨k + 1, by omega, by go_num, HSU2.out⟩
          case measure => simp [intOf]; omega
        · have g0 : ((k : Int) == 0) = false := by rw [beq_eq_false_iff_ne]; omega
          have g1 : ¬ (97 : Int) ≤ s[k].toNat := by omega
          have g2 : ((s[k].toNat : Int) != 95) = false := by simp [h3]
          clear h3 h0
          go_wp2
          go_round
          case rel => exact ⟨k + 1, by omega, by go_num, HSU2.out⟩
          case measure => simp [intOf]; omega
        · have g0 : ((k : Int) == 0) = false := by rw [beq_eq_false_iff_ne]; omega
          have g1 : ¬ (97 : Int) ≤ s[k].toNat := by omega
          have g2 : ((s[k].toNat : Int) != 95) = true := by rw [bne_iff_ne]; omega
          have g3 : ¬ (s[k].toNat : Int) < 48 := by omega
          have g4 : ¬ (57 : Int) < s[k].toNat := by omega
          clear h1 h2 h0
          go_wp2
          go_round
          case rel => exact ⟨k + 1, by omega, by go_num, HSU2.out⟩
          case measure => simp [intOf]; omega
      · have HF : Hid (nameOK s = false) := HFA.out hc
        simp only [chOK, decide_eq_false_iff_not] at hc
        have g1 : (s[k].toNat : Int) < 97 ∨ (122 : Int) < s[k].toNat := by omega
        have g2 : k = 0 ∨ 0 < k := by omega
        rcases g1 with g1 | g1
        all_goals
          try have g5 : decide ((s[k].toNat : Int) ≤ 122) = false := by rw [decide_eq_false_iff_not]; omega
          rcases g2 with g2 | g2
          · subst g2
            clear hc
            go_wp2
            go_ret
            exact ⟨ret_bool HF.out.symm, rfl⟩
          · have g0 : ((k : Int) == 0) = false := by rw [beq_eq_false_iff_ne]; omega
            have g4 : ((s[k].toNat : Int) != 95) = true := by rw [bne_iff_ne]; omega
            have g3 : (s[k].toNat : Int) < 48 ∨ 57 < (s[k].toNat : Int) := by omega
            clear hc g2
            rcases g3 with g3 | g3
            all_goals first | (exfalso; omega) | (go_wp2; go_ret; exact ⟨ret_bool HF.out.symm, rfl⟩)
    · obtain rfl : k = s.size := by omega
      have hf : nameOK s = (decide (1 ≤ s.size) && decide (s.size ≤ 16)) := by rw [nameOK, hn, Bool.true_and]
      have HF := Lib.hid hf; clear hf hn
      by_cases h1 : (1 : Int) ≤ s.size
      · go_wp2
        go_ret
        exact ⟨ret_bool (by rw [HF.out, Bool.eq_iff_iff]; simp; omega), rfl⟩
      · go_wp2
        go_ret
        exact ⟨ret_bool (by rw [HF.out, Bool.eq_iff_iff]; simp; omega), rfl⟩
end Go.Proofs.YtoochleabcjljaaDoor

/- Books: slices of channels; slices.IndexFunc and ContainsFunc over them. -/
namespace Go.Proofs.YtoochleabcjljaaDoor
open Go.RowKit

structure Chan where
  name : ByteArray
  rate : Int
  bits : Int

/-- channels, cell by cell -/
def chs (l : List Chan) : List Value := l.flatMap fun t => [.string t.name, .int .i64 t.rate, .int .i64 t.bits]
theorem chs_cons (t : Chan) (l : List Chan) : chs (t :: l) = .string t.name :: .int .i64 t.rate :: .int .i64 t.bits :: chs l := rfl
theorem chs_append (a b : List Chan) : chs (a ++ b) = chs a ++ chs b := by simp [chs]
theorem chs_length (l : List Chan) : (chs l).length = l.length * 3 := by
  induction l with
  | nil => rfl
  | cons t l ih => simp only [chs_cons, List.length_cons, ih]; omega
theorem chs_get {l : List Chan} {i : Nat} {t : Chan} (h : l[i]? = some t) : (chs l)[i * 3]? = some (.string t.name) ∧ (chs l)[i * 3 + 1]? = some (.int .i64 t.rate) ∧ (chs l)[i * 3 + 2]? = some (.int .i64 t.bits) := by
  induction l generalizing i with
  | nil => simp at h
  | cons s l ih =>
    cases i with
    | zero => simp at h; subst h; simp [chs_cons]
    | succ i =>
      have e : (i + 1) * 3 = i * 3 + 1 + 1 + 1 := by omega
      have e1 : (i + 1) * 3 + 1 = i * 3 + 1 + 1 + 1 + 1 := by omega
      have e2 : (i + 1) * 3 + 2 = i * 3 + 2 + 1 + 1 + 1 := by omega
      rw [chs_cons, e2, e1, e]
      simp only [List.getElem?_cons_succ]
      exact ih (by simpa using h)
theorem chs_ne {l : List Chan} (h : 0 < l.length) : chs l ≠ [] := by
  intro e; have := chs_length l; rw [e] at this; simp at this; omega
theorem chs_take (l : List Chan) (i : Nat) : chs (l.take i) = (chs l).take (i * 3) := by
  induction l generalizing i with
  | nil => simp [chs]
  | cons t l ih =>
    cases i with
    | zero => simp [chs]
    | succ i =>
      have e : (i + 1) * 3 = i * 3 + 1 + 1 + 1 := by omega
      rw [List.take_succ_cons, chs_cons, chs_cons, e, List.take_succ_cons, List.take_succ_cons, List.take_succ_cons, ih]
theorem Cells.take' {w : World} {ao : Option Addr} {cs : List Value} (h : Cells w ao cs) (n : Nat) : Cells w ao (cs.take n) := by
  rcases h with h | ⟨b, off, h1, h2⟩
  · exact .inl (by simp [h])
  · refine .inr ⟨b, off, h1, fun j u hu => h2 j u ?_⟩
    rw [List.getElem?_take] at hu
    split at hu
    · exact hu
    · simp at hu

set_option maxRecDepth 100000 in
/-- slices.IndexFunc over channels -/
theorem indexFunc_chans (F : FuncId) (capd : Array Value) (p : Chan → Bool) (ao : Option Addr) (xs : List Chan) (cap : Nat) (w : World) (hc : Cells w ao (chs xs)) (hl : xs.length ≤ 9223372036854775807)
    (hcf : ∀ (vs : Array Value) (wx : World), Sem.run Tryd.prog (callFunc F vs) wx = .ok (.enter F vs) wx)
    (hF : ∀ x wx, x ∈ xs → Below w.heap.size w wx → Calls Tryd.prog F (#[.agg #[.string x.name, .int .i64 x.rate, .int .i64 x.bits]] ++ capd) wx fun e w' => e = .returned (.bool (p x)) ∧ Below wx.heap.size wx w') :
    Calls Tryd.prog 32 #[.slice ao xs.length cap, .func (.func F) #[] capd] w fun e w' => (∃ r : Int, e = .returned (.int .i64 r) ∧ (0 ≤ r ↔ xs.any p = true) ∧ (∀ i : Nat, r = i → ∃ x, xs[i]? = some x ∧ p x = true ∧ (xs.take i).any p = false)) ∧ Below w.heap.size w w' := by
  go_enter Tryd.func32, Tryd.ntmps32
  go_wp2
  go_loopw [8] (fun i wr => ∃ k : Nat, k ≤ xs.length ∧ i = .int .i64 k ∧ (xs.take k).any p = false ∧ Below w.heap.size w wr) (fun i _ => xs.length - (intOf i).toNat)
  case atStart => exact ⟨0, Nat.zero_le _, rfl, rfl, Below.refl _ _⟩
  case round =>
    obtain ⟨k, hk, rfl, hany, hb⟩ := hrel
    by_cases hlt : k < xs.length
    · obtain ⟨x, hx⟩ := get_of_lt hlt
      obtain ⟨b, off, rfl⟩ := hc.addr (chs_ne (by omega))
      obtain ⟨g0, g1, g2⟩ := chs_get hx
      have hcell1 := cell_keep (hc.at g0) hb (Nat.le_refl _)
      have hcell2 := cell_keep (hc.at g1) hb (Nat.le_refl _)
      have hcell3 := cell_keep (hc.at g2) hb (Nat.le_refl _)
      rw [← Nat.add_assoc] at hcell2 hcell3
      clear g0 g1 g2
      have HX := Lib.hid hx; clear hx
      have HC := Lib.hid hc; clear hc
      have HF := Lib.hid hF; clear hF
      have HA := Lib.hid hany; clear hany
      go_wp2_with fail
      refine (HF.out x wr (List.mem_of_getElem? HX.out) hb).mono ?_
      rintro e w1 ⟨rfl, hb1⟩
      have hb2 := hb.trans (hb1.mono hb.size)
      clear hb1
      by_cases hp : p x = true
      · go_wp2
        go_ret
        refine ⟨⟨_, rfl, ?_, ?_⟩, hb2⟩
        · simp only [Int.natCast_nonneg, true_iff, List.any_eq_true]
          exact ⟨x, List.mem_of_getElem? HX.out, hp⟩
        · intro i hi
          obtain rfl : k = i := by omega
          exact ⟨x, HX.out, hp, HA.out⟩
      · simp only [Bool.not_eq_true] at hp
        go_wp2
        go_roundw
        case rel => exact ⟨k + 1, by omega, by go_num, by rw [take_get HX.out, List.any_append, HA.out]; simp [hp], hb2⟩
        case measure => simp [intOf]; omega
    · obtain rfl : k = xs.length := by omega
      rw [List.take_length] at hany
      have HA := Lib.hid hany; clear hany
      go_wp2
      go_ret
      exact ⟨⟨_, rfl, by rw [HA.out]; simp, fun i hi => by omega⟩, hb⟩

set_option maxRecDepth 100000 in
theorem containsFunc_chans (F : FuncId) (capd : Array Value) (p : Chan → Bool) (ao : Option Addr) (xs : List Chan) (cap : Nat) (w : World) (hc : Cells w ao (chs xs)) (hl : xs.length ≤ 9223372036854775807)
    (hcf : ∀ (vs : Array Value) (wx : World), Sem.run Tryd.prog (callFunc F vs) wx = .ok (.enter F vs) wx)
    (hF : ∀ x wx, x ∈ xs → Below w.heap.size w wx → Calls Tryd.prog F (#[.agg #[.string x.name, .int .i64 x.rate, .int .i64 x.bits]] ++ capd) wx fun e w' => e = .returned (.bool (p x)) ∧ Below wx.heap.size wx w') :
    Calls Tryd.prog 59 #[.slice ao xs.length cap, .func (.func F) #[] capd] w fun e w' => e = .returned (.bool (xs.any p)) ∧ Below w.heap.size w w' := by
  have HC := Lib.hid hc; clear hc
  have HF := Lib.hid hF; clear hF
  have HCF := Lib.hid hcf; clear hcf
  go_enter Tryd.func59, Tryd.ntmps59
  go_wp2_with fail
  refine (indexFunc_chans F capd p ao xs cap w HC.out hl HCF.out HF.out).mono ?_
  rintro e w1 ⟨⟨r, rfl, hr, _⟩, hb⟩
  have HR := Lib.hid hr; clear hr
  go_wp2
  go_ret
  exact ⟨ret_bool (by rw [Bool.eq_iff_iff, decide_eq_true_iff]; exact HR.out), hb⟩

/-- have two channels the same name? -/
def sameName (a b : ByteArray) : Bool := a.toList == b.toList

theorem checkBook1_any (x : Chan) (bc : Nat) (t : ByteArray) (w : World) (hc : w.cell? ⟨bc, 0, none⟩ = some (.string t)) :
    Calls Tryd.prog 60 #[.agg #[.string x.name, .int .i64 x.rate, .int .i64 x.bits], .pointer (some ⟨bc, 0, none⟩)] w fun e w' => e = .returned (.bool (sameName x.name t)) ∧ Below w.heap.size w w' := by
  have hc1 := cell_keep hc ((Below.refl _ _).alloc (Nat.le_refl _) (.cells #[.string x.name, .int .i64 x.rate, .int .i64 x.bits] 57)) (Nat.le_refl _)
  go_enter Tryd.func60, Tryd.ntmps60
  go_wp2
  go_ret
  exact ⟨rfl, (Below.refl _ _).alloc (Nat.le_refl _) _⟩
end Go.Proofs.YtoochleabcjljaaDoor

/- Books: CheckBook. -/
namespace Go.Proofs.YtoochleabcjljaaDoor
open Go.RowKit

def pow2B (r : Int) : Bool := decide (r = 1 ∨ r = 2 ∨ r = 4 ∨ r = 8 ∨ r = 16 ∨ r = 32 ∨ r = 64)
def chanOK (c : Chan) : Bool := nameOK c.name && (inB 1 c.rate 64 && (pow2B c.rate && inB 2 c.bits 24))
def dupB (bs : List Chan) (c : Chan) : Bool := bs.any fun x => sameName x.name c.name
def bookTo (bs : List Chan) : Nat → Bool
  | 0 => true
  | k + 1 => bookTo bs k && match bs[k]? with | some c => chanOK c && !dupB (bs.take k) c | none => true
def bookOK (bs : List Chan) : Bool := inB 1 bs.length 16 && bookTo bs bs.length
def bookErr (bs : List Chan) : Int := if bookOK bs then 0 else 50
theorem bookTo_succ {bs : List Chan} {k : Nat} {c : Chan} (h : bs[k]? = some c) : bookTo bs (k + 1) = (bookTo bs k && (chanOK c && !dupB (bs.take k) c)) := by
  simp [bookTo, h]

theorem pow2_nat : ∀ n : Fin 65, 1 ≤ n.val → (bits BinOp.and IntKind.i64 (n.val : Int) ((n.val : Int) - 1) == 0) = pow2B n.val := by decide +kernel
theorem pow2_bits {r : Int} (h1 : 1 ≤ r) (h2 : r ≤ 64) : (bits BinOp.and IntKind.i64 r (r - 1) == 0) = pow2B r := by
  obtain ⟨n, rfl⟩ := Int.eq_ofNat_of_zero_le (show 0 ≤ r by omega)
  exact pow2_nat ⟨n, by omega⟩ (by show 1 ≤ n; omega)

set_option maxRecDepth 100000 in
set_option maxHeartbeats 1000000 in
theorem checkBook_any (ao : Option Addr) (bs : List Chan) (cap : Nat) (w : World) (hc : Cells w ao (chs bs)) (hl : bs.length ≤ 9223372036854775807) (hcap : bs.length ≤ cap) (hcap2 : cap ≤ 9223372036854775807) (hn : ∀ c ∈ bs, c.name.size ≤ 9223372036854775807) (hr : ∀ c ∈ bs, -9223372036854775808 ≤ c.rate) :
    Calls Tryd.prog 44 #[.slice ao bs.length cap] w fun e w' => e = .returned (.int .i64 (bookErr bs)) ∧ Below w.heap.size w w' := by
  have HC := Lib.hid hc; clear hc
  have HN := Lib.hid hn; have HR := Lib.hid hr; clear hn hr
  go_enter Tryd.func44, Tryd.ntmps44
  go_wp2_with (go_at_call 22; refine (within_any _ _ _ _).mono ?_; rintro e w' ⟨rfl, rfl⟩)
  go_loopw [3, 11] (fun o i wr => ∃ k : Nat, k ≤ bs.length ∧ i = .int .i64 k ∧ o = .bool (inB 1 bs.length 16 && bookTo bs k) ∧ Below w.heap.size w wr) (fun _ i _ => bs.length - (intOf i).toNat)
  case atStart => exact ⟨0, Nat.zero_le _, rfl, by simp [bookTo], Below.refl _ _⟩
  case round =>
    obtain ⟨k, hk, rfl, rfl, hb⟩ := hrel
    by_cases hlt : k < bs.length
    · obtain ⟨c, hx⟩ := get_of_lt hlt
      obtain ⟨b, off, rfl⟩ := HC.out.addr (chs_ne (by omega))
      obtain ⟨g0, g1, g2⟩ := chs_get hx
      have hcell1 := cell_keep (HC.out.at g0) hb (Nat.le_refl _)
      have hcell2 := cell_keep (HC.out.at g1) hb (Nat.le_refl _)
      have hcell3 := cell_keep (HC.out.at g2) hb (Nat.le_refl _)
      rw [← Nat.add_assoc] at hcell2 hcell3
      clear g0 g1 g2
      have hst := bookTo_succ hx
      have hsz := hb.size
      have hnm := HN.out c (List.mem_of_getElem? hx)
      have hrt := HR.out c (List.mem_of_getElem? hx)
      have hn2 : (inB 1 bs.length 16 && bookTo bs (k + 1)) = ((inB 1 bs.length 16 && bookTo bs k) && (chanOK c && !dupB (bs.take k) c)) := by rw [hst, Bool.and_assoc]
      have HNX := Lib.hid hn2; clear hst hn2 hx
      generalize (inB 1 bs.length 16 && bookTo bs k) = o at *
      cases o
      · go_wp2
        go_roundw
        case rel => exact ⟨k + 1, by omega, by go_num, by rw [HNX.out]; rfl, hb.alloc hsz _⟩
        case measure => simp [intOf]; omega
      · cases h1 : nameOK c.name
        · have he : (chanOK c && !dupB (bs.take k) c) = false := by simp [chanOK, h1]
          have HE := Lib.hid he; clear he
          go_wp2_with fail
          refine (isName_any _ _ hnm).mono ?_
          rintro e w1 ⟨rfl, rfl⟩
          go_wp2
          go_roundw
          case rel => exact ⟨k + 1, by omega, by go_num, by rw [HNX.out, HE.out]; rfl, hb.alloc hsz _⟩
          case measure => simp [intOf]; omega
        · cases h2 : inB 1 c.rate 64
          · have he : (chanOK c && !dupB (bs.take k) c) = false := by simp [chanOK, h2]
            have HE := Lib.hid he; clear he
            go_wp2_with fail
            refine (isName_any _ _ hnm).mono ?_
            rintro e w1 ⟨rfl, rfl⟩
            rw [h1]
            go_wp2_with fail
            refine (within_any _ _ _ _).mono ?_
            rintro e w1 ⟨rfl, rfl⟩
            go_wp2
            go_roundw
            case rel => exact ⟨k + 1, by omega, by go_num, by rw [HNX.out, HE.out]; rfl, hb.alloc hsz _⟩
            case measure => simp [intOf]; omega
          · have H2 := Lib.hid h2
            have hr2 : 1 ≤ c.rate ∧ c.rate ≤ 64 := by simpa [inB] using h2
            obtain ⟨hr1, hr2⟩ := hr2
            have hp2 := pow2_bits hr1 hr2
            cases h3 : pow2B c.rate
            · have he : (chanOK c && !dupB (bs.take k) c) = false := by simp [chanOK, h3]
              have HE := Lib.hid he; clear he
              rw [h3] at hp2
              go_wp2_with fail
              refine (isName_any _ _ hnm).mono ?_
              rintro e w1 ⟨rfl, rfl⟩
              rw [h1]
              go_wp2_with fail
              refine (within_any _ _ _ _).mono ?_
              rintro e w1 ⟨rfl, rfl⟩
              rw [H2.out]
              go_wp2
              go_roundw
              case rel => exact ⟨k + 1, by omega, by go_num, by rw [HNX.out, HE.out]; rfl, hb.alloc hsz _⟩
              case measure => simp [intOf]; omega
            · cases h4 : inB 2 c.bits 24
              · have he : (chanOK c && !dupB (bs.take k) c) = false := by simp [chanOK, h4]
                have HE := Lib.hid he; clear he
                rw [h3] at hp2
                go_wp2_with fail
                refine (isName_any _ _ hnm).mono ?_
                rintro e w1 ⟨rfl, rfl⟩
                rw [h1]
                go_wp2_with fail
                refine (within_any _ _ _ _).mono ?_
                rintro e w1 ⟨rfl, rfl⟩
                rw [H2.out]
                go_wp2_with fail
                refine (within_any _ _ _ _).mono ?_
                rintro e w1 ⟨rfl, rfl⟩
                go_wp2
                go_roundw
                case rel => exact ⟨k + 1, by omega, by go_num, by rw [HNX.out, HE.out]; rfl, hb.alloc hsz _⟩
                case measure => simp [intOf]; omega
              · have he : (chanOK c && !dupB (bs.take k) c) = !dupB (bs.take k) c := by simp [chanOK, h1, h2, h3, h4]
                have HE := Lib.hid he; clear he
                rw [h3] at hp2
                have hlk : (bs.take k).length = k := by rw [List.length_take]; omega
                have hbx := hb.alloc hsz (.cells #[.string c.name, .int .i64 c.rate, .int .i64 c.bits] 57)
                have hcon := containsFunc_chans 60 #[.pointer (some ⟨wr.heap.size, 0, none⟩)] (fun x => sameName x.name c.name) (some ⟨b, off, none⟩) (bs.take k) cap (wr.alloc (.cells #[.string c.name, .int .i64 c.rate, .int .i64 c.bits] 57))
                  (by rw [chs_take]; exact (HC.out.below hbx (Nat.le_refl _)).take' _) (by rw [hlk]; omega) (fun _ _ => by kernel_rfl) (fun x wx _ hbe => checkBook1_any x wr.heap.size c.name wx (box_keep hbe (by simp) 0))
                rw [hlk] at hcon
                have HCON := Lib.hid hcon; clear hcon hlk
                have H4 := Lib.hid h4
                go_wp2_with fail
                refine (isName_any _ _ hnm).mono ?_
                rintro e w1 ⟨rfl, rfl⟩
                rw [h1]
                go_wp2_with fail
                refine (within_any _ _ _ _).mono ?_
                rintro e w1 ⟨rfl, rfl⟩
                rw [H2.out]
                go_wp2_with fail
                refine (within_any _ _ _ _).mono ?_
                rintro e w1 ⟨rfl, rfl⟩
                rw [H4.out]
                go_wp2_with fail
                refine HCON.out.mono ?_
                rintro e w1 ⟨rfl, hb1⟩
                go_wp2
                go_roundw
                case rel => exact ⟨k + 1, by omega, by go_num, by rw [HNX.out, HE.out]; rfl, hbx.trans (hb1.mono hbx.size)⟩
                case measure => simp [intOf]; omega
    · obtain rfl : k = bs.length := by omega
      have hf : bookErr bs = if (inB 1 bs.length 16 && bookTo bs bs.length) then 0 else 50 := rfl
      have HF := Lib.hid hf; clear hf
      generalize (inB 1 bs.length 16 && bookTo bs bs.length) = o at *
      cases o
      all_goals
        go_wp2
        go_ret
        exact ⟨ret_int (by rw [HF.out]; rfl), hb⟩
end Go.Proofs.YtoochleabcjljaaDoor

/- Series: CheckSeries, of the program and of the reference. -/
namespace Go.Proofs.YtoochleabcjljaaDoor
open Go.RowKit

set_option maxRecDepth 100000 in
theorem containsFunc_ints (F : FuncId) (capd : Array Value) (p : Int → Bool) (ao : Option Addr) (xs : List Int) (cap : Nat) (w : World) (hc : Cells w ao (xs.map (Value.int .i64))) (hl : xs.length ≤ 9223372036854775807)
    (hcf : ∀ (vs : Array Value) (wx : World), Sem.run Tryd.prog (callFunc F vs) wx = .ok (.enter F vs) wx)
    (hF : ∀ x wx, x ∈ xs → Below w.heap.size w wx → Calls Tryd.prog F (#[.int .i64 x] ++ capd) wx fun e w' => e = .returned (.bool (p x)) ∧ Below wx.heap.size wx w') :
    Calls Tryd.prog 35 #[.slice ao xs.length cap, .func (.func F) #[] capd] w fun e w' => e = .returned (.bool (xs.any p)) ∧ Below w.heap.size w w' := by
  have HC := Lib.hid hc; clear hc
  have HF := Lib.hid hF; clear hF
  have HCF := Lib.hid hcf; clear hcf
  go_enter Tryd.func35, Tryd.ntmps35
  go_wp2_with fail
  refine (indexFunc_ints F capd p ao xs cap w HC.out hl HCF.out HF.out).mono ?_
  rintro e w1 ⟨⟨r, rfl, hr⟩, hb⟩
  have HR := Lib.hid hr; clear hr
  go_wp2
  go_ret
  exact ⟨ret_bool (by rw [Bool.eq_iff_iff, decide_eq_true_iff]; exact HR.out), hb⟩

/-- a series -/
def serOK (xs : List Int) : Bool := decide (xs.length ≤ 4096) && xs.all (fun n => inB (-8388608) n 8388608)
def serErr (xs : List Int) : Int := if serOK xs then 0 else 55

theorem seriesOK_any (ao : Option Addr) (xs : List Int) (cap : Nat) (w : World) (hc : Cells w ao (xs.map (Value.int .i64))) (hl : xs.length ≤ 9223372036854775807) :
    Calls Tryd.prog 25 #[.slice ao xs.length cap] w fun e w' => e = .returned (.bool (serOK xs)) ∧ Below w.heap.size w w' := by
  have HC := Lib.hid hc; clear hc
  by_cases h : xs.length ≤ 4096
  · go_enter Tryd.func25, Tryd.ntmps25
    go_wp2_with fail
    refine (containsFunc_ints 36 #[] (fun n => !inB (-8388608) n 8388608) ao xs cap w HC.out hl (fun _ _ => by kernel_rfl) (fun x wx _ _ => (seriesOK1_any x wx).mono fun e w' h => ⟨h.1, h.2 ▸ Below.refl _ _⟩)).mono ?_
    rintro e w1 ⟨rfl, hb⟩
    go_wp2
    go_ret
    exact ⟨ret_bool (by simp [serOK, h, List.all_eq_not_any_not]), hb⟩
  · go_enter Tryd.func25, Tryd.ntmps25
    go_wp2
    go_ret
    exact ⟨ret_bool (by simp [serOK]; omega), Below.refl _ _⟩

theorem checkSeries_any (ao : Option Addr) (xs : List Int) (cap : Nat) (w : World) (hc : Cells w ao (xs.map (Value.int .i64))) (hl : xs.length ≤ 9223372036854775807) :
    Calls Tryd.prog 10 #[.slice ao xs.length cap] w fun e w' => e = .returned (.int .i64 (serErr xs)) ∧ Below w.heap.size w w' := by
  have HC := Lib.hid hc; clear hc
  cases hs : serOK xs
  all_goals
    go_enter Tryd.func10, Tryd.ntmps10
    go_wp2_with fail
    refine (seriesOK_any ao xs cap w HC.out hl).mono ?_
    rintro e w1 ⟨rfl, hb⟩
    go_wp2
    go_ret
    exact ⟨ret_int (by simp [serErr, hs]), hb⟩

theorem refCheckSeries_any (ao : Option Addr) (xs : List Int) (cap : Nat) (w : World) (hc : Cells w ao (xs.map (Value.int .i64))) (hl : xs.length ≤ 9223372036854775807) :
    Calls Tryd.prog 11 #[.slice ao xs.length cap] w fun e w' => e = .returned (.int .i64 (serErr xs)) ∧ Below w.heap.size w w' := by
  have HC := Lib.hid hc; clear hc
  go_enter Tryd.func11, Tryd.ntmps11
  go_wp2
  go_loopw [3, 4] (fun o i wr => ∃ k : Nat, k ≤ xs.length ∧ i = .int .i64 k ∧ o = .bool (decide (xs.length ≤ 4096) && (xs.take k).all (fun n => inB (-8388608) n 8388608)) ∧ Below w.heap.size w wr) (fun _ i _ => xs.length - (intOf i).toNat)
  case atStart => exact ⟨0, Nat.zero_le _, rfl, by simp; omega, Below.refl _ _⟩
  case round =>
    obtain ⟨k, hk, rfl, rfl, hb⟩ := hrel
    by_cases hlt : k < xs.length
    · obtain ⟨x, hx⟩ := get_of_lt hlt
      obtain ⟨b, off, rfl⟩ := HC.out.addr (by simpa using List.ne_nil_of_length_pos (by omega))
      have hcell := cell_keep (HC.out.int hx) hb (Nat.le_refl _)
      have hn : (decide (xs.length ≤ 4096) && (xs.take (k + 1)).all (fun n => inB (-8388608) n 8388608)) = ((decide (xs.length ≤ 4096) && (xs.take k).all (fun n => inB (-8388608) n 8388608)) && inB (-8388608) x 8388608) := by
        rw [take_get hx, List.all_append]; simp [Bool.and_assoc]
      have HX := Lib.hid hx; clear hx
      have HN := Lib.hid hn; clear hn
      generalize (decide (xs.length ≤ 4096) && (xs.take k).all (fun n => inB (-8388608) n 8388608)) = o at *
      cases o
      · go_wp2
        go_roundw
        case rel => exact ⟨k + 1, by omega, by go_num, by rw [HN.out]; rfl, hb⟩
        case measure => simp [intOf]; omega
      · go_wp2_with (go_at_call 24; refine (in_any _ _ _ _).mono ?_; rintro e w' ⟨rfl, rfl⟩)
        go_roundw
        case rel => exact ⟨k + 1, by omega, by go_num, by rw [HN.out]; simp, hb⟩
        case measure => simp [intOf]; omega
    · obtain rfl : k = xs.length := by omega
      have hn : serOK xs = (decide (xs.length ≤ 4096) && (xs.take xs.length).all (fun n => inB (-8388608) n 8388608)) := by simp [serOK]
      have HN := Lib.hid hn; clear hn
      generalize (decide (xs.length ≤ 4096) && (xs.take xs.length).all (fun n => inB (-8388608) n 8388608)) = o at *
      cases o
      all_goals
        go_wp2
        go_ret
        exact ⟨ret_int (by simp [serErr, HN.out]), hb⟩
end Go.Proofs.YtoochleabcjljaaDoor

/- Frames: frameOK, CheckFrame. -/
namespace Go.Proofs.YtoochleabcjljaaDoor
open Go.RowKit

/-- a slice of numbers, and a slice of such -/
def RowV (w : World) (v : Value) (xs : List Int) : Prop := ∃ a c, v = .slice a xs.length c ∧ Cells w a (xs.map (Value.int .i64)) ∧ xs.length ≤ 9223372036854775807
theorem RowV.below {w w' : World} {B : Nat} {v : Value} {xs : List Int} (h : RowV w v xs) (hb : Below B w w') (hB : w.heap.size ≤ B) : RowV w' v xs := by
  obtain ⟨a, c, h1, h2, h3⟩ := h; exact ⟨a, c, h1, h2.below hb hB, h3⟩
def RowsV (w : World) (vs : List Value) (xss : List (List Int)) : Prop := vs.length = xss.length ∧ ∀ (i : Nat) v xs, vs[i]? = some v → xss[i]? = some xs → RowV w v xs
theorem RowsV.below {w w' : World} {B : Nat} {vs : List Value} {xss : List (List Int)} (h : RowsV w vs xss) (hb : Below B w w') (hB : w.heap.size ≤ B) : RowsV w' vs xss :=
  ⟨h.1, fun i v xs h1 h2 => (h.2 i v xs h1 h2).below hb hB⟩

/-- the greatest magnitude of a channel -/
def mostOf (c : Chan) : Int := 2 ^ (c.bits - 1).toNat
def smpOK (c : Chan) (xs : List Int) : Bool := decide ((xs.length : Int) = c.rate) && !xs.any fun n => !inB (-(mostOf c)) n (mostOf c - 1)
def frTo (bs : List Chan) (xss : List (List Int)) : Nat → Bool
  | 0 => true
  | k + 1 => frTo bs xss k && match bs[k]?, xss[k]? with | some c, some xs => smpOK c xs | _, _ => true
def frOK (bs : List Chan) (st : Int) (xss : List (List Int)) : Bool := inB 0 st 1073741824 && (decide (xss.length = bs.length) && frTo bs xss bs.length)
theorem frTo_succ {bs : List Chan} {xss : List (List Int)} {k : Nat} {c : Chan} {xs : List Int} (h : bs[k]? = some c) (h2 : xss[k]? = some xs) : frTo bs xss (k + 1) = (frTo bs xss k && smpOK c xs) := by simp [frTo, h, h2]
theorem frTo_false {bs : List Chan} {xss : List (List Int)} {k : Nat} (h : frTo bs xss k = false) {n : Nat} (hn : k ≤ n) : frTo bs xss n = false := by
  induction n with
  | zero => obtain rfl : k = 0 := by omega
            exact h
  | succ n ih =>
    by_cases hk : k ≤ n
    · simp [frTo, ih hk]
    · obtain rfl : k = n + 1 := by omega
      exact h

theorem bookTo_get {bs : List Chan} {n : Nat} (h : bookTo bs n = true) {i : Nat} {c : Chan} (hi : i < n) (hc : bs[i]? = some c) : chanOK c = true := by
  induction n with
  | zero => omega
  | succ n ih =>
    simp only [bookTo, Bool.and_eq_true] at h
    by_cases hin : i < n
    · exact ih h.1 hin
    · obtain rfl : i = n := by omega
      have := h.2
      rw [hc] at this
      simp only [Bool.and_eq_true] at this
      exact this.1
theorem book_get {bs : List Chan} (h : bookOK bs = true) {i : Nat} {c : Chan} (hc : bs[i]? = some c) : 1 ≤ c.rate ∧ c.rate ≤ 64 ∧ 2 ≤ c.bits ∧ c.bits ≤ 24 := by
  simp only [bookOK, Bool.and_eq_true] at h
  have h1 := bookTo_get h.2 (List.getElem?_eq_some_iff.1 hc).1 hc
  simp only [chanOK, inB, Bool.and_eq_true, decide_eq_true_eq] at h1
  omega

theorem frameOK1_any (n m : Int) (bc : Nat) (w : World) (hc : w.cell? ⟨bc, 0, none⟩ = some (.int .i64 m)) (h1 : 1 ≤ m) (h2 : m ≤ 8388608) :
    Calls Tryd.prog 61 #[.int .i64 n, .pointer (some ⟨bc, 0, none⟩)] w fun e w' => e = .returned (.bool (!inB (-m) n (m - 1))) ∧ w = w' := by
  go_enter Tryd.func61, Tryd.ntmps61
  go_wp2_with (go_at_call 22; refine (within_any _ _ _ _).mono ?_; rintro e w' ⟨rfl, rfl⟩)
  go_ret
  exact ⟨rfl, rfl⟩

theorem new2_cell (w : World) (o : Obj) (cs : Array Value) (T : TypeId) (i : Nat) : ((w.alloc o).alloc (.cells cs T)).cell? ⟨w.heap.size + 1, i, none⟩ = cs[i]? := by
  simp

theorem most_bd {c : Chan} (h1 : 2 ≤ c.bits) (h2 : c.bits ≤ 24) : 1 ≤ mostOf c ∧ mostOf c ≤ 8388608 ∧ (1 : Int) * 2 ^ (c.bits - 1).toNat = mostOf c := by
  have hn : (c.bits - 1).toNat ≤ 23 := by omega
  have h3 : (2 : Nat) ^ (c.bits - 1).toNat ≤ 2 ^ 23 := Nat.pow_le_pow_right (by decide) hn
  have h4 : ((2 ^ (c.bits - 1).toNat : Nat) : Int) = mostOf c := by simp [mostOf]
  have h5 : 0 < (2 : Nat) ^ (c.bits - 1).toNat := Nat.pow_pos (by decide)
  have h6 : (2 : Nat) ^ 23 = 8388608 := by decide
  refine ⟨by omega, by omega, by simp [mostOf]⟩

set_option maxRecDepth 100000 in
set_option maxHeartbeats 1000000 in
theorem frameOK_any (ao : Option Addr) (bs : List Chan) (cap : Nat) (st : Int) (asm : Option Addr) (vs : List Value) (xss : List (List Int)) (cs : Nat) (w : World) (hc : Cells w ao (chs bs)) (hl : bs.length ≤ 9223372036854775807) (hs : Cells w asm vs) (hr : RowsV w vs xss) (_hls : xss.length ≤ 9223372036854775807) (hbk : bookOK bs = true) :
    Calls Tryd.prog 45 #[.slice ao bs.length cap, .agg #[.int .i64 st, .slice asm xss.length cs]] w fun e w' => e = .returned (.bool (frOK bs st xss)) ∧ Below w.heap.size w w' := by
  have HC := Lib.hid hc; have HS := Lib.hid hs; have HR := Lib.hid hr; have HBK := Lib.hid hbk
  clear hc hs hr hbk
  cases h1 : inB 0 st 1073741824
  · have hf : frOK bs st xss = false := by simp [frOK, h1]
    have HF := Lib.hid hf; clear hf
    go_enter Tryd.func45, Tryd.ntmps45
    go_wp2_with (go_at_call 22; refine (within_any _ _ _ _).mono ?_; rintro e w' ⟨rfl, rfl⟩)
    go_ret
    exact ⟨ret_bool HF.out.symm, (Below.refl _ _).alloc (Nat.le_refl _) _⟩
  · by_cases h2 : xss.length = bs.length
    · have hf : frOK bs st xss = frTo bs xss bs.length := by simp [frOK, h1, h2]
      have HF := Lib.hid hf; clear hf
      have hlen : ((xss.length : Int) != bs.length) = false := by simp [h2]
      have H2 := Lib.hid h2; clear h2
      have hle1 : xss.length ≤ bs.length := by have := H2.out; omega
      have hle2 : bs.length ≤ xss.length := by have := H2.out; omega
      go_enter Tryd.func45, Tryd.ntmps45
      go_wp2_with (go_at_call 22; refine (within_any _ _ _ _).mono ?_; rintro e w' ⟨rfl, rfl⟩)
      go_loopw [22] (fun i wr => ∃ k : Nat, k ≤ bs.length ∧ i = .int .i64 k ∧ frTo bs xss k = true ∧ Below (w.heap.size + 1) (w.alloc (.cells #[.int .i64 st, .slice asm xss.length cs] 53)) wr) (fun i _ => bs.length - (intOf i).toNat)
      case atStart => exact ⟨0, Nat.zero_le _, rfl, rfl, Below.refl _ _⟩
      case round =>
        obtain ⟨k, hk, rfl, hfr, hb⟩ := hrel
        have HFR := Lib.hid hfr; clear hfr
        have p1 : wr.cell? ⟨w.heap.size, 1, none⟩ = some (.slice asm xss.length cs) := box_keep hb (by simp) 1
        have hbw : Below w.heap.size w wr := ((Below.refl _ _).alloc (Nat.le_refl _) _).trans (hb.mono (by omega))
        have hsz : w.heap.size + 1 ≤ wr.heap.size := by have := hb.size; simpa using this
        by_cases hlt : k < bs.length
        · obtain ⟨c, hx⟩ := get_of_lt hlt
          obtain ⟨xs, hxs⟩ := get_of_lt (show k < xss.length by omega)
          obtain ⟨v, hv⟩ := get_of_lt (show k < vs.length by have := HR.out.1; omega)
          obtain ⟨b, off, rfl⟩ := HC.out.addr (chs_ne (by omega))
          obtain ⟨b2, off2, rfl⟩ := HS.out.addr (List.ne_nil_of_length_pos (by have := HR.out.1; omega))
          obtain ⟨g0, g1, g2⟩ := chs_get hx
          have c0 := cell_keep (HC.out.at g0) hbw (Nat.le_refl _)
          have c1 := cell_keep (HC.out.at g1) hbw (Nat.le_refl _)
          have c2 := cell_keep (HC.out.at g2) hbw (Nat.le_refl _)
          rw [← Nat.add_assoc] at c1 c2
          have c3 := cell_keep (HS.out.at hv) hbw (Nat.le_refl _)
          have hrow := HR.out.2 k v xs hv hxs
          obtain ⟨ax, cx, rfl, hax, haxl⟩ := hrow
          have hck := book_get HBK.out hx
          obtain ⟨k1, k2, k3, k4⟩ := hck
          obtain ⟨m1, m2, m3⟩ := most_bd k3 k4
          have hst := frTo_succ hx hxs
          rw [HFR.out, Bool.true_and] at hst
          have HST := Lib.hid hst; have HAX := Lib.hid hax; have M3 := Lib.hid m3
          clear g0 g1 g2 hst hax hx hxs hv m3
          have hmx : (c.bits - 1).toNat ≤ 23 := by omega
          have hmin : min (c.bits - 1).toNat 64 = (c.bits - 1).toNat := by omega
          have hpw : (2 : Int) ^ (c.bits.toNat - 1) = mostOf c := by rw [mostOf]; congr 1; omega
          go_wp2
          clear hpw hmx hmin
          have hbq := (hb.alloc hsz (.cells #[.string c.name, .int .i64 c.rate, .int .i64 c.bits] 57)).alloc (by simp; omega) (.cells #[.int .i64 (mostOf c)] 3)
          have hwq := ((Below.refl wr.heap.size wr).alloc (Nat.le_refl _) (.cells #[.string c.name, .int .i64 c.rate, .int .i64 c.bits] 57)).alloc (by simp) (.cells #[.int .i64 (mostOf c)] 3)
          have q3 := cell_keep c3 hwq (Nat.le_refl _)
          have qr : ((wr.alloc (.cells #[.string c.name, .int .i64 c.rate, .int .i64 c.bits] 57)).alloc (.cells #[.int .i64 (mostOf c)] 3)).cell? ⟨wr.heap.size, 1, none⟩ = some (.int .i64 c.rate) := by simp
          have qm : ((wr.alloc (.cells #[.string c.name, .int .i64 c.rate, .int .i64 c.bits] 57)).alloc (.cells #[.int .i64 (mostOf c)] 3)).cell? ⟨wr.heap.size + 1, 0, none⟩ = some (.int .i64 (mostOf c)) := new2_cell _ _ _ _ 0
          have hsq : wr.heap.size + 2 ≤ ((wr.alloc (.cells #[.string c.name, .int .i64 c.rate, .int .i64 c.bits] 57)).alloc (.cells #[.int .i64 (mostOf c)] 3)).heap.size := by simp
          generalize ((wr.alloc (.cells #[.string c.name, .int .i64 c.rate, .int .i64 c.bits] 57)).alloc (.cells #[.int .i64 (mostOf c)] 3)) = wq at *
          clear c0 c1 c2 c3 p1 hb hwq
          have p1 : wq.cell? ⟨w.heap.size, 1, none⟩ = some (.slice (some ⟨b2, off2, none⟩) xss.length cs) := box_keep hbq (by simp) 1
          have hbw2 : Below w.heap.size w wq := ((Below.refl _ _).alloc (Nat.le_refl _) _).trans (hbq.mono (by omega))
          have ki1 : (k : Int) < xss.length := by omega
          by_cases hlr : (xs.length : Int) = c.rate
          · have hst : frTo bs xss (k + 1) = !xs.any (fun n => !inB (-(mostOf c)) n (mostOf c - 1)) := by rw [HST.out]; simp [smpOK, hlr]
            have HST2 := Lib.hid hst; clear hst
            have hneq : ((xs.length : Int) != c.rate) = false := by simp [hlr]
            clear hlr
            go_still_tail 16, (by kernel_rfl)
            change wpList _ _ _ _ _ wq.drew
            have qm2 : wq.drew.cell? ⟨wr.heap.size + 1, 0, none⟩ = some (.int .i64 (mostOf c)) := qm
            have hbd : Below w.heap.size w wq.drew := hbw2.drew
            have hbqd : Below (w.heap.size + 1) (w.alloc (.cells #[.int .i64 st, .slice (some ⟨b2, off2, none⟩) xss.length cs] 53)) wq.drew := hbq.drew
            have hsq2 : wr.heap.size + 2 ≤ wq.drew.heap.size := hsq
            generalize wq.drew = wd at *
            clear qm qr q3 p1 hbq hbw2 hsq
            go_wp2_with fail
            refine (containsFunc_ints 61 #[.pointer (some ⟨wr.heap.size + 1, 0, none⟩)] (fun n => !inB (-(mostOf c)) n (mostOf c - 1)) ax xs cx wd (HAX.out.below hbd (Nat.le_refl _)) (by omega) (fun _ _ => by kernel_rfl) (fun x wx _ hbe => (frameOK1_any x (mostOf c) (wr.heap.size + 1) wx (cell_keep qm2 hbe (Nat.le_refl _)) m1 m2).mono fun e w' h => ⟨h.1, h.2 ▸ Below.refl _ _⟩)).mono ?_
            rintro e w1 ⟨rfl, hb1⟩
            have hbz := hbqd.trans (hb1.mono (by omega))
            cases hany : xs.any (fun n => !inB (-(mostOf c)) n (mostOf c - 1))
            · have hfr2 : frTo bs xss (k + 1) = true := by rw [HST2.out, hany]; rfl
              have HFR2 := Lib.hid hfr2; clear hfr2 hany
              go_wp2
              go_roundw
              case rel => exact ⟨k + 1, by omega, by go_num, HFR2.out, hbz⟩
              case measure => simp [intOf]; omega
            · have hfr2 : frTo bs xss bs.length = false := frTo_false (k := k + 1) (by rw [HST2.out, hany]; rfl) (by omega)
              have HFR2 := Lib.hid hfr2; clear hfr2 hany
              go_wp2
              go_ret
              exact ⟨ret_bool (by rw [HF.out, HFR2.out]), ((Below.refl _ _).alloc (Nat.le_refl _) _).trans (hbz.mono (by omega))⟩
          · have hfr2 : frTo bs xss bs.length = false := frTo_false (k := k + 1) (by rw [HST.out]; simp [smpOK, hlr]) (by omega)
            have HFR2 := Lib.hid hfr2; clear hfr2
            have hneq : ((xs.length : Int) != c.rate) = true := by simpa using hlr
            go_quiet (fail)
            go_wp2
            go_ret
            exact ⟨ret_bool (by rw [HF.out, HFR2.out]), bel_drewN hbw2 _⟩
        · obtain rfl : k = bs.length := by omega
          go_wp2
          go_ret
          exact ⟨ret_bool (by rw [HF.out, HFR.out]), hbw⟩
    · have hf : frOK bs st xss = false := by simp [frOK, h2]
      have HF := Lib.hid hf; clear hf
      have hlen : ((xss.length : Int) != bs.length) = true := by simp; omega
      go_enter Tryd.func45, Tryd.ntmps45
      go_wp2_with (go_at_call 22; refine (within_any _ _ _ _).mono ?_; rintro e w' ⟨rfl, rfl⟩)
      go_ret
      exact ⟨ret_bool HF.out.symm, (Below.refl _ _).alloc (Nat.le_refl _) _⟩
end Go.Proofs.YtoochleabcjljaaDoor

/- Frames: CheckFrame. -/
namespace Go.Proofs.YtoochleabcjljaaDoor
open Go.RowKit

def frmErr (bs : List Chan) (st : Int) (xss : List (List Int)) : Int := if bookErr bs ≠ 0 then bookErr bs else if frOK bs st xss then 0 else 51
theorem bookErr_zero {bs : List Chan} (h : bookErr bs = 0) : bookOK bs = true := by
  cases e : bookOK bs
  · simp [bookErr, e] at h
  · rfl

/-- what is asked of a book, whatever it holds -/
structure BookIn (w : World) (ao : Option Addr) (bs : List Chan) (cap : Nat) : Prop where
  cells : Cells w ao (chs bs)
  len : bs.length ≤ 9223372036854775807
  lecap : bs.length ≤ cap
  cap2 : cap ≤ 9223372036854775807
  names : ∀ c ∈ bs, c.name.size ≤ 9223372036854775807
  rates : ∀ c ∈ bs, -9223372036854775808 ≤ c.rate
theorem BookIn.below {w w' : World} {B : Nat} {ao : Option Addr} {bs : List Chan} {cap : Nat} (h : BookIn w ao bs cap) (hb : Below B w w') (hB : w.heap.size ≤ B) : BookIn w' ao bs cap :=
  ⟨h.cells.below hb hB, h.len, h.lecap, h.cap2, h.names, h.rates⟩

set_option maxRecDepth 100000 in
theorem checkFrame_any (ao : Option Addr) (bs : List Chan) (cap : Nat) (st : Int) (asm : Option Addr) (vs : List Value) (xss : List (List Int)) (cs : Nat) (w : World) (hb : BookIn w ao bs cap) (hs : Cells w asm vs) (hr : RowsV w vs xss) (hls : xss.length ≤ 9223372036854775807) :
    Calls Tryd.prog 37 #[.slice ao bs.length cap, .agg #[.int .i64 st, .slice asm xss.length cs]] w fun e w' => e = .returned (.int .i64 (frmErr bs st xss)) ∧ Below w.heap.size w w' := by
  have HB := Lib.hid hb; have HS := Lib.hid hs; have HR := Lib.hid hr
  have hlen := hb.len
  clear hs hr hb
  have hck := fun wx (h : BookIn wx ao bs cap) => checkBook_any ao bs cap wx h.cells (by have := h.len; omega) h.lecap h.cap2 h.names h.rates
  have HCK := Lib.hid hck; clear hck
  by_cases h1 : bookErr bs = 0
  · have hok := bookErr_zero h1
    have hfr := fun wx h2 h3 h4 => frameOK_any ao bs cap st asm vs xss cs wx h2 hlen h3 h4 hls hok
    have HFR := Lib.hid hfr; clear hfr hok
    have he : frmErr bs st xss = if frOK bs st xss then 0 else 51 := by simp [frmErr, h1]
    have HE := Lib.hid he; have H1 := Lib.hid h1; clear he h1
    cases h2 : frOK bs st xss
    all_goals
      have H2 := Lib.hid h2
      go_enter Tryd.func37, Tryd.ntmps37
      go_wp2_with fail
      refine (HCK.out _ (HB.out.below ((Below.refl _ _).alloc (Nat.le_refl _) _) (Nat.le_refl _))).mono ?_
      rintro e w1 ⟨rfl, hb1⟩
      rw [H1.out]
      have hbw : Below w.heap.size w w1 := ((Below.refl _ _).alloc (Nat.le_refl _) _).trans (hb1.mono (by simp))
      have q0 : w1.cell? ⟨w.heap.size, 0, none⟩ = some (.int .i64 st) := box_keep hb1 (by simp) 0
      have q1 : w1.cell? ⟨w.heap.size, 1, none⟩ = some (.slice asm xss.length cs) := box_keep hb1 (by simp) 1
      go_wp2_with fail
      refine (HFR.out _ (HB.out.below hbw (Nat.le_refl _)).cells (HS.out.below hbw (Nat.le_refl _)) (HR.out.below hbw (Nat.le_refl _))).mono ?_
      rintro e w2 ⟨rfl, hb2⟩
      go_wp2
      go_ret
      exact ⟨ret_int (by rw [HE.out, H2.out]; rfl), hbw.trans (hb2.mono hbw.size)⟩
  · have he : frmErr bs st xss = bookErr bs := by simp [frmErr, h1]
    have h3 : (bookErr bs != 0) = true := by simpa using h1
    have h4 : (bookErr bs == 0) = false := by simpa using h1
    have HE := Lib.hid he; clear he
    go_enter Tryd.func37, Tryd.ntmps37
    go_wp2_with fail
    refine (HCK.out _ (HB.out.below ((Below.refl _ _).alloc (Nat.le_refl _) _) (Nat.le_refl _))).mono ?_
    rintro e w1 ⟨rfl, hb1⟩
    go_wp2
    go_ret
    exact ⟨ret_int HE.out.symm, ((Below.refl _ _).alloc (Nat.le_refl _) _).trans (hb1.mono (by simp))⟩
end Go.Proofs.YtoochleabcjljaaDoor
