/- Parts of a proof, in build order: A5, W1, A7, F2, B2, Dig, Dig2, N0. -/
import Derived.Test.YtoochleabcjljaaDoorKr3

/- Small functions of ringdownref00: Down, Up, Mod; sameBands. -/
namespace Go.Proofs.YtoochleabcjljaaDoor
open Go.RowKit

theorem tdiv_floor {a b : Int} (hb : 0 < b) : (a.tmod b < 0 → a.tdiv b - 1 = a / b) ∧ (¬ a.tmod b < 0 → a.tdiv b = a / b) := by
  have h1 := Int.mul_tdiv_add_tmod a b
  have h2 := Int.mul_ediv_add_emod a b
  have h3 := Int.emod_nonneg a (by omega : b ≠ 0)
  have h4 := Int.emod_lt_of_pos a hb
  have h5 : a.tmod b < b := Int.tmod_lt_of_pos a hb
  have h6 : -b < a.tmod b := by have := Int.lt_tmod_of_pos a hb; omega
  refine ⟨fun h => ?_, fun h => ?_⟩
  · have e : b * (a.tdiv b - 1 - a / b) = a % b - b - a.tmod b := by rw [Int.mul_sub, Int.mul_sub]; omega
    have : a.tdiv b - 1 - a / b = 0 := by
      rcases Int.lt_trichotomy (a.tdiv b - 1 - a / b) 0 with hl | hl | hl
      · have := Int.mul_le_mul_of_nonneg_left (show a.tdiv b - 1 - a / b ≤ -1 by omega) (Int.le_of_lt hb); omega
      · exact hl
      · have := Int.mul_le_mul_of_nonneg_left (show 1 ≤ a.tdiv b - 1 - a / b by omega) (Int.le_of_lt hb); omega
    omega
  · have e : b * (a.tdiv b - a / b) = a % b - a.tmod b := by rw [Int.mul_sub]; omega
    have : a.tdiv b - a / b = 0 := by
      rcases Int.lt_trichotomy (a.tdiv b - a / b) 0 with hl | hl | hl
      · have := Int.mul_le_mul_of_nonneg_left (show a.tdiv b - a / b ≤ -1 by omega) (Int.le_of_lt hb); omega
      · exact hl
      · have := Int.mul_le_mul_of_nonneg_left (show 1 ≤ a.tdiv b - a / b by omega) (Int.le_of_lt hb); omega
    omega

theorem down_any (a b : Int) (w : World) (hb : 1 ≤ b) (ha : -9223372036854775807 ≤ a) (ha' : a ≤ 9223372036854775807) :
    Calls Tryd.prog 15 #[.int .i64 a, .int .i64 b] w fun e w' => e = .returned (.int .i64 (a / b)) ∧ w = w' := by
  have hf := tdiv_floor (a := a) (b := b) (by omega)
  have h0 : (b == 0) = false := by simp; omega
  have hq : -9223372036854775807 ≤ a.tdiv b ∧ a.tdiv b ≤ 9223372036854775807 := by
    have h := Int.natAbs_tdiv_le_natAbs a b
    omega
  have hr : -9223372036854775807 ≤ a.tmod b ∧ a.tmod b ≤ 9223372036854775807 := by
    have h := Int.natAbs_tmod a b
    have h2 := Nat.mod_le a.natAbs b.natAbs
    omega
  obtain ⟨q1, q2⟩ := hq
  obtain ⟨r1, r2⟩ := hr
  have H1 := Lib.hid hf; clear hf
  by_cases hm : a.tmod b < 0
  · go_enter Tryd.func15, Tryd.ntmps15
    go_wp2
    go_ret
    exact ⟨ret_int (H1.out.1 hm), rfl⟩
  · go_enter Tryd.func15, Tryd.ntmps15
    go_wp2
    go_ret
    exact ⟨ret_int (H1.out.2 hm), rfl⟩

theorem ediv_bd {a b M : Int} (hb : 1 ≤ b) (h1 : -M ≤ a) (h2 : a ≤ M) (hM : 0 ≤ M) : -M ≤ a / b ∧ a / b ≤ M := by
  have hp : (0 : Int) < b := by omega
  constructor
  · rw [Int.le_ediv_iff_mul_le hp]
    have : M * 1 ≤ M * b := Int.mul_le_mul_of_nonneg_left hb hM
    rw [Int.neg_mul]; omega
  · by_cases hx : 0 ≤ a
    · have := Int.ediv_le_self b hx; omega
    · have := Int.ediv_neg_of_neg_of_pos (by omega : a < 0) hp; omega

theorem up_any (a b : Int) (w : World) (hb : 1 ≤ b) (ha : -9223372036854775807 ≤ a) (ha' : a ≤ 9223372036854775807) :
    Calls Tryd.prog 16 #[.int .i64 a, .int .i64 b] w fun e w' => e = .returned (.int .i64 (-(-a / b))) ∧ w = w' := by
  have h1 := ediv_bd (a := -a) (M := 9223372036854775807) hb (by omega) (by omega) (by omega)
  obtain ⟨q1, q2⟩ := h1
  go_enter Tryd.func16, Tryd.ntmps16
  go_wp2_with (go_at_call 15; refine (down_any _ _ _ (by omega) (by omega) (by omega)).mono ?_; rintro e w' ⟨rfl, rfl⟩)
  go_ret
  exact ⟨rfl, rfl⟩
end Go.Proofs.YtoochleabcjljaaDoor

/- RecordWithin: Mod, pick. -/
namespace Go.Proofs.YtoochleabcjljaaDoor
open Go.RowKit

theorem tmod_floor {a b : Int} (hb : 0 < b) : (a.tmod b < 0 → a.tmod b + b = a % b) ∧ (¬ a.tmod b < 0 → a.tmod b = a % b) := by
  obtain ⟨f1, f2⟩ := tdiv_floor (a := a) hb
  have h1 := Int.mul_tdiv_add_tmod a b
  have h2 := Int.mul_ediv_add_emod a b
  refine ⟨fun h => ?_, fun h => ?_⟩
  · have := f1 h
    rw [← this, Int.mul_sub] at h2
    omega
  · have := f2 h
    rw [← this] at h2
    omega

theorem mod_any (a b : Int) (w : World) (hb : 1 ≤ b) (hb2 : b ≤ 4611686018427387904) :
    Calls Tryd.prog 17 #[.int .i64 a, .int .i64 b] w fun e w' => e = .returned (.int .i64 (a % b)) ∧ w = w' := by
  have hf := tmod_floor (a := a) (b := b) (by omega)
  have h0 : (b == 0) = false := by simp; omega
  have hr : -9223372036854775807 ≤ a.tmod b ∧ a.tmod b ≤ 9223372036854775807 := by
    have h1 : a.tmod b < b := Int.tmod_lt_of_pos a (by omega)
    have h2 : -b < a.tmod b := by have := Int.lt_tmod_of_pos a (show 0 < b by omega); omega
    omega
  obtain ⟨r1, r2⟩ := hr
  have H1 := Lib.hid hf; clear hf
  by_cases hm : a.tmod b < 0
  · go_enter Tryd.func17, Tryd.ntmps17
    go_wp2
    go_ret
    exact ⟨ret_int (H1.out.1 hm), rfl⟩
  · go_enter Tryd.func17, Tryd.ntmps17
    go_wp2
    go_ret
    exact ⟨ret_int (H1.out.2 hm), rfl⟩

theorem pick_any (ab : Option Addr) (bits : List Int) (cb : Nat) (k : Nat) (lo hi : Int) (w : World) (hc : Cells w ab (bits.map (Value.int .i64))) (hl : bits.length ≤ 9223372036854775807) (hk : k ≤ 1000)
    (h1 : -1048576 ≤ lo) (h2 : lo ≤ hi) (h3 : hi ≤ 1048576) :
    Calls Tryd.prog 14 #[.slice ab bits.length cb, .int .i64 (k : Nat), .int .i64 lo, .int .i64 hi] w fun e w' => e = .returned (.int .i64 (pk bits k lo hi)) ∧ w = w' := by
  have HC := Lib.hid hc; clear hc
  have hpb := pk_bd (bits := bits) (k := k) h2
  by_cases h0 : bits.length = 0
  · have hp : pk bits k lo hi = lo := by rw [pk, if_pos h0]
    have HP := Lib.hid hp; clear hp
    have hz : ((bits.length : Int) == 0) = true := by simp [h0]
    rw [h0] at hz ⊢
    clear hpb
    go_enter Tryd.func14, Tryd.ntmps14
    go_wp2
    go_ret
    exact ⟨ret_int HP.out.symm, rfl⟩
  · have hm := Nat.mod_lt k (show 0 < bits.length by omega)
    obtain ⟨x, hx⟩ := get_of_lt hm
    obtain ⟨b, off, rfl⟩ := HC.out.addr (by simpa using List.ne_nil_of_length_pos (by omega))
    have hc1 := HC.out.int hx
    have hp : pk bits k lo hi = lo + x % (hi - lo + 1) := by rw [pk, if_neg h0, List.getD_eq_getElem?_getD, hx]; rfl
    have e1 := Int.emod_nonneg x (show hi - lo + 1 ≠ 0 by omega)
    have e2 := Int.emod_lt_of_pos x (show 0 < hi - lo + 1 by omega)
    have HP := Lib.hid hp; clear hp
    have hz : ((bits.length : Int) == 0) = false := by rw [beq_eq_false_iff_ne]; omega
    clear hx
    go_enter Tryd.func14, Tryd.ntmps14
    go_wp2_with fail
    have hq := mod_any x (hi - lo + 1) w (by omega) (by omega)
    refine hq.mono ?_
    rintro e w' ⟨rfl, rfl⟩
    go_wp2
    go_ret
    exact ⟨ret_int HP.out.symm, rfl⟩
end Go.Proofs.YtoochleabcjljaaDoor

/- sameBands. -/
namespace Go.Proofs.YtoochleabcjljaaDoor
open Go.RowKit

/-- sameBands: are two lists of pairs the same? -/
theorem sameBands_any (aa ab : Option Addr) (xs ys : List (Int × Int)) (ca cb : Nat) (w : World) (ha : Cells w aa (prs xs)) (hb : Cells w ab (prs ys)) (hl : xs.length ≤ 9223372036854775807) (hl' : ys.length ≤ 9223372036854775807) :
    Calls Tryd.prog 12 #[.slice aa xs.length ca, .slice ab ys.length cb] w fun e w' => e = .returned (.bool (decide (xs = ys))) ∧ Below w.heap.size w w' := by
  by_cases hlen : xs.length = ys.length
  · have h1 : ((xs.length : Int) != ys.length) = false := by simp [hlen]
    have hlt : (ys.length : Int) ≤ xs.length := by omega
    have HL := Lib.hid hlen; clear hlen
    go_enter Tryd.func12, Tryd.ntmps12
    go_wp2
    go_loopw [5] (fun i wr => ∃ k : Nat, k ≤ xs.length ∧ i = .int .i64 k ∧ xs.take k = ys.take k ∧ Below w.heap.size w wr) (fun i _ => xs.length - (intOf i).toNat)
    case atStart => exact ⟨0, Nat.zero_le _, rfl, rfl, Below.refl _ _⟩
    case round =>
      obtain ⟨k, hk, rfl, heq, hbe⟩ := hrel
      have HQ := Lib.hid heq; clear heq
      by_cases hlt : k < xs.length
      · have hlt2 : k < ys.length := by have := HL.out; omega
        obtain ⟨⟨x1, x2⟩, hx⟩ := get_of_lt hlt
        obtain ⟨⟨y1, y2⟩, hy⟩ := get_of_lt hlt2
        obtain ⟨b, off, rfl⟩ := ha.addr (prs_ne (by omega))
        obtain ⟨b2, off2, rfl⟩ := hb.addr (prs_ne (by omega))
        have c1 := cell_keep (ha.at (prs_fst hx)) hbe (Nat.le_refl _)
        have c2 := cell_keep (ha.at (prs_snd hx)) hbe (Nat.le_refl _)
        have c3 := cell_keep (hb.at (prs_fst hy)) hbe (Nat.le_refl _)
        have c4 := cell_keep (hb.at (prs_snd hy)) hbe (Nat.le_refl _)
        rw [← Nat.add_assoc] at c2 c4
        simp only at c1 c2 c3 c4
        have i1 : (k : Int) < xs.length := by omega
        have i2 : (k : Int) < ys.length := by omega
        have i3 : (0 : Int) ≤ k := by omega
        by_cases hxy : x1 = y1 ∧ x2 = y2
        · obtain ⟨rfl, rfl⟩ := hxy
          have ht : xs.take (k + 1) = ys.take (k + 1) := by rw [take_get hx, take_get hy, HQ.out]
          have HT := Lib.hid ht; clear ht hx hy
          go_wp2
          go_quiet (fail)
          go_wp2
          go_roundw
          case rel => exact ⟨k + 1, by omega, by go_num, HT.out, bel_drewN hbe _⟩
          case measure => simp [intOf]; omega
        · have hne : decide (xs = ys) = false := by
            rw [decide_eq_false_iff_not]; rintro rfl
            rw [hx] at hy; simp at hy; exact hxy hy
          have HNE := Lib.hid hne; clear hne hx hy
          by_cases hx1 : x1 = y1
          · obtain rfl := hx1
            have hb1 : (x2 == y2) = false := by simpa using hxy
            go_wp2
            go_quiet (fail)
            go_wp2
            go_ret
            exact ⟨ret_bool HNE.out.symm, bel_drewN hbe _⟩
          · have hb1 : (x1 == y1) = false := by simpa using hx1
            go_wp2
            go_quiet (fail)
            go_wp2
            go_ret
            exact ⟨ret_bool HNE.out.symm, bel_drewN hbe _⟩
      · obtain rfl : k = xs.length := by omega
        have he : decide (xs = ys) = true := by
          rw [decide_eq_true_iff]
          have := HQ.out
          rw [List.take_length, HL.out, List.take_length] at this; exact this
        have HE := Lib.hid he; clear he
        go_wp2
        go_ret
        exact ⟨ret_bool HE.out.symm, hbe⟩
  · have h1 : ((xs.length : Int) != ys.length) = true := by simp; omega
    have he : decide (xs = ys) = false := by
      rw [decide_eq_false_iff_not]; rintro rfl; exact hlen rfl
    have HE := Lib.hid he; clear he
    go_enter Tryd.func12, Tryd.ntmps12
    go_wp2
    go_ret
    exact ⟨ret_bool HE.out.symm, Below.refl _ _⟩
end Go.Proofs.YtoochleabcjljaaDoor

/- Examples: SameInts, the book. -/
namespace Go.Proofs.YtoochleabcjljaaDoor
open Go.RowKit

/-- SameInts: are two lists of numbers the same? -/
theorem sameInts_any (aa ab : Option Addr) (xs ys : List Int) (ca cb : Nat) (w : World) (ha : Cells w aa (xs.map (Value.int .i64))) (hb : Cells w ab (ys.map (Value.int .i64))) (hl : xs.length ≤ 9223372036854775807) (hl' : ys.length ≤ 9223372036854775807) :
    Calls Tryd.prog 20 #[.slice aa xs.length ca, .slice ab ys.length cb] w fun e w' => e = .returned (.bool (decide (xs = ys))) ∧ Below w.heap.size w w' := by
  by_cases hlen : xs.length = ys.length
  · have h1 : ((xs.length : Int) != ys.length) = false := by simp [hlen]
    have hlt : (ys.length : Int) ≤ xs.length := by omega
    have HL := Lib.hid hlen; clear hlen
    have HA := Lib.hid ha; have HB := Lib.hid hb; clear ha hb
    go_enter Tryd.func20, Tryd.ntmps20
    go_wp2
    go_loopw [5] (fun i wr => ∃ k : Nat, k ≤ xs.length ∧ i = .int .i64 k ∧ xs.take k = ys.take k ∧ Below w.heap.size w wr) (fun i _ => xs.length - (intOf i).toNat)
    case atStart => exact ⟨0, Nat.zero_le _, rfl, rfl, Below.refl _ _⟩
    case round =>
      obtain ⟨k, hk, rfl, heq, hbe⟩ := hrel
      have HQ := Lib.hid heq; clear heq
      by_cases hlt : k < xs.length
      · have hlt2 : k < ys.length := by have := HL.out; omega
        obtain ⟨x, hx⟩ := get_of_lt hlt
        obtain ⟨y, hy⟩ := get_of_lt hlt2
        obtain ⟨b, off, rfl⟩ := HA.out.addr (by simpa using List.ne_nil_of_length_pos (by omega))
        obtain ⟨b2, off2, rfl⟩ := HB.out.addr (by simpa using List.ne_nil_of_length_pos (by omega))
        have c1 := cell_keep (HA.out.int hx) hbe (Nat.le_refl _)
        have c2 := cell_keep (HB.out.int hy) hbe (Nat.le_refl _)
        have i1 : (k : Int) < xs.length := by omega
        have i2 : (k : Int) < ys.length := by omega
        have i3 : (0 : Int) ≤ k := by omega
        by_cases hxy : x = y
        · obtain rfl := hxy
          have ht : xs.take (k + 1) = ys.take (k + 1) := by rw [take_get hx, take_get hy, HQ.out]
          have HT := Lib.hid ht; clear ht hx hy
          go_wp2
          go_quiet (fail)
          go_wp2
          go_roundw
          case rel => exact ⟨k + 1, by omega, by go_num, HT.out, bel_drewN hbe _⟩
          case measure => simp [intOf]; omega
        · have hne : decide (xs = ys) = false := by
            rw [decide_eq_false_iff_not]; rintro rfl
            rw [hx] at hy; simp at hy; exact hxy hy
          have HNE := Lib.hid hne; clear hne hx hy
          have hb1 : (x == y) = false := by simpa using hxy
          have hb2 : (x != y) = true := by simpa using hxy
          go_wp2
          go_quiet (fail)
          go_wp2
          go_ret
          exact ⟨ret_bool HNE.out.symm, bel_drewN hbe _⟩
      · obtain rfl : k = xs.length := by omega
        have he : decide (xs = ys) = true := by
          rw [decide_eq_true_iff]
          have := HQ.out
          rw [List.take_length, HL.out, List.take_length] at this; exact this
        have HE := Lib.hid he; clear he
        go_wp2
        go_ret
        exact ⟨ret_bool HE.out.symm, hbe⟩
  · have h1 : ((xs.length : Int) != ys.length) = true := by simp; omega
    have he : decide (xs = ys) = false := by
      rw [decide_eq_false_iff_not]; rintro rfl; exact hlen rfl
    have HE := Lib.hid he; clear he
    go_enter Tryd.func20, Tryd.ntmps20
    go_wp2
    go_ret
    exact ⟨ret_bool HE.out.symm, Below.refl _ _⟩

/-- the book of the examples -/
def bookX : List Chan := [⟨⟨#[101, 114, 114]⟩, 4, 8⟩, ⟨⟨#[97, 117, 120]⟩, 1, 4⟩]
theorem book_any (w : World) :
    Calls Tryd.prog 27 #[] w fun e w' => e = .returned (.slice (some ⟨w.heap.size, 0, none⟩) 2 2) ∧ w' = w.alloc (.cells #[.string ⟨#[101, 114, 114]⟩, .int .i64 4, .int .i64 8, .string ⟨#[97, 117, 120]⟩, .int .i64 1, .int .i64 4] 57) := by
  go_enter Tryd.func27, Tryd.ntmps27
  go_wp2
  go_ret
  exact ⟨rfl, rfl⟩
end Go.Proofs.YtoochleabcjljaaDoor

/- Lines: amplitude. -/
namespace Go.Proofs.YtoochleabcjljaaDoor
open Go.RowKit

def ampN (sh xs : List Int) : Nat → Int
  | 0 => 0
  | t + 1 => ampN sh xs t + xs.getD t 0 * sh.getD (t % sh.length) 0
def ampD (sh : List Int) : Nat → Int
  | 0 => 0
  | t + 1 => ampD sh t + sh.getD (t % sh.length) 0 * sh.getD (t % sh.length) 0
/-- the whole periods -/
def whole (sh xs : List Int) : Nat := xs.length / sh.length * sh.length

theorem amp_bd {sh xs : List Int} (h : linedErr sh xs = 0) (t : Nat) (ht : t ≤ xs.length) :
    -(8388608000 * (t : Int)) ≤ ampN sh xs t ∧ ampN sh xs t ≤ 8388608000 * (t : Int) ∧ 0 ≤ ampD sh t ∧ ampD sh t ≤ 1000000 * (t : Int) := by
  obtain ⟨h1, h2⟩ := linedErr_zero h
  obtain ⟨a1, a2, _, a3⟩ := lineErr_zero h1
  obtain ⟨b1, b2⟩ := serErr_zero h2
  induction t with
  | zero => simp [ampN, ampD]
  | succ t ih =>
    have ih := ih (by omega)
    have hm : t % sh.length < sh.length := Nat.mod_lt _ (by omega)
    have m1 := a3 (sh.getD (t % sh.length) 0) (by rw [List.getD_eq_getElem?_getD, List.getElem?_eq_getElem hm]; exact List.getElem_mem _)
    have m2 := b2 (xs.getD t 0) (by rw [List.getD_eq_getElem?_getD, List.getElem?_eq_getElem (by omega)]; exact List.getElem_mem _)
    have p1 := mul_bd (A := 8388608) (X := 1000) m2.1 m2.2 m1.1 m1.2
    have p2 := mul_bd (A := 1000) (X := 1000) m1.1 m1.2 m1.1 m1.2
    have p3 : 0 ≤ sh.getD (t % sh.length) 0 * sh.getD (t % sh.length) 0 := by
      rcases Int.le_total 0 (sh.getD (t % sh.length) 0) with h | h
      · exact Int.mul_nonneg h h
      · exact Int.mul_nonneg_of_nonpos_of_nonpos h h
    simp only [ampN, ampD]
    push_cast
    omega

theorem whole_le (sh xs : List Int) : whole sh xs ≤ xs.length := Nat.div_mul_le_self _ _

set_option maxRecDepth 100000 in
set_option maxHeartbeats 1000000 in
theorem amplitude_any (ao : Option Addr) (sh : List Int) (cap : Nat) (ax : Option Addr) (xs : List Int) (cx : Nat) (w : World) (hc : Cells w ao (sh.map (Value.int .i64))) (hx : Cells w ax (xs.map (Value.int .i64))) (h : linedErr sh xs = 0) :
    Calls Tryd.prog 40 #[.slice ao sh.length cap, .slice ax xs.length cx] w fun e w' => e = .returned (.tuple #[.int .i64 (ampN sh xs (whole sh xs)), .int .i64 (ampD sh (whole sh xs))]) ∧ w = w' := by
  have HC := Lib.hid hc; clear hc
  have HX := Lib.hid hx; clear hx
  obtain ⟨h1, h2⟩ := linedErr_zero h
  obtain ⟨a1, a2, _, a3⟩ := lineErr_zero h1
  obtain ⟨b1, b2⟩ := serErr_zero h2
  have HB := Lib.hid (fun t ht => amp_bd h t ht)
  have A3 := Lib.hid a3; clear a3
  have B2 := Lib.hid b2; clear b2
  have hw := whole_le sh xs
  have hw0 : ((xs.length : Int) / sh.length) * sh.length = (whole sh xs : Nat) := by simp [whole]
  have hw1 : 0 ≤ ((xs.length : Int) / sh.length) * sh.length := by rw [hw0]; omega
  have hw2 : ((xs.length : Int) / sh.length) * sh.length ≤ 4096 := by rw [hw0]; omega
  have hq1 : 0 ≤ (xs.length : Int) / sh.length := Int.ediv_nonneg (by omega) (by omega)
  have hq2 : (xs.length : Int) / sh.length ≤ 4096 := by have := Int.ediv_le_self (a := (xs.length : Int)) (sh.length : Int) (by omega); omega
  have HW := Lib.hid hw0; clear hw0
  have hne : ((sh.length : Int) == 0) = false := by simp; intro e; simp [e] at a1
  clear h h1 h2
  go_enter Tryd.func40, Tryd.ntmps40
  go_wp2
  rw [HW.out]
  clear hw1 hw2 hq1 hq2
  go_loop [4, 5, 16] (fun n d i => ∃ k : Nat, k ≤ whole sh xs ∧ i = .int .i64 k ∧ n = .int .i64 (ampN sh xs k) ∧ d = .int .i64 (ampD sh k)) (fun _ _ i => whole sh xs - (intOf i).toNat)
  case atStart => exact ⟨0, Nat.zero_le _, rfl, rfl, rfl⟩
  case round =>
    obtain ⟨k, hk, rfl, rfl, rfl⟩ := hrel
    obtain ⟨d1, d2, d3, d4⟩ := HB.out k (by omega)
    by_cases hlt : k < whole sh xs
    · obtain ⟨x, hx⟩ := get_of_lt (show k < xs.length by omega)
      have hm0 : k % sh.length < sh.length := Nat.mod_lt _ (by omega)
      obtain ⟨y, hy⟩ := get_of_lt hm0
      obtain ⟨b, off, rfl⟩ := HC.out.addr (by simpa using List.ne_nil_of_length_pos (by omega))
      obtain ⟨bx, ox, rfl⟩ := HX.out.addr (by simpa using List.ne_nil_of_length_pos (by omega))
      have c1 := HX.out.int hx
      have c2 := HC.out.int hy
      have t1 := B2.out _ (List.mem_of_getElem? hx)
      have t2 := A3.out _ (List.mem_of_getElem? hy)
      have p1 := mul_bd t1.1 t1.2 t2.1 t2.2
      have p2 := mul_bd t2.1 t2.2 t2.1 t2.2
      obtain ⟨p11, p12⟩ := p1
      obtain ⟨p21, p22⟩ := p2
      have e1 : ampN sh xs (k + 1) = ampN sh xs k + x * y := by simp [ampN, hx, hy]
      have e2 : ampD sh (k + 1) = ampD sh k + y * y := by simp [ampD, hy]
      have E1 := Lib.hid e1; have E2 := Lib.hid e2; clear e1 e2 hx hy
      go_wp2
      go_round
      case rel => exact ⟨k + 1, by omega, by go_num, by rw [E1.out], by rw [E2.out]⟩
      case measure => simp [intOf]; omega
    · obtain rfl : k = whole sh xs := by omega
      go_wp2
      go_ret2
      exact ⟨rfl, rfl⟩
end Go.Proofs.YtoochleabcjljaaDoor

/- Digits of natural numbers to the base 10^9, the least one first: plain facts. -/
namespace Go.Proofs.YtoochleabcjljaaDoor
def B : Nat := 1000000000

def val : List Nat → Nat
  | [] => 0
  | d :: ds => d + B * val ds

def dig (n : Nat) : List Nat := if n = 0 then [] else n % B :: dig (n / B)
termination_by n
decreasing_by exact Nat.div_lt_self (Nat.pos_of_ne_zero ‹_›) (by decide)

theorem B_pos : 0 < B := by decide
theorem dig_zero : dig 0 = [] := by rw [dig]; simp
theorem dig_pos {n : Nat} (h : n ≠ 0) : dig n = n % B :: dig (n / B) := by rw [dig]; simp [h]

theorem val_dig (n : Nat) : val (dig n) = n := by
  induction n using Nat.strongRecOn with
  | _ n ih =>
    by_cases h : n = 0
    · subst h; simp [dig_zero, val]
    · rw [dig_pos h, val, ih _ (Nat.div_lt_self (Nat.pos_of_ne_zero h) (by decide))]
      exact Nat.mod_add_div n B

def Sm (xs : List Nat) : Prop := ∀ d ∈ xs, d < B

theorem sm_dig (n : Nat) : Sm (dig n) := by
  induction n using Nat.strongRecOn with
  | _ n ih =>
    by_cases h : n = 0
    · subst h; simp [dig_zero, Sm]
    · rw [dig_pos h]
      intro d hd
      rcases List.mem_cons.1 hd with rfl | hd
      · exact Nat.mod_lt _ B_pos
      · exact ih _ (Nat.div_lt_self (Nat.pos_of_ne_zero h) (by decide)) d hd

theorem val_nil : val [] = 0 := rfl
theorem val_cons (d : Nat) (ds : List Nat) : val (d :: ds) = d + B * val ds := rfl

theorem val_append (xs ys : List Nat) : val (xs ++ ys) = val xs + B ^ xs.length * val ys := by
  induction xs with
  | nil => simp [val]
  | cons d ds ih => simp only [List.cons_append, val_cons, ih, List.length_cons, Nat.pow_succ]; rw [Nat.mul_add, Nat.add_assoc, Nat.mul_comm (B ^ ds.length) B, Nat.mul_assoc]

theorem val_snoc (xs : List Nat) (d : Nat) : val (xs ++ [d]) = val xs + B ^ xs.length * d := by
  rw [val_append]; simp [val]

theorem val_lt {xs : List Nat} (h : Sm xs) : val xs < B ^ xs.length := by
  induction xs with
  | nil => simp [val]
  | cons d ds ih =>
    have h1 : d < B := h d (by simp)
    have h2 := ih (fun x hx => h x (by simp [hx]))
    simp only [val_cons, List.length_cons, Nat.pow_succ]
    have : B * (val ds + 1) ≤ B * B ^ ds.length := Nat.mul_le_mul_left _ h2
    rw [Nat.mul_add, Nat.mul_one] at this
    rw [Nat.mul_comm (B ^ ds.length) B]; omega

/-- digits without zeros at the end -/
def Lean_ (xs : List Nat) : Prop := Sm xs ∧ xs.getLast? ≠ some 0

theorem val_eq_zero {xs : List Nat} : val xs = 0 ↔ ∀ d ∈ xs, d = 0 := by
  induction xs with
  | nil => simp [val]
  | cons d ds ih =>
    simp only [val_cons, List.mem_cons, forall_eq_or_imp, ← ih]
    constructor
    · intro h
      have h1 : d = 0 := by omega
      have h2 : B * val ds = 0 := by omega
      refine ⟨h1, ?_⟩
      rcases Nat.mul_eq_zero.1 h2 with h | h
      · exact absurd h (by decide)
      · exact h
    · rintro ⟨rfl, h⟩; simp [h]

theorem dig_val {xs : List Nat} (h : Sm xs) (hl : xs.getLast? ≠ some 0) : dig (val xs) = xs := by
  induction xs with
  | nil => simp [val, dig_zero]
  | cons d ds ih =>
    have h1 : d < B := h d (by simp)
    have hs : Sm ds := fun x hx => h x (by simp [hx])
    have hne : val (d :: ds) ≠ 0 := by
      intro h0
      have h0' := val_eq_zero.1 h0
      have : ((d :: ds).getLast (by simp)) = 0 := h0' _ (List.getLast_mem _)
      exact hl (by rw [List.getLast?_eq_some_getLast (by simp), this])
    rw [dig_pos hne, val_cons]
    have e1 : (d + B * val ds) % B = d := by rw [Nat.add_mul_mod_self_left, Nat.mod_eq_of_lt h1]
    have e2 : (d + B * val ds) / B = val ds := by rw [Nat.add_mul_div_left _ _ B_pos, Nat.div_eq_of_lt h1, Nat.zero_add]
    rw [e1, e2, ih hs]
    cases ds with
    | nil => simp
    | cons x xs => simpa [List.getLast?_cons_cons] using hl

theorem last_dig (n : Nat) : (dig n).getLast? ≠ some 0 := by
  induction n using Nat.strongRecOn with
  | _ n ih =>
    by_cases h : n = 0
    · subst h; simp [dig_zero]
    · rw [dig_pos h]
      have := ih (n / B) (Nat.div_lt_self (Nat.pos_of_ne_zero h) (by decide))
      by_cases h2 : n / B = 0
      · rw [h2, dig_zero]; simp
        have h3 : n < B := by
          rcases Nat.div_eq_zero_iff.1 h2 with h | h
          · exact absurd h (by decide)
          · exact h
        rw [Nat.mod_eq_of_lt h3]; exact h
      · rw [dig_pos h2] at this ⊢
        simpa [List.getLast?_cons_cons] using this

theorem dig_len_pos {n : Nat} : (dig n).length = 0 ↔ n = 0 := by
  by_cases h : n = 0
  · subst h; simp [dig_zero]
  · rw [dig_pos h]; simp [h]

theorem dig_small {n : Nat} (h : n < B) (h0 : n ≠ 0) : dig n = [n] := by
  rw [dig_pos h0, Nat.mod_eq_of_lt h, Nat.div_eq_of_lt h, dig_zero]

theorem lt_pow_len (n : Nat) : n < B ^ (dig n).length := by
  have := val_lt (sm_dig n); rwa [val_dig] at this

theorem pow_len_le {n : Nat} (h : n ≠ 0) : B ^ ((dig n).length - 1) ≤ n := by
  induction n using Nat.strongRecOn with
  | _ n ih =>
    rw [dig_pos h]
    by_cases h2 : n / B = 0
    · rw [h2, dig_zero]; simp; omega
    · have := ih _ (Nat.div_lt_self (Nat.pos_of_ne_zero h) (by decide)) h2
      have hl : (dig (n / B)).length ≠ 0 := by rw [Ne, dig_len_pos]; exact h2
      simp only [List.length_cons, Nat.add_sub_cancel]
      obtain ⟨k, hk⟩ : ∃ k, (dig (n / B)).length = k + 1 := ⟨(dig (n/B)).length - 1, by omega⟩
      rw [hk, Nat.add_sub_cancel] at this
      rw [hk, Nat.pow_succ]
      calc B ^ k * B ≤ n / B * B := Nat.mul_le_mul_right _ this
        _ ≤ n := Nat.div_mul_le_self n B

/-- lengths tell the order -/
theorem lt_of_len {m n : Nat} (h : (dig m).length < (dig n).length) : m < n := by
  have hn : n ≠ 0 := by rintro rfl; simp [dig_zero] at h
  have h1 := lt_pow_len m
  have h2 := pow_len_le hn
  have h3 : B ^ (dig m).length ≤ B ^ ((dig n).length - 1) := Nat.pow_le_pow_right B_pos (by omega)
  omega

theorem dig_len_mono {m n : Nat} (h : m ≤ n) : (dig m).length ≤ (dig n).length := by
  apply Nat.le_of_not_lt
  intro hc
  have := lt_of_len hc
  omega
end Go.Proofs.YtoochleabcjljaaDoor

/- Digits: order, quotients. -/
namespace Go.Proofs.YtoochleabcjljaaDoor

theorem val_split {l : List Nat} {j x : Nat} (hx : l[j]? = some x) : val l = val (l.take j) + B ^ j * (x + B * val (l.drop (j + 1))) := by
  have hj : j < l.length := (List.getElem?_eq_some_iff.1 hx).1
  have h1 : l = l.take j ++ (x :: l.drop (j + 1)) := by
    have := (List.take_append_drop j l).symm
    rw [List.drop_eq_getElem_cons hj, (List.getElem?_eq_some_iff.1 hx).2] at this
    exact this
  have h2 := congrArg val h1
  rw [val_append, val_cons, List.length_take, Nat.min_eq_left (by omega)] at h2
  exact h2

theorem cmp_digit {l1 l2 : List Nat} (h1 : Sm l1) {j x y : Nat} (hx : l1[j]? = some x) (hy : l2[j]? = some y) (hd : l1.drop (j + 1) = l2.drop (j + 1)) (hlt : x < y) : val l1 < val l2 := by
  rw [val_split hx, val_split hy, hd]
  have hj : j < l1.length := (List.getElem?_eq_some_iff.1 hx).1
  have h3 : val (l1.take j) < B ^ j := by
    have := val_lt (xs := l1.take j) (fun d hd => h1 d (List.mem_of_mem_take hd))
    rwa [List.length_take, Nat.min_eq_left (by omega)] at this
  have h4 : B ^ j * (x + 1 + B * val (l2.drop (j + 1))) ≤ B ^ j * (y + B * val (l2.drop (j + 1))) := Nat.mul_le_mul_left _ (by omega)
  have h5 : B ^ j * (x + 1 + B * val (l2.drop (j + 1))) = B ^ j * (x + B * val (l2.drop (j + 1))) + B ^ j := by
    rw [show x + 1 + B * val (l2.drop (j + 1)) = (x + B * val (l2.drop (j + 1))) + 1 from by omega, Nat.mul_add, Nat.mul_one]
  omega

/-- the order, as Go's compare says it -/
def cmpN (m n : Nat) : Int := if m < n then -1 else if n < m then 1 else 0
theorem cmpN_lt {m n : Nat} (h : m < n) : cmpN m n = -1 := by simp [cmpN, h]
theorem cmpN_gt {m n : Nat} (h : n < m) : cmpN m n = 1 := by simp [cmpN, h]; omega
theorem cmpN_eq (n : Nat) : cmpN n n = 0 := by simp [cmpN]

/-- a step of a division by one digit: r the rest of what lies above -/
theorem short_step {H d x : Nat} (hd : 0 < d) : ((H % d) * B + x) / d + B * (H / d) = (x + B * H) / d ∧ ((H % d) * B + x) % d = (x + B * H) % d := by
  have h : x + B * H = ((H % d) * B + x) + d * (B * (H / d)) := by
    have h1 : d * (H / d) + H % d = H := Nat.div_add_mod H d
    have h2 : B * H = B * (d * (H / d)) + B * (H % d) := by rw [← Nat.mul_add, h1]
    rw [h2, Nat.mul_comm (H % d) B, Nat.mul_left_comm d B]; omega
  rw [h, Nat.add_mul_div_left _ _ hd, Nat.add_mul_mod_self_left]
  exact ⟨rfl, rfl⟩

theorem short_dig {r d x : Nat} (hr : r < d) (hx : x < B) : (r * B + x) / d < B := by
  apply Nat.div_lt_of_lt_mul
  have : (r + 1) * B ≤ d * B := Nat.mul_le_mul_right _ hr
  rw [Nat.add_mul] at this; omega
theorem dig_len_val {l : List Nat} (h : Sm l) : (dig (val l)).length ≤ l.length := by
  have h1 := val_lt h
  apply Nat.le_of_not_lt
  intro hc
  have hne : val l ≠ 0 := by
    intro h0; rw [h0, dig_zero] at hc; simp at hc
  have h2 := pow_len_le hne
  have h3 : B ^ l.length ≤ B ^ ((dig (val l)).length - 1) := Nat.pow_le_pow_right B_pos (by omega)
  omega
end Go.Proofs.YtoochleabcjljaaDoor

/- Natural numbers of package num: natural, lean, compare. -/
namespace Go.Proofs.YtoochleabcjljaaDoor
open Go.RowKit

/-- digits, cell by cell -/
def dgs (l : List Nat) : List Value := l.map fun d => Value.int .u64 (d : Nat)
theorem dgs_length (l : List Nat) : (dgs l).length = l.length := by simp [dgs]
theorem dgs_append (a b : List Nat) : dgs (a ++ b) = dgs a ++ dgs b := by simp [dgs]
theorem dgs_ne {l : List Nat} (h : 0 < l.length) : dgs l ≠ [] := by
  intro e; have := dgs_length l; rw [e] at this; simp at this; omega
theorem Cells.dgs {w : World} {b off : Nat} {l : List Nat} (h : Cells w (some ⟨b, off, none⟩) (dgs l)) {i d : Nat} (hd : l[i]? = some d) : w.cell? ⟨b, off + i, none⟩ = some (.int .u64 (d : Nat)) :=
  h.at (by simp [Go.Proofs.YtoochleabcjljaaDoor.dgs, hd])
theorem Cells.take {w : World} {ao : Option Addr} {cs : List Value} (h : Cells w ao cs) (n : Nat) : Cells w ao (cs.take n) := by
  rcases h with h | ⟨b, off, h1, h2⟩
  · exact .inl (by simp [h])
  · refine .inr ⟨b, off, h1, fun j u hu => h2 j u ?_⟩
    rw [List.getElem?_take] at hu
    split at hu
    · exact hu
    · simp at hu
theorem sm_get {l : List Nat} (h : Sm l) {i d : Nat} (hd : l[i]? = some d) : d ≤ 999999999 := by
  have := h d (List.mem_of_getElem? hd); simp only [B] at this; omega

theorem Tryd.infoU64 : (Tryd.prog.info? 121).map (fun i => (i.zero, i.size, i.bytes)) = some (some (.int .u64 0), 1, 8) := by kernel_rfl

/-- an owned row, as a slice, with its capacity -/
theorem own_cap {w : World} {b : Nat} {e : TypeId} {s : Nat} {v : Value} {n : Nat} {xs : List Value} (h : w.ownsRow b e s v n xs) : ∃ a c, v = .slice a n c ∧ Cells w a xs ∧ n ≤ c ∧ c ≤ maxLen := by
  obtain ⟨a, c, hv, hc⟩ := own_cells h
  obtain ⟨h0, h1⟩ := h
  rcases h1 with ⟨h2, h3⟩ | ⟨g, cap, cur, h2, hb, hg, hn, hm, hs, ht⟩
  · rw [h2] at hv; simp at hv
    obtain ⟨rfl, rfl, rfl⟩ := hv
    exact ⟨none, 0, h2, hc, by omega, by unfold maxLen; omega⟩
  · rw [h2] at hv; simp at hv
    obtain ⟨rfl, rfl⟩ := hv
    exact ⟨_, _, h2, hc, hn, hm⟩

theorem dig_len_u64 {n : Nat} (h : n < 18446744073709551616) : (dig n).length ≤ 3 := by
  apply Nat.le_of_not_lt
  intro hc
  have hn : n ≠ 0 := by rintro rfl; simp [dig_zero] at hc
  have h1 := pow_len_le hn
  have h2 : B ^ 3 ≤ B ^ ((dig n).length - 1) := Nat.pow_le_pow_right B_pos (by omega)
  have h3 : B ^ 3 = 1000000000000000000000000000 := by decide
  omega

set_option maxRecDepth 100000 in
theorem natural_any (n : Nat) (w : World) (hn : n < 18446744073709551616) :
    Calls Tryd.prog 65 #[.int .u64 (n : Nat)] w fun e w' => (∃ a c, e = .returned (.slice a (dig n).length c) ∧ Cells w' a (dgs (dig n)) ∧ (dig n).length ≤ c ∧ c ≤ 9223372036854775807) ∧ Below w.heap.size w w' := by
  obtain ⟨i0, hi, hz0, hz1, hz2⟩ := info_parts Tryd.infoU64
  have hlen := dig_len_u64 hn
  have hn1 : n ≤ 18446744073709551615 := by omega
  clear hn
  go_enter Tryd.func65, Tryd.ntmps65
  go_wp2
  go_loopw [3, 0] (fun v m wr => ∃ (ds : List Nat) (k : Nat), m = .int .u64 (k : Nat) ∧ k ≤ n ∧ dig n = ds ++ dig k ∧ wr.ownsRow w.heap.size 121 1 v ds.length (dgs ds) ∧ Below w.heap.size w wr) (fun _ m _ => (intOf m).toNat)
  case atStart => exact ⟨[], n, rfl, Nat.le_refl _, rfl, World.ownsRow_nil _ _ _ _, Below.refl _ _⟩
  case round =>
    obtain ⟨ds, k, rfl, hk, hds, hown, hb⟩ := hrel
    by_cases h0 : k = 0
    · subst h0
      rw [dig_zero, List.append_nil] at hds
      subst hds
      obtain ⟨g, c, rfl, hcs, hc1, hc2⟩ := own_cap hown
      unfold maxLen at hc2
      have HCS := Lib.hid hcs; clear hcs hown
      go_wp2
      go_ret
      exact ⟨⟨g, c, rfl, HCS.out, hc1, hc2⟩, hb⟩
    · have hkp : 0 < (k : Int) := by omega
      have hds2 : dig n = (ds ++ [k % B]) ++ dig (k / B) := by rw [hds, dig_pos h0]; simp
      have hle : ds.length ≤ 2 := by
        have := congrArg List.length hds2
        simp only [List.length_append, List.length_singleton] at this; omega
      have HDS := Lib.hid hds2; clear hds hds2 hlen
      have e1 : ((k : Int) % 1000000000) = ((k % B : Nat) : Int) := by simp [B]
      have e2 : ((k : Int) / 1000000000) = ((k / B : Nat) : Int) := by simp [B]
      have hlt : k / B < k := Nat.div_lt_self (by omega) (by decide)
      have HE1 := Lib.hid e1; have HE2 := Lib.hid e2; clear e1 e2
      have HOB : Hid (∀ j, u3.ownBlock = some j → w.heap.size ≤ j) := fun j e => (hown.lt j e).1
      have hsz := hb.size
      go_wp2_with (at_builtin; refine wpList_append_own _ rfl _ _ 100 rfl w.heap.size 121 i0 (.int .u64 0) 1 8 Tryd.underlying100 hi hz0 hz1 hz2 rfl (by decide) _ _ _ rfl (hown.alloc _) ⟨wr.heap.size, 0, none⟩ 1 1 [.int .u64 ((k : Int) % 1000000000)] rfl rfl (news1 _ _ _) (by simp [Value.oneCell']) (by unfold maxLen; omega) (by omega) (by simp; omega) ?_; intro v1 wz hown1 hgrow _)
      have hfin := hown1
      rw [show dgs ds ++ [.int .u64 ((k : Int) % 1000000000)] = dgs (ds ++ [k % B]) from by rw [dgs_append, HE1.out]; rfl] at hfin
      have hbz := (hb.alloc hsz (.cells #[.int .u64 ((k : Int) % 1000000000)] 121)).grown hgrow (by simp; omega) HOB.out
      clear hown1 hgrow hown
      have HFIN := Lib.hid hfin; clear hfin
      go_wp2
      go_roundw
      case rel => exact ⟨ds ++ [k % B], k / B, by rw [HE2.out], by omega, HDS.out, by simpa using HFIN.out, hbz⟩
      case measure => simp only [intOf]; rw [HE2.out]; simp; omega

/-- zeros at the end go -/
theorem val_take_zero {l : List Nat} {k : Nat} (h0 : l[k]? = some 0) : val (l.take (k + 1)) = val (l.take k) := by
  rw [take_get h0, val_snoc]; simp

/-- a slice's length: for a measure -/
def lenOf : Value → Nat | .slice _ n _ => n | _ => 0

theorem lean_any (ao : Option Addr) (l : List Nat) (c : Nat) (w : World) (hc : Cells w ao (dgs l)) (hs : Sm l) (hl : l.length ≤ 9223372036854775807) (hcap : l.length ≤ c) (hc2 : c ≤ 9223372036854775807) :
    Calls Tryd.prog 79 #[.slice ao l.length c] w fun e w' => (e = .returned (.slice ao (dig (val l)).length c) ∧ Cells w' ao (dgs (dig (val l)))) ∧ w = w' := by
  have HC := Lib.hid hc; clear hc
  have HS := Lib.hid hs; clear hs
  go_enter Tryd.func79, Tryd.ntmps79
  go_wp2
  go_loop [0] (fun v => ∃ k : Nat, k ≤ l.length ∧ v = .slice ao k c ∧ val (l.take k) = val l) (fun v => lenOf v)
  case atStart => exact ⟨l.length, Nat.le_refl _, rfl, by rw [List.take_length]⟩
  case round =>
    obtain ⟨k, hk, rfl, hv⟩ := hrel
    by_cases h0 : k = 0
    · subst h0
      rw [List.take_zero, val_nil] at hv
      have hv2 : dig (val l) = [] := by rw [← hv, dig_zero]
      have HV := Lib.hid hv2; clear hv hv2
      go_wp2
      go_ret
      exact ⟨⟨by rw [HV.out]; rfl, by rw [HV.out]; exact Cells.nil _ _⟩, rfl⟩
    · obtain ⟨j, rfl⟩ : ∃ j, k = j + 1 := ⟨k - 1, by omega⟩
      have hj : j < l.length := by omega
      obtain ⟨d, hd⟩ := get_of_lt hj
      obtain ⟨b, off, rfl⟩ := HC.out.addr (dgs_ne (by omega))
      have hcell := HC.out.dgs hd
      by_cases hd0 : d = 0
      · subst hd0
        have hv2 := val_take_zero hd
        rw [hv] at hv2
        have HV := Lib.hid hv2.symm; clear hv hv2 hd
        go_wp2
        go_round
        case rel => exact ⟨j, by omega, by go_num, HV.out⟩
        case measure => simp [lenOf]
      · have hdp : 0 < d := by omega
        have hne : ((d : Int) == 0) = false := by simp; omega
        have hlast : (l.take (j + 1)).getLast? ≠ some 0 := by rw [take_get hd]; simp; omega
        have hsm : Sm (l.take (j + 1)) := fun x hx => HS.out x (List.mem_of_mem_take hx)
        have hv2 : dig (val l) = l.take (j + 1) := by rw [← hv, dig_val hsm hlast]
        have hl2 : (dig (val l)).length = j + 1 := by rw [hv2, List.length_take]; omega
        have hcs : Cells w (some ⟨b, off, none⟩) (dgs (dig (val l))) := by
          rw [hv2, dgs, List.map_take]; exact HC.out.take _
        have HL := Lib.hid hl2; have HCS := Lib.hid hcs; clear hv hv2 hl2 hcs hd hsm hlast
        go_wp2
        go_ret
        exact ⟨⟨by rw [HL.out]; rfl, HCS.out⟩, rfl⟩

theorem drop_of_len {l1 l2 : List Nat} (h : l1.length = l2.length) : l1.drop l1.length = l2.drop l1.length := by
  rw [List.drop_length, h, List.drop_length]

set_option maxRecDepth 100000 in
theorem compare_any (aa ab : Option Addr) (m n : Nat) (ca cb : Nat) (w : World) (ha : Cells w aa (dgs (dig m))) (hb : Cells w ab (dgs (dig n))) (hm : (dig m).length ≤ 4611686018427387904) (hn : (dig n).length ≤ 4611686018427387904) :
    Calls Tryd.prog 76 #[.slice aa (dig m).length ca, .slice ab (dig n).length cb] w fun e w' => e = .returned (.int .i64 (cmpN m n)) ∧ Below w.heap.size w w' := by
  have HA := Lib.hid ha; clear ha
  have HB := Lib.hid hb; clear hb
  by_cases hlen : (dig m).length = (dig n).length
  · have h1 : (((dig m).length : Int) != (dig n).length) = false := by simp [hlen]
    have HL := Lib.hid hlen; clear hlen
    go_enter Tryd.func76, Tryd.ntmps76
    go_wp2
    go_loopw [5] (fun i wr => ∃ k : Nat, k ≤ (dig m).length ∧ i = .int .i64 ((k : Int) - 1) ∧ (dig m).drop k = (dig n).drop k ∧ Below w.heap.size w wr) (fun i _ => (intOf i + 1).toNat)
    case atStart => exact ⟨(dig m).length, Nat.le_refl _, rfl, drop_of_len HL.out, Below.refl _ _⟩
    case round =>
      obtain ⟨k, hk, rfl, hd, hbe⟩ := hrel
      have HD := Lib.hid hd; clear hd
      by_cases h0 : k = 0
      · subst h0
        have he : cmpN m n = 0 := by
          have := HD.out
          simp only [List.drop_zero] at this
          have h2 := congrArg val this
          rw [val_dig, val_dig] at h2
          rw [h2, cmpN_eq]
        have HE := Lib.hid he; clear he
        go_wp2
        go_ret
        exact ⟨ret_int HE.out.symm, hbe⟩
      · obtain ⟨j, rfl⟩ : ∃ j, k = j + 1 := ⟨k - 1, by omega⟩
        have hj2 : j < (dig n).length := by have := HL.out; omega
        obtain ⟨x, hx⟩ := get_of_lt (show j < (dig m).length by omega)
        obtain ⟨y, hy⟩ := get_of_lt hj2
        obtain ⟨b, off, rfl⟩ := HA.out.addr (dgs_ne (by omega))
        obtain ⟨b2, off2, rfl⟩ := HB.out.addr (dgs_ne (by omega))
        have c1 := cell_keep (HA.out.dgs hx) hbe (Nat.le_refl _)
        have c2 := cell_keep (HB.out.dgs hy) hbe (Nat.le_refl _)
        have e1 : (((j + 1 : Nat) : Int) - 1) = (j : Int) := by omega
        rw [e1]
        have i1 : (j : Int) < (dig m).length := by omega
        have i2 : (j : Int) < (dig n).length := by omega
        have i3 : (0 : Int) ≤ j := by omega
        have hxy : x < y ∨ y < x ∨ x = y := by omega
        rcases hxy with hlt | hgt | heq
        · have he : cmpN m n = -1 := cmpN_lt (by have := cmp_digit (sm_dig m) hx hy HD.out hlt; rwa [val_dig, val_dig] at this)
          have HE := Lib.hid he; clear he hx hy e1
          have hne : ((x : Int) != y) = true := by simp; omega
          have hl : decide ((x : Int) < y) = true := by simp; omega
          go_wp2
          go_quiet (fail)
          go_wp2
          go_quiet (fail)
          go_wp2
          go_ret
          exact ⟨ret_int HE.out.symm, bel_drewN (bel_drewN hbe _) _⟩
        · have he : cmpN m n = 1 := cmpN_gt (by have := cmp_digit (sm_dig n) hy hx HD.out.symm hgt; rwa [val_dig, val_dig] at this)
          have HE := Lib.hid he; clear he hx hy e1
          have hne : ((x : Int) != y) = true := by simp; omega
          have hl : decide ((x : Int) < y) = false := by simp; omega
          go_wp2
          go_quiet (fail)
          go_wp2
          go_quiet (fail)
          go_wp2
          go_ret
          exact ⟨ret_int HE.out.symm, bel_drewN (bel_drewN hbe _) _⟩
        · subst heq
          have he : (dig m).drop j = (dig n).drop j := by
            rw [List.drop_eq_getElem_cons (show j < (dig m).length by omega), List.drop_eq_getElem_cons hj2, HD.out, (List.getElem?_eq_some_iff.1 hx).2, (List.getElem?_eq_some_iff.1 hy).2]
          have HE := Lib.hid he; clear he hx hy e1
          have hne : ((x : Int) != x) = false := by simp
          go_wp2
          go_quiet (fail)
          go_wp2
          go_roundw
          case rel => exact ⟨j, by omega, by go_num, HE.out, bel_drewN hbe _⟩
          case measure => simp [intOf]
  · rcases Nat.lt_or_gt_of_ne hlen with hlt | hgt
    · have he : cmpN m n = -1 := cmpN_lt (lt_of_len hlt)
      have HE := Lib.hid he; clear he
      have h1 : (((dig m).length : Int) != (dig n).length) = true := by simp; omega
      go_enter Tryd.func76, Tryd.ntmps76
      go_wp2
      go_ret
      exact ⟨ret_int HE.out.symm, Below.refl _ _⟩
    · have he : cmpN m n = 1 := cmpN_gt (lt_of_len hgt)
      have HE := Lib.hid he; clear he
      have h1 : (((dig m).length : Int) != (dig n).length) = true := by simp; omega
      have h2 : (dig n).length ≤ (dig m).length := by omega
      go_enter Tryd.func76, Tryd.ntmps76
      go_wp2
      go_ret
      exact ⟨ret_int HE.out.symm, Below.refl _ _⟩

end Go.Proofs.YtoochleabcjljaaDoor
