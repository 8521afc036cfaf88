/- Lines: amplitude. -/
import Derived.Test.YtoochleabcjljaaDoorB1
namespace Go.Proofs.YtoochleabcjljaaDoor
open Go.RowKit

def ampN (sh xs : List Int) : Nat → Int
  | 0 => 0
  | t + 1 => ampN sh xs t + xs.getD t 0 * sh.getD (t % sh.length) 0
def ampD (sh : List Int) : Nat → Int
  | 0 => 0
  | t + 1 => ampD sh t + sh.getD (t % sh.length) 0 * sh.getD (t % sh.length) 0
/-- the whole periods -/
def whole (sh xs : List Int) : Nat := xs.length / sh.length * sh.length

theorem amp_bd {sh xs : List Int} (h : linedErr sh xs = 0) (t : Nat) (ht : t ≤ xs.length) :
    -(8388608000 * (t : Int)) ≤ ampN sh xs t ∧ ampN sh xs t ≤ 8388608000 * (t : Int) ∧ 0 ≤ ampD sh t ∧ ampD sh t ≤ 1000000 * (t : Int) := by
  obtain ⟨h1, h2⟩ := linedErr_zero h
  obtain ⟨a1, a2, _, a3⟩ := lineErr_zero h1
  obtain ⟨b1, b2⟩ := serErr_zero h2
  induction t with
  | zero => simp [ampN, ampD]
  | succ t ih =>
    have ih := ih (by omega)
    have hm : t % sh.length < sh.length := Nat.mod_lt _ (by omega)
    have m1 := a3 (sh.getD (t % sh.length) 0) (by rw [List.getD_eq_getElem?_getD, List.getElem?_eq_getElem hm]; exact List.getElem_mem _)
    have m2 := b2 (xs.getD t 0) (by rw [List.getD_eq_getElem?_getD, List.getElem?_eq_getElem (by omega)]; exact List.getElem_mem _)
    have p1 := mul_bd (A := 8388608) (X := 1000) m2.1 m2.2 m1.1 m1.2
    have p2 := mul_bd (A := 1000) (X := 1000) m1.1 m1.2 m1.1 m1.2
    have p3 : 0 ≤ sh.getD (t % sh.length) 0 * sh.getD (t % sh.length) 0 := by
      rcases Int.le_total 0 (sh.getD (t % sh.length) 0) with h | h
      · exact Int.mul_nonneg h h
      · exact Int.mul_nonneg_of_nonpos_of_nonpos h h
    simp only [ampN, ampD]
    push_cast
    omega

theorem whole_le (sh xs : List Int) : whole sh xs ≤ xs.length := Nat.div_mul_le_self _ _

set_option maxRecDepth 100000 in
set_option maxHeartbeats 1000000 in
theorem amplitude_any (ao : Option Addr) (sh : List Int) (cap : Nat) (ax : Option Addr) (xs : List Int) (cx : Nat) (w : World) (hc : Cells w ao (sh.map (Value.int .i64))) (hx : Cells w ax (xs.map (Value.int .i64))) (h : linedErr sh xs = 0) :
    Calls Tryd.prog 40 #[.slice ao sh.length cap, .slice ax xs.length cx] w fun e w' => e = .returned (.tuple #[.int .i64 (ampN sh xs (whole sh xs)), .int .i64 (ampD sh (whole sh xs))]) ∧ w = w' := by
  have HC := Lib.hid hc; clear hc
  have HX := Lib.hid hx; clear hx
  obtain ⟨h1, h2⟩ := linedErr_zero h
  obtain ⟨a1, a2, _, a3⟩ := lineErr_zero h1
  obtain ⟨b1, b2⟩ := serErr_zero h2
  have HB := Lib.hid (fun t ht => amp_bd h t ht)
  have A3 := Lib.hid a3; clear a3
  have B2 := Lib.hid b2; clear b2
  have hw := whole_le sh xs
  have hw0 : ((xs.length : Int) / sh.length) * sh.length = (whole sh xs : Nat) := by simp [whole]
  have hw1 : 0 ≤ ((xs.length : Int) / sh.length) * sh.length := by rw [hw0]; omega
  have hw2 : ((xs.length : Int) / sh.length) * sh.length ≤ 4096 := by rw [hw0]; omega
  have hq1 : 0 ≤ (xs.length : Int) / sh.length := Int.ediv_nonneg (by omega) (by omega)
  have hq2 : (xs.length : Int) / sh.length ≤ 4096 := by have := Int.ediv_le_self (a := (xs.length : Int)) (sh.length : Int) (by omega); omega
  have HW := Lib.hid hw0; clear hw0
  have hne : ((sh.length : Int) == 0) = false := by simp; intro e; simp [e] at a1
  clear h h1 h2
  go_enter Tryd.func40, Tryd.ntmps40
  go_wp2
  rw [HW.out]
  clear hw1 hw2 hq1 hq2
  go_loop [4, 5, 16] (fun n d i => ∃ k : Nat, k ≤ whole sh xs ∧ i = .int .i64 k ∧ n = .int .i64 (ampN sh xs k) ∧ d = .int .i64 (ampD sh k)) (fun _ _ i => whole sh xs - (intOf i).toNat)
  case atStart => exact ⟨0, Nat.zero_le _, rfl, rfl, rfl⟩
  case round =>
    obtain ⟨k, hk, rfl, rfl, rfl⟩ := hrel
    obtain ⟨d1, d2, d3, d4⟩ := HB.out k (by omega)
    by_cases hlt : k < whole sh xs
    · obtain ⟨x, hx⟩ := get_of_lt (show k < xs.length by omega)
      have hm0 : k % sh.length < sh.length := Nat.mod_lt _ (by omega)
      obtain ⟨y, hy⟩ := get_of_lt hm0
      obtain ⟨b, off, rfl⟩ := HC.out.addr (by simpa using List.ne_nil_of_length_pos (by omega))
      obtain ⟨bx, ox, rfl⟩ := HX.out.addr (by simpa using List.ne_nil_of_length_pos (by omega))
      have c1 := HX.out.int hx
      have c2 := HC.out.int hy
      have t1 := B2.out _ (List.mem_of_getElem? hx)
      have t2 := A3.out _ (List.mem_of_getElem? hy)
      have p1 := mul_bd t1.1 t1.2 t2.1 t2.2
      have p2 := mul_bd t2.1 t2.2 t2.1 t2.2
      obtain ⟨p11, p12⟩ := p1
      obtain ⟨p21, p22⟩ := p2
      have e1 : ampN sh xs (k + 1) = ampN sh xs k + x * y := by simp [ampN, hx, hy]
      have e2 : ampD sh (k + 1) = ampD sh k + y * y := by simp [ampD, hy]
      have E1 := Lib.hid e1; have E2 := Lib.hid e2; clear e1 e2 hx hy
      go_wp2
      go_round
      case rel => exact ⟨k + 1, by omega, by go_num, by rw [E1.out], by rw [E2.out]⟩
      case measure => simp [intOf]; omega
    · obtain rfl : k = whole sh xs := by omega
      go_wp2
      go_ret2
      exact ⟨rfl, rfl⟩
end Go.Proofs.YtoochleabcjljaaDoor
