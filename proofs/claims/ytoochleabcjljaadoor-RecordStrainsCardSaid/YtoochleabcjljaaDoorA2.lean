/- Models: CheckModel, of the program and of the reference. -/
import Derived.Test.YtoochleabcjljaaDoorA1
namespace Go.Proofs.YtoochleabcjljaaDoor
open Go.RowKit

/-- a wrong tap -/
def tapBad (t : Int × Int) : Bool := decide (t.2 < t.1 ∨ t.1 < -1048576 ∨ 1048576 < t.2)

theorem checkModel1_any (a b : Int) (w : World) :
    Calls Tryd.prog 21 #[.agg #[.int .i64 a, .int .i64 b]] w fun e w' => e = .returned (.bool (tapBad (a, b))) ∧ Below w.heap.size w w' := by
  by_cases h1 : b < a
  · go_enter Tryd.func21, Tryd.ntmps21
    go_wp2
    go_ret
    exact ⟨ret_bool (by simp [tapBad, h1]), (Below.refl _ _).alloc (Nat.le_refl _) _⟩
  · by_cases h2 : a < -1048576
    · go_enter Tryd.func21, Tryd.ntmps21
      go_wp2
      go_ret
      exact ⟨ret_bool (by simp [tapBad, h2]), (Below.refl _ _).alloc (Nat.le_refl _) _⟩
    · go_enter Tryd.func21, Tryd.ntmps21
      go_wp2
      go_ret
      exact ⟨ret_bool (by rw [Bool.eq_iff_iff]; simp only [tapBad, decide_eq_true_eq]; omega), (Below.refl _ _).alloc (Nat.le_refl _) _⟩

set_option maxRecDepth 100000 in
/-- slices.IndexFunc over pairs, at whatever test that computes p and leaves what was there -/
theorem indexFunc_taps (F : FuncId) (capd : Array Value) (p : Int × Int → Bool) (ao : Option Addr) (xs : List (Int × Int)) (cap : Nat) (w : World) (hc : Cells w ao (prs xs)) (hl : xs.length ≤ 9223372036854775807)
    (hcf : ∀ (vs : Array Value) (wx : World), Sem.run Tryd.prog (callFunc F vs) wx = .ok (.enter F vs) wx)
    (hF : ∀ x wx, x ∈ xs → Below w.heap.size w wx → Calls Tryd.prog F (#[.agg #[.int .i64 x.1, .int .i64 x.2]] ++ capd) wx fun e w' => e = .returned (.bool (p x)) ∧ Below wx.heap.size wx w') :
    Calls Tryd.prog 34 #[.slice ao xs.length cap, .func (.func F) #[] capd] w fun e w' => (∃ r : Int, e = .returned (.int .i64 r) ∧ (0 ≤ r ↔ xs.any p = true)) ∧ Below w.heap.size w w' := by
  go_enter Tryd.func34, Tryd.ntmps34
  go_wp2
  go_loopw [8] (fun i wr => ∃ k : Nat, k ≤ xs.length ∧ i = .int .i64 k ∧ (xs.take k).any p = false ∧ Below w.heap.size w wr) (fun i _ => xs.length - (intOf i).toNat)
  case atStart => exact ⟨0, Nat.zero_le _, rfl, rfl, Below.refl _ _⟩
  case round =>
    obtain ⟨k, hk, rfl, hany, hb⟩ := hrel
    by_cases hlt : k < xs.length
    · obtain ⟨x, hx⟩ := get_of_lt hlt
      obtain ⟨b, off, rfl⟩ := hc.addr (prs_ne (by omega))
      have hcell1 := cell_keep (hc.at (prs_fst hx)) hb (Nat.le_refl _)
      have hcell2 := cell_keep (hc.at (prs_snd hx)) hb (Nat.le_refl _)
      rw [← Nat.add_assoc] at hcell2
      obtain ⟨x1, x2⟩ := x
      simp only at hcell1 hcell2
      have HX := Lib.hid hx; clear hx
      have HC := Lib.hid hc; clear hc
      have HF := Lib.hid hF; clear hF
      have HA := Lib.hid hany; clear hany
      go_wp2_with fail
      refine (HF.out (x1, x2) wr (List.mem_of_getElem? HX.out) hb).mono ?_
      rintro e w1 ⟨rfl, hb1⟩
      have hb2 := hb.trans (hb1.mono hb.size)
      clear hb1
      by_cases hp : p (x1, x2) = true
      · go_wp2
        go_ret
        exact ⟨⟨_, rfl, by simp; exact ⟨x1, x2, List.mem_of_getElem? HX.out, hp⟩⟩, hb2⟩
      · simp only [Bool.not_eq_true] at hp
        go_wp2
        go_roundw
        case rel => exact ⟨k + 1, by omega, by go_num, by rw [take_get HX.out, List.any_append, HA.out]; simp [hp], hb2⟩
        case measure => simp [intOf]; omega
    · obtain rfl : k = xs.length := by omega
      rw [List.take_length] at hany
      have HA := Lib.hid hany; clear hany
      go_wp2
      go_ret
      exact ⟨⟨_, rfl, by rw [HA.out]; simp⟩, hb⟩
end Go.Proofs.YtoochleabcjljaaDoor
