/- Series: CheckSeries, of the program and of the reference. -/
import Derived.Test.YtoochleabcjljaaDoorA0
namespace Go.Proofs.YtoochleabcjljaaDoor
open Go.RowKit

set_option maxRecDepth 100000 in
theorem containsFunc_ints (F : FuncId) (capd : Array Value) (p : Int → Bool) (ao : Option Addr) (xs : List Int) (cap : Nat) (w : World) (hc : Cells w ao (xs.map (Value.int .i64))) (hl : xs.length ≤ 9223372036854775807)
    (hcf : ∀ (vs : Array Value) (wx : World), Sem.run Tryd.prog (callFunc F vs) wx = .ok (.enter F vs) wx)
    (hF : ∀ x wx, x ∈ xs → Below w.heap.size w wx → Calls Tryd.prog F (#[.int .i64 x] ++ capd) wx fun e w' => e = .returned (.bool (p x)) ∧ Below wx.heap.size wx w') :
    Calls Tryd.prog 35 #[.slice ao xs.length cap, .func (.func F) #[] capd] w fun e w' => e = .returned (.bool (xs.any p)) ∧ Below w.heap.size w w' := by
  have HC := Lib.hid hc; clear hc
  have HF := Lib.hid hF; clear hF
  have HCF := Lib.hid hcf; clear hcf
  go_enter Tryd.func35, Tryd.ntmps35
  go_wp2_with fail
  refine (indexFunc_ints F capd p ao xs cap w HC.out hl HCF.out HF.out).mono ?_
  rintro e w1 ⟨⟨r, rfl, hr⟩, hb⟩
  have HR := Lib.hid hr; clear hr
  go_wp2
  go_ret
  exact ⟨ret_bool (by rw [Bool.eq_iff_iff, decide_eq_true_iff]; exact HR.out), hb⟩

/-- a series -/
def serOK (xs : List Int) : Bool := decide (xs.length ≤ 4096) && xs.all (fun n => inB (-8388608) n 8388608)
def serErr (xs : List Int) : Int := if serOK xs then 0 else 55

theorem seriesOK_any (ao : Option Addr) (xs : List Int) (cap : Nat) (w : World) (hc : Cells w ao (xs.map (Value.int .i64))) (hl : xs.length ≤ 9223372036854775807) :
    Calls Tryd.prog 25 #[.slice ao xs.length cap] w fun e w' => e = .returned (.bool (serOK xs)) ∧ Below w.heap.size w w' := by
  have HC := Lib.hid hc; clear hc
  by_cases h : xs.length ≤ 4096
  · go_enter Tryd.func25, Tryd.ntmps25
    go_wp2_with fail
    refine (containsFunc_ints 36 #[] (fun n => !inB (-8388608) n 8388608) ao xs cap w HC.out hl (fun _ _ => by kernel_rfl) (fun x wx _ _ => (seriesOK1_any x wx).mono fun e w' h => ⟨h.1, h.2 ▸ Below.refl _ _⟩)).mono ?_
    rintro e w1 ⟨rfl, hb⟩
    go_wp2
    go_ret
    exact ⟨ret_bool (by simp [serOK, h, List.all_eq_not_any_not]), hb⟩
  · go_enter Tryd.func25, Tryd.ntmps25
    go_wp2
    go_ret
    exact ⟨ret_bool (by simp [serOK]; omega), Below.refl _ _⟩

theorem checkSeries_any (ao : Option Addr) (xs : List Int) (cap : Nat) (w : World) (hc : Cells w ao (xs.map (Value.int .i64))) (hl : xs.length ≤ 9223372036854775807) :
    Calls Tryd.prog 10 #[.slice ao xs.length cap] w fun e w' => e = .returned (.int .i64 (serErr xs)) ∧ Below w.heap.size w w' := by
  have HC := Lib.hid hc; clear hc
  cases hs : serOK xs
  all_goals
    go_enter Tryd.func10, Tryd.ntmps10
    go_wp2_with fail
    refine (seriesOK_any ao xs cap w HC.out hl).mono ?_
    rintro e w1 ⟨rfl, hb⟩
    go_wp2
    go_ret
    exact ⟨ret_int (by simp [serErr, hs]), hb⟩

theorem refCheckSeries_any (ao : Option Addr) (xs : List Int) (cap : Nat) (w : World) (hc : Cells w ao (xs.map (Value.int .i64))) (hl : xs.length ≤ 9223372036854775807) :
    Calls Tryd.prog 11 #[.slice ao xs.length cap] w fun e w' => e = .returned (.int .i64 (serErr xs)) ∧ Below w.heap.size w w' := by
  have HC := Lib.hid hc; clear hc
  go_enter Tryd.func11, Tryd.ntmps11
  go_wp2
  go_loopw [3, 4] (fun o i wr => ∃ k : Nat, k ≤ xs.length ∧ i = .int .i64 k ∧ o = .bool (decide (xs.length ≤ 4096) && (xs.take k).all (fun n => inB (-8388608) n 8388608)) ∧ Below w.heap.size w wr) (fun _ i _ => xs.length - (intOf i).toNat)
  case atStart => exact ⟨0, Nat.zero_le _, rfl, by simp; omega, Below.refl _ _⟩
  case round =>
    obtain ⟨k, hk, rfl, rfl, hb⟩ := hrel
    by_cases hlt : k < xs.length
    · obtain ⟨x, hx⟩ := get_of_lt hlt
      obtain ⟨b, off, rfl⟩ := HC.out.addr (by simpa using List.ne_nil_of_length_pos (by omega))
      have hcell := cell_keep (HC.out.int hx) hb (Nat.le_refl _)
      have hn : (decide (xs.length ≤ 4096) && (xs.take (k + 1)).all (fun n => inB (-8388608) n 8388608)) = ((decide (xs.length ≤ 4096) && (xs.take k).all (fun n => inB (-8388608) n 8388608)) && inB (-8388608) x 8388608) := by
        rw [take_get hx, List.all_append]; simp [Bool.and_assoc]
      have HX := Lib.hid hx; clear hx
      have HN := Lib.hid hn; clear hn
      generalize (decide (xs.length ≤ 4096) && (xs.take k).all (fun n => inB (-8388608) n 8388608)) = o at *
      cases o
      · go_wp2
        go_roundw
        case rel => exact ⟨k + 1, by omega, by go_num, by rw [HN.out]; rfl, hb⟩
        case measure => simp [intOf]; omega
      · go_wp2_with (go_at_call 24; refine (in_any _ _ _ _).mono ?_; rintro e w' ⟨rfl, rfl⟩)
        go_roundw
        case rel => exact ⟨k + 1, by omega, by go_num, by rw [HN.out]; simp, hb⟩
        case measure => simp [intOf]; omega
    · obtain rfl : k = xs.length := by omega
      have hn : serOK xs = (decide (xs.length ≤ 4096) && (xs.take xs.length).all (fun n => inB (-8388608) n 8388608)) := by simp [serOK]
      have HN := Lib.hid hn; clear hn
      generalize (decide (xs.length ≤ 4096) && (xs.take xs.length).all (fun n => inB (-8388608) n 8388608)) = o at *
      cases o
      all_goals
        go_wp2
        go_ret
        exact ⟨ret_int (by simp [serErr, HN.out]), hb⟩
end Go.Proofs.YtoochleabcjljaaDoor
