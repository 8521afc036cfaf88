/- Models: CheckModel, of the program and of the reference. -/
import Derived.Test.YtoochleabcjljaaDoorA2
namespace Go.Proofs.YtoochleabcjljaaDoor
open Go.RowKit

set_option maxRecDepth 100000 in
theorem containsFunc_taps (F : FuncId) (capd : Array Value) (p : Int × Int → Bool) (ao : Option Addr) (xs : List (Int × Int)) (cap : Nat) (w : World) (hc : Cells w ao (prs xs)) (hl : xs.length ≤ 9223372036854775807)
    (hcf : ∀ (vs : Array Value) (wx : World), Sem.run Tryd.prog (callFunc F vs) wx = .ok (.enter F vs) wx)
    (hF : ∀ x wx, x ∈ xs → Below w.heap.size w wx → Calls Tryd.prog F (#[.agg #[.int .i64 x.1, .int .i64 x.2]] ++ capd) wx fun e w' => e = .returned (.bool (p x)) ∧ Below wx.heap.size wx w') :
    Calls Tryd.prog 23 #[.slice ao xs.length cap, .func (.func F) #[] capd] w fun e w' => e = .returned (.bool (xs.any p)) ∧ Below w.heap.size w w' := by
  have HC := Lib.hid hc; clear hc
  have HF := Lib.hid hF; clear hF
  have HCF := Lib.hid hcf; clear hcf
  go_enter Tryd.func23, Tryd.ntmps23
  go_wp2_with fail
  refine (indexFunc_taps F capd p ao xs cap w HC.out hl HCF.out HF.out).mono ?_
  rintro e w1 ⟨⟨r, rfl, hr⟩, hb⟩
  have HR := Lib.hid hr; clear hr
  go_wp2
  go_ret
  exact ⟨ret_bool (by rw [Bool.eq_iff_iff, decide_eq_true_iff]; exact HR.out), hb⟩

/-- a model -/
def modOK (ts : List (Int × Int)) (sh : Int) : Bool := inB 1 ts.length 16 && (!ts.any tapBad && inB 0 sh 20)
def modErr (ts : List (Int × Int)) (sh : Int) : Int := if modOK ts sh then 0 else 53

theorem checkModel_any (ao : Option Addr) (ts : List (Int × Int)) (cap : Nat) (sh : Int) (w : World) (hc : Cells w ao (prs ts)) (hl : ts.length ≤ 9223372036854775807) :
    Calls Tryd.prog 8 #[.agg #[.slice ao ts.length cap, .int .i64 sh]] w fun e w' => e = .returned (.int .i64 (modErr ts sh)) ∧ Below w.heap.size w w' := by
  have HC := Lib.hid hc; clear hc
  cases h1 : inB 1 ts.length 16
  · have hm : modErr ts sh = 53 := by simp [modErr, modOK, h1]
    have HM := Lib.hid hm; clear hm
    go_enter Tryd.func8, Tryd.ntmps8
    go_wp2_with fail
    refine (within_any _ _ _ _).mono ?_
    rintro e w1 ⟨rfl, rfl⟩
    go_wp2
    go_ret
    exact ⟨ret_int (HM.out).symm, (Below.refl _ _).alloc (Nat.le_refl _) _⟩
  · cases h2 : ts.any tapBad
    · have hm : modErr ts sh = if inB 0 sh 20 then 0 else 53 := by simp [modErr, modOK, h1, h2]
      have HM := Lib.hid hm; clear hm
      have H2 := Lib.hid h2; clear h2
      cases h3 : inB 0 sh 20
      all_goals
        have H3 := Lib.hid h3
        go_enter Tryd.func8, Tryd.ntmps8
        go_wp2_with fail
        refine (within_any _ _ _ _).mono ?_
        rintro e w1 ⟨rfl, rfl⟩
        go_wp2_with fail
        refine (containsFunc_taps 21 #[] tapBad ao ts cap _ (HC.out.below ((Below.refl _ _).alloc (Nat.le_refl _) _) (Nat.le_refl _)) hl (fun _ _ => by kernel_rfl) (fun x wx _ _ => checkModel1_any x.1 x.2 wx)).mono ?_
        rintro e w1 ⟨rfl, hb⟩
        rw [H2.out]
        have hc1 : w1.cell? ⟨w.heap.size, 1, none⟩ = some (.int .i64 sh) := box_keep hb (by simp) 1
        go_wp2_with fail
        refine (within_any _ _ _ _).mono ?_
        rintro e w1 ⟨rfl, rfl⟩
        go_wp2
        go_ret
        exact ⟨ret_int (by rw [HM.out, H3.out]; rfl), ((Below.refl _ _).alloc (Nat.le_refl _) _).trans (hb.mono (by simp))⟩
    · have hm : modErr ts sh = 53 := by simp [modErr, modOK, h1, h2]
      have HM := Lib.hid hm; clear hm
      have H2 := Lib.hid h2; clear h2
      go_enter Tryd.func8, Tryd.ntmps8
      go_wp2_with fail
      refine (within_any _ _ _ _).mono ?_
      rintro e w1 ⟨rfl, rfl⟩
      go_wp2_with fail
      refine (containsFunc_taps 21 #[] tapBad ao ts cap _ (HC.out.below ((Below.refl _ _).alloc (Nat.le_refl _) _) (Nat.le_refl _)) hl (fun _ _ => by kernel_rfl) (fun x wx _ _ => checkModel1_any x.1 x.2 wx)).mono ?_
      rintro e w1 ⟨rfl, hb⟩
      rw [H2.out]
      go_wp2
      go_ret
      exact ⟨ret_int (HM.out).symm, ((Below.refl _ _).alloc (Nat.le_refl _) _).trans (hb.mono (by simp))⟩

theorem refCheckModel_any (ao : Option Addr) (ts : List (Int × Int)) (cap : Nat) (sh : Int) (w : World) (hc : Cells w ao (prs ts)) (hl : ts.length ≤ 9223372036854775807) :
    Calls Tryd.prog 9 #[.agg #[.slice ao ts.length cap, .int .i64 sh]] w fun e w' => e = .returned (.int .i64 (modErr ts sh)) ∧ Below w.heap.size w w' := by
  have HC := Lib.hid hc; clear hc
  cases h1 : inB 1 ts.length 16
  · go_enter Tryd.func9, Tryd.ntmps9
    go_wp2_with fail
    refine (in_any _ _ _ _).mono ?_
    rintro e w1 ⟨rfl, rfl⟩
    go_wp2_with fail
    go_loopw [3, 4] (fun o i wr => ∃ k : Nat, k ≤ ts.length ∧ i = .int .i64 k ∧ o = .bool (false && (ts.take k).all (fun t => !tapBad t)) ∧ Below (w.heap.size + 1) (w.alloc (.cells #[.slice ao ts.length cap, .int .i64 sh] 24)) wr) (fun _ i _ => ts.length - (intOf i).toNat)
    case atStart => exact ⟨0, Nat.zero_le _, rfl, by simp, Below.refl _ _⟩
    case round =>
      obtain ⟨k, hk, rfl, rfl, hb⟩ := hrel
      have hm : modErr ts sh = if (false && (ts.take ts.length).all (fun t => !tapBad t)) then 0 else 53 := by simp [modErr, modOK, h1]
      have HM := Lib.hid hm; clear hm
      have hc0 : wr.cell? ⟨w.heap.size, 0, none⟩ = some (.slice ao ts.length cap) := box_keep hb (by simp) 0
      by_cases hlt : k < ts.length
      · obtain ⟨x, hx⟩ := get_of_lt hlt
        obtain ⟨b, off, rfl⟩ := HC.out.addr (prs_ne (by omega))
        have hbw : Below w.heap.size w wr := ((Below.refl _ _).alloc (Nat.le_refl _) _).trans (hb.mono (by omega))
        have hcell1 := cell_keep (HC.out.at (prs_fst hx)) hbw (Nat.le_refl _)
        have hcell2 := cell_keep (HC.out.at (prs_snd hx)) hbw (Nat.le_refl _)
        rw [← Nat.add_assoc] at hcell2
        obtain ⟨x1, x2⟩ := x
        simp only at hcell1 hcell2
        have hsz : w.heap.size + 1 ≤ wr.heap.size := by have := hb.size; simpa using this
        have hn : (false && (ts.take (k + 1)).all (fun t => !tapBad t)) = ((false && (ts.take k).all (fun t => !tapBad t)) && !tapBad (x1, x2)) := by
          rw [take_get hx, List.all_append]; simp [Bool.and_assoc]
        have HX := Lib.hid hx; clear hx
        have HN := Lib.hid hn; clear hn
        generalize (false && (ts.take k).all (fun t => !tapBad t)) = o at *
        cases o
        · go_wp2
          go_roundw
          case rel => exact ⟨k + 1, by omega, by go_num, by rw [HN.out]; rfl, hb.alloc hsz _⟩
          case measure => simp [intOf]; omega
        · cases hin : inB (-1048576) x1 x2
          · have ht : tapBad (x1, x2) = true := by simp [inB] at hin; simp [tapBad]; omega
            have HT := Lib.hid ht; clear ht
            go_wp2_with fail
            refine (in_any _ _ _ _).mono ?_
            rintro e w1 ⟨rfl, rfl⟩
            go_wp2
            go_roundw
            case rel => exact ⟨k + 1, by omega, by go_num, by rw [HN.out, HT.out]; rfl, hb.alloc hsz _⟩
            case measure => simp [intOf]; omega
          · have ht : (!tapBad (x1, x2)) = decide (x2 ≤ 1048576) := by simp [inB] at hin; rw [Bool.eq_iff_iff]; simp [tapBad]; omega
            have HT := Lib.hid ht; clear ht
            go_wp2_with fail
            refine (in_any _ _ _ _).mono ?_
            rintro e w1 ⟨rfl, rfl⟩
            go_wp2
            go_roundw
            case rel => exact ⟨k + 1, by omega, by go_num, by rw [HN.out, HT.out]; simp, hb.alloc hsz _⟩
            case measure => simp [intOf]; omega
      · obtain rfl : k = ts.length := by omega
        generalize (false && (ts.take ts.length).all (fun t => !tapBad t)) = o at *
        cases o
        all_goals
          go_wp2
          go_ret
          exact ⟨ret_int (by rw [HM.out]; rfl), ((Below.refl _ _).alloc (Nat.le_refl _) _).trans (hb.mono (by omega))⟩
  · go_enter Tryd.func9, Tryd.ntmps9
    go_wp2_with fail
    refine (in_any _ _ _ _).mono ?_
    rintro e w1 ⟨rfl, rfl⟩
    go_wp2_with fail
    refine (in_any _ _ _ _).mono ?_
    rintro e w1 ⟨rfl, rfl⟩
    go_wp2_with fail
    go_loopw [3, 4] (fun o i wr => ∃ k : Nat, k ≤ ts.length ∧ i = .int .i64 k ∧ o = .bool (inB 0 sh 20 && (ts.take k).all (fun t => !tapBad t)) ∧ Below (w.heap.size + 1) (w.alloc (.cells #[.slice ao ts.length cap, .int .i64 sh] 24)) wr) (fun _ i _ => ts.length - (intOf i).toNat)
    case atStart => exact ⟨0, Nat.zero_le _, rfl, by simp, Below.refl _ _⟩
    case round =>
      obtain ⟨k, hk, rfl, rfl, hb⟩ := hrel
      have hm : modErr ts sh = if (inB 0 sh 20 && (ts.take ts.length).all (fun t => !tapBad t)) then 0 else 53 := by rw [List.take_length, List.all_eq_not_any_not, modErr, modOK, h1]; simp only [Bool.true_and, Bool.not_not, Bool.and_comm]
      have HM := Lib.hid hm; clear hm
      have hc0 : wr.cell? ⟨w.heap.size, 0, none⟩ = some (.slice ao ts.length cap) := box_keep hb (by simp) 0
      by_cases hlt : k < ts.length
      · obtain ⟨x, hx⟩ := get_of_lt hlt
        obtain ⟨b, off, rfl⟩ := HC.out.addr (prs_ne (by omega))
        have hbw : Below w.heap.size w wr := ((Below.refl _ _).alloc (Nat.le_refl _) _).trans (hb.mono (by omega))
        have hcell1 := cell_keep (HC.out.at (prs_fst hx)) hbw (Nat.le_refl _)
        have hcell2 := cell_keep (HC.out.at (prs_snd hx)) hbw (Nat.le_refl _)
        rw [← Nat.add_assoc] at hcell2
        obtain ⟨x1, x2⟩ := x
        simp only at hcell1 hcell2
        have hsz : w.heap.size + 1 ≤ wr.heap.size := by have := hb.size; simpa using this
        have hn : (inB 0 sh 20 && (ts.take (k + 1)).all (fun t => !tapBad t)) = ((inB 0 sh 20 && (ts.take k).all (fun t => !tapBad t)) && !tapBad (x1, x2)) := by
          rw [take_get hx, List.all_append]; simp [Bool.and_assoc]
        have HX := Lib.hid hx; clear hx
        have HN := Lib.hid hn; clear hn
        generalize (inB 0 sh 20 && (ts.take k).all (fun t => !tapBad t)) = o at *
        cases o
        · go_wp2
          go_roundw
          case rel => exact ⟨k + 1, by omega, by go_num, by rw [HN.out]; rfl, hb.alloc hsz _⟩
          case measure => simp [intOf]; omega
        · cases hin : inB (-1048576) x1 x2
          · have ht : tapBad (x1, x2) = true := by simp [inB] at hin; simp [tapBad]; omega
            have HT := Lib.hid ht; clear ht
            go_wp2_with fail
            refine (in_any _ _ _ _).mono ?_
            rintro e w1 ⟨rfl, rfl⟩
            go_wp2
            go_roundw
            case rel => exact ⟨k + 1, by omega, by go_num, by rw [HN.out, HT.out]; rfl, hb.alloc hsz _⟩
            case measure => simp [intOf]; omega
          · have ht : (!tapBad (x1, x2)) = decide (x2 ≤ 1048576) := by simp [inB] at hin; rw [Bool.eq_iff_iff]; simp [tapBad]; omega
            have HT := Lib.hid ht; clear ht
            go_wp2_with fail
            refine (in_any _ _ _ _).mono ?_
            rintro e w1 ⟨rfl, rfl⟩
            go_wp2
            go_roundw
            case rel => exact ⟨k + 1, by omega, by go_num, by rw [HN.out, HT.out]; simp, hb.alloc hsz _⟩
            case measure => simp [intOf]; omega
      · obtain rfl : k = ts.length := by omega
        generalize (inB 0 sh 20 && (ts.take ts.length).all (fun t => !tapBad t)) = o at *
        cases o
        all_goals
          go_wp2
          go_ret
          exact ⟨ret_int (by rw [HM.out]; rfl), ((Below.refl _ _).alloc (Nat.le_refl _) _).trans (hb.mono (by omega))⟩
end Go.Proofs.YtoochleabcjljaaDoor
