/- Parts of a proof, in build order: A2, A3, A4, B1, T1, T2, T3, D1. -/
import Derived.Test.YtoochleabcjljaaGreatDoorKc2
import Derived.Laws.AppendOwnNone
import Derived.Maps.AppendAt

/- Models: CheckModel, of the program and of the reference. -/
namespace Go.Proofs.YtoochleabcjljaaGreatDoor
open Go.RowKit

/-- a wrong tap -/
def tapBad (t : Int × Int) : Bool := decide (t.2 < t.1 ∨ t.1 < -1048576 ∨ 1048576 < t.2)

theorem checkModel1_any (a b : Int) (w : World) :
    Calls Tryz.prog 174 #[.agg #[.int .i64 a, .int .i64 b]] w fun e w' => e = .returned (.bool (tapBad (a, b))) ∧ Below w.heap.size w w' := by
  by_cases h1 : b < a
  · go_enter Tryz.func174, Tryz.ntmps174
    go_wp2
    go_ret
    exact ⟨ret_bool (by simp [tapBad, h1]), (Below.refl _ _).alloc (Nat.le_refl _) _⟩
  · by_cases h2 : a < -1048576
    · go_enter Tryz.func174, Tryz.ntmps174
      go_wp2
      go_ret
      exact ⟨ret_bool (by simp [tapBad, h2]), (Below.refl _ _).alloc (Nat.le_refl _) _⟩
    · go_enter Tryz.func174, Tryz.ntmps174
      go_wp2
      go_ret
      exact ⟨ret_bool (by rw [Bool.eq_iff_iff]; simp only [tapBad, decide_eq_true_eq]; omega), (Below.refl _ _).alloc (Nat.le_refl _) _⟩

set_option maxRecDepth 100000 in
/-- slices.IndexFunc over pairs, at whatever test that computes p and leaves what was there -/
theorem indexFunc_taps (F : FuncId) (capd : Array Value) (p : Int × Int → Bool) (ao : Option Addr) (xs : List (Int × Int)) (cap : Nat) (w : World) (hc : Cells w ao (prs xs)) (hl : xs.length ≤ 9223372036854775807)
    (hcf : ∀ (vs : Array Value) (wx : World), Sem.run Tryz.prog (callFunc F vs) wx = .ok (.enter F vs) wx)
    (hF : ∀ x wx, x ∈ xs → Below w.heap.size w wx → Calls Tryz.prog F (#[.agg #[.int .i64 x.1, .int .i64 x.2]] ++ capd) wx fun e w' => e = .returned (.bool (p x)) ∧ Below wx.heap.size wx w') :
    Calls Tryz.prog 217 #[.slice ao xs.length cap, .func (.func F) #[] capd] w fun e w' => (∃ r : Int, e = .returned (.int .i64 r) ∧ (0 ≤ r ↔ xs.any p = true)) ∧ Below w.heap.size w w' := by
  go_enter Tryz.func217, Tryz.ntmps217
  go_wp2
  go_loopw [8] (fun i wr => ∃ k : Nat, k ≤ xs.length ∧ i = .int .i64 k ∧ (xs.take k).any p = false ∧ Below w.heap.size w wr) (fun i _ => xs.length - (intOf i).toNat)
  case atStart => exact ⟨0, Nat.zero_le _, rfl, rfl, Below.refl _ _⟩
  case round =>
    obtain ⟨k, hk, rfl, hany, hb⟩ := hrel
    by_cases hlt : k < xs.length
    · obtain ⟨x, hx⟩ := get_of_lt hlt
      obtain ⟨b, off, rfl⟩ := hc.addr (prs_ne (by omega))
      have hcell1 := cell_keep (hc.at (prs_fst hx)) hb (Nat.le_refl _)
      have hcell2 := cell_keep (hc.at (prs_snd hx)) hb (Nat.le_refl _)
      rw [← Nat.add_assoc] at hcell2
      obtain ⟨x1, x2⟩ := x
      simp only at hcell1 hcell2
      have HX := Lib.hid hx; clear hx
      have HC := Lib.hid hc; clear hc
      have HF := Lib.hid hF; clear hF
      have HA := Lib.hid hany; clear hany
      go_wp2_with fail
      refine (HF.out (x1, x2) wr (List.mem_of_getElem? HX.out) hb).mono ?_
      rintro e w1 ⟨rfl, hb1⟩
      have hb2 := hb.trans (hb1.mono hb.size)
      clear hb1
      by_cases hp : p (x1, x2) = true
      · go_wp2
        go_ret
        exact ⟨⟨_, rfl, by simp; exact ⟨x1, x2, List.mem_of_getElem? HX.out, hp⟩⟩, hb2⟩
      · simp only [Bool.not_eq_true] at hp
        go_wp2
        go_roundw
        case rel => exact ⟨k + 1, by omega, by go_num, by rw [take_get HX.out, List.any_append, HA.out]; simp [hp], hb2⟩
        case measure => simp [intOf]; omega
    · obtain rfl : k = xs.length := by omega
      rw [List.take_length] at hany
      have HA := Lib.hid hany; clear hany
      go_wp2
      go_ret
      exact ⟨⟨_, rfl, by rw [HA.out]; simp⟩, hb⟩
end Go.Proofs.YtoochleabcjljaaGreatDoor

/- Models: CheckModel, of the program and of the reference. -/
namespace Go.Proofs.YtoochleabcjljaaGreatDoor
open Go.RowKit

set_option maxRecDepth 100000 in
theorem containsFunc_taps (F : FuncId) (capd : Array Value) (p : Int × Int → Bool) (ao : Option Addr) (xs : List (Int × Int)) (cap : Nat) (w : World) (hc : Cells w ao (prs xs)) (hl : xs.length ≤ 9223372036854775807)
    (hcf : ∀ (vs : Array Value) (wx : World), Sem.run Tryz.prog (callFunc F vs) wx = .ok (.enter F vs) wx)
    (hF : ∀ x wx, x ∈ xs → Below w.heap.size w wx → Calls Tryz.prog F (#[.agg #[.int .i64 x.1, .int .i64 x.2]] ++ capd) wx fun e w' => e = .returned (.bool (p x)) ∧ Below wx.heap.size wx w') :
    Calls Tryz.prog 175 #[.slice ao xs.length cap, .func (.func F) #[] capd] w fun e w' => e = .returned (.bool (xs.any p)) ∧ Below w.heap.size w w' := by
  have HC := Lib.hid hc; clear hc
  have HF := Lib.hid hF; clear hF
  have HCF := Lib.hid hcf; clear hcf
  go_enter Tryz.func175, Tryz.ntmps175
  go_wp2_with fail
  refine (indexFunc_taps F capd p ao xs cap w HC.out hl HCF.out HF.out).mono ?_
  rintro e w1 ⟨⟨r, rfl, hr⟩, hb⟩
  have HR := Lib.hid hr; clear hr
  go_wp2
  go_ret
  exact ⟨ret_bool (by rw [Bool.eq_iff_iff, decide_eq_true_iff]; exact HR.out), hb⟩

/-- a model -/
def modOK (ts : List (Int × Int)) (sh : Int) : Bool := inB 1 ts.length 16 && (!ts.any tapBad && inB 0 sh 20)
def modErr (ts : List (Int × Int)) (sh : Int) : Int := if modOK ts sh then 0 else 53

theorem checkModel_any (ao : Option Addr) (ts : List (Int × Int)) (cap : Nat) (sh : Int) (w : World) (hc : Cells w ao (prs ts)) (hl : ts.length ≤ 9223372036854775807) :
    Calls Tryz.prog 118 #[.agg #[.slice ao ts.length cap, .int .i64 sh]] w fun e w' => e = .returned (.int .i64 (modErr ts sh)) ∧ Below w.heap.size w w' := by
  have HC := Lib.hid hc; clear hc
  cases h1 : inB 1 ts.length 16
  · have hm : modErr ts sh = 53 := by simp [modErr, modOK, h1]
    have HM := Lib.hid hm; clear hm
    go_enter Tryz.func118, Tryz.ntmps118
    go_wp2_with fail
    refine (within_any _ _ _ _).mono ?_
    rintro e w1 ⟨rfl, rfl⟩
    go_wp2
    go_ret
    exact ⟨ret_int (HM.out).symm, (Below.refl _ _).alloc (Nat.le_refl _) _⟩
  · cases h2 : ts.any tapBad
    · have hm : modErr ts sh = if inB 0 sh 20 then 0 else 53 := by simp [modErr, modOK, h1, h2]
      have HM := Lib.hid hm; clear hm
      have H2 := Lib.hid h2; clear h2
      cases h3 : inB 0 sh 20
      all_goals
        have H3 := Lib.hid h3
        go_enter Tryz.func118, Tryz.ntmps118
        go_wp2_with fail
        refine (within_any _ _ _ _).mono ?_
        rintro e w1 ⟨rfl, rfl⟩
        go_wp2_with fail
        refine (containsFunc_taps 174 #[] tapBad ao ts cap _ (HC.out.below ((Below.refl _ _).alloc (Nat.le_refl _) _) (Nat.le_refl _)) hl (fun _ _ => by kernel_rfl) (fun x wx _ _ => checkModel1_any x.1 x.2 wx)).mono ?_
        rintro e w1 ⟨rfl, hb⟩
        rw [H2.out]
        have hc1 : w1.cell? ⟨w.heap.size, 1, none⟩ = some (.int .i64 sh) := box_keep hb (by simp) 1
        go_wp2_with fail
        refine (within_any _ _ _ _).mono ?_
        rintro e w1 ⟨rfl, rfl⟩
        go_wp2
        go_ret
        exact ⟨ret_int (by rw [HM.out, H3.out]; rfl), ((Below.refl _ _).alloc (Nat.le_refl _) _).trans (hb.mono (by simp))⟩
    · have hm : modErr ts sh = 53 := by simp [modErr, modOK, h1, h2]
      have HM := Lib.hid hm; clear hm
      have H2 := Lib.hid h2; clear h2
      go_enter Tryz.func118, Tryz.ntmps118
      go_wp2_with fail
      refine (within_any _ _ _ _).mono ?_
      rintro e w1 ⟨rfl, rfl⟩
      go_wp2_with fail
      refine (containsFunc_taps 174 #[] tapBad ao ts cap _ (HC.out.below ((Below.refl _ _).alloc (Nat.le_refl _) _) (Nat.le_refl _)) hl (fun _ _ => by kernel_rfl) (fun x wx _ _ => checkModel1_any x.1 x.2 wx)).mono ?_
      rintro e w1 ⟨rfl, hb⟩
      rw [H2.out]
      go_wp2
      go_ret
      exact ⟨ret_int (HM.out).symm, ((Below.refl _ _).alloc (Nat.le_refl _) _).trans (hb.mono (by simp))⟩
end Go.Proofs.YtoochleabcjljaaGreatDoor

/- Strain, of the program. -/
namespace Go.Proofs.YtoochleabcjljaaGreatDoor
open Go.RowKit

/-- the sum of the lesser, of the greater products of the first n taps at t -/
def loS (ts : List (Int × Int)) (xs : List Int) (t : Nat) : Nat → Int
  | 0 => 0
  | n + 1 => loS ts xs t n + min ((ts.getD n (0, 0)).1 * xs.getD (t - n) 0) ((ts.getD n (0, 0)).2 * xs.getD (t - n) 0)
def hiS (ts : List (Int × Int)) (xs : List Int) (t : Nat) : Nat → Int
  | 0 => 0
  | n + 1 => hiS ts xs t n + max ((ts.getD n (0, 0)).1 * xs.getD (t - n) 0) ((ts.getD n (0, 0)).2 * xs.getD (t - n) 0)
def bandAt (ts : List (Int × Int)) (sh : Nat) (xs : List Int) (t : Nat) : Int × Int :=
  (loS ts xs t (min ts.length (t + 1)) / 2 ^ sh, -(-(hiS ts xs t (min ts.length (t + 1))) / 2 ^ sh))
def bands (ts : List (Int × Int)) (sh : Nat) (xs : List Int) (n : Nat) : List (Int × Int) := (List.range n).map (bandAt ts sh xs)
def strErr (ts : List (Int × Int)) (sh : Int) (xs : List Int) : Int := if modErr ts sh ≠ 0 then modErr ts sh else serErr xs
def strain (ts : List (Int × Int)) (sh : Int) (xs : List Int) : List (Int × Int) := if strErr ts sh xs = 0 then bands ts sh.toNat xs xs.length else []

theorem bands_length (ts : List (Int × Int)) (sh : Nat) (xs : List Int) (n : Nat) : (bands ts sh xs n).length = n := by simp [bands]
theorem bands_succ (ts : List (Int × Int)) (sh : Nat) (xs : List Int) (n : Nat) : bands ts sh xs (n + 1) = bands ts sh xs n ++ [bandAt ts sh xs n] := by simp [bands, List.range_succ]

/-- the bounds of products -/
theorem prod_bd {a x : Int} (h1 : -1048576 ≤ a) (h2 : a ≤ 1048576) (h3 : -8388608 ≤ x) (h4 : x ≤ 8388608) : -8796093022208 ≤ a * x ∧ a * x ≤ 8796093022208 := by
  have ha : a.natAbs ≤ 1048576 := by omega
  have hx : x.natAbs ≤ 8388608 := by omega
  have h := Nat.mul_le_mul ha hx
  rw [← Int.natAbs_mul] at h
  omega

theorem modErr_zero {ts : List (Int × Int)} {sh : Int} (h : modErr ts sh = 0) : 1 ≤ ts.length ∧ ts.length ≤ 16 ∧ 0 ≤ sh ∧ sh ≤ 20 ∧ ∀ t ∈ ts, t.1 ≤ t.2 ∧ -1048576 ≤ t.1 ∧ t.2 ≤ 1048576 := by
  have h1 : modOK ts sh = true := by
    cases e : modOK ts sh
    · simp [modErr, e] at h
    · rfl
  simp only [modOK, inB, Bool.and_eq_true, decide_eq_true_eq, Bool.not_eq_true', List.any_eq_false, tapBad] at h1
  refine ⟨by omega, by omega, by omega, by omega, fun t ht => ?_⟩
  have := h1.2.1 t ht
  omega

theorem serErr_zero {xs : List Int} (h : serErr xs = 0) : xs.length ≤ 4096 ∧ ∀ x ∈ xs, -8388608 ≤ x ∧ x ≤ 8388608 := by
  have h1 : serOK xs = true := by
    cases e : serOK xs
    · simp [serErr, e] at h
    · rfl
  simpa [serOK, inB] using h1

theorem lohi_bd {ts : List (Int × Int)} {xs : List Int} {sh : Int} (h : modErr ts sh = 0) (hx : serErr xs = 0) (t : Nat) (ht : t < xs.length) (n : Nat) (hn : n ≤ ts.length) (hnt : n ≤ t + 1) :
    -(8796093022208 * (n : Int)) ≤ loS ts xs t n ∧ loS ts xs t n ≤ 8796093022208 * (n : Int) ∧ -(8796093022208 * (n : Int)) ≤ hiS ts xs t n ∧ hiS ts xs t n ≤ 8796093022208 * (n : Int) := by
  induction n with
  | zero => simp [loS, hiS]
  | succ n ih =>
    have ih := ih (by omega) (by omega)
    have m1 := (modErr_zero h).2.2.2.2 (ts.getD n (0, 0)) (by
      rw [List.getD_eq_getElem?_getD, List.getElem?_eq_getElem (by omega)]; exact List.getElem_mem _)
    have m2 := (serErr_zero hx).2 (xs.getD (t - n) 0) (by
      rw [List.getD_eq_getElem?_getD, List.getElem?_eq_getElem (by omega)]; exact List.getElem_mem _)
    have p1 := prod_bd (a := (ts.getD n (0, 0)).1) (x := xs.getD (t - n) 0) (by omega) (by omega) (by omega) (by omega)
    have p2 := prod_bd (a := (ts.getD n (0, 0)).2) (x := xs.getD (t - n) 0) (by omega) (by omega) (by omega) (by omega)
    simp only [loS, hiS]
    push_cast
    omega

theorem Tryz.infoBand : (Tryz.prog.info? 104).map (fun i => (i.zero, i.size, i.bytes)) = some (some (.agg #[.int .i64 0, .int .i64 0]), 2, 16) := by kernel_rfl

set_option maxRecDepth 100000 in
theorem strain_any (ao : Option Addr) (ts : List (Int × Int)) (cap : Nat) (sh : Int) (ax : Option Addr) (xs : List Int) (cx : Nat) (w : World) (hc : Cells w ao (prs ts)) (hl : ts.length ≤ 9223372036854775807) (hx : Cells w ax (xs.map (Value.int .i64))) (hlx : xs.length ≤ 9223372036854775807) :
    Calls Tryz.prog 64 #[.agg #[.slice ao ts.length cap, .int .i64 sh], .slice ax xs.length cx] w fun e w' => (∃ a c, e = .returned (.tuple #[.slice a (strain ts sh xs).length c, .int .i64 (strErr ts sh xs)]) ∧ Cells w' a (prs (strain ts sh xs))) ∧ Below w.heap.size w w' := by
  have HC := Lib.hid hc; clear hc
  have HX := Lib.hid hx; clear hx
  by_cases h1 : modErr ts sh = 0
  · by_cases h2 : serErr xs = 0
    · go_enter Tryz.func64, Tryz.ntmps64
      go_wp2_with fail
      refine (checkModel_any ao ts cap sh _ (HC.out.below ((Below.refl _ _).alloc (Nat.le_refl _) _) (Nat.le_refl _)) hl).mono ?_
      rintro e w1 ⟨rfl, hb⟩
      rw [h1]
      go_wp2_with fail
      refine (checkSeries_any ax xs cx _ (HX.out.below (((Below.refl _ _).alloc (Nat.le_refl _) _).trans (hb.mono (by simp))) (Nat.le_refl _)) hlx).mono ?_
      rintro e w2 ⟨rfl, hb2⟩
      rw [h2]
      have hm := modErr_zero h1
      have hs := serErr_zero h2
      have hbd := fun t ht n hn hnt => lohi_bd h1 h2 t ht n hn hnt
      have H1 := Lib.hid h1; clear h1
      have H2 := Lib.hid h2; clear h2
      obtain ⟨hm1, hm2, hm3, hm4, hm5⟩ := hm
      obtain ⟨hs1, hs2⟩ := hs
      have HM5 := Lib.hid hm5; clear hm5
      have HS2 := Lib.hid hs2; clear hs2
      have HBD := Lib.hid hbd; clear hbd
      obtain ⟨shn, rfl⟩ := Int.eq_ofNat_of_zero_le hm3
      have hbe : Below (w.heap.size + 1) (w.alloc (.cells #[.slice ao ts.length cap, .int .i64 shn] 102)) w2 := (hb.mono (by simp)).trans (hb2.mono (by have := hb.size; simpa using this))
      clear hb hb2
      obtain ⟨i0, hi, hz0, hz1, hz2⟩ := info_parts Tryz.infoBand
      go_wp2
      go_loopw [8, 28] (fun v i wr => ∃ k : Nat, k ≤ xs.length ∧ i = .int .i64 k ∧ wr.ownsRow (w.heap.size + 1) 104 2 v k (prs (bands ts shn xs k)) ∧ Below (w.heap.size + 1) (w.alloc (.cells #[.slice ao ts.length cap, .int .i64 shn] 102)) wr) (fun _ i _ => xs.length - (intOf i).toNat)
      case atStart => exact ⟨0, Nat.zero_le _, rfl, World.ownsRow_nil _ _ _ _, hbe⟩
      case round =>
        obtain ⟨k, hk, rfl, hown, hb⟩ := hrel
        obtain ⟨wo, rfl⟩ : ∃ wo : World, wo = wr := ⟨_, rfl⟩
        have hc0 : wo.cell? ⟨w.heap.size, 0, none⟩ = some (.slice ao ts.length cap) := box_keep hb (by simp) 0
        have hc1 : wo.cell? ⟨w.heap.size, 1, none⟩ = some (.int .i64 shn) := box_keep hb (by simp) 1
        have hsz : w.heap.size + 1 ≤ wo.heap.size := by have := hb.size; simpa using this
        by_cases hlt : k < xs.length
        · have HO := Lib.hid hown; clear hown
          go_wp2
          go_loopw [10, 11, 34] (fun lo hi j wi => ∃ n : Nat, n ≤ ts.length ∧ n ≤ k + 1 ∧ j = .int .i64 n ∧ lo = .int .i64 (loS ts xs k n) ∧ hi = .int .i64 (hiS ts xs k n) ∧ wi.ownsRow (w.heap.size + 1) 104 2 u8 k (prs (bands ts shn xs k)) ∧ Below (w.heap.size + 1) (w.alloc (.cells #[.slice ao ts.length cap, .int .i64 shn] 102)) wi) (fun _ _ j _ => ts.length - (intOf j).toNat)
          case atStart => exact ⟨0, Nat.zero_le _, Nat.zero_le _, rfl, rfl, rfl, HO.out, hb⟩
          case round =>
            clear hb hc0 hc1 hsz
            obtain ⟨n, hn, hnk, rfl, rfl, rfl, hown, hb⟩ := hrel
            have HO := Lib.hid hown; clear hown
            have hc0 : wr.cell? ⟨w.heap.size, 0, none⟩ = some (.slice ao ts.length cap) := box_keep hb (by simp) 0
            have hc1 : wr.cell? ⟨w.heap.size, 1, none⟩ = some (.int .i64 shn) := box_keep hb (by simp) 1
            have hsz : w.heap.size + 1 ≤ wr.heap.size := by have := hb.size; simpa using this
            have hbw : Below w.heap.size w wr := ((Below.refl _ _).alloc (Nat.le_refl _) _).trans (hb.mono (by omega))
            obtain ⟨b1, b2, b3, b4⟩ := HBD.out k hlt n hn hnk
            by_cases hgo : n < ts.length ∧ n ≤ k
            · obtain ⟨hg1, hg2⟩ := hgo
              obtain ⟨⟨x1, x2⟩, hx⟩ := get_of_lt hg1
              obtain ⟨y, hy⟩ := get_of_lt (show k - n < xs.length by omega)
              obtain ⟨b, off, rfl⟩ := HC.out.addr (prs_ne (by omega))
              obtain ⟨bx, ox, rfl⟩ := HX.out.addr (by simpa using List.ne_nil_of_length_pos (by omega))
              have hcell1 := cell_keep (HC.out.at (prs_fst hx)) hbw (Nat.le_refl _)
              have hcell2 := cell_keep (HC.out.at (prs_snd hx)) hbw (Nat.le_refl _)
              rw [← Nat.add_assoc] at hcell2
              simp only at hcell1 hcell2
              have hcell3 := cell_keep (HX.out.int hy) hbw (Nat.le_refl _)
              have t1 := HM5.out _ (List.mem_of_getElem? hx)
              have t2 := HS2.out _ (List.mem_of_getElem? hy)
              simp only at t1
              have p1 := prod_bd (a := x1) (x := y) (by omega) (by omega) (by omega) (by omega)
              have p2 := prod_bd (a := x2) (x := y) (by omega) (by omega) (by omega) (by omega)
              have e1 : loS ts xs k (n + 1) = loS ts xs k n + min (x1 * y) (x2 * y) := by simp [loS, hx, hy]
              have e2 : hiS ts xs k (n + 1) = hiS ts xs k n + max (x1 * y) (x2 * y) := by simp [hiS, hx, hy]
              have E1 := Lib.hid e1; clear e1
              have E2 := Lib.hid e2; clear e2
              clear hx hy
              go_wp2
              have q1 : IntKind.i64.wrap ((k : Int) - n) = (k : Int) - n := IntWalk.i64_in _ (by omega)
              have q2 : 0 ≤ (k : Int) - n := by omega
              have q3 : (k : Int) - n < xs.length := by omega
              have q4 : ((k : Int) - n).toNat = k - n := by omega
              have q5 : IntKind.i64.wrap (x1 * y) = x1 * y := IntWalk.i64_in _ (by omega)
              have q6 : IntKind.i64.wrap (x2 * y) = x2 * y := IntWalk.i64_in _ (by omega)
              have q7 := cell_keep hcell3 ((Below.refl _ _).alloc (Nat.le_refl _) (.cells #[.int .i64 x1, .int .i64 x2] 99)) (Nat.le_refl _)
              go_quiet (fail)
              clear q1 q2 q3 q4 q5 q6 q7
              go_wp2
              go_roundw
              case rel => exact ⟨n + 1, by omega, by omega, by go_num, by first | rw [E1.out, min_if] | rw [E1.out], by first | rw [E2.out, max_if] | rw [E2.out], own_drewN (HO.out.alloc _) _, bel_drewN (hb.alloc hsz _) _⟩
              case measure => simp [intOf]; omega
            · have hn' : n = min ts.length (k + 1) := by omega
              have hfin : bandAt ts shn xs k = (loS ts xs k n / 2 ^ shn, -(-(hiS ts xs k n) / 2 ^ shn)) := by rw [bandAt, ← hn']
              have HF := Lib.hid hfin; clear hfin hn'
              by_cases hex : n < ts.length
              · have hkn : n = k + 1 := by omega
                obtain ⟨⟨x1, x2⟩, hx⟩ := get_of_lt hex
                obtain ⟨b, off, rfl⟩ := HC.out.addr (prs_ne (by omega))
                have hcell1 := cell_keep (HC.out.at (prs_fst hx)) hbw (Nat.le_refl _)
                have hcell2 := cell_keep (HC.out.at (prs_snd hx)) hbw (Nat.le_refl _)
                rw [← Nat.add_assoc] at hcell2
                simp only at hcell1 hcell2
                clear hx
                have hkn' : k < n := by omega
                have HKN := Lib.hid hkn; clear hkn
                go_wp2
                have hoq := HO.out.alloc (.cells #[.int .i64 x1, .int .i64 x2] 99)
                have hbq := hb.alloc hsz (.cells #[.int .i64 x1, .int .i64 x2] 99)
                generalize wr.alloc (.cells #[.int .i64 x1, .int .i64 x2] 99) = wq at *
                clear hb hc0 hc1 hsz hbw hcell1 hcell2
                have hne : ¬ some w.heap.size = u8.ownBlock := fun e => by have := (hoq.lt _ e.symm).1; omega
                have hob : ∀ j, u8.ownBlock = some j → w.heap.size + 1 ≤ j := fun j e => (hoq.lt j e).1
                have HOB := Lib.hid hob; clear hob
                have HOQ := Lib.hid hoq; clear hoq
                have hc1 : wq.cell? ⟨w.heap.size, 1, none⟩ = some (.int .i64 shn) := box_keep hbq (by simp) 1
                have hsz : w.heap.size + 1 ≤ wq.heap.size := by have := hbq.size; simpa using this
                have hd := div_pow_bd (x := -(hiS ts xs k n)) (M := 140737488355328) shn (by omega) (by omega) (by omega)
                have g1 : IntKind.i64.wrap (-(hiS ts xs k n)) = -(hiS ts xs k n) := IntWalk.i64_in _ (by omega)
                have g2 : IntKind.i64.wrap (-(-(hiS ts xs k n) / 2 ^ shn)) = -(-(hiS ts xs k n) / 2 ^ shn) := IntWalk.i64_in _ (by omega)
                have g3 : min shn 64 = shn := by omega
                go_region_held3 (fun w' => w'.cell? ⟨w.heap.size, 1, none⟩ = some (.int .i64 shn))
                  (first | go_keep | (rw [hgrow.cell_far _ (by simp; omega) hne]; assumption))
                  ((refine step_append_lies _ (by rfl) _ _ _ (by rfl) (w.heap.size + 1) 104 i0 _ 2 16 Tryz.underlying95 hi hz0 hz1 hz2 rfl (by omega) u8 k (prs (bands ts shn xs k)) (by rfl) ((HOQ.out.alloc _).drew) ⟨wq.heap.size, 0, none⟩ 1 1 [.int .i64 (loS ts xs k n / 2 ^ shn), .int .i64 (-(-(hiS ts xs k n) / 2 ^ shn))] (by rfl) (by rfl) (World.news_of_block (cs := #[.int .i64 (loS ts xs k n / 2 ^ shn), .int .i64 (-(-(hiS ts xs k n) / 2 ^ shn))]) (t := 104) (fr := (0, 0)) (heap_alloc_new wq _)) (by simp [Value.oneCell']) (by omega) (by unfold maxLen; omega) (by omega) (by simp; omega) (wq.heap.size + 1) (by simp) ?_; intro gg cp wz hown1 hgrow hat hlt1))
                have hfin := hown1
                rw [show prs (bands ts shn xs k) ++ [.int .i64 (loS ts xs k n / 2 ^ shn), .int .i64 (-(-(hiS ts xs k n) / 2 ^ shn))] = prs (bands ts shn xs (k + 1)) from by rw [bands_succ, prs_append, HF.out]; rfl] at hfin
                have hbz := (bel_drewN (hbq.alloc hsz (.cells #[.int .i64 (loS ts xs k n / 2 ^ shn), .int .i64 (-(-(hiS ts xs k n) / 2 ^ shn))] 104)) 1).grown hgrow (by simp; omega) HOB.out
                clear hown1 hgrow g1 g2 g3 hd
                have HFIN := Lib.hid hfin; clear hfin
                go_wp2
                go_roundw
                case rel => exact ⟨k + 1, by omega, by go_num, HFIN.out, hbz⟩
                case measure => simp [intOf]; omega
              · go_wp2
                have hoq := HO.out
                have hbq := hb
                obtain ⟨wq, rfl⟩ : ∃ wq : World, wq = wr := ⟨_, rfl⟩
                clear hb hc0 hc1 hsz hbw
                have hne : ¬ some w.heap.size = u8.ownBlock := fun e => by have := (hoq.lt _ e.symm).1; omega
                have hob : ∀ j, u8.ownBlock = some j → w.heap.size + 1 ≤ j := fun j e => (hoq.lt j e).1
                have HOB := Lib.hid hob; clear hob
                have HOQ := Lib.hid hoq; clear hoq
                have hc1 : wq.cell? ⟨w.heap.size, 1, none⟩ = some (.int .i64 shn) := box_keep hbq (by simp) 1
                have hsz : w.heap.size + 1 ≤ wq.heap.size := by have := hbq.size; simpa using this
                have hd := div_pow_bd (x := -(hiS ts xs k n)) (M := 140737488355328) shn (by omega) (by omega) (by omega)
                have g1 : IntKind.i64.wrap (-(hiS ts xs k n)) = -(hiS ts xs k n) := IntWalk.i64_in _ (by omega)
                have g2 : IntKind.i64.wrap (-(-(hiS ts xs k n) / 2 ^ shn)) = -(-(hiS ts xs k n) / 2 ^ shn) := IntWalk.i64_in _ (by omega)
                have g3 : min shn 64 = shn := by omega
                go_region_held3 (fun w' => w'.cell? ⟨w.heap.size, 1, none⟩ = some (.int .i64 shn))
                  (first | go_keep | (rw [hgrow.cell_far _ (by simp; omega) hne]; assumption))
                  ((refine step_append_lies _ (by rfl) _ _ _ (by rfl) (w.heap.size + 1) 104 i0 _ 2 16 Tryz.underlying95 hi hz0 hz1 hz2 rfl (by omega) u8 k (prs (bands ts shn xs k)) (by rfl) ((HOQ.out.alloc _).drew) ⟨wq.heap.size, 0, none⟩ 1 1 [.int .i64 (loS ts xs k n / 2 ^ shn), .int .i64 (-(-(hiS ts xs k n) / 2 ^ shn))] (by rfl) (by rfl) (World.news_of_block (cs := #[.int .i64 (loS ts xs k n / 2 ^ shn), .int .i64 (-(-(hiS ts xs k n) / 2 ^ shn))]) (t := 104) (fr := (0, 0)) (heap_alloc_new wq _)) (by simp [Value.oneCell']) (by omega) (by unfold maxLen; omega) (by omega) (by simp; omega) (wq.heap.size + 1) (by simp) ?_; intro gg cp wz hown1 hgrow hat hlt1))
                have hfin := hown1
                rw [show prs (bands ts shn xs k) ++ [.int .i64 (loS ts xs k n / 2 ^ shn), .int .i64 (-(-(hiS ts xs k n) / 2 ^ shn))] = prs (bands ts shn xs (k + 1)) from by rw [bands_succ, prs_append, HF.out]; rfl] at hfin
                have hbz := (bel_drewN (hbq.alloc hsz (.cells #[.int .i64 (loS ts xs k n / 2 ^ shn), .int .i64 (-(-(hiS ts xs k n) / 2 ^ shn))] 104)) 1).grown hgrow (by simp; omega) HOB.out
                clear hown1 hgrow g1 g2 g3 hd
                have HFIN := Lib.hid hfin; clear hfin
                go_wp2
                go_roundw
                case rel => exact ⟨k + 1, by omega, by go_num, HFIN.out, hbz⟩
                case measure => simp [intOf]; omega
        · obtain rfl : k = xs.length := by omega
          obtain ⟨a, c, rfl, hcs⟩ := own_cells hown
          have hst : strain ts shn xs = bands ts shn xs xs.length := by simp [strain, strErr, H1.out, H2.out]
          have hse : strErr ts shn xs = 0 := by simp [strErr, H1.out, H2.out]
          have HST := Lib.hid hst; clear hst
          have HSE := Lib.hid hse; clear hse
          have HCS := Lib.hid hcs; clear hcs
          have HO := Lib.hid hown; clear hown
          go_wp2
          go_ret2
          refine ⟨⟨a, c, ?_, ?_⟩, ((Below.refl _ _).alloc (Nat.le_refl _) _).trans (hb.mono (by omega))⟩
          · rw [HST.out, HSE.out, bands_length]; rfl
          · rw [HST.out]; exact HCS.out
    · have hst : strain ts sh xs = [] := by simp [strain, strErr, h1, h2]
      have hse : strErr ts sh xs = serErr xs := by simp [strErr, h1]
      have HST := Lib.hid hst; clear hst
      have HSE := Lib.hid hse; clear hse
      have h3 : (serErr xs != 0) = true := by simpa using h2
      have h4 : (serErr xs == 0) = false := by simpa using h2
      go_enter Tryz.func64, Tryz.ntmps64
      go_wp2_with fail
      refine (checkModel_any ao ts cap sh _ (HC.out.below ((Below.refl _ _).alloc (Nat.le_refl _) _) (Nat.le_refl _)) hl).mono ?_
      rintro e w1 ⟨rfl, hb⟩
      rw [h1]
      go_wp2_with fail
      refine (checkSeries_any ax xs cx _ (HX.out.below (((Below.refl _ _).alloc (Nat.le_refl _) _).trans (hb.mono (by simp))) (Nat.le_refl _)) hlx).mono ?_
      rintro e w2 ⟨rfl, hb2⟩
      go_wp2
      go_ret2
      refine ⟨⟨none, 0, ?_, ?_⟩, (((Below.refl _ _).alloc (Nat.le_refl _) _).trans (hb.mono (by simp))).trans (hb2.mono (by have := hb.size; simp at this; omega))⟩
      · rw [HST.out, HSE.out]; rfl
      · rw [HST.out]; exact Cells.nil _ _
  · have hst : strain ts sh xs = [] := by simp [strain, strErr, h1]
    have hse : strErr ts sh xs = modErr ts sh := by simp [strErr, h1]
    have HST := Lib.hid hst; clear hst
    have HSE := Lib.hid hse; clear hse
    have h3 : (modErr ts sh != 0) = true := by simpa using h1
    have h4 : (modErr ts sh == 0) = false := by simpa using h1
    go_enter Tryz.func64, Tryz.ntmps64
    go_wp2_with fail
    refine (checkModel_any ao ts cap sh _ (HC.out.below ((Below.refl _ _).alloc (Nat.le_refl _) _) (Nat.le_refl _)) hl).mono ?_
    rintro e w1 ⟨rfl, hb⟩
    go_wp2
    go_ret2
    refine ⟨⟨none, 0, ?_, ?_⟩, ((Below.refl _ _).alloc (Nat.le_refl _) _).trans (hb.mono (by simp))⟩
    · rw [HST.out, HSE.out]; rfl
    · rw [HST.out]; exact Cells.nil _ _
end Go.Proofs.YtoochleabcjljaaGreatDoor

/- Lines: lined, Inject, amplitude. -/
namespace Go.Proofs.YtoochleabcjljaaGreatDoor
open Go.RowKit

def linedErr (sh xs : List Int) : Int := if lineErr sh ≠ 0 then lineErr sh else serErr xs

theorem lined_any (ao : Option Addr) (sh : List Int) (cap : Nat) (ax : Option Addr) (xs : List Int) (cx : Nat) (w : World) (hc : Cells w ao (sh.map (Value.int .i64))) (hl : sh.length ≤ 17592186044416) (hx : Cells w ax (xs.map (Value.int .i64))) (hlx : xs.length ≤ 9223372036854775807) :
    Calls Tryz.prog 56 #[.slice ao sh.length cap, .slice ax xs.length cx] w fun e w' => e = .returned (.int .i64 (linedErr sh xs)) ∧ Below w.heap.size w w' := by
  have HC := Lib.hid hc; clear hc
  have HX := Lib.hid hx; clear hx
  by_cases h1 : lineErr sh = 0
  · have he : linedErr sh xs = serErr xs := by simp [linedErr, h1]
    have HE := Lib.hid he; clear he
    have H1 := Lib.hid h1; clear h1
    go_enter Tryz.func56, Tryz.ntmps56
    go_wp2_with fail
    refine (checkLine_any ao sh cap _ HC.out hl).mono ?_
    rintro e w1 ⟨rfl, rfl⟩
    rw [H1.out]
    go_wp2_with fail
    refine (checkSeries_any ax xs cx _ HX.out hlx).mono ?_
    rintro e w2 ⟨rfl, hb2⟩
    go_wp2
    go_ret
    exact ⟨ret_int HE.out.symm, hb2⟩
  · have he : linedErr sh xs = lineErr sh := by simp [linedErr, h1]
    have HE := Lib.hid he; clear he
    have h3 : (lineErr sh != 0) = true := by simpa using h1
    have h4 : (lineErr sh == 0) = false := by simpa using h1
    go_enter Tryz.func56, Tryz.ntmps56
    go_wp2_with fail
    refine (checkLine_any ao sh cap _ HC.out hl).mono ?_
    rintro e w1 ⟨rfl, rfl⟩
    go_wp2
    go_ret
    exact ⟨ret_int HE.out.symm, Below.refl _ _⟩

theorem lineErr_zero {xs : List Int} (h : lineErr xs = 0) : 2 ≤ xs.length ∧ xs.length ≤ 32 ∧ sumL xs = 0 ∧ ∀ x ∈ xs, -1000 ≤ x ∧ x ≤ 1000 := by
  have h1 : lineOK xs = true := by
    cases e : lineOK xs
    · simp [lineErr, e] at h
    · rfl
  simp only [lineOK, inB, Bool.and_eq_true, decide_eq_true_eq, List.all_eq_true] at h1
  exact ⟨by omega, by omega, h1.2.2.1, h1.1⟩

theorem linedErr_zero {sh xs : List Int} (h : linedErr sh xs = 0) : lineErr sh = 0 ∧ serErr xs = 0 := by
  by_cases h1 : lineErr sh = 0
  · exact ⟨h1, by simpa [linedErr, h1] using h⟩
  · simp [linedErr, h1] at h

def injAt (sh : List Int) (a : Int) (xs : List Int) (t : Nat) : Int := xs.getD t 0 + a * sh.getD (t % sh.length) 0
def inj (sh : List Int) (a : Int) (xs : List Int) (n : Nat) : List Int := (List.range n).map (injAt sh a xs)
theorem inj_length (sh : List Int) (a : Int) (xs : List Int) (n : Nat) : (inj sh a xs n).length = n := by simp [inj]
theorem inj_succ (sh : List Int) (a : Int) (xs : List Int) (n : Nat) : inj sh a xs (n + 1) = inj sh a xs n ++ [injAt sh a xs n] := by simp [inj, List.range_succ]
def injErr (sh : List Int) (a : Int) (xs : List Int) : Int :=
  if linedErr sh xs ≠ 0 then linedErr sh xs else if inB (-1000) a 1000 = false then 8 else if serOK (inj sh a xs xs.length) = false then 8 else 0
def injRes (sh : List Int) (a : Int) (xs : List Int) : List Int := if injErr sh a xs = 0 then inj sh a xs xs.length else []

theorem mul_bd {a x A X : Int} (h1 : -A ≤ a) (h2 : a ≤ A) (h3 : -X ≤ x) (h4 : x ≤ X) : -(A * X) ≤ a * x ∧ a * x ≤ A * X := by
  have ha : a.natAbs ≤ A.natAbs := by omega
  have hx : x.natAbs ≤ X.natAbs := by omega
  have h := Nat.mul_le_mul ha hx
  rw [← Int.natAbs_mul, ← Int.natAbs_mul] at h
  have : 0 ≤ A * X := Int.mul_nonneg (by omega) (by omega)
  omega

theorem Tryz.infoInt : (Tryz.prog.info? 3).map (fun i => (i.zero, i.size, i.bytes)) = some (some (.int .i64 0), 1, 8) := by kernel_rfl

set_option maxRecDepth 100000 in
set_option maxHeartbeats 1000000 in
theorem inject_any (ao : Option Addr) (sh : List Int) (cap : Nat) (a : Int) (ax : Option Addr) (xs : List Int) (cx : Nat) (w : World) (hc : Cells w ao (sh.map (Value.int .i64))) (hl : sh.length ≤ 17592186044416) (hx : Cells w ax (xs.map (Value.int .i64))) (hlx : xs.length ≤ 9223372036854775807) :
    Calls Tryz.prog 15 #[.slice ao sh.length cap, .int .i64 a, .slice ax xs.length cx] w fun e w' => (∃ b c, e = .returned (.tuple #[.slice b (injRes sh a xs).length c, .int .i64 (injErr sh a xs)]) ∧ Cells w' b ((injRes sh a xs).map (Value.int .i64))) ∧ Below w.heap.size w w' := by
  have HC := Lib.hid hc; clear hc
  have HX := Lib.hid hx; clear hx
  by_cases h1 : linedErr sh xs = 0
  · cases h2 : inB (-1000) a 1000
    · have he : injErr sh a xs = 8 := by simp [injErr, h1, h2]
      have hr : injRes sh a xs = [] := by simp [injRes, he]
      have HE := Lib.hid he; clear he
      have HR := Lib.hid hr; clear hr
      have H1 := Lib.hid h1; clear h1
      go_enter Tryz.func15, Tryz.ntmps15
      go_wp2_with fail
      refine (lined_any ao sh cap ax xs cx _ HC.out hl HX.out hlx).mono ?_
      rintro e w1 ⟨rfl, hb⟩
      rw [H1.out]
      go_wp2_with fail
      refine (within_any _ _ _ _).mono ?_
      rintro e w2 ⟨rfl, rfl⟩
      go_wp2
      go_ret2
      exact ⟨⟨none, 0, by rw [HE.out, HR.out]; rfl, by rw [HR.out]; exact Cells.nil _ _⟩, hb⟩
    · obtain ⟨hl1, hl2⟩ := linedErr_zero h1
      have l1 := lineErr_zero hl1
      have l2 := serErr_zero hl2
      obtain ⟨l11, l12, _, l13⟩ := l1
      obtain ⟨l21, l22⟩ := l2
      have ha : -1000 ≤ a ∧ a ≤ 1000 := by simpa [inB] using h2
      obtain ⟨ha1, ha2⟩ := ha
      have he : injErr sh a xs = if serOK (inj sh a xs xs.length) = false then 8 else 0 := by simp [injErr, h1, h2]
      have HE := Lib.hid he; clear he
      have H1 := Lib.hid h1; clear h1
      have L13 := Lib.hid l13; clear l13
      have L22 := Lib.hid l22; clear l22
      have H2 := Lib.hid h2; clear h2
      clear hl1 hl2
      obtain ⟨i0, hi, hz0, hz1, hz2⟩ := info_parts Tryz.infoInt
      go_enter Tryz.func15, Tryz.ntmps15
      go_wp2_with fail
      refine (lined_any ao sh cap ax xs cx _ HC.out hl HX.out hlx).mono ?_
      rintro e w1 ⟨rfl, hb⟩
      rw [H1.out]
      go_wp2_with fail
      refine (within_any _ _ _ _).mono ?_
      rintro e w2 ⟨rfl, rfl⟩
      rw [H2.out]
      go_wp2
      go_loopw [9, 23] (fun v i wr => ∃ k : Nat, k ≤ xs.length ∧ i = .int .i64 k ∧ wr.ownsRow w.heap.size 3 1 v k ((inj sh a xs k).map (Value.int .i64)) ∧ Below w.heap.size w wr) (fun _ i _ => xs.length - (intOf i).toNat)
      case atStart => exact ⟨0, Nat.zero_le _, rfl, World.ownsRow_nil _ _ _ _, hb⟩
      case round =>
        clear hb
        obtain ⟨k, hk, rfl, hown, hb⟩ := hrel
        by_cases hlt : k < xs.length
        · obtain ⟨x, hx⟩ := get_of_lt hlt
          have hm0 : k % sh.length < sh.length := Nat.mod_lt _ (by omega)
          obtain ⟨y, hy⟩ := get_of_lt hm0
          obtain ⟨b, off, rfl⟩ := HC.out.addr (by simpa using List.ne_nil_of_length_pos (by omega))
          obtain ⟨bx, ox, rfl⟩ := HX.out.addr (by simpa using List.ne_nil_of_length_pos (by omega))
          have c1 := cell_keep (HX.out.int hx) hb (Nat.le_refl _)
          have c2 := cell_keep (HC.out.int hy) hb (Nat.le_refl _)
          have t1 := L22.out _ (List.mem_of_getElem? hx)
          have t2 := L13.out _ (List.mem_of_getElem? hy)
          have p1 := mul_bd ha1 ha2 t2.1 t2.2
          obtain ⟨t11, t12⟩ := t1
          obtain ⟨p11, p12⟩ := p1
          have hat : injAt sh a xs k = x + a * y := by simp [injAt, hx, hy]
          have HAT := Lib.hid hat; clear hat hx hy
          have hsz := hb.size
          have HOB : Hid (∀ j, u9.ownBlock = some j → w.heap.size ≤ j) := fun j e => (hown.lt j e).1
          go_wp2_with (at_builtin; refine wpList_append_own _ rfl _ _ 22 rfl w.heap.size 3 i0 (.int .i64 0) 1 8 Tryz.underlying22 hi hz0 hz1 hz2 rfl (by decide) _ _ _ rfl (hown.alloc _) ⟨wr.heap.size, 0, none⟩ 1 1 [.int .i64 (x + a * y)] rfl rfl (news1 _ _ _) (by simp [Value.oneCell']) (by unfold maxLen; omega) (by omega) (by simp; omega) ?_; intro v1 wz hown1 hgrow _)
          all_goals
            have hfin := hown1
            rw [show (inj sh a xs k).map (Value.int .i64) ++ [.int .i64 (x + a * y)] = (inj sh a xs (k + 1)).map (Value.int .i64) from by rw [inj_succ, List.map_append, HAT.out]; rfl] at hfin
            have hbz := (hb.alloc hsz (.cells #[.int .i64 (x + a * y)] 3)).grown hgrow (by simp; omega) HOB.out
            clear hown1 hgrow hown
            have HFIN := Lib.hid hfin; clear hfin
            go_wp2
            go_roundw
            case rel => exact ⟨k + 1, by omega, by go_num, HFIN.out, hbz⟩
            case measure => simp [intOf]; omega
        · obtain rfl : k = xs.length := by omega
          obtain ⟨g, c, rfl, hcs⟩ := own_cells hown
          have hli : (inj sh a xs xs.length).length = xs.length := inj_length _ _ _ _
          have HCS := Lib.hid hcs; clear hcs hown
          have hser := fun (wx : World) (h : Cells wx g ((inj sh a xs xs.length).map (Value.int .i64))) => seriesOK_any g (inj sh a xs xs.length) c wx h (by rw [hli]; omega)
          rw [hli] at hser
          have HL := Lib.hid hli; clear hli
          have HSER := Lib.hid hser; clear hser
          cases hok : serOK (inj sh a xs xs.length)
          · have he : injErr sh a xs = 8 := by rw [HE.out, hok]; rfl
            have hr : injRes sh a xs = [] := by simp [injRes, he]
            have HE2 := Lib.hid he; clear he
            have HR2 := Lib.hid hr; clear hr
            have HOK := Lib.hid hok; clear hok
            go_wp2_with fail
            refine (HSER.out _ HCS.out).mono ?_
            rintro e w2 ⟨rfl, hb2⟩
            rw [HOK.out]
            go_wp2
            go_ret2
            exact ⟨⟨none, 0, by rw [HE2.out, HR2.out]; rfl, by rw [HR2.out]; exact Cells.nil _ _⟩, hb.trans (hb2.mono hb.size)⟩
          · have he : injErr sh a xs = 0 := by rw [HE.out, hok]; rfl
            have hr : injRes sh a xs = inj sh a xs xs.length := by simp [injRes, he]
            have HE2 := Lib.hid he; clear he
            have HR2 := Lib.hid hr; clear hr
            have HOK := Lib.hid hok; clear hok
            go_wp2_with fail
            refine (HSER.out _ HCS.out).mono ?_
            rintro e w2 ⟨rfl, hb2⟩
            rw [HOK.out]
            go_wp2
            go_ret2
            exact ⟨⟨g, c, by rw [HE2.out, HR2.out, HL.out]; rfl, by rw [HR2.out]; exact HCS.out.below hb2 (Nat.le_refl _)⟩, hb.trans (hb2.mono hb.size)⟩
  · have he : injErr sh a xs = linedErr sh xs := by simp [injErr, h1]
    have hr : injRes sh a xs = [] := by simp [injRes, he, h1]
    have HE := Lib.hid he; clear he
    have HR := Lib.hid hr; clear hr
    have h3 : (linedErr sh xs != 0) = true := by simpa using h1
    have h4 : (linedErr sh xs == 0) = false := by simpa using h1
    go_enter Tryz.func15, Tryz.ntmps15
    go_wp2_with fail
    refine (lined_any ao sh cap ax xs cx _ HC.out hl HX.out hlx).mono ?_
    rintro e w1 ⟨rfl, hb⟩
    go_wp2
    go_ret2
    exact ⟨⟨none, 0, by rw [HE.out, HR.out]; rfl, by rw [HR.out]; exact Cells.nil _ _⟩, hb⟩
end Go.Proofs.YtoochleabcjljaaGreatDoor

/- Codes of the chapter: binary, unary. -/
namespace Go.Proofs.YtoochleabcjljaaGreatDoor
open Go.RowKit

theorem grown_refl (w : World) (row : Option Nat) : w.grownBy w row := ⟨rfl, rfl, rfl, Nat.le_refl _, fun _ _ _ => rfl⟩
/-- append of a row of one's own, nil or not, to another one -/
theorem wpList_append_two {P : Program} {w : World} {ops : Array Oper} {rest : List Oper} {o : Oper} {a : Act} {Q : Exit → Act → World → Prop} (hgd : o.guard = none) (s x : Operand) (t : TypeId)
    (ho : o.op = .call { callee := .builtin .append, args := #[s, x], argTypes := #[t, t] })
    (base : Nat) (e : TypeId) (i : TypeInfo) (z : Value) (size bytes : Nat) (ht : P.underlying t = some (.slice e)) (hi : P.info? e = some i) (hz : i.zero = some z)
    (hsize : i.size = size) (hby : i.bytes = bytes) (hzs : z.cells.size = size) (hsz : 0 < size)
    (v : Value) (n : Nat) (xs : List Value) (hs : a.eval s = v) (hown : w.ownsRow base e size v n xs)
    (b2 : Nat) (vx : Value) (m : Nat) (news : List Value) (hx : a.eval x = vx) (hown2 : w.ownsRow b2 e size vx m news) (h1 : ∀ u ∈ news, u.oneCell' = true)
    (h63 : n + m ≤ maxLen) (hbytes : (n + m) * bytes ≤ 140737488355328) (hbase : base ≤ w.heap.size)
    (h : ∀ v' w', w'.ownsRow base e size v' (n + m) (xs ++ news) → w.grownBy w' v.ownBlock → (v'.ownBlock = v.ownBlock ∨ v'.ownBlock = some w.heap.size) → wpList P ops Q rest (a.put o.dst v') w') : wpList P ops Q (o :: rest) a w := by
  have hown2' := hown2
  obtain ⟨h0, h2⟩ := hown2
  rcases h2 with ⟨rfl, rfl⟩ | ⟨g, cap, cur, rfl, hb, hg, hn, hm, hs2, ht2⟩
  · have hnil : news = [] := by simpa using h0
    subst hnil
    refine wpList_append_own_none hgd s x t ho base e i size ht hi v n xs hs hown hx (h v w ?_ (grown_refl _ _) (.inl rfl))
    rw [List.append_nil]; exact hown
  · refine wpList_append_own_at w hgd s x t ho base e i z size bytes ht hi hz hsize hby hzs hsz v n xs hs hown ⟨g, 0, none⟩ m cap news hx h0 (fun j u hu => ?_) h1 h63 hbytes hbase fun v' w' h5 h6 _ h7 => h v' w' h5 h6 h7
    exact World.ownsRow.cells hown2' rfl j u hu
theorem bts_one (l : List Nat) : ∀ u ∈ bts l, u.oneCell' = true := by
  intro u hu; obtain ⟨d, _, rfl⟩ := List.mem_map.1 hu; rfl

set_option maxRecDepth 100000 in
theorem refBinary_any (n : Int) (k : Nat) (w : World) (hn0 : 0 ≤ n) (hn1 : n ≤ 4294967295) (hk : k ≤ 32) :
    Calls Tryz.prog 180 #[.int .i64 n, .int .i64 (k : Nat)] w fun e w' => (∃ v, e = .returned v ∧ w'.ownsRow w.heap.size 3 1 v k (bts (binL n k))) ∧ Below w.heap.size w w' := by
  obtain ⟨i0, hi, hz0, hz1, hz2⟩ := info_parts Tryz.infoInt
  go_enter Tryz.func180, Tryz.ntmps180
  go_wp2
  go_loopw [5, 6] (fun v i wr => ∃ m : Nat, m ≤ k ∧ i = .int .i64 ((m : Int) - 1) ∧ wr.ownsRow w.heap.size 3 1 v (k - m) (bts ((binL n k).take (k - m))) ∧ Below w.heap.size w wr) (fun _ i _ => (intOf i + 1).toNat)
  case atStart => exact ⟨k, Nat.le_refl _, rfl, by rw [Nat.sub_self]; exact World.ownsRow_nil _ _ _ _, Below.refl _ _⟩
  case round =>
    obtain ⟨m, hm, rfl, hown, hb⟩ := hrel
    by_cases h0 : m = 0
    · subst h0
      rw [Nat.sub_zero, List.take_of_length_le (by rw [binL_length]; omega)] at hown
      have HO := Lib.hid hown; clear hown
      go_wp2
      go_ret
      exact ⟨⟨_, rfl, HO.out⟩, hb⟩
    · obtain ⟨q, rfl⟩ : ∃ q, m = q + 1 := ⟨m - 1, by omega⟩
      have e1 : (((q + 1 : Nat) : Int) - 1) = (q : Int) := by omega
      rw [e1]
      have hst := bin_step n (show 0 < q + 1 by omega) hm
      rw [Nat.add_sub_cancel] at hst
      have hx0 : 0 ≤ n / 2 ^ q := Int.ediv_nonneg hn0 (Int.le_of_lt (Int.pow_pos (by decide)))
      have hx1 : n / 2 ^ q ≤ 4294967295 := by have := Int.ediv_le_self (2 ^ q) hn0; omega
      have hand : bits BinOp.and IntKind.i64 (n / 2 ^ q) 1 = ((n / 2 ^ q % 2).toNat : Int) := by rw [bit_and hx0 hx1]; omega
      have hmq : min q 64 = q := by omega
      have hkk : k - q = (k - (q + 1)) + 1 := by omega
      have HST := Lib.hid hst; have HKK := Lib.hid hkk; have HO := Lib.hid hown
      clear hst e1 hkk hown
      generalize (n / 2 ^ q % 2).toNat = b at *
      have hz := hb.size
      go_wp2_with (at_builtin; refine wpList_append_own _ rfl _ _ 22 rfl w.heap.size 3 i0 (.int .i64 0) 1 8 Tryz.underlying22 hi hz0 hz1 hz2 rfl (by decide) _ _ _ rfl (HO.out.alloc _) ⟨wr.heap.size, 0, none⟩ 1 1 [.int .i64 (b : Nat)] rfl rfl (news1 _ _ _) (by simp [Value.oneCell']) (by unfold maxLen; omega) (by omega) (by simp; omega) ?_; intro v1 wz hown1 hgrow _)
      have hbz := (hb.alloc hz (.cells #[.int .i64 (b : Nat)] 3)).grown hgrow (by simp; omega) (fun j e => (HO.out.lt j e).1)
      have hfin : wz.ownsRow w.heap.size 3 1 v1 (k - q) (bts ((binL n k).take (k - q))) := by
        rw [HST.out, HKK.out, bts_append]; exact hown1
      have HF := Lib.hid hfin
      clear hown1 hgrow hfin
      go_wp2
      go_roundw
      case rel => exact ⟨q, by omega, rfl, HF.out, hbz⟩
      case measure => simp [intOf]
theorem refFolded_any (r : Int) (w : World) (h1 : -1099511627776 ≤ r) (h2 : r ≤ 1099511627776) :
    Calls Tryz.prog 220 #[.int .i64 r] w fun e w' => e = .returned (.int .i64 (foldU r)) ∧ w = w' := by
  by_cases h : r < 0
  · have hf : foldU r = -2 * r - 1 := by rw [foldU, if_pos h]
    have HF := Lib.hid hf; clear hf
    go_enter Tryz.func220, Tryz.ntmps220
    go_wp2
    go_ret
    exact ⟨ret_int (by rw [HF.out]), rfl⟩
  · have hf : foldU r = 2 * r := by rw [foldU, if_neg h]
    have HF := Lib.hid hf; clear hf
    go_enter Tryz.func220, Tryz.ntmps220
    go_wp2
    go_ret
    exact ⟨ret_int (by rw [HF.out]), rfl⟩

theorem rep_succ (k : Nat) : bts (List.replicate (k + 1) 1) = bts (List.replicate k 1) ++ [.int .i64 1] := by
  rw [List.replicate_succ', bts_append]; rfl

set_option maxRecDepth 100000 in
set_option maxHeartbeats 1000000 in
theorem refUnary_any (u : Int) (k : Nat) (w : World) (hu0 : 0 ≤ u) (hu1 : u ≤ 4294967295) (hk : k ≤ 30) :
    Calls Tryz.prog 219 #[.int .i64 u, .int .i64 (k : Nat)] w fun e w' => (∃ v, e = .returned v ∧ w'.ownsRow w.heap.size 3 1 v (encU u k).length (bts (encU u k))) ∧ Below w.heap.size w w' := by
  obtain ⟨i0, hi, hz0, hz1, hz2⟩ := info_parts Tryz.infoInt
  have hq0 : 0 ≤ u / 2 ^ k := Int.ediv_nonneg hu0 (Int.le_of_lt (Int.pow_pos (by decide)))
  have hq1 : u / 2 ^ k ≤ 4294967295 := by have := Int.ediv_le_self (2 ^ k) hu0; omega
  obtain ⟨q, hq⟩ := Int.eq_ofNat_of_zero_le hq0
  have hmq : min k 64 = k := by omega
  have hlt : q < 20 → encU u k = List.replicate q 1 ++ 0 :: binL u k := fun h => encU_lt hq h
  have hge : 20 ≤ q → encU u k = List.replicate 20 1 ++ binL u 32 := fun h => encU_ge (by rw [hq]; omega)
  have HLT := Lib.hid hlt; have HGE := Lib.hid hge
  clear hlt hge
  have hqq : (q : Int) ≤ 4294967295 := by rw [← hq]; exact hq1
  clear hq0 hq1
  go_enter Tryz.func219, Tryz.ntmps219
  go_wp2
  clear hq
  go_loopw [5, 7] (fun v i wr => ∃ m : Nat, m ≤ q ∧ m ≤ 20 ∧ i = .int .i64 m ∧ wr.ownsRow w.heap.size 3 1 v m (bts (List.replicate m 1)) ∧ Below w.heap.size w wr) (fun _ i _ => q - (intOf i).toNat)
  case atStart => exact ⟨0, Nat.zero_le _, Nat.zero_le _, rfl, World.ownsRow_nil _ _ _ _, Below.refl _ _⟩
  case round =>
    obtain ⟨m, hm, hm2, rfl, hown, hb⟩ := hrel
    have hz := hb.size
    have HO := Lib.hid hown; clear hown
    by_cases h1 : m < q ∧ m < 20
    · obtain ⟨h1, h2⟩ := h1
      have i1 : (m : Int) < q := by omega
      go_wp2_with (at_builtin; refine wpList_append_own _ rfl _ _ 22 rfl w.heap.size 3 i0 (.int .i64 0) 1 8 Tryz.underlying22 hi hz0 hz1 hz2 rfl (by decide) _ _ _ rfl (HO.out.alloc _) ⟨wr.heap.size, 0, none⟩ 1 1 [.int .i64 1] rfl rfl (news1 _ _ _) (by simp [Value.oneCell']) (by unfold maxLen; omega) (by omega) (by simp; omega) ?_; intro v1 wz hown1 hgrow _)
      have hbz := (hb.alloc hz (.cells #[.int .i64 1] 3)).grown hgrow (by simp; omega) (fun j e => (HO.out.lt j e).1)
      rw [← rep_succ] at hown1
      have HF := Lib.hid hown1
      clear hown1 hgrow
      go_wp2
      go_roundw
      case rel => exact ⟨m + 1, by omega, by omega, by go_num, HF.out, hbz⟩
      case measure => simp [intOf]; omega
    · by_cases hge : 20 ≤ q
      · obtain rfl : m = 20 := by omega
        have he := HGE.out hge
        have HE := Lib.hid he
        have i1 : (20 : Int) ≤ q := by omega
        clear he h1 HLT HGE
        have hj : (20 : Int) < q ∨ ¬ (20 : Int) < q := by omega
        rcases hj with hj | hj
        all_goals
          go_wp2_with fail
          refine (refBinary_any u 32 _ hu0 hu1 (by omega)).mono ?_
          rintro e w1 ⟨⟨v1, rfl, ho1⟩, hb1⟩
          have HO1 := Lib.hid ho1
          have HOL := Lib.hid (own_below HO.out hb1 (Nat.le_refl _))
          have hbb := hb.trans (hb1.mono hz)
          have hz1' := hbb.size
          have hzz := hb1.size
          clear ho1
          go_wp2_with (at_builtin; refine wpList_append_two rfl _ _ 22 rfl w.heap.size 3 i0 (.int .i64 0) 1 8 Tryz.underlying22 hi hz0 hz1 hz2 rfl (by decide) _ _ _ rfl HOL.out _ _ _ _ rfl HO1.out (bts_one _) (by unfold maxLen; omega) (by omega) (by omega) ?_; intro v2 wz hown2 hgrow hat0)
          have hbz := hbb.grown hgrow (by omega) (fun j e => (HOL.out.lt j e).1)
          rw [← bts_append] at hown2
          have HF := Lib.hid hown2
          clear hown2 hgrow
          go_wp2
          go_ret
          exact ⟨⟨_, rfl, by rw [HE.out, List.length_append, List.length_replicate, binL_length]; exact HF.out⟩, hbz⟩
      · obtain rfl : m = q := by omega
        have he := HLT.out (by omega)
        have HE := Lib.hid he
        have i1 : ¬ (20 : Int) ≤ m := by omega
        clear he h1 HLT HGE hge
        go_wp2_with (at_builtin; refine wpList_append_own _ rfl _ _ 22 rfl w.heap.size 3 i0 (.int .i64 0) 1 8 Tryz.underlying22 hi hz0 hz1 hz2 rfl (by decide) _ _ _ rfl (HO.out.alloc _) ⟨wr.heap.size, 0, none⟩ 1 1 [.int .i64 0] rfl rfl (news1 _ _ _) (by simp [Value.oneCell']) (by unfold maxLen; omega) (by omega) (by simp; omega) ?_; intro v1 wz hown1 hgrow _)
        have hbz := (hb.alloc hz (.cells #[.int .i64 0] 3)).grown hgrow (by simp; omega) (fun j e => (HO.out.lt j e).1)
        have HF := Lib.hid hown1
        have hzz := hbz.size
        clear hown1 hgrow
        go_wp2_with fail
        refine (refBinary_any u k _ hu0 hu1 (by omega)).mono ?_
        rintro e w1 ⟨⟨v2, rfl, ho1⟩, hb1⟩
        have HO1 := Lib.hid ho1
        have HOL := Lib.hid (own_below HF.out hb1 (Nat.le_refl _))
        have hbb := hbz.trans (hb1.mono hzz)
        have hz1' := hbb.size
        clear ho1
        go_wp2_with (at_builtin; refine wpList_append_two rfl _ _ 22 rfl w.heap.size 3 i0 (.int .i64 0) 1 8 Tryz.underlying22 hi hz0 hz1 hz2 rfl (by decide) _ _ _ rfl HOL.out _ _ _ _ rfl HO1.out (bts_one _) (by unfold maxLen; omega) (by omega) (by omega) ?_; intro v3 wy hown2 hgrow hat0)
        have hby := hbb.grown hgrow (by omega) (fun j e => (HOL.out.lt j e).1)
        have HG := Lib.hid hown2
        clear hown2 hgrow
        go_wp2
        go_ret
        refine ⟨⟨_, rfl, ?_⟩, hby⟩
        rw [HE.out, List.length_append, List.length_cons, List.length_replicate, binL_length]
        have h9 := HG.out
        rw [show m + 1 + k = m + (k + 1) from by omega, show bts (List.replicate m 1) ++ [Value.int .i64 0] ++ bts (binL u k) = bts (List.replicate m 1 ++ 0 :: binL u k) from by rw [bts_append, List.append_assoc]; rfl] at h9
        exact h9
end Go.Proofs.YtoochleabcjljaaGreatDoor

/- Codes of the chapter: residues. -/
namespace Go.Proofs.YtoochleabcjljaaGreatDoor
open Go.RowKit

theorem diffs_take {ys : List Int} {k : Nat} (hk : k < ys.length) : (diffs ys).take (k + 1) = (diffs ys).take k ++ [if k = 0 then ys.getD 0 0 else ys.getD k 0 - ys.getD (k - 1) 0] := take_get (diffs_get hk)

set_option maxRecDepth 100000 in
set_option maxHeartbeats 1000000 in
theorem refResidues_any (ao : Option Addr) (xs : List Int) (cap : Nat) (o : Nat) : ∀ (w : World) (_ : Cells w ao (xs.map (Value.int .i64))) (_ : xs.length ≤ 4096) (_ : o ≤ 3) (_ : ∀ x ∈ xs, -8388608 ≤ x ∧ x ≤ 8388608),
    Calls Tryz.prog 218 #[.slice ao xs.length cap, .int .i64 (o : Nat)] w fun e w' => (∃ a c, e = .returned (.slice a (resid xs o).length c) ∧ Cells w' a ((resid xs o).map (Value.int .i64)) ∧ (a = ao ∨ ∀ b off, a = some ⟨b, off, none⟩ → w.heap.size ≤ b)) ∧ Below w.heap.size w w' := by
  induction o with
  | zero =>
    intro w hc hl ho hx
    have HC := Lib.hid hc; clear hc hx
    go_enter Tryz.func218, Tryz.ntmps218
    go_wp2
    go_ret
    exact ⟨⟨ao, cap, rfl, HC.out, .inl rfl⟩, Below.refl _ _⟩
  | succ o ih =>
    intro w hc hl ho hx
    have hih := ih w hc hl (by omega) hx
    have hrb := resid_bd hx o (by omega)
    have hrl := resid_length xs o
    have hrs : resid xs (o + 1) = diffs (resid xs o) := rfl
    rw [hrs]
    clear hrs hc hx
    generalize resid xs o = ys at *
    have HIH := Lib.hid hih; have HRB := Lib.hid hrb
    have hyl : ys.length ≤ 4096 := by omega
    have hdl := diffs_length ys
    have HDL := Lib.hid hdl
    clear hih hrb hrl ih hdl
    obtain ⟨i0, hi, hz0, hz1, hz2⟩ := info_parts Tryz.infoInt
    go_enter Tryz.func218, Tryz.ntmps218
    go_wp2_with fail
    refine HIH.out.mono ?_
    rintro e w1 ⟨⟨a, c, rfl, hca, _⟩, hb1⟩
    have HCA := Lib.hid hca
    have hz1' := hb1.size
    clear hca
    have hrf := Below.refl w1.heap.size w1
    go_wp2
    go_loopw [6, 7] (fun v i wr => ∃ k : Nat, k ≤ ys.length ∧ i = .int .i64 k ∧ wr.ownsRow w1.heap.size 3 1 v k (((diffs ys).take k).map (Value.int .i64)) ∧ Below w1.heap.size w1 wr) (fun _ i _ => ys.length - (intOf i).toNat)
    case atStart => exact ⟨0, Nat.zero_le _, rfl, World.ownsRow_nil _ _ _ _, hrf⟩
    case round =>
      clear hrf
      obtain ⟨k, hk, rfl, hown, hbr⟩ := hrel
      have HO := Lib.hid hown; clear hown
      have hz := hbr.size
      by_cases hlt : k < ys.length
      · have hdt := diffs_take hlt
        obtain ⟨x, hx⟩ := get_of_lt hlt
        have hxb := HRB.out x (List.mem_of_getElem? hx)
        obtain ⟨b, off, rfl⟩ := HCA.out.addr (by simpa using List.ne_nil_of_length_pos (by omega))
        have hbl : b < w1.heap.size := by have := World.block_lt_of_cell? w1 _ (HCA.out.int hx); simpa using this
        have c1 := cell_keep (HCA.out.int hx) hbr (Nat.le_refl _)
        obtain ⟨hx1, hx2⟩ := hxb
        rcases Nat.eq_zero_or_pos k with h0 | h0
        · subst h0
          have hst : ((diffs ys).take 1).map (Value.int .i64) = ((diffs ys).take 0).map (Value.int .i64) ++ [.int .i64 x] := by
            rw [hdt, if_pos rfl, List.getD_eq_getElem?_getD, hx, List.map_append]; rfl
          have HST := Lib.hid hst
          rw [Nat.add_zero] at c1
          clear hst hdt hx
          go_wp2_with (at_builtin; refine wpList_append_own _ rfl _ _ 22 rfl w1.heap.size 3 i0 (.int .i64 0) 1 8 Tryz.underlying22 hi hz0 hz1 hz2 rfl (by decide) _ _ _ rfl (HO.out.alloc _) ⟨wr.heap.size, 0, none⟩ 1 1 [.int .i64 x] rfl rfl (news1 _ _ _) (by simp [Value.oneCell']) (by unfold maxLen; omega) (by omega) (by simp; omega) ?_; intro v1 wz hown1 hgrow _)
          have hbz := (hbr.alloc hz (.cells #[.int .i64 x] 3)).grown hgrow (by simp; omega) (fun j e => (HO.out.lt j e).1)
          have hfin : wz.ownsRow w1.heap.size 3 1 v1 (0 + 1) (((diffs ys).take 1).map (Value.int .i64)) := by
            rw [HST.out]; exact hown1
          have HF := Lib.hid hfin
          clear hown1 hgrow hfin
          go_wp2
          go_roundw
          case rel => exact ⟨1, by omega, rfl, HF.out, hbz⟩
          case measure => simp [intOf]; omega
        · obtain ⟨q, rfl⟩ : ∃ q, k = q + 1 := ⟨k - 1, by omega⟩
          obtain ⟨y, hy⟩ := get_of_lt (show q < ys.length by omega)
          have hyb := HRB.out y (List.mem_of_getElem? hy)
          obtain ⟨hy1, hy2⟩ := hyb
          have c2 := cell_keep (HCA.out.int hy) hbr (Nat.le_refl _)
          have hst : ((diffs ys).take (q + 1 + 1)).map (Value.int .i64) = ((diffs ys).take (q + 1)).map (Value.int .i64) ++ [.int .i64 (x - y)] := by
            rw [hdt, if_neg (by omega), List.getD_eq_getElem?_getD, List.getD_eq_getElem?_getD, hx, Nat.add_sub_cancel, hy, List.map_append]; rfl
          have HST := Lib.hid hst
          clear hst hdt hx hy
          have hblr : b < wr.heap.size := by omega
          have hne : (some b : Option Nat) ≠ u6.ownBlock := fun e => by have := (HO.out.lt b e.symm).1; omega
          have j1 : (0 : Int) ≤ (q : Int) + 1 := by omega
          have j2 : (q : Int) + 1 < ys.length := by omega
          have j3 : (q : Int) < ys.length := by omega
          have j4 : (0 : Int) ≤ (q : Int) := by omega
          have q5 : IntKind.i64.wrap ((q : Int) + 1 - 1) = (q : Int) := by rw [IntWalk.i64_in _ (by omega)]; omega
          have q7 : IntKind.i64.wrap (q : Int) = q := IntWalk.i64_in _ (by omega)
          have q6 : IntKind.i64.wrap (x - y) = x - y := IntWalk.i64_in _ (by omega)
          have q3 : (((q : Int) + 1)).toNat = q + 1 := by omega
          go_wp2
          go_region_held3 (fun w' => w'.cell? ⟨b, off + (q + 1), none⟩ = some (.int .i64 x) ∧ w'.cell? ⟨b, off + q, none⟩ = some (.int .i64 y))
            (first | go_keep | (rw [hgrow.cell_far _ (by simp; omega) hne, hgrow.cell_far _ (by simp; omega) hne]; simp [*]))
            ((refine step_append_lies _ (by rfl) _ _ _ (by rfl) w1.heap.size 3 i0 _ 1 8 Tryz.underlying22 hi hz0 hz1 hz2 rfl (by omega) u6 (q + 1) (((diffs ys).take (q + 1)).map (Value.int .i64)) (by rfl) ((HO.out.alloc _).drew) ⟨wr.heap.size, 0, none⟩ 1 1 [.int .i64 (x - y)] (by rfl) (by rfl) (World.news_of_block (cs := #[.int .i64 (x - y)]) (t := 3) (fr := (0, 0)) (heap_alloc_new wr _)) (by simp [Value.oneCell']) (by omega) (by unfold maxLen; omega) (by omega) (by simp; omega) (wr.heap.size + 1) (by simp) ?_; intro gg cp wz hown1 hgrow hat hlt1))
          have hfin : wz.ownsRow w1.heap.size 3 1 (.slice (some ⟨gg, 0, none⟩) (q + 1 + 1) cp) (q + 1 + 1) (((diffs ys).take (q + 1 + 1)).map (Value.int .i64)) := by
            rw [HST.out]; exact hown1
          have hbz := (bel_drewN (hbr.alloc hz (.cells #[.int .i64 (x - y)] 3)) 1).grown hgrow (by simp; omega) (fun j e => (HO.out.lt j e).1)
          have HF := Lib.hid hfin
          clear hown1 hgrow hfin q5 q6 q3 q7
          go_wp2
          go_roundw
          case rel => exact ⟨q + 1 + 1, by omega, by go_num, HF.out, hbz⟩
          case measure => simp [intOf]; omega
      · obtain rfl : k = ys.length := by omega
        have ho : wr.ownsRow w1.heap.size 3 1 u6 ys.length ((diffs ys).map (Value.int .i64)) := by
          have := HO.out
          rwa [List.take_of_length_le (by rw [HDL.out]; omega)] at this
        have hbf := hb1.trans (hbr.mono hb1.size)
        obtain ⟨g, cg, hv, hcs⟩ := own_cells ho
        have hlt2 : ∀ b off, g = some ⟨b, off, none⟩ → w.heap.size ≤ b := fun b off e => by
          subst e; rw [hv] at ho
          have := (ho.lt b (by simp [Value.ownBlock])).1; omega
        subst hv
        have HCS := Lib.hid hcs; have HG := Lib.hid hlt2
        clear ho hcs hlt2 HO
        go_wp2
        go_ret
        exact ⟨⟨g, cg, by rw [HDL.out]; rfl, HCS.out, .inr HG.out⟩, hbf⟩
end Go.Proofs.YtoochleabcjljaaGreatDoor

/- Codes of the chapter: the bits of a channel. -/
namespace Go.Proofs.YtoochleabcjljaaGreatDoor
open Go.RowKit

theorem flat_take {f : Int → List Nat} {l : List Int} {k : Nat} {x : Int} (h : l[k]? = some x) : (l.take (k + 1)).flatMap f = (l.take k).flatMap f ++ f x := by
  rw [take_get h, List.flatMap_append]; simp
theorem flat_take_le (l : List Int) (sh k : Nat) (hs : sh ≤ 30) : ((l.take k).flatMap fun r => encU (foldU r) sh).length ≤ 52 * l.length := by
  have := flat_length (l.take k) sh hs
  rw [List.length_take] at this; omega

theorem Cells.grown {w w' : World} {row : Option Nat} {ao : Option Addr} {cs : List Value} (h : Cells w ao cs) (hg : w.grownBy w' row) (hne : ∀ b off, ao = some ⟨b, off, none⟩ → cs ≠ [] → some b ≠ row) : Cells w' ao cs := by
  rcases h with h | ⟨b, off, rfl, h2⟩
  · exact .inl h
  · refine .inr ⟨b, off, rfl, fun j u hu => ?_⟩
    have h3 := h2 j u hu
    have h4 := World.block_lt_of_cell? w _ h3
    rw [hg.cell_far _ h4 (hne b off rfl (by rintro rfl; simp at hu))]
    exact h3
theorem Cells.blk_lt {w : World} {ao : Option Addr} {cs : List Value} (h : Cells w ao cs) (hne : cs ≠ []) {b off : Nat} (ha : ao = some ⟨b, off, none⟩) : b < w.heap.size := by
  subst ha
  obtain ⟨r, hr⟩ := get_of_lt (List.length_pos_iff.2 hne)
  exact World.block_lt_of_cell? w _ (h.at (j := 0) hr)

set_option maxRecDepth 100000 in
set_option maxHeartbeats 1000000 in
theorem refWith_any (ao : Option Addr) (xs : List Int) (cap : Nat) (o sh : Nat) (w : World) (hc : Cells w ao (xs.map (Value.int .i64))) (hl : xs.length ≤ 4096) (ho : o ≤ 3) (hs : sh ≤ 30) (hx : ∀ x ∈ xs, -8388608 ≤ x ∧ x ≤ 8388608) :
    Calls Tryz.prog 179 #[.slice ao xs.length cap, .int .i64 (o : Nat), .int .i64 (sh : Nat)] w fun e w' => (∃ v, e = .returned v ∧ w'.ownsRow w.heap.size 3 1 v (encL o sh (resid xs o)).length (bts (encL o sh (resid xs o)))) ∧ Below w.heap.size w w' := by
  obtain ⟨i0, hi, hz0, hz1, hz2⟩ := info_parts Tryz.infoInt
  have hrb := resid_bd hx o ho
  have hrl := resid_length xs o
  have HC := Lib.hid hc; have HX := Lib.hid hx
  have hR := fun wx h => refResidues_any ao xs cap o wx h hl ho hx
  have HR := Lib.hid hR
  clear hc hx hR
  have hN : (encL o sh (resid xs o)) = (binL o 2 ++ binL sh 5) ++ (resid xs o).flatMap fun r => encU (foldU r) sh := by rw [encL]
  rw [hN]
  clear hN
  generalize resid xs o = ys at *
  have HRB := Lib.hid hrb
  have hyl : ys.length ≤ 4096 := by omega
  have hft := flat_take_le ys sh
  have HFT := Lib.hid hft
  have HRL := Lib.hid hrl
  clear hrb hrl hft
  obtain ⟨hd, hhd⟩ : ∃ hd, hd = binL o 2 ++ binL sh 5 := ⟨_, rfl⟩
  have hhl : hd.length = 2 + 5 := by rw [hhd, List.length_append, binL_length, binL_length]
  rw [← hhd]
  have HHD := Lib.hid hhd; have HHL := Lib.hid hhl
  clear hhd hhl
  go_enter Tryz.func179, Tryz.ntmps179
  go_wp2_with fail
  refine (refBinary_any (o : Nat) 2 _ (by omega) (by omega) (by omega)).mono ?_
  rintro e w1 ⟨⟨v1, rfl, ho1⟩, hb1⟩
  have hz1' := hb1.size
  have HO1 := Lib.hid ho1
  clear ho1
  go_wp2_with fail
  refine (refBinary_any (sh : Nat) 5 _ (by omega) (by omega) (by omega)).mono ?_
  rintro e w2 ⟨⟨v2, rfl, ho2⟩, hb2⟩
  have hbb := hb1.trans (hb2.mono hb1.size)
  have hz2' := hb2.size
  have HO2 := Lib.hid ho2
  have HO3 := Lib.hid (own_below HO1.out hb2 (Nat.le_refl _))
  clear ho2 hb1 hb2
  go_wp2_with (at_builtin; refine wpList_append_two rfl _ _ 22 rfl w.heap.size 3 i0 (.int .i64 0) 1 8 Tryz.underlying22 hi hz0 hz1 hz2 rfl (by decide) _ _ _ rfl HO3.out _ _ _ _ rfl HO2.out (bts_one _) (by unfold maxLen; omega) (by omega) (by omega) ?_; intro v3 w3 hown3 hgrow _)
  have hb3 := hbb.grown hgrow (by omega) (fun j e => (HO3.out.lt j e).1)
  have ho3 : w3.ownsRow w.heap.size 3 1 v3 (2 + 5) (bts hd) := by rw [HHD.out, bts_append]; exact hown3
  have HO4 := Lib.hid ho3
  clear hown3 hgrow ho3 hbb
  go_wp2_with fail
  refine (HR.out w3 (HC.out.below hb3 (Nat.le_refl _))).mono ?_
  rintro e w4 ⟨⟨a4, c4, rfl, hc4, ha4⟩, hb4⟩
  have hb5 := hb3.trans (hb4.mono hb3.size)
  have HO5 := Lib.hid (own_below HO4.out hb4 (Nat.le_refl _))
  have HC4 := Lib.hid hc4
  have hne0 : ∀ b off, a4 = some ⟨b, off, none⟩ → ys.map (Value.int .i64) ≠ [] → v3.ownBlock ≠ some b ∧ b < w4.heap.size := by
    intro b off e hnil
    have h4 := hc4.blk_lt hnil e
    refine ⟨fun hv => ?_, h4⟩
    have hl3 := HO4.out.lt b hv
    rcases ha4 with h | h
    · have hxn : xs.map (Value.int .i64) ≠ [] := by
        have h1 := HRL.out
        intro h2
        have h3 := congrArg List.length h2
        simp at h3
        rw [h3] at h1; simp at h1; exact hnil (by rw [h1]; rfl)
      have := HC.out.blk_lt hxn (h ▸ e)
      omega
    · have := h b off e; omega
  have HNE := Lib.hid hne0
  have hz4 := hb5.size
  clear hc4 ha4 hne0 hb3 hb4
  go_wp2
  go_loopw [7, 9] (fun v i wr => ∃ k : Nat, k ≤ ys.length ∧ i = .int .i64 k ∧ wr.ownsRow w.heap.size 3 1 v (hd ++ (ys.take k).flatMap fun r => encU (foldU r) sh).length (bts (hd ++ (ys.take k).flatMap fun r => encU (foldU r) sh)) ∧ (∀ b off, a4 = some ⟨b, off, none⟩ → ys.map (Value.int .i64) ≠ [] → v.ownBlock ≠ some b) ∧ Cells wr a4 (ys.map (Value.int .i64)) ∧ Below w.heap.size w wr ∧ w4.heap.size ≤ wr.heap.size) (fun _ i _ => ys.length - (intOf i).toNat)
  case atStart => exact ⟨0, Nat.zero_le _, rfl, by simpa [HHL.out] using HO5.out, fun b off e hn => (HNE.out b off e hn).1, HC4.out, hb5, Nat.le_refl _⟩
  case round =>
    clear hb5 hz4
    obtain ⟨k, hk, rfl, hown, hnb, hcl, hbr, hz⟩ := hrel
    have hle := HFT.out k hs
    have hlen : (hd ++ (ys.take k).flatMap fun r => encU (foldU r) sh).length ≤ 7 + 52 * ys.length := by rw [List.length_append, HHL.out]; omega
    have HO := Lib.hid hown; have HNB := Lib.hid hnb; have HCL := Lib.hid hcl
    have hzw := hbr.size
    by_cases hlt : k < ys.length
    · obtain ⟨x, hx⟩ := get_of_lt hlt
      obtain ⟨b4, o4, rfl⟩ := hcl.addr (by simpa using List.ne_nil_of_length_pos (by omega))
      have c1 := hcl.int hx
      have t1 := HRB.out x (List.mem_of_getElem? hx)
      obtain ⟨t11, t12⟩ := t1
      obtain ⟨f1, f2⟩ := foldU_bd t11 t12
      have hft := flat_take (f := fun r => encU (foldU r) sh) hx
      have hul := encU_length (foldU x) sh hs
      have HF := Lib.hid hft
      have i1 : (k : Int) < ys.length := by omega
      have i2 : (0 : Int) ≤ k := by omega
      clear hown hnb hcl hft hx
      go_wp2_with fail
      refine (refFolded_any x _ (by omega) (by omega)).mono ?_
      rintro e w' ⟨rfl, rfl⟩
      go_wp2_with fail
      refine (refUnary_any (foldU x) sh _ (by omega) (by omega) hs).mono ?_
      rintro e w5 ⟨⟨v5, rfl, ho5⟩, hb5⟩
      have hbb := hbr.trans (hb5.mono hzw)
      have HO6 := Lib.hid ho5
      have HO7 := Lib.hid (own_below HO.out hb5 (Nat.le_refl _))
      have hzz := hbb.size
      have h5z := hb5.size
      have HCL5 := Lib.hid (HCL.out.below hb5 (Nat.le_refl _))
      clear ho5 hb5
      generalize hcs : (hd ++ (ys.take k).flatMap fun r => encU (foldU r) sh) = cs at *
      have HCS := Lib.hid hcs
      clear hcs
      go_wp2_with (at_builtin; refine wpList_append_two rfl _ _ 22 rfl w.heap.size 3 i0 (.int .i64 0) 1 8 Tryz.underlying22 hi hz0 hz1 hz2 rfl (by decide) _ _ _ rfl HO7.out _ _ _ _ rfl HO6.out (bts_one _) (by unfold maxLen; omega) (by omega) (by omega) ?_; intro v6 w6 hown6 hgrow hat)
      have hb6 := hbb.grown hgrow (by omega) (fun j e => (HO7.out.lt j e).1)
      have hst : (hd ++ (ys.take (k + 1)).flatMap fun r => encU (foldU r) sh) = cs ++ encU (foldU x) sh := by rw [HF.out, ← List.append_assoc, HCS.out]
      have ho6 : w6.ownsRow w.heap.size 3 1 v6 (hd ++ (ys.take (k + 1)).flatMap fun r => encU (foldU r) sh).length (bts (hd ++ (ys.take (k + 1)).flatMap fun r => encU (foldU r) sh)) := by
        rw [hst, List.length_append, bts_append]; exact hown6
      have hcl6 : Cells w6 (some ⟨b4, o4, none⟩) (ys.map (Value.int .i64)) := HCL5.out.grown hgrow fun b off e hn => by
        have := HNB.out b off e hn
        exact fun h => this h.symm
      have hnb6 : ∀ b off, some (⟨b4, o4, none⟩ : Addr) = some ⟨b, off, none⟩ → ys.map (Value.int .i64) ≠ [] → v6.ownBlock ≠ some b := by
        intro b off e hn hv
        rcases hat with h | h
        · exact HNB.out b off e hn (h ▸ hv)
        · rw [h] at hv
          have := (HNE.out b off e hn).2
          simp at hv; omega
      have h6z := hgrow.size
      have HQ1 := Lib.hid ho6; have HQ2 := Lib.hid hcl6; have HQ3 := Lib.hid hnb6
      clear hown6 hgrow hat hst ho6 hcl6 hnb6
      go_wp2
      go_roundw
      case rel => exact ⟨k + 1, by omega, by go_num, HQ1.out, HQ3.out, HQ2.out, hb6, by omega⟩
      case measure => simp [intOf]; omega
    · obtain rfl : k = ys.length := by omega
      rw [List.take_length] at HO
      clear hown hnb hcl hlen hle
      go_wp2
      go_ret
      exact ⟨⟨_, rfl, HO.out⟩, hbr⟩

set_option maxRecDepth 100000 in
set_option maxHeartbeats 1000000 in
theorem refChannel_any (ao : Option Addr) (xs : List Int) (cap : Nat) (w : World) (hc : Cells w ao (xs.map (Value.int .i64))) (hl : xs.length ≤ 4096) (hx : ∀ x ∈ xs, -8388608 ≤ x ∧ x ≤ 8388608) :
    Calls Tryz.prog 126 #[.slice ao xs.length cap] w fun e w' => (∃ v, e = .returned v ∧ w'.ownsRow w.heap.size 3 1 v (encC xs).length (bts (encC xs))) ∧ Below w.heap.size w w' := by
  have HC := Lib.hid hc
  have hW := fun (o s : Nat) (wx : World) h1 h2 h3 => refWith_any ao xs cap o s wx h1 hl h2 h3 hx
  have HW := Lib.hid hW
  have HX := Lib.hid hx
  have HLE := Lib.hid (fun k => encK_le xs k)
  clear hc hW hx
  go_enter Tryz.func126, Tryz.ntmps126
  go_wp2_with fail
  refine (HW.out 0 0 w HC.out (by omega) (by omega)).mono ?_
  rintro e w1 ⟨⟨v1, rfl, ho1⟩, hb1⟩
  rw [show encL 0 0 (resid xs 0) = encK xs (31 * 0) from rfl] at ho1
  have HO1 := Lib.hid ho1
  clear ho1
  go_wp2
  go_loopw [3, 4] (fun v o wr => ∃ k : Nat, k ≤ 4 ∧ o = .int .i64 k ∧ wr.ownsRow w.heap.size 3 1 v (encK xs (31 * k)).length (bts (encK xs (31 * k))) ∧ Below w.heap.size w wr) (fun _ o _ => 4 - (intOf o).toNat)
  case atStart => exact ⟨0, Nat.zero_le _, rfl, HO1.out, hb1⟩
  case round =>
    clear hb1 HO1
    obtain ⟨k, hk, rfl, hown, hbr⟩ := hrel
    obtain ⟨wo, rfl⟩ : ∃ wo : World, wo = wr := ⟨_, rfl⟩
    have HO := Lib.hid hown; clear hown
    by_cases hlt : k < 4
    · have i1 : (k : Int) ≤ 3 := by omega
      go_wp2
      go_loopw [3, 5] (fun v s wi => ∃ j : Nat, j ≤ 31 ∧ s = .int .i64 j ∧ wi.ownsRow w.heap.size 3 1 v (encK xs (31 * k + j)).length (bts (encK xs (31 * k + j))) ∧ Below w.heap.size w wi) (fun _ s _ => 31 - (intOf s).toNat)
      case atStart => exact ⟨0, Nat.zero_le _, rfl, HO.out, hbr⟩
      case round =>
        clear hbr HO
        obtain ⟨j, hj, rfl, hown, hbi⟩ := hrel
        have HO := Lib.hid hown; clear hown
        have hzi := hbi.size
        by_cases hlt2 : j < 31
        · have j1 : (j : Int) ≤ 30 := by omega
          go_wp2_with fail
          refine (HW.out k j wr (HC.out.below hbi (Nat.le_refl _)) (by omega) (by omega)).mono ?_
          rintro e w2 ⟨⟨v2, rfl, ho2⟩, hb2⟩
          have hbz := hbi.trans (hb2.mono hzi)
          have HOL := Lib.hid (own_below HO.out hb2 (Nat.le_refl _))
          have ho2' := own_base ho2 hzi
          have HO2 := Lib.hid ho2'
          obtain ⟨g2, c2, hv2, _⟩ := own_cells ho2'
          obtain ⟨g3, c3, hv3, _⟩ := own_cells HOL.out
          have hle1 := HLE.out (31 * k + j)
          by_cases hlen : (encL k j (resid xs k)).length < (encK xs (31 * k + j)).length
          · have hst := encK_lt xs hlt hlt2 hlen
            have HST := Lib.hid hst
            rw [← hst] at HO2
            have hlI : (((encL k j (resid xs k)).length : Nat) : Int) < ((encK xs (31 * k + j)).length : Nat) := by omega
            subst hv2 hv3
            clear ho2 ho2' hst hb2
            go_wp2
            go_roundw
            case rel => exact ⟨j + 1, by omega, by go_num, HO2.out, hbz⟩
            case measure => simp [intOf]; omega
          · have hst := encK_ge xs hlt hlt2 hlen
            have HST := Lib.hid hst
            rw [← hst] at HOL
            have hlI : ¬ (((encL k j (resid xs k)).length : Nat) : Int) < ((encK xs (31 * k + j)).length : Nat) := by omega
            rw [hst] at HOL
            subst hv2 hv3
            clear ho2 ho2' hb2
            go_wp2
            go_roundw
            case rel => exact ⟨j + 1, by omega, by go_num, by rw [← Nat.add_assoc, HST.out]; exact HOL.out, hbz⟩
            case measure => simp [intOf]; omega
        · obtain rfl : j = 31 := by omega
          have hee : 31 * k + 31 = 31 * (k + 1) := by omega
          rw [hee] at HO
          go_wp2
          go_roundw
          case rel => exact ⟨k + 1, by omega, by go_num, HO.out, hbi⟩
          case measure => simp [intOf]; omega
    · obtain rfl : k = 4 := by omega
      rw [show 31 * 4 = 124 from rfl, encK_all] at HO
      go_wp2
      go_ret
      exact ⟨⟨_, rfl, HO.out⟩, hbr⟩
end Go.Proofs.YtoochleabcjljaaGreatDoor

/- Codes: the reader of bits. -/
namespace Go.Proofs.YtoochleabcjljaaGreatDoor
open Go.RowKit

theorem unB_get (l : List Nat) (i d : Nat) (h : l[i / 8]? = some d) : (unB l)[i]? = some (d / 2 ^ (7 - i % 8) % 2) := by
  induction l generalizing i with
  | nil => simp at h
  | cons b l ih =>
    rw [unB_cons]
    by_cases hi : i < 8
    · rw [Nat.div_eq_of_lt hi] at h
      simp at h; subst h
      rw [List.getElem?_append_left (by rw [binL_length]; omega)]
      have hg := binL_get (b : Int) 8 (7 - i) (by omega)
      rw [show 8 - 1 - (7 - i) = i from by omega] at hg
      rw [hg, Nat.mod_eq_of_lt hi]
      have h2 : ((b / 2 ^ (7 - i) % 2 : Nat) : Int) = (b : Int) / 2 ^ (7 - i) % 2 := by simp
      have h3 : ((b : Int) / 2 ^ (7 - i) % 2).toNat = b / 2 ^ (7 - i) % 2 := by omega
      rw [h3]
    · rw [List.getElem?_append_right (by rw [binL_length]; omega), binL_length]
      have e : i / 8 = (i - 8) / 8 + 1 := by omega
      rw [e, List.getElem?_cons_succ] at h
      rw [ih (i - 8) h]
      rw [show (i - 8) % 8 = i % 8 from by omega]
theorem or_low (q s u : Nat) (h : u < 2 ^ s) (hb : q * 2 ^ s + u < 2 ^ 63) : bits BinOp.or IntKind.i64 ((q * 2 ^ s : Nat) : Int) (u : Int) = ((q * 2 ^ s + u : Nat) : Int) := by
  have h1 := (bits_nat .i64 63 (by decide) i64_wrap_nat (q * 2 ^ s) u (by omega) (by omega)).2
  rw [h1, Nat.mul_comm q, Nat.two_pow_add_eq_or_of_lt h]
theorem u8_and {x : Nat} (h : x < 256) : bits BinOp.and IntKind.u8 (x : Int) 1 = ((x % 2 : Nat) : Int) := by
  have h1 := (bits_nat .u8 8 (by decide) u8_wrap_nat x 1 (by omega) (by decide)).1
  rw [show ((1 : Nat) : Int) = 1 from rfl] at h1
  rw [h1, Nat.and_one_is_mod]

/-- a reader at block bR, over the bytes l, with the bits r to come -/
def RdS (B bR : Nat) (l : List Nat) (w : World) (r : List Nat) : Prop :=
  B ≤ bR ∧ ∃ a cap at_, at_ ≤ 8 * l.length ∧ r = (unB l).drop at_ ∧ w.heap[bR]? = some (.cells #[.slice a l.length cap, .int .i64 (at_ : Nat)] 180 (0, 0)) ∧ Cells w a (bys l) ∧ ∀ b off, a = some ⟨b, off, none⟩ → b < B
theorem RdS.lt {B bR : Nat} {l r : List Nat} {w : World} (h : RdS B bR l w r) : bR < w.heap.size := by
  obtain ⟨_, a, cap, at_, _, _, h3, _⟩ := h; exact heap_lt h3
theorem RdS.kept {B bR : Nat} {l r : List Nat} {w w' : World} {row : Option Nat} (h : RdS B bR l w r) (hg : w.grownBy w' row) (hr : ∀ k, row = some k → B ≤ k ∧ k ≠ bR) : RdS B bR l w' r := by
  have hlt := h.lt
  obtain ⟨h0, a, cap, at_, h1, h2, h3, h4, h5⟩ := h
  exact ⟨h0, a, cap, at_, h1, h2, (hg.block bR hlt (fun e => (hr bR e.symm).2 rfl)).trans h3, h4.grown hg (fun b off e _ hk => by have := h5 b off e; have := (hr b hk.symm).1; omega), h5⟩
theorem RdS.below {B bR : Nat} {l r : List Nat} {w w' : World} (h : RdS B bR l w r) (hb : Below w.heap.size w w') : RdS B bR l w' r := by
  have hlt := h.lt
  obtain ⟨h0, a, cap, at_, h1, h2, h3, h4, h5⟩ := h
  exact ⟨h0, a, cap, at_, h1, h2, (hb.block bR hlt).trans h3, h4.below hb (Nat.le_refl _), h5⟩
theorem RdS.bits {B bR : Nat} {l r : List Nat} {w : World} (h : RdS B bR l w r) : ∀ b ∈ r, b ≤ 1 := by
  obtain ⟨_, a, cap, at_, _, h2, _⟩ := h
  subst h2
  intro b hb
  exact unB_bits l b (List.mem_of_mem_drop hb)

set_option maxRecDepth 100000 in
set_option maxHeartbeats 2000000 in
theorem reader_take (B bR : Nat) (l r : List Nat) (k : Nat) (w : World) (h : RdS B bR l w r) (hd : ∀ d ∈ l, d < 256) (hl : l.length ≤ 1099511627776) (hk : k ≤ 32) :
    Calls Tryz.prog 130 #[.pointer (some ⟨bR, 0, none⟩), .int .i64 (k : Nat)] w fun e w' => e = .returned (.tuple #[.int .i64 ((takeR r k).1.1 : Nat), .bool (takeR r k).1.2]) ∧ RdS B bR l w' (takeR r k).2 ∧ w.grownBy w' (some bR) := by
  have HD := Lib.hid hd; have H := Lib.hid h
  have HB := Lib.hid h.bits
  clear hd h
  go_enter Tryz.func130, Tryz.ntmps130
  go_wp2
  go_loopw [6, 8] (fun n i wr => ∃ j : Nat, j ≤ k ∧ j ≤ r.length ∧ i = .int .i64 j ∧ n = .int .i64 (valB (r.take j) : Nat) ∧ RdS B bR l wr (r.drop j) ∧ w.grownBy wr (some bR)) (fun _ i _ => k - (intOf i).toNat)
  case atStart => exact ⟨0, Nat.zero_le _, Nat.zero_le _, rfl, rfl, H.out, World.grownBy.refl _ _⟩
  case round =>
    obtain ⟨j, hj, hjr, rfl, rfl, hr, hg⟩ := hrel
    have HR := Lib.hid hr
    by_cases hlt : j < k
    · obtain ⟨h0, a, cap, at_, ha, hrd, hbk, hca, hab⟩ := hr
      have hul : (unB l).length = 8 * l.length := unB_length l
      have hrl : r.length - j = 8 * l.length - at_ := by have := congrArg List.length hrd; rw [List.length_drop, List.length_drop, hul] at this; exact this
      have c0 : wr.cell? ⟨bR, 0, none⟩ = some (.slice a l.length cap) := by rw [Lib.cell_of_heap hbk]; rfl
      have c1 : wr.cell? ⟨bR, 1, none⟩ = some (.int .i64 (at_ : Nat)) := by rw [Lib.cell_of_heap hbk]; rfl
      have f1 : wr.frozen? ⟨bR, 1, none⟩ = false := Lib.frozen_of_heap hbk 1
      have g1 : IntKind.i64.wrap (8 * (l.length : Int)) = 8 * (l.length : Int) := IntWalk.i64_in _ (by omega)
      by_cases hj2 : j < r.length
      · obtain ⟨d, hdd⟩ := get_of_lt (show at_ / 8 < l.length by omega)
        have hbit := unB_get l at_ d hdd
        have hd256 := HD.out d (List.mem_of_getElem? hdd)
        obtain ⟨x, hx⟩ : ∃ x, x = d / 2 ^ (7 - at_ % 8) % 2 := ⟨_, rfl⟩
        rw [← hx] at hbit
        have hrj : r[j]? = some x := by
          have e1 : (r.drop j)[0]? = ((unB l).drop at_)[0]? := by rw [hrd]
          rw [List.getElem?_drop, List.getElem?_drop, Nat.add_zero, Nat.add_zero] at e1
          rw [e1]; exact hbit
        have hnv : valB (r.take (j + 1)) = 2 * valB (r.take j) + x := by rw [take_get hrj, valB_snoc]
        have hvl := valB_lt (l := r.take j) (fun b hb => HB.out b (List.mem_of_mem_take hb))
        rw [List.length_take, Nat.min_eq_left hjr] at hvl
        have hp31 : (2 : Nat) ^ j ≤ 2 ^ 31 := Nat.pow_le_pow_right (by decide) (by omega)
        have hx1 : x ≤ 1 := by omega
        obtain ⟨b, off, rfl⟩ := hca.addr (bys_ne (by omega))
        have c2 : wr.cell? ⟨b, off + at_ / 8, none⟩ = some (.int .u8 (d : Nat)) := hca.at (bys_get hdd)
        have hor : bits BinOp.or IntKind.i64 ((valB (r.take j) : Int) * 2) (x : Int) = ((2 * valB (r.take j) + x : Nat) : Int) := by
          have := or_low (valB (r.take j)) 1 x (by omega) (by omega)
          rw [show valB (r.take j) * 2 ^ 1 + x = 2 * valB (r.take j) + x from by omega] at this
          rw [← this]; simp
        have hand : wrap64 (bits BinOp.and IntKind.u8 ((d : Int) / 2 ^ (7 - at_ % 8)) 1) = (x : Int) := by
          have h1 := u8_and (x := d / 2 ^ (7 - at_ % 8)) (Nat.lt_of_le_of_lt (Nat.div_le_self _ _) hd256)
          rw [← hx] at h1
          have h2 : ((d / 2 ^ (7 - at_ % 8) : Nat) : Int) = (d : Int) / 2 ^ (7 - at_ % 8) := by simp
          rw [← h2, h1]
          simp only [wrap64]
          omega
        have e1 : ((at_ + 1 : Nat) : Int) = (at_ : Int) + 1 := by omega
        have hx2 : RdS B bR l (wr.setCell ⟨bR, 1, none⟩ (.int .i64 ((at_ : Int) + 1))) (r.drop (j + 1)) := by
          refine ⟨h0, _, cap, at_ + 1, by omega, ?_, by rw [e1]; exact heap_set1 hbk, hca.grown (grown_set wr ⟨bR, 1, none⟩ _) (fun b' off' e _ hk => by have := hab b' off' e; simp at hk; omega), hab⟩
          rw [← List.drop_drop, hrd, List.drop_drop]
        have hg2 : w.grownBy (wr.setCell ⟨bR, 1, none⟩ (.int .i64 ((at_ : Int) + 1))) (some bR) := hg.trans (grown_set wr ⟨bR, 1, none⟩ _)
        have HX2 := Lib.hid hx2; have HG2 := Lib.hid hg2; have HAND := Lib.hid hand; have HOR := Lib.hid hor
        clear hx2 hg2 hand e1 hor
        have HNV := Lib.hid hnv
        clear hnv hbit hrj
        generalize valB (r.take j) = v at *
        have hv31 : v < 2147483648 := by omega
        clear hvl hp31
        clear hrd hbk hca hab hdd HR
        go_wp2_with fail
        go_quiet (fail)
        go_wp2_with fail
        go_quiet (fail)
        go_wp2_with fail
        go_roundw
        case rel => exact ⟨j + 1, by omega, by omega, by go_num, by rw [HAND.out, HOR.out, HNV.out], HX2.out, by have h := HG2.out; exact ⟨h.os, h.tape, h.output, h.size, h.block⟩⟩
        case measure => simp [intOf]; omega
      · have hjr2 : r.length = j := by omega
        have ht : takeR r k = ((0, false), []) := by unfold takeR; rw [if_neg (by omega)]
        have HT := Lib.hid ht
        have hdr : r.drop j = [] := List.drop_eq_nil_of_le (by omega)
        rw [hdr] at HR
        have hge : 8 * (l.length : Int) ≤ at_ := by omega
        clear ht hdr hrd hbk hca hab
        go_wp2_with fail
        go_quiet (fail)
        go_wp2_with fail
        go_ret2
        exact ⟨by rw [HT.out]; rfl, by rw [HT.out]; exact HR.out, by have h := hg; exact ⟨h.os, h.tape, h.output, h.size, h.block⟩⟩
    · obtain rfl : j = k := by omega
      have ht : takeR r j = ((valB (r.take j), true), r.drop j) := by unfold takeR; rw [if_pos hjr]
      have HT := Lib.hid ht; clear ht
      go_wp2
      go_ret2
      exact ⟨by rw [HT.out]; rfl, by rw [HT.out]; exact HR.out, hg⟩
end Go.Proofs.YtoochleabcjljaaGreatDoor
