/- Parts of a proof, in build order: M4, M5, M6, M7, M8, M9, Ma, Mb. -/
import Derived.Test.YtmafjfhnejeogaaGreatDoorKi3
import Derived.Test.YtmafjfhnejeogaaGreatDoorShelf
import Derived.Lib.CutLaws
import Derived.Lib.IndexBytes

/- big, text and put of real numbers; whole; num.Of of any two numbers. -/
namespace Go.Proofs.YtmafjfhnejeogaaGreatDoor
open Go.RowKit

/-- whether a number has too many digits -/
def bigQ (n d : Nat) : Bool := decide (2000 < Lib.nDigits n) || decide (2000 < Lib.nDigits d)
set_option maxRecDepth 100000 in
theorem big_any (v : Value) (s : Bool) (n d : Nat) (w : World) (hv : RatV w v s n d) (ht : Tab w) (h : (dig n).length ≤ 17592186044416) (h2 : (dig d).length ≤ 17592186044416) :
    Calls Tryz.prog 146 #[v] w fun e w' => e = .returned (.bool (bigQ n d)) ∧ Below w.heap.size w w' := by
  obtain ⟨vn, vd, rfl, hn, hd⟩ := hv
  have hsn := size_any vn n _ (hn.below ((Below.refl w.heap.size w).alloc (Nat.le_refl _) (.cells #[.bool s, vn, vd] 128)) (Nat.le_refl _)) (ht.below ((Below.refl w.heap.size w).alloc (Nat.le_refl _) _) (Nat.le_refl _)) h
  have hsd := fun w1 (hb : Below w.heap.size w w1) => size_any vd d w1 (hd.below hb (Nat.le_refl _)) (ht.below hb (Nat.le_refl _)) h2
  have HSN := Lib.hid hsn; have HSD := Lib.hid hsd
  obtain ⟨an, cn, rfl⟩ := hn.cases
  obtain ⟨ad, cd, rfl⟩ := hd.cases
  clear hn hd hsn hsd ht
  have hbq : bigQ n d = (decide ((2000 : Int) < (Lib.nDigits n : Nat)) || decide ((2000 : Int) < (Lib.nDigits d : Nat))) := by
    unfold bigQ; congr 1 <;> (rw [Bool.eq_iff_iff, decide_eq_true_iff, decide_eq_true_iff]; omega)
  have HBQ := Lib.hid hbq
  clear hbq
  by_cases hb : (2000 : Int) < (Lib.nDigits n : Nat)
  · go_enter Tryz.func146, Tryz.ntmps146
    go_wp2_with fail
    refine HSN.out.mono ?_
    rintro e w1 ⟨rfl, hb1⟩
    have hbw : Below w.heap.size w w1 := ((Below.refl _ _).alloc (Nat.le_refl _) _).trans (hb1.mono (by simp))
    go_wp2
    go_ret
    rw [HBQ.out]
    exact ⟨by rw [decide_eq_true hb]; rfl, hbw⟩
  · go_enter Tryz.func146, Tryz.ntmps146
    go_wp2_with fail
    refine HSN.out.mono ?_
    rintro e w1 ⟨rfl, hb1⟩
    have hbw : Below w.heap.size w w1 := ((Below.refl _ _).alloc (Nat.le_refl _) _).trans (hb1.mono (by simp))
    have q2 : w1.cell? ⟨w.heap.size, 2, none⟩ = some (.slice ad (dig d).length cd) := box_keep hb1 (by simp) 2
    go_wp2_with fail
    refine (HSD.out w1 hbw).mono ?_
    rintro e w2 ⟨rfl, hb2⟩
    go_wp2
    go_ret
    rw [HBQ.out]
    exact ⟨by rw [decide_eq_false (Int.not_lt.2 hb)]; rfl, hbw.trans (hb2.mono hbw.size)⟩

set_option maxRecDepth 100000 in
theorem valText_any (v : Value) (s : Bool) (n d : Nat) (s2 : Bool) (d2 : Nat) (w : World) (hv : ValV w v s n d s2 0 d2) (ht : Tab w) (h : Lib.nDigits n ≤ 10000) (h2 : Lib.nDigits d ≤ 10000) (h3 : d ≠ 0) :
    Calls Tryz.prog 147 #[v] w fun e w' => e = .returned (.string (ratT s n d)) ∧ Below w.heap.size w w' := by
  have HV := Lib.hid hv
  obtain ⟨va, vb, vc, vd, rfl, ha, hb, hc, hd⟩ := hv
  have HA := Lib.hid ha; have HB := Lib.hid hb
  obtain ⟨aa, ca, rfl⟩ := ha.cases
  obtain ⟨ab, cb, rfl⟩ := hb.cases
  obtain ⟨ac, cc, rfl⟩ := hc.cases
  obtain ⟨ad, cd, rfl⟩ := hd.cases
  clear ha hb hc hd
  go_enter Tryz.func147, Tryz.ntmps147
  go_wp2_with fail
  refine (isReal_any _ s s2 n d 0 d2 _ (HV.out.below ((Below.refl _ _).alloc (Nat.le_refl _) _) (Nat.le_refl _))).mono ?_
  rintro e w1 ⟨rfl, hb1⟩
  have hbw : Below w.heap.size w w1 := ((Below.refl _ _).alloc (Nat.le_refl _) _).trans (hb1.mono (by simp))
  have q0 : w1.cell? ⟨w.heap.size, 0, none⟩ = some (.bool s) := box_keep hb1 (by simp) 0
  have q1 : w1.cell? ⟨w.heap.size, 1, none⟩ = some (.slice aa (dig n).length ca) := box_keep hb1 (by simp) 1
  have q2 : w1.cell? ⟨w.heap.size, 2, none⟩ = some (.slice ab (dig d).length cb) := box_keep hb1 (by simp) 2
  go_wp2_with fail
  refine (ratText_any _ s n d _ ⟨_, _, rfl, HA.out.below hbw (Nat.le_refl _), HB.out.below hbw (Nat.le_refl _)⟩ (ht.below hbw (Nat.le_refl _)) h h2 h3).mono ?_
  rintro e w2 ⟨rfl, hb2⟩
  go_wp2
  go_ret
  exact ⟨rfl, hbw.trans (hb2.mono hbw.size)⟩

/-- what put gives -/
def putT (s : Bool) (n d : Nat) : ByteArray := if bigQ n d then ⟨#[]⟩ else ratT s n d
def putE (n d : Nat) : Int := if bigQ n d then 11 else 0
theorem big_one : bigQ 0 1 = false := by
  unfold bigQ; rw [Lib.nDigits_small (by decide), Lib.nDigits_small (by decide)]; rfl

set_option maxRecDepth 100000 in
theorem put_any (v : Value) (s : Bool) (n d : Nat) (s2 : Bool) (w : World) (hv : ValV w v s n d s2 0 1) (ht : Tab w) (h : (dig n).length ≤ 17592186044416) (h2 : (dig d).length ≤ 17592186044416) (h3 : d ≠ 0) :
    Calls Tryz.prog 91 #[v] w fun e w' => e = .returned (.tuple #[.string (putT s n d), .int .i64 (putE n d)]) ∧ Below w.heap.size w w' := by
  have HV := Lib.hid hv
  obtain ⟨va, vb, vc, vd, rfl, ha, hb, hc, hd⟩ := hv
  have HA := Lib.hid ha; have HB := Lib.hid hb; have HC := Lib.hid hc; have HD := Lib.hid hd
  obtain ⟨aa, ca, rfl⟩ := ha.cases
  obtain ⟨ab, cb, rfl⟩ := hb.cases
  obtain ⟨ac, cc, rfl⟩ := hc.cases
  obtain ⟨ad, cd, rfl⟩ := hd.cases
  clear ha hb hc hd
  have HT := Lib.hid ht; clear ht
  go_enter Tryz.func91, Tryz.ntmps91
  go_wp2_with fail
  refine (big_any _ s n d _ ⟨_, _, rfl, HA.out.below ((Below.refl _ _).alloc (Nat.le_refl _) _) (Nat.le_refl _), HB.out.below ((Below.refl _ _).alloc (Nat.le_refl _) _) (Nat.le_refl _)⟩ (HT.out.below ((Below.refl _ _).alloc (Nat.le_refl _) _) (Nat.le_refl _)) h h2).mono ?_
  rintro e w1 ⟨rfl, hb1⟩
  have hbw : Below w.heap.size w w1 := ((Below.refl _ _).alloc (Nat.le_refl _) _).trans (hb1.mono (by simp))
  rcases Bool.eq_false_or_eq_true (bigQ n d) with hq | hq
  · have hpt : putT s n d = ⟨#[]⟩ := by unfold putT; rw [if_pos hq]
    have hpe : putE n d = 11 := by unfold putE; rw [if_pos hq]
    have HPT := Lib.hid hpt; have HPE := Lib.hid hpe
    clear hpt hpe
    rw [hq]
    clear hq
    go_wp2
    go_ret2
    rw [HPT.out, HPE.out]
    exact ⟨rfl, hbw⟩
  have hpt : putT s n d = ratT s n d := by unfold putT; rw [hq]; rfl
  have hpe : putE n d = 0 := by unfold putE; rw [hq]; rfl
  have HPT := Lib.hid hpt; have HPE := Lib.hid hpe
  have hd1 : Lib.nDigits n ≤ 10000 ∧ Lib.nDigits d ≤ 10000 := by
    unfold bigQ at hq
    rw [Bool.or_eq_false_iff, decide_eq_false_iff_not, decide_eq_false_iff_not] at hq
    omega
  rw [hq]
  clear hpt hpe hq
  have q3 : w1.cell? ⟨w.heap.size, 3, none⟩ = some (.bool s2) := box_keep hb1 (by simp) 3
  have q4 : w1.cell? ⟨w.heap.size, 4, none⟩ = some (.slice ac (dig 0).length cc) := box_keep hb1 (by simp) 4
  have q5 : w1.cell? ⟨w.heap.size, 5, none⟩ = some (.slice ad (dig 1).length cd) := box_keep hb1 (by simp) 5
  go_wp2_with fail
  refine (big_any _ s2 0 1 _ ⟨_, _, rfl, HC.out.below hbw (Nat.le_refl _), HD.out.below hbw (Nat.le_refl _)⟩ (HT.out.below hbw (Nat.le_refl _)) (by rw [dig_zero]; simp) (by rw [dig_1]; simp)).mono ?_
  rw [big_one]
  rintro e w2 ⟨rfl, hb2⟩
  have hbx := hb1.trans (hb2.mono hb1.size)
  have hbw2 : Below w.heap.size w w2 := hbw.trans (hb2.mono hbw.size)
  clear q3 q4 q5
  have q0 : w2.cell? ⟨w.heap.size, 0, none⟩ = some (.bool s) := box_keep hbx (by simp) 0
  have q1 : w2.cell? ⟨w.heap.size, 1, none⟩ = some (.slice aa (dig n).length ca) := box_keep hbx (by simp) 1
  have q2 : w2.cell? ⟨w.heap.size, 2, none⟩ = some (.slice ab (dig d).length cb) := box_keep hbx (by simp) 2
  have q3 : w2.cell? ⟨w.heap.size, 3, none⟩ = some (.bool s2) := box_keep hbx (by simp) 3
  have q4 : w2.cell? ⟨w.heap.size, 4, none⟩ = some (.slice ac (dig 0).length cc) := box_keep hbx (by simp) 4
  have q5 : w2.cell? ⟨w.heap.size, 5, none⟩ = some (.slice ad (dig 1).length cd) := box_keep hbx (by simp) 5
  go_wp2_with fail
  refine (valText_any _ s n d s2 1 _ (HV.out.below hbw2 (Nat.le_refl _)) (HT.out.below hbw2 (Nat.le_refl _)) hd1.1 hd1.2 h3).mono ?_
  rintro e w3 ⟨rfl, hb3⟩
  go_wp2
  go_ret2
  rw [HPT.out, HPE.out]
  exact ⟨rfl, hbw2.trans (hb3.mono hbw2.size)⟩
end Go.Proofs.YtmafjfhnejeogaaGreatDoor

/- whole of any number; num.Of of any two numbers. -/
namespace Go.Proofs.YtmafjfhnejeogaaGreatDoor
open Go.RowKit

set_option maxRecDepth 100000 in
theorem whole_neg (m : Nat) (w : World) (h : m < 9223372036854775808) :
    Calls Tryz.prog 90 #[.int .i64 (-(m : Int) - 1)] w fun e w' => (∃ v, e = .returned v ∧ RatV w' v true (m + 1) 1) ∧ Below w.heap.size w w' := by
  have h0 : ¬ (0 : Int) ≤ -(m : Int) - 1 := by omega
  have h0' : -(m : Int) - 1 < 0 := by omega
  have hn := fun wx => natural_any (m + 1) wx (by omega)
  have HN := Lib.hid hn; clear hn
  have e1 : IntKind.i64.wrap (-(m : Int) - 1 + 1) = -(m : Int) := by rw [show -(m : Int) - 1 + 1 = -(m : Int) from by omega]; exact IntWalk.i64_in _ (by omega)
  have e2 : IntKind.i64.wrap (m : Int) = m := IntWalk.i64_in _ (by omega)
  have e3 : IntKind.u64.wrap (m : Int) = m := IntWalk.u64_in _ (by omega)
  have e4 : IntKind.u64.wrap ((m : Int) + 1) = ((m + 1 : Nat) : Int) := by rw [show (m : Int) + 1 = ((m + 1 : Nat) : Int) from by omega]; exact IntWalk.u64_in _ (by omega)
  go_enter Tryz.func90, Tryz.ntmps90
  go_wp2_with fail
  refine (HN.out _).mono ?_
  rintro e w1 ⟨⟨a, c, rfl, hc, hc1, hc2⟩, hb1⟩
  have H1 : Hid (NatV w1 (.slice a (dig (m + 1)).length c) (m + 1)) := ⟨a, c, rfl, hc, hc1, hc2⟩
  clear hc
  have hbw : Below w.heap.size w w1 := ((Below.refl _ _).alloc (Nat.le_refl _) _).trans (hb1.mono (by simp))
  go_wp2_with fail
  refine (one_any _).mono ?_
  rintro e w2 ⟨⟨v1, rfl, h1⟩, hb2⟩
  have hbx := hb1.trans (hb2.mono hb1.size)
  have hbw2 : Below w.heap.size w w2 := hbw.trans (hb2.mono hbw.size)
  have H2 := Lib.hid (H1.out.below hb2 (Nat.le_refl _))
  have H3 := Lib.hid h1
  obtain ⟨a1, c1, hv1⟩ := h1.cases
  rw [dig_1] at hv1
  subst hv1
  clear h1
  have q0 : w2.cell? ⟨w.heap.size, 0, none⟩ = some (.bool false) := box_keep hbx (by simp) 0
  have q1 : w2.cell? ⟨w.heap.size, 1, none⟩ = some (.slice none 0 0) := box_keep hbx (by simp) 1
  have q2 : w2.cell? ⟨w.heap.size, 2, none⟩ = some (.slice none 0 0) := box_keep hbx (by simp) 2
  have f0 := box_free hbx (by simp) 0
  have f1 := box_free hbx (by simp) 1
  have f2 := box_free hbx (by simp) 2
  go_wp2
  refine bodyPost_ret (v := .agg #[.bool true, .slice a (dig (m + 1)).length c, .slice a1 1 c1]) (by simp [results, Tryz.results90, go_sem, q0, q1, q2]) rfl ?_
  exact ⟨⟨_, rfl, _, _, rfl, H2.out.box3 q0 q1 q2 trivial trivial trivial, H3.out.box3 q0 q1 q2 trivial trivial trivial⟩, ((hbw2.setCell (Nat.le_refl _) _).setCell (Nat.le_refl _) _).setCell (Nat.le_refl _) _⟩

theorem whole_any (n : Int) (w : World) (h : -9223372036854775808 ≤ n) (h2 : n ≤ 9223372036854775807) :
    Calls Tryz.prog 90 #[.int .i64 n] w fun e w' => (∃ v, e = .returned v ∧ RatV w' v (decide (n < 0)) n.natAbs 1) ∧ Below w.heap.size w w' := by
  rcases (show n < 0 ∨ 0 ≤ n from by omega) with hn | hn
  · obtain ⟨m, rfl⟩ : ∃ m : Nat, n = -(m : Int) - 1 := ⟨(-n - 1).toNat, by omega⟩
    have e1 : (-(m : Int) - 1).natAbs = m + 1 := by omega
    rw [decide_eq_true hn, e1]
    exact whole_neg m w (by omega)
  · obtain ⟨m, rfl⟩ : ∃ m : Nat, n = (m : Int) := ⟨n.toNat, by omega⟩
    rw [decide_eq_false (by omega), Int.natAbs_natCast]
    exact whole_pos m w (by omega)

/-- the quotient of two whole numbers -/
def ofS (n d : Int) : Bool := (decide (n < 0) != decide (d < 0)) && decide (n.natAbs ≠ 0)
def ofN (n d : Int) : Nat := n.natAbs / Nat.gcd n.natAbs d.natAbs
def ofD (n d : Int) : Nat := d.natAbs / Nat.gcd n.natAbs d.natAbs
theorem ofD_pos {n d : Int} (h : d ≠ 0) : ofD n d ≠ 0 := by
  unfold ofD
  have h1 := Nat.gcd_dvd_right n.natAbs d.natAbs
  have h2 : 0 < d.natAbs := by omega
  have h3 : 0 < Nat.gcd n.natAbs d.natAbs := Nat.gcd_pos_of_pos_right _ h2
  have := Nat.div_pos (Nat.le_of_dvd h2 h1) h3
  omega
theorem digits_u64 {n : Nat} (h : n < 18446744073709551616) : Lib.nDigits n ≤ 20 := by
  exact nDigits_le 19 n (by omega)
theorem of_small (n d : Int) (h : -9223372036854775808 ≤ n) (h2 : n ≤ 9223372036854775807) (h3 : -9223372036854775808 ≤ d) (h4 : d ≤ 9223372036854775807) : bigQ (ofN n d) (ofD n d) = false := by
  have e1 : ofN n d ≤ n.natAbs := Nat.div_le_self _ _
  have e2 : ofD n d ≤ d.natAbs := Nat.div_le_self _ _
  have e3 := digits_u64 (show ofN n d < 18446744073709551616 by omega)
  have e4 := digits_u64 (show ofD n d < 18446744073709551616 by omega)
  unfold bigQ
  rw [Bool.or_eq_false_iff, decide_eq_false_iff_not, decide_eq_false_iff_not]
  omega

set_option maxRecDepth 100000 in
set_option maxHeartbeats 1000000 in
theorem of_any (n d : Int) (w : World) (ht : Tab w) (h : -9223372036854775808 ≤ n) (h2 : n ≤ 9223372036854775807) (h3 : -9223372036854775808 ≤ d) (h4 : d ≤ 9223372036854775807) (h0 : d ≠ 0) :
    Calls Tryz.prog 40 #[.int .i64 n, .int .i64 d] w fun e w' => e = .returned (.tuple #[.string (ratT (ofS n d) (ofN n d) (ofD n d)), .int .i64 0]) ∧ Below w.heap.size w w' := by
  have hl1 : (dig n.natAbs).length ≤ 17592186044415 := Nat.le_trans (dig_len_u64 (by omega)) (by decide)
  have hl2 : (dig d.natAbs).length ≤ 17592186044415 := Nat.le_trans (dig_len_u64 (by omega)) (by decide)
  have hne : (d == 0) = false := by rw [beq_eq_false_iff_ne]; omega
  have hsm := of_small n d h h2 h3 h4
  have hpt : putT (ofS n d) (ofN n d) (ofD n d) = ratT (ofS n d) (ofN n d) (ofD n d) := by unfold putT; rw [hsm]; rfl
  have hpe : putE (ofN n d) (ofD n d) = 0 := by unfold putE; rw [hsm]; rfl
  have hn1 : (dig (ofN n d)).length ≤ 17592186044416 := Nat.le_trans (dig_len_mono (Nat.div_le_self _ _)) (by omega)
  have hd1 : (dig (ofD n d)).length ≤ 17592186044416 := Nat.le_trans (dig_len_mono (Nat.div_le_self _ _)) (by omega)
  have hd0 := ofD_pos (n := n) h0
  have hred := fun va vb wx ha hb => reduced_any (d.natAbs + 1) (overOK_all _) (decide (n < 0) != decide (d < 0)) va vb n.natAbs d.natAbs wx ha hb hl1 hl2 (by omega) (by omega)
  have hwn := fun wx => whole_any n wx h h2
  have hwd := fun wx => whole_any d wx h3 h4
  have HR := Lib.hid hred; have HWN := Lib.hid hwn; have HWD := Lib.hid hwd; have HT := Lib.hid ht; have HPT := Lib.hid hpt; have HPE := Lib.hid hpe
  clear hred hwn hwd ht hl1 hl2 hpt hpe hsm
  have hus : ((decide (n < 0) != decide (d < 0)) && decide (n.natAbs ≠ 0)) = ofS n d := rfl
  have hun : n.natAbs / Nat.gcd n.natAbs d.natAbs = ofN n d := rfl
  have hud : d.natAbs / Nat.gcd n.natAbs d.natAbs = ofD n d := rfl
  rw [hus, hun, hud] at HR
  clear hus hun hud
  generalize decide (n < 0) = sn at *
  generalize decide (d < 0) = sd at *
  go_enter Tryz.func40, Tryz.ntmps40
  go_wp2_with fail
  refine (HWN.out _).mono ?_
  rintro e w1 ⟨⟨v1, rfl, h1⟩, hb1⟩
  obtain ⟨v11, v12, rfl, h11, h12⟩ := h1
  go_wp2_with fail
  refine (HWD.out _).mono ?_
  rintro e w2 ⟨⟨v2, rfl, hv2⟩, hb2⟩
  obtain ⟨v21, v22, rfl, h21, h22⟩ := hv2
  have hbw : Below w.heap.size w w2 := hb1.trans (hb2.mono hb1.size)
  have H11 := Lib.hid (h11.below hb2 (Nat.le_refl _))
  have H21 := Lib.hid h21
  obtain ⟨a11, c11, rfl⟩ := h11.cases
  obtain ⟨a12, c12, rfl⟩ := h12.cases
  obtain ⟨a21, c21, rfl⟩ := h21.cases
  obtain ⟨a22, c22, rfl⟩ := h22.cases
  clear h11 h12 h21 h22
  go_wp2_with fail
  refine (HR.out _ _ _ (H11.out.below (((Below.refl w2.heap.size _).alloc (Nat.le_refl _) _).alloc (by simp) _) (Nat.le_refl _)) (H21.out.below (((Below.refl w2.heap.size _).alloc (Nat.le_refl _) _).alloc (by simp) _) (Nat.le_refl _))).mono ?_
  rintro e w3 ⟨⟨v3, rfl, h3'⟩, hb3⟩
  have hbw3 : Below w.heap.size w w3 := ((hbw.alloc hbw.size _).alloc (by have := hbw.size; simp; omega) _).trans (hb3.mono (by have := hbw.size; simp; omega))
  have H3 := Lib.hid h3'
  obtain ⟨v31, v32, rfl, h31, h32⟩ := h3'
  clear h31 h32
  go_wp2_with fail
  refine (plain_any _ _ _ _ _ H3.out).mono ?_
  rintro e w4 ⟨⟨v4, rfl, h4⟩, hb4⟩
  have hbw4 : Below w.heap.size w w4 := hbw3.trans (hb4.mono hbw3.size)
  have H4 := Lib.hid h4; clear h4
  go_wp2_with fail
  refine (put_any _ _ _ _ _ _ H4.out (HT.out.below hbw4 (Nat.le_refl _)) hn1 hd1 hd0).mono ?_
  rw [HPT.out, HPE.out]
  rintro e w5 ⟨rfl, hb5⟩
  go_wp2
  go_ret2
  exact ⟨rfl, hbw4.trans (hb5.mono hbw4.size)⟩
end Go.Proofs.YtmafjfhnejeogaaGreatDoor

/- Sum, difference and product of natural numbers of package num. -/
namespace Go.Proofs.YtmafjfhnejeogaaGreatDoor
open Go.RowKit

theorem val_takeD (l : List Nat) (i : Nat) : val (l.take (i + 1)) = val (l.take i) + B ^ i * l.getD i 0 := by
  rcases Nat.lt_or_ge i l.length with h | h
  · obtain ⟨x, hx⟩ := get_of_lt h
    rw [take_get hx, val_snoc, List.length_take, Nat.min_eq_left (by omega)]
    simp [List.getD, hx]
  · rw [List.take_of_length_le (by omega), List.take_of_length_le h]
    simp [List.getD, List.getElem?_eq_none h]
theorem getD_B {l : List Nat} (h : Sm l) (i : Nat) : l.getD i 0 ≤ 999999999 := by
  rcases Nat.lt_or_ge i l.length with h1 | h1
  · obtain ⟨x, hx⟩ := get_of_lt h1
    have := sm_get h hx
    simpa [List.getD, hx] using this
  · simp [List.getD, List.getElem?_eq_none h1]
/-- a step of the sum -/
theorem plus_step {la lb os : List Nat} {i x y c : Nat} (hx : la[i]? = some x) (hy : lb.getD i 0 = y) (hl : os.length = i) (h : val (la.take i) + val (lb.take i) = val os + B ^ i * c) :
    val (la.take (i + 1)) + val (lb.take (i + 1)) = val (os ++ [(c + x + y) % B]) + B ^ (i + 1) * ((c + x + y) / B) := by
  rw [val_takeD, val_takeD, hy, val_snoc, hl]
  have h1 : la.getD i 0 = x := by simp [List.getD, hx]
  have h2 := Nat.mod_add_div (c + x + y) B
  rw [h1, Nat.pow_succ, Nat.mul_assoc]
  have h3 : B ^ i * ((c + x + y) % B) + B ^ i * (B * ((c + x + y) / B)) = B ^ i * c + B ^ i * x + B ^ i * y := by rw [← Nat.mul_add, h2, Nat.mul_add, Nat.mul_add]
  omega
theorem plus_end {m n c : Nat} {os : List Nat} (hs : Sm os) (hl : os.length = (dig m).length) (hle : (dig n).length ≤ (dig m).length) (hc : c ≤ 1) (h : val ((dig m).take (dig m).length) + val ((dig n).take (dig m).length) = val os + B ^ (dig m).length * c) :
    (c = 0 → dig (m + n) = os) ∧ (c = 1 → dig (m + n) = os ++ [1]) := by
  rw [List.take_length, val_dig, List.take_of_length_le hle, val_dig] at h
  refine ⟨fun h0 => ?_, fun h1 => ?_⟩
  · subst h0
    rw [Nat.mul_zero, Nat.add_zero] at h
    have h1 := dig_take _ os rfl hs
    rw [← h] at h1
    have h2 : (dig m).length ≤ (dig (m + n)).length := dig_len_mono (by omega)
    rw [h1, List.take_of_length_le (by omega)]
  · subst h1
    have e : m + n = val (os ++ [1]) := by rw [val_snoc, hl, h]
    rw [e]
    refine dig_val (sm_append hs (sm_one (by decide))) (by simp)
theorem natV_own2 {w : World} {b : Nat} {v : Value} {n k : Nat} {os : List Nat} (h : w.ownsRow b 196 1 v k (dgs os)) (he : dig n = os) (hk : k = os.length) : NatV w v n := by
  subst hk; subst he; exact natV_own h

set_option maxRecDepth 100000 in
set_option maxHeartbeats 2000000 in
/-- nat.plus -/
theorem natPlus_any (va vb : Value) (m n : Nat) (w : World) (ha : NatV w va m) (hb : NatV w vb n) (hm : (dig m).length ≤ 17592186044410) (hn : (dig n).length ≤ 17592186044410) :
    Calls Tryz.prog 223 #[va, vb] w fun e w' => (∃ v, e = .returned v ∧ NatV w' v (m + n)) ∧ Below w.heap.size w w' := by
  obtain ⟨i0, hi, hz0, hz1, hz2⟩ := info_parts Tryz.infoU64
  obtain ⟨aa, ca, rfl, ha, hac, hac2⟩ := ha
  obtain ⟨ab, cb, rfl, hb0, hbc, hbc2⟩ := hb
  obtain ⟨S, hS⟩ : ∃ S, S = m + n := ⟨_, rfl⟩
  rw [← hS]
  have hall : ∃ (M N : Nat) (xa xb : Option Addr) (xc xd : Nat), M + N = S ∧ Cells w xa (dgs (dig M)) ∧ Cells w xb (dgs (dig N)) ∧ (dig N).length ≤ (dig M).length ∧ (dig M).length ≤ 17592186044410 ∧ ((¬ (dig m).length < (dig n).length ∧ M = m ∧ N = n ∧ xa = aa ∧ xb = ab ∧ xc = ca ∧ xd = cb) ∨ ((dig m).length < (dig n).length ∧ M = n ∧ N = m ∧ xa = ab ∧ xb = aa ∧ xc = cb ∧ xd = ca)) := by
    rcases Nat.lt_or_ge (dig m).length (dig n).length with h | h
    · exact ⟨n, m, ab, aa, cb, ca, by omega, hb0, ha, by omega, hn, .inr ⟨h, rfl, rfl, rfl, rfl, rfl, rfl⟩⟩
    · exact ⟨m, n, aa, ab, ca, cb, by omega, ha, hb0, h, hm, .inl ⟨by omega, rfl, rfl, rfl, rfl, rfl, rfl⟩⟩
  obtain ⟨M, N, xa, xb, xc, xd, hsum, hA, hB, hle, hM, hcase⟩ := hall
  have HA := Lib.hid hA; have HB := Lib.hid hB; have HSUM := Lib.hid hsum
  clear hA hB hsum ha hb0 hS
  have ezz : IntKind.i64.wrap (((dig M).length : Int) + 1) = (((dig M).length + 1 : Nat) : Int) := by rw [show ((dig M).length : Int) + 1 = (((dig M).length + 1 : Nat) : Int) from by omega]; exact IntWalk.i64_in _ (by omega)
  rcases hcase with ⟨hlt, rfl, rfl, rfl, rfl, rfl, rfl⟩ | ⟨hlt, rfl, rfl, rfl, rfl, rfl, rfl⟩
  all_goals
    go_enter Tryz.func223, Tryz.ntmps223
    go_wp2_with (at_make; refine wpList_make_own _ rfl _ _ 126 rfl w.heap.size 196 i0 (.int .u64 0) 1 Tryz.underlying126 hi hz0 hz1 .i64 .i64 _ ((dig M).length + 1) rfl rfl (by omega) (by rw [hz2]; omega) (by unfold maxLen; omega) (Nat.le_refl _) ?_; intro w1 hown1 hgrow1)
    have hb1 := (Below.refl w.heap.size w).grown hgrow1 (Nat.le_refl _) (fun _ h => by cases h)
    clear hgrow1 ezz
    have HO1 := Lib.hid hown1; clear hown1
    go_wp2
    go_loopw [5, 6, 22] (fun ov cv iv wr => ∃ (i : Nat) (os : List Nat) (c : Nat), i ≤ (dig M).length ∧ iv = .int .i64 i ∧ cv = .int .u64 c ∧ c ≤ 1 ∧ Sm os ∧ val ((dig M).take i) + val ((dig N).take i) = val os + B ^ i * c ∧ os.length = i ∧ wr.ownsRow w.heap.size 196 1 ov i (dgs os) ∧ Below w.heap.size w wr) (fun _ _ iv _ => (dig M).length - (intOf iv).toNat)
    case atStart => exact ⟨0, [], 0, Nat.zero_le _, rfl, rfl, by omega, fun d hd => by simp at hd, by simp [val], rfl, HO1.out, hb1⟩
    case round =>
      clear hb1 HO1
      obtain ⟨i, os, c, hi9, rfl, rfl, hc1, hsm, heq, hol, hown, hb⟩ := hrel
      have hsz := hb.size
      have HOB : Hid (∀ j, u5.ownBlock = some j → w.heap.size ≤ j) := fun j e => (hown.lt j e).1
      by_cases hii : i = (dig M).length
      · have hpe := plus_end (by exact hsm) (by rw [hol, hii]) hle hc1 (by rw [← hii]; exact heq)
        have HPE := Lib.hid hpe; have HOL := Lib.hid hol; have HII := Lib.hid hii
        have hi1 : ¬ i < (dig M).length := by omega
        have hi2 : (dig M).length ≤ i := by omega
        clear hpe hsm heq hol hii
        rcases Nat.eq_zero_or_pos c with hc0 | hc0
        · subst hc0
          obtain ⟨g, cc, rfl, hcs, hcc1, hcc2⟩ := own_cap hown
          have HF := Lib.hid (natV_own2 hown (HPE.out.1 (by trivial)) HOL.out.symm)
          clear hcs hown
          go_wp2
          go_ret
          rw [← HSUM.out]
          exact ⟨⟨_, rfl, HF.out⟩, hb⟩
        · obtain rfl : c = 1 := by omega
          go_wp2_with (at_builtin; refine wpList_append_own _ rfl _ _ 126 rfl w.heap.size 196 i0 (.int .u64 0) 1 8 Tryz.underlying126 hi hz0 hz1 hz2 rfl (by decide) _ _ _ rfl (hown.alloc _) ⟨wr.heap.size, 0, none⟩ 1 1 [.int .u64 1] rfl rfl (news1 _ _ _) (by simp [Value.oneCell']) (by unfold maxLen; omega) (by omega) (by simp; omega) ?_; intro v1 wz hown1 hgrow _)
          have hfin := hown1
          rw [show dgs os ++ [.int .u64 1] = dgs (os ++ [1]) from by rw [dgs_append]; rfl] at hfin
          have hbz := (hb.alloc hsz (.cells #[.int .u64 1] 196)).grown hgrow (by simp; omega) HOB.out
          have HF := Lib.hid (natV_own2 hfin (HPE.out.2 (by trivial)) (by rw [List.length_append, HOL.out]; rfl))
          obtain ⟨g, cc, rfl, hcs, hcc1, hcc2⟩ := own_cap hfin
          clear hown1 hgrow hown hcs hfin
          go_wp2
          go_ret
          rw [← HSUM.out]
          exact ⟨⟨_, rfl, HF.out⟩, hbz⟩
      · have hilt : i < (dig M).length := by omega
        obtain ⟨x, hx⟩ := get_of_lt hilt
        obtain ⟨ba, offa, rfl⟩ := HA.out.addr (dgs_ne (by omega))
        have cx := cell_keep (HA.out.dgs hx) hb (Nat.le_refl _)
        have hxb := sm_get (sm_dig M) hx
        have j0 : (i : Int) < (dig M).length := by omega
        have HHX := Lib.hid hx; have HHEQ := Lib.hid heq; have HHSM := Lib.hid hsm; have HHOL := Lib.hid hol
        clear hx heq hsm hol hii
        by_cases hib : i < (dig N).length
        · obtain ⟨y, hy⟩ := get_of_lt hib
          obtain ⟨bb, offb, rfl⟩ := HB.out.addr (dgs_ne (by omega))
          have cy := cell_keep (HB.out.dgs hy) hb (Nat.le_refl _)
          have hyb := sm_get (sm_dig N) hy
          have hyd : (dig N).getD i 0 = y := by simp [List.getD, hy]
          have j1 : (i : Int) < (dig N).length := by omega
          have HEQ := Lib.hid (plus_step HHX.out hyd HHOL.out HHEQ.out)
          have HSM := Lib.hid (sm_append HHSM.out (sm_one (Nat.mod_lt (c + x + y) B_pos)))
          have hcl : (c + x + y) / B ≤ 1 := by
            have : (c + x + y) / B < 2 := Nat.div_lt_of_lt_mul (by simp only [B]; omega)
            omega
          have e1 : ((c : Int) + x + y) % 1000000000 = (((c + x + y) % B : Nat) : Int) := by simp [B]
          have e2 : ((c : Int) + x + y) / 1000000000 = (((c + x + y) / B : Nat) : Int) := by simp [B]
          have E1 := Lib.hid e1; have E2 := Lib.hid e2
          have HOSL := HHOL
          clear hy hyd e1 e2
          go_wp2_with (at_builtin; refine wpList_append_own _ rfl _ _ 126 rfl w.heap.size 196 i0 (.int .u64 0) 1 8 Tryz.underlying126 hi hz0 hz1 hz2 rfl (by decide) _ _ _ rfl (hown.alloc _) ⟨wr.heap.size, 0, none⟩ 1 1 [.int .u64 (((c : Int) + x + y) % 1000000000)] rfl rfl (news1 _ _ _) (by simp [Value.oneCell']) (by unfold maxLen; omega) (by omega) (by simp; omega) ?_; intro v1 wz hown1 hgrow _)
          have hfin := hown1
          rw [show dgs os ++ [.int .u64 (((c : Int) + x + y) % 1000000000)] = dgs (os ++ [(c + x + y) % B]) from by rw [dgs_append, E1.out]; rfl] at hfin
          have hbz := (hb.alloc hsz (.cells #[.int .u64 (((c : Int) + x + y) % 1000000000)] 196)).grown hgrow (by simp; omega) HOB.out
          clear hown1 hgrow hown
          have HFIN := Lib.hid hfin; clear hfin
          go_wp2
          go_roundw
          case rel => exact ⟨i + 1, os ++ [(c + x + y) % B], (c + x + y) / B, by omega, by go_num, by rw [E2.out], hcl, HSM.out, HEQ.out, by rw [List.length_append, HOSL.out]; rfl, by simpa using HFIN.out, hbz⟩
          case measure => simp [intOf]; omega
        · have hyd : (dig N).getD i 0 = 0 := by simp [List.getD, List.getElem?_eq_none (show (dig N).length ≤ i by omega)]
          have j1 : ¬ (i : Int) < (dig N).length := by omega
          have HEQ := Lib.hid (plus_step HHX.out hyd HHOL.out HHEQ.out)
          have HSM := Lib.hid (sm_append HHSM.out (sm_one (Nat.mod_lt (c + x + 0) B_pos)))
          have hcl : (c + x + 0) / B ≤ 1 := by
            have : (c + x + 0) / B < 2 := Nat.div_lt_of_lt_mul (by simp only [B]; omega)
            omega
          have e1 : ((c : Int) + x) % 1000000000 = (((c + x + 0) % B : Nat) : Int) := by simp [B]
          have e2 : ((c : Int) + x) / 1000000000 = (((c + x + 0) / B : Nat) : Int) := by simp [B]
          have E1 := Lib.hid e1; have E2 := Lib.hid e2
          have HOSL := HHOL
          clear  hyd e1 e2
          go_wp2_with (at_builtin; refine wpList_append_own _ rfl _ _ 126 rfl w.heap.size 196 i0 (.int .u64 0) 1 8 Tryz.underlying126 hi hz0 hz1 hz2 rfl (by decide) _ _ _ rfl (hown.alloc _) ⟨wr.heap.size, 0, none⟩ 1 1 [.int .u64 (((c : Int) + x) % 1000000000)] rfl rfl (news1 _ _ _) (by simp [Value.oneCell']) (by unfold maxLen; omega) (by omega) (by simp; omega) ?_; intro v1 wz hown1 hgrow _)
          have hfin := hown1
          rw [show dgs os ++ [.int .u64 (((c : Int) + x) % 1000000000)] = dgs (os ++ [(c + x + 0) % B]) from by rw [dgs_append, E1.out]; rfl] at hfin
          have hbz := (hb.alloc hsz (.cells #[.int .u64 (((c : Int) + x) % 1000000000)] 196)).grown hgrow (by simp; omega) HOB.out
          clear hown1 hgrow hown
          have HFIN := Lib.hid hfin; clear hfin
          go_wp2
          go_roundw
          case rel => exact ⟨i + 1, os ++ [(c + x + 0) % B], (c + x + 0) / B, by omega, by go_num, by rw [E2.out], hcl, HSM.out, HEQ.out, by rw [List.length_append, HOSL.out]; rfl, by simpa using HFIN.out, hbz⟩
          case measure => simp [intOf]; omega
end Go.Proofs.YtmafjfhnejeogaaGreatDoor

/- Decimal digits as text: plain. -/
namespace Go.Proofs.YtmafjfhnejeogaaGreatDoor
open Go.Lib

def isDg (c : UInt8) : Bool := decide (48 ≤ c.toNat) && decide (c.toNat ≤ 57)
def dval (l : List UInt8) : Nat := l.foldl (fun a c => 10 * a + (c.toNat - 48)) 0
theorem dval_foldl (l : List UInt8) (a : Nat) : l.foldl (fun a c => 10 * a + (c.toNat - 48)) a = a * 10 ^ l.length + dval l := by
  unfold dval
  induction l generalizing a with
  | nil => simp
  | cons c l ih =>
    rw [List.foldl_cons, List.foldl_cons, ih, ih (10 * 0 + _), List.length_cons, Nat.pow_succ]
    rw [Nat.add_mul, Nat.mul_zero, Nat.zero_add, Nat.mul_comm 10 a, Nat.mul_assoc, Nat.mul_comm 10 (10 ^ _)]
    omega
theorem dval_nil : dval [] = 0 := rfl
theorem dval_append (a b : List UInt8) : dval (a ++ b) = dval a * 10 ^ b.length + dval b := by
  rw [dval, List.foldl_append, dval_foldl]; rfl
theorem dval_snoc (a : List UInt8) (c : UInt8) : dval (a ++ [c]) = 10 * dval a + (c.toNat - 48) := by
  rw [dval, List.foldl_append]; rfl
theorem dval_cons (c : UInt8) (l : List UInt8) : dval (c :: l) = (c.toNat - 48) * 10 ^ l.length + dval l := by
  rw [show c :: l = [c] ++ l from rfl, dval_append, show dval [c] = c.toNat - 48 from by show 10 * 0 + _ = _; omega]
theorem dval_lt : ∀ (l : List UInt8), l.all isDg = true → dval l < 10 ^ l.length := by
  intro l
  induction l with
  | nil => intro _; simp [dval]
  | cons c l ih =>
    intro h
    rw [List.all_cons, Bool.and_eq_true] at h
    have h1 := ih h.2
    have h2 := h.1
    simp only [isDg, Bool.and_eq_true, decide_eq_true_eq] at h2
    rw [dval_cons, List.length_cons, Nat.pow_succ]
    have : (c.toNat - 48) * 10 ^ l.length ≤ 9 * 10 ^ l.length := Nat.mul_le_mul_right _ (by omega)
    omega

/-- reading decimal digits -/
def natP (l : List UInt8) : Option Nat := if l = [] then none else if l.all isDg then some (dval l) else none

theorem dg_of (d : Nat) (h : d < 10) : isDg (UInt8.ofNat (48 + d)) = true ∧ (UInt8.ofNat (48 + d)).toNat = 48 + d := by
  have e : (UInt8.ofNat (48 + d)).toNat = 48 + d := by rw [UInt8.toNat_ofNat']; omega
  refine ⟨?_, e⟩
  rw [isDg, e]; simp; omega
/-- the decimal digits of a number are read as the number -/
theorem dec_read (n : Nat) : (decDigits n).all isDg = true ∧ dval (decDigits n) = n ∧ decDigits n ≠ [] := by
  induction n using Nat.strongRecOn with
  | ind n ih =>
    by_cases h : n < 10
    · have e : decDigits n = [UInt8.ofNat (48 + n)] := by rw [decDigits, dif_pos h]
      have h1 := dg_of n h
      rw [e]
      refine ⟨by rw [List.all_cons, h1.1]; rfl, ?_, by simp⟩
      show 10 * 0 + _ = n
      rw [h1.2]; omega
    · obtain ⟨i1, i2, i3⟩ := ih (n / 10) (by omega)
      have h1 := dg_of (n % 10) (by omega)
      rw [decDigits_step h]
      refine ⟨by rw [List.all_append, i1, List.all_cons, h1.1]; rfl, ?_, by simp⟩
      rw [dval_snoc, i2, h1.2]; omega
theorem natP_dec (n : Nat) : natP (decDigits n) = some n := by
  obtain ⟨h1, h2, h3⟩ := dec_read n
  rw [natP, if_neg h3, if_pos h1, h2]

/-- a chunk of nine -/
theorem chunk_val {l : List UInt8} {ds : List Nat} {k j n : Nat} (hj : j ≤ k) (hn : n = dval ((l.drop j).take (k - j))) (hd : l.length - k = 9 * ds.length) (hv : val ds = dval (l.drop k)) :
    val (ds ++ [n]) = dval (l.drop j) := by
  have e : l.drop j = (l.drop j).take (k - j) ++ l.drop k := by
    conv => lhs; rw [← List.take_append_drop (k - j) (l.drop j)]
    rw [List.drop_drop, show j + (k - j) = k from by omega]
  rw [e, dval_append, List.length_drop, ← hv, ← hn, val_snoc, hd, B_pow, Nat.mul_comm n]
  omega
theorem all_drop {l : List UInt8} {j k : Nat} (hj : j ≤ k) (h1 : ((l.drop j).take (k - j)).all isDg = true) (h2 : (l.drop k).all isDg = true) : (l.drop j).all isDg = true := by
  have e : l.drop j = (l.drop j).take (k - j) ++ l.drop k := by
    conv => lhs; rw [← List.take_append_drop (k - j) (l.drop j)]
    rw [List.drop_drop, show j + (k - j) = k from by omega]
  rw [e, List.all_append, h1, h2]; rfl
end Go.Proofs.YtmafjfhnejeogaaGreatDoor

/- Reading decimal digits: natText of package num. -/
namespace Go.Proofs.YtmafjfhnejeogaaGreatDoor
open Go.RowKit

/-- what natText returns -/
def NatTextRes (l : List UInt8) (w : World) (e : Ending) (w' : World) : Prop :=
  (match natP l with
    | none => e = .returned (.tuple #[.slice none 0 0, .bool false])
    | some n => ∃ v, e = .returned (.tuple #[v, .bool true]) ∧ NatV w' v n) ∧ Below w.heap.size w w'
theorem natTextRes_none {l : List UInt8} {w w' : World} (h : natP l = none) (hb : Below w.heap.size w w') : NatTextRes l w (.returned (.tuple #[.slice none 0 0, .bool false])) w' := ⟨by rw [h], hb⟩
theorem natTextRes_some {l : List UInt8} {w w' : World} {n : Nat} {v : Value} (h : natP l = some n) (hv : NatV w' v n) (hb : Below w.heap.size w w') : NatTextRes l w (.returned (.tuple #[v, .bool true])) w' := ⟨by rw [h]; exact ⟨v, rfl, hv⟩, hb⟩

theorem natP_bad {l : List UInt8} {i : Nat} {c : UInt8} (h : l[i]? = some c) (hc : isDg c = false) : natP l = none := by
  rw [natP]
  split
  · rfl
  · rw [if_neg]
    intro ha
    have := List.all_eq_true.1 ha c (List.mem_of_getElem? h)
    rw [hc] at this; cases this
/-- a byte of a string -/
theorem byte_get {t : ByteArray} {i : Nat} (h : i < t.size) : ∃ c, t.data.toList[i]? = some c ∧ t[i] = c := ⟨t[i], by rw [List.getElem?_eq_getElem (by simpa using h)]; rfl, rfl⟩

set_option maxRecDepth 100000 in
set_option maxHeartbeats 2000000 in
theorem natText_read (s : ByteArray) (w : World) (hs : s.size ≤ 1099511627776) :
    Calls Tryz.prog 222 #[.string s] w (NatTextRes s.data.toList w) := by
  obtain ⟨i0, hi, hz0, hz1, hz2⟩ := info_parts Tryz.infoU64
  obtain ⟨l, hl⟩ : ∃ l, l = s.data.toList := ⟨_, rfl⟩
  have hsl : s.size = l.length := by rw [hl]; rfl
  rw [← hl]
  by_cases h0 : l = []
  · have h00 : s = ⟨#[]⟩ := by
      have : s.data = #[] := by rw [hl] at h0; simpa using h0
      cases s; simp_all
    have hp : natP l = none := by rw [natP, if_pos h0]
    have HP := Lib.hid hp
    subst h00
    clear hp h0 hl hsl
    go_enter Tryz.func222, Tryz.ntmps222
    go_wp2
    go_ret2
    exact natTextRes_none HP.out (Below.refl _ _)
  · have HL := Lib.hid hl; have H0 := Lib.hid h0
    have hpos : 0 < l.length := List.length_pos_iff.2 h0
    have hne : s.toList.isEmpty = false := by rw [Lib.toList_data, ← hl]; simpa using h0
    have hsl1 : l.length ≤ 1099511627776 := by omega
    clear h0 hl hsl
    go_enter Tryz.func222, Tryz.ntmps222
    go_wp2_with fail
    clear hne
    go_loopw [4, 0] (fun ov sv wr => ∃ (t : ByteArray) (k : Nat) (ds : List Nat), sv = .string t ∧ t.data.toList = l.take k ∧ k ≤ l.length ∧ (l.length - k = 9 * ds.length ∨ k = 0) ∧ val ds = dval (l.drop k) ∧ (l.drop k).all isDg = true ∧ Sm ds ∧ ds.length + k ≤ l.length ∧ wr.ownsRow w.heap.size 196 1 ov ds.length (dgs ds) ∧ Below w.heap.size w wr) (fun _ sv _ => match sv with | .string t => t.size | _ => 0)
    case atStart => exact ⟨s, l.length, [], rfl, by rw [List.take_length, HL.out], Nat.le_refl _, .inl (by simp), by rw [List.drop_length]; rfl, by rw [List.drop_length]; rfl, fun d hd => by simp at hd, by simp, World.ownsRow_nil _ _ _ _, Below.refl _ _⟩
    case round =>
      clear hs
      obtain ⟨t, k, ds, rfl, ht, hk, hor, hv, hall, hsm, hdl, hown, hb⟩ := hrel
      have hts : t.size = k := by
        have := congrArg List.length ht
        rw [List.length_take, Nat.min_eq_left hk] at this; exact this
      rcases Nat.eq_zero_or_pos k with hk0 | hk0
      · subst hk0
        rw [List.drop_zero] at hv hall
        have hp : natP l = some (dval l) := by rw [natP, if_neg H0.out, if_pos hall]
        rw [← hv] at hp
        have HP := Lib.hid hp
        obtain ⟨g, cc, rfl, hcs, hcc1, hcc2⟩ := own_cap hown
        unfold maxLen at hcc2
        have hle := lean_any g ds cc wr hcs hsm (by omega) hcc1 hcc2
        have hdv : (dig (val ds)).length ≤ ds.length := dig_len_val hsm
        have HLE := Lib.hid hle
        clear hle hcs hown hv hall hsm hp ht
        have z1 : ¬ 0 < t.size := by omega
        have z2 : t.size ≤ 0 := by omega
        clear hts
        go_wp2_with fail
        refine HLE.out.mono ?_
        rintro e w1 ⟨⟨rfl, hcl⟩, rfl⟩
        have HCL := Lib.hid hcl; clear hcl
        go_wp2
        go_ret2
        exact natTextRes_some HP.out ⟨_, _, rfl, HCL.out, by omega, by omega⟩ hb
      · have hd9 : l.length - k = 9 * ds.length := by omega
        have z1 : 0 < t.size := by omega
        have hgetc : ∀ i, i < k → ∃ c, l[i]? = some c ∧ ∃ h : i < t.size, t[i] = c := fun i h => by
          obtain ⟨c, h1, h2⟩ := byte_get (t := t) (i := i) (by omega)
          refine ⟨c, ?_, by omega, h2⟩
          rw [ht, List.getElem?_take, if_pos h] at h1
          exact h1
        have hext : ∀ j, j ≤ k → (t.extract 0 j).data.toList = l.take j := fun j h => by
          have : (t.extract 0 j).data.toList = t.data.toList.take j := by simp [ByteArray.data_extract]
          rw [this, ht, List.take_take, Nat.min_eq_left h]
        obtain ⟨j, hj⟩ : ∃ j, j = k - 9 := ⟨_, rfl⟩
        have HJ9 := Lib.hid (show j = 0 ∨ k = j + 9 by omega)
        have hjk : j ≤ k := by omega
        have hkj : k - j ≤ 9 := by omega
        have hjlt : j < k := by omega
        have emax : max (0 : Int) ((k : Int) - 9) = (j : Int) := by omega
        have HGC := Lib.hid hgetc; have HEX := Lib.hid hext; have HV := Lib.hid hv; have HALL := Lib.hid hall; have HSM := Lib.hid hsm; have HD9 := Lib.hid hd9; have HTS := Lib.hid hts
        clear hgetc hext hv hall hsm hd9 ht hor hj hts
        have hsz := hb.size
        have ets : (t.size : Int) = (k : Int) := by rw [HTS.out]
        have ewr : IntKind.i64.wrap ((k : Int) - 9) = (k : Int) - 9 := IntWalk.i64_in _ (by omega)
        go_wp2_with fail
        clear emax ewr
        go_loop [6, 7] (fun nv iv => ∃ i n : Nat, j ≤ i ∧ i ≤ k ∧ iv = .int .i64 i ∧ nv = .int .u64 n ∧ n = dval ((l.drop j).take (i - j)) ∧ ((l.drop j).take (i - j)).all isDg = true) (fun _ iv => k - (intOf iv).toNat)
        case atStart => exact ⟨j, 0, Nat.le_refl _, hjk, rfl, rfl, by rw [Nat.sub_self, List.take_zero]; rfl, by rw [Nat.sub_self, List.take_zero]; rfl⟩
        case round =>
          obtain ⟨i, n, hji, hik, rfl, rfl, hn, ha⟩ := hrel
          have hn9 : n < 1000000000 := by
            have h1 := dval_lt _ ha
            rw [← hn] at h1
            have h2 : ((l.drop j).take (i - j)).length ≤ 9 := by rw [List.length_take]; omega
            have h3 := Nat.pow_le_pow_right (n := 10) (by decide) h2
            omega
          by_cases hlt : i < k
          · obtain ⟨c, hlc, hit, rfl⟩ := HGC.out i hlt
            have hc8 : (t[i].toNat : Int) ≤ 255 := by have := t[i].toNat_lt; omega
            have htk : (l.drop j).take (i + 1 - j) = (l.drop j).take (i - j) ++ [t[i]] := by
              rw [show i + 1 - j = (i - j) + 1 from by omega, List.take_add_one, List.getElem?_drop, show j + (i - j) = i from by omega, hlc]; rfl
            have HLC := Lib.hid hlc; have HTK := Lib.hid htk; have HN := Lib.hid hn; have HAA := Lib.hid ha
            clear hlc htk hn ha
            have i1 : (i : Int) < (k : Int) := by omega
            have i2 : (0 : Int) ≤ (i : Int) := by omega
            have i3 : (i : Int) < (t.size : Int) := by omega
            by_cases hd : isDg t[i] = true
            · have hd2 := hd
              simp only [isDg, Bool.and_eq_true, decide_eq_true_eq] at hd2
              have hd3 : (48 : Int) ≤ (t[i].toNat : Int) ∧ (t[i].toNat : Int) ≤ 57 := by omega
              obtain ⟨d1, d2⟩ := hd3
              have en : (10 * (n : Int) + ((t[i].toNat : Int) - 48)) = ((10 * n + (t[i].toNat - 48) : Nat) : Int) := by omega
              have HD := Lib.hid hd; have EN := Lib.hid en
              clear hd hd2 en
              go_wp2_with fail
              go_round
              case rel => exact ⟨i + 1, 10 * n + (t[i].toNat - 48), by omega, by omega, by go_num, by rw [EN.out], by rw [HTK.out, dval_snoc, HN.out], by rw [HTK.out, List.all_append, HAA.out, List.all_cons, HD.out]; rfl⟩
              case measure => simp [intOf]; omega
            · have hdf : isDg t[i] = false := by simpa using hd
              have hp := natP_bad HLC.out hdf
              have hd3 : (t[i].toNat : Int) < 48 ∨ (57 : Int) < (t[i].toNat : Int) := by
                simp only [isDg, Bool.and_eq_false_iff, decide_eq_false_iff_not] at hdf
                omega
              have HP := Lib.hid hp
              clear hd hdf hp
              rcases hd3 with hd3 | hd3
              · go_wp2_with fail
                go_ret2
                exact natTextRes_none HP.out hb
              · have hd4 : (48 : Int) ≤ (t[i].toNat : Int) := by omega
                go_wp2_with fail
                go_ret2
                exact natTextRes_none HP.out hb
          · obtain rfl : i = k := by omega
            have hv2 := chunk_val hji hn HD9.out HV.out
            have ha2 := all_drop hji ha HALL.out
            have hsm2 := sm_append HSM.out (sm_one (show n < B by simp only [B]; omega))
            have he2 := HEX.out j hji
            have HV2 := Lib.hid hv2; have HA2 := Lib.hid ha2; have HSM2 := Lib.hid hsm2; have HE2 := Lib.hid he2
            have HOB : Hid (∀ j, u4.ownBlock = some j → w.heap.size ≤ j) := fun j e => (hown.lt j e).1
            have hlast : l.length - j = 9 * (ds ++ [n]).length ∨ j = 0 := by
              rw [List.length_append, List.length_singleton]
              have := HD9.out
              have := HJ9.out
              omega
            have HLS := Lib.hid hlast
            have i1 : ¬ ((i : Int) < (i : Int)) := by omega
            clear hn ha hv2 ha2 hsm2 he2 hlast
            go_wp2_with (at_builtin; refine wpList_append_own _ rfl _ _ 126 rfl w.heap.size 196 i0 (.int .u64 0) 1 8 Tryz.underlying126 hi hz0 hz1 hz2 rfl (by decide) _ _ _ rfl (hown.alloc _) ⟨wr.heap.size, 0, none⟩ 1 1 [.int .u64 (n : Nat)] rfl rfl (news1 _ _ _) (by simp [Value.oneCell']) (by unfold maxLen; omega) (by omega) (by simp; omega) ?_; intro v1 wz hown1 hgrow _)
            have hfin := hown1
            rw [show dgs ds ++ [.int .u64 (n : Nat)] = dgs (ds ++ [n]) from by rw [dgs_append]; rfl] at hfin
            have hbz := (hb.alloc hsz (.cells #[.int .u64 (n : Nat)] 196)).grown hgrow (by simp; omega) HOB.out
            clear hown1 hgrow hown
            have HFIN := Lib.hid hfin; clear hfin
            have j1 : (0 : Int) ≤ (j : Int) := by omega
            have j2 : (j : Int) ≤ (t.size : Int) := by omega
            go_wp2_with fail
            go_roundw
            case rel => exact ⟨t.extract 0 j, j, ds ++ [n], rfl, HE2.out, by omega, HLS.out, HV2.out, HA2.out, HSM2.out, by rw [List.length_append, List.length_singleton]; omega, by simpa using HFIN.out, hbz⟩
            case measure =>
              have : (t.extract 0 j).data.toList.length = j := by rw [HE2.out, List.length_take, Nat.min_eq_left (by omega)]
              have h2 : (t.extract 0 j).size = j := this
              simp [h2]; omega
end Go.Proofs.YtmafjfhnejeogaaGreatDoor

/- Reading a rational number: strings.Cut at a slash, parsed of package num. -/
namespace Go.Proofs.YtmafjfhnejeogaaGreatDoor
open Go.RowKit

theorem indexB_one (s : ByteArray) (c : UInt8) : Lib.indexB s ⟨#[c]⟩ = Lib.indexByte s.data.toList c := Lib.index_one _ _

set_option maxHeartbeats 1000000 in
set_option maxRecDepth 100000 in
theorem slCut_slash (s : ByteArray) (w : World) (hs : s.size ≤ 1099511627776) :
    Calls Tryz.prog 199 #[.string s, .string ⟨#[47]⟩] w fun e w' => e = .returned (.tuple #[.string ⟨(Lib.cut s.data.toList [47]).1.toArray⟩, .string ⟨(Lib.cut s.data.toList [47]).2.1.toArray⟩, .bool (Lib.cut s.data.toList [47]).2.2]) ∧ ∃ n, w' = w.drewN n := by
  rcases Lib.indexB_cases s ⟨#[47]⟩ with hix | ⟨i, hix, hroom⟩
  · obtain ⟨e1, e2, e3⟩ := Lib.cutB_miss s ⟨#[47]⟩ hix
    rw [indexB_one] at hix
    have E1 : Hid ((⟨(Lib.cut s.data.toList [47]).1.toArray⟩ : ByteArray) = s) := e1
    have E2 : Hid ((⟨(Lib.cut s.data.toList [47]).2.1.toArray⟩ : ByteArray) = ByteArray.empty) := e2
    have E3 : Hid ((Lib.cut s.data.toList [47]).2.2 = false) := e3
    have HIX := Lib.hid hix
    clear hix e1 e2 e3
    go_enter Tryz.func199, Tryz.ntmps199
    go_wp2_with fail
    refine (Tryz.stringslite_Index_one s 47 _).mono ?_
    rintro e w' ⟨rfl, rfl⟩
    rw [HIX.out]
    go_wp2
    go_ret3
    exact ⟨by rw [E1.out, E2.out, E3.out]; rfl, 0, rfl⟩
  · obtain ⟨e1, e2, e3⟩ := Lib.cutB_hit s ⟨#[47]⟩ i hix
    rw [indexB_one] at hix
    have hs1 : (⟨#[47]⟩ : ByteArray).size = 1 := rfl
    rw [hs1] at hroom e2
    have E1 : Hid ((⟨(Lib.cut s.data.toList [47]).1.toArray⟩ : ByteArray) = s.extract 0 i) := e1
    have E2 : Hid ((⟨(Lib.cut s.data.toList [47]).2.1.toArray⟩ : ByteArray) = s.extract (i + 1) s.size) := e2
    have E3 : Hid ((Lib.cut s.data.toList [47]).2.2 = true) := e3
    have HIX := Lib.hid hix
    clear hix e1 e2 e3
    have c1 : (0 : Int) ≤ ↑i := by omega
    have c2 : (↑i : Int) ≤ ↑s.size := by omega
    have c3 : (0 : Int) ≤ ↑i + 1 := by omega
    have c4 : (↑i + 1 : Int) ≤ ↑s.size := by omega
    have c5 : ((i : Int) + 1).toNat = i + 1 := by omega
    have c6 : IntKind.i64.wrap ((i : Int) + 1) = (i : Int) + 1 := IntWalk.i64_in _ (by omega)
    go_enter Tryz.func199, Tryz.ntmps199
    go_wp2_with fail
    refine (Tryz.stringslite_Index_one s 47 _).mono ?_
    rintro e w' ⟨rfl, rfl⟩
    rw [HIX.out]
    go_wp2_with fail
    go_quiet (fail)
    go_wp2
    go_ret3
    exact ⟨by rw [E1.out, E2.out, E3.out]; rfl, _, rfl⟩

theorem cut_slash (s : ByteArray) (w : World) (hs : s.size ≤ 1099511627776) :
    Calls Tryz.prog 152 #[.string s, .string ⟨#[47]⟩] w fun e w' => e = .returned (.tuple #[.string ⟨(Lib.cut s.data.toList [47]).1.toArray⟩, .string ⟨(Lib.cut s.data.toList [47]).2.1.toArray⟩, .bool (Lib.cut s.data.toList [47]).2.2]) ∧ ∃ n, w' = w.drewN n := by
  go_enter Tryz.func152, Tryz.ntmps152
  go_wp2_with fail
  refine (slCut_slash s _ hs).mono ?_
  rintro e w' ⟨rfl, n, rfl⟩
  go_wp2
  go_ret3
  exact ⟨rfl, n, rfl⟩
end Go.Proofs.YtmafjfhnejeogaaGreatDoor

/- Reading a rational number: parsed of package num. -/
namespace Go.Proofs.YtmafjfhnejeogaaGreatDoor
open Go.RowKit

/-- what a text says before it is reduced: the sign, above and below -/
def parseD (m : Bool) (c : List UInt8 × List UInt8 × Bool) : Option (Bool × Nat × Nat) :=
  match natP c.1 with
  | none => none
  | some n => if c.2.2 = true then (match natP c.2.1 with | none => none | some d => if d = 0 then none else some (m, n, d)) else some (m, n, 1)
def parseR (l : List UInt8) : Option (Bool × Nat × Nat) := parseD (Lib.hasPrefix l [45]) (Lib.cut (Lib.trimPrefix l [45]) [47])
def ParsedRes (r : Option (Bool × Nat × Nat)) (w : World) (e : Ending) (w' : World) : Prop :=
  (match r with
    | none => e = .returned (.tuple #[.agg #[.bool false, .slice none 0 0, .slice none 0 0], .bool false])
    | some (m, n, d) => ∃ v, e = .returned (.tuple #[v, .bool true]) ∧ RatV w' v (m && decide (n ≠ 0)) (n / Nat.gcd n d) (d / Nat.gcd n d)) ∧ Below w.heap.size w w'
theorem parsed_none {r : Option (Bool × Nat × Nat)} {w w' : World} (h : r = none) (hb : Below w.heap.size w w') : ParsedRes r w (.returned (.tuple #[.agg #[.bool false, .slice none 0 0, .slice none 0 0], .bool false])) w' := by subst h; exact ⟨rfl, hb⟩
theorem parsed_some {r : Option (Bool × Nat × Nat)} {w w' : World} {m : Bool} {n d : Nat} {v : Value} (h : r = some (m, n, d)) (hv : RatV w' v (m && decide (n ≠ 0)) (n / Nat.gcd n d) (d / Nat.gcd n d)) (hb : Below w.heap.size w w') : ParsedRes r w (.returned (.tuple #[v, .bool true])) w' := by subst h; exact ⟨⟨v, rfl, hv⟩, hb⟩

theorem natP_some {l : List UInt8} {n : Nat} (h : natP l = some n) : n < 10 ^ l.length := by
  rw [natP] at h
  split at h
  · cases h
  · split at h
    · rename_i h2
      rw [← Option.some.inj h]
      exact dval_lt l h2
    · cases h
theorem natP_len {l : List UInt8} {n : Nat} (h : natP l = some n) : (dig n).length ≤ l.length := by
  have h1 := natP_some h
  refine dig_len_lt (Nat.lt_of_lt_of_le h1 ?_)
  exact Nat.pow_le_pow_left (by decide) _
theorem cut_len (l : List UInt8) : (Lib.cut l [47]).1.length ≤ l.length ∧ (Lib.cut l [47]).2.1.length ≤ l.length := by
  unfold Lib.cut
  split
  · simp only [List.length_take, List.length_drop]; omega
  · simp
theorem trim_len (l p : List UInt8) : (Lib.trimPrefix l p).length ≤ l.length := by
  unfold Lib.trimPrefix
  split
  · rw [List.length_drop]; omega
  · exact Nat.le_refl _
theorem arr_size (l : List UInt8) : (⟨l.toArray⟩ : ByteArray).size = l.length := by
  show l.toArray.size = l.length
  simp

set_option maxRecDepth 100000 in
set_option maxHeartbeats 2000000 in
theorem parsed_any (s : ByteArray) (w : World) (hs : s.size ≤ 1099511627776) :
    Calls Tryz.prog 188 #[.string s] w (ParsedRes (parseR s.data.toList) w) := by
  have hcl := cut_len (Lib.trimPrefix s.data.toList [45])
  have htl := trim_len s.data.toList [45]
  have hsl : s.data.toList.length = s.size := rfl
  have hts : (⟨(Lib.trimPrefix s.data.toList [45]).toArray⟩ : ByteArray).size ≤ 1099511627776 := by rw [arr_size]; omega
  have hcut := fun W => cut_slash ⟨(Lib.trimPrefix s.data.toList [45]).toArray⟩ W hts
  have htd : (⟨(Lib.trimPrefix s.data.toList [45]).toArray⟩ : ByteArray).data.toList = Lib.trimPrefix s.data.toList [45] := by simp
  have hcp := fun W => Tryz.strings_CutPrefix s ⟨#[45]⟩ W
  have hcp2 : ∀ W, Calls Tryz.prog 221 #[.string s, .string ⟨#[45]⟩] W fun e w' => e = .returned (.tuple #[.string ⟨(Lib.trimPrefix s.data.toList [45]).toArray⟩, .bool (Lib.hasPrefix s.data.toList [45])]) ∧ w' = W := hcp
  clear hcp
  rw [htd] at hcut
  have hpr : parseR s.data.toList = parseD (Lib.hasPrefix s.data.toList [45]) (Lib.cut (Lib.trimPrefix s.data.toList [45]) [47]) := rfl
  rw [hpr]
  clear hpr htd
  obtain ⟨hc1, hc2⟩ := hcl
  have h1 : (Lib.cut (Lib.trimPrefix s.data.toList [45]) [47]).1.length ≤ 1099511627776 := by omega
  have h2 : (Lib.cut (Lib.trimPrefix s.data.toList [45]) [47]).2.1.length ≤ 1099511627776 := by omega
  clear hc1 hc2 htl hsl hts hs
  generalize (Lib.cut (Lib.trimPrefix s.data.toList [45]) [47]) = c at *
  generalize (Lib.hasPrefix s.data.toList [45]) = m at *
  generalize (⟨(Lib.trimPrefix s.data.toList [45]).toArray⟩ : ByteArray) = dg at *
  obtain ⟨la, lb, dv⟩ := c
  simp only at *
  obtain ⟨r, hr⟩ : ∃ r, r = parseD m (la, lb, dv) := ⟨_, rfl⟩
  rw [← hr]
  have hra : natP la = none → r = none := fun h => by rw [hr, parseD, h]
  have hrb : ∀ n, natP la = some n → dv = false → r = some (m, n, 1) := fun n h h3 => by rw [hr, parseD, h, h3]; rfl
  have hrc : ∀ n, natP la = some n → dv = true → natP lb = none → r = none := fun n h h3 h4 => by rw [hr, parseD, h, h3]; simp [h4]
  have hrd : ∀ n, natP la = some n → dv = true → natP lb = some 0 → r = none := fun n h h3 h4 => by rw [hr, parseD, h, h3]; simp [h4]
  have hre : ∀ n d, natP la = some n → dv = true → natP lb = some d → d ≠ 0 → r = some (m, n, d) := fun n d h h3 h4 h5 => by rw [hr, parseD, h, h3]; simp [h4, h5]
  have hta : ∀ W, Calls Tryz.prog 222 #[.string ⟨la.toArray⟩] W (NatTextRes la W) := fun W => natText_read ⟨la.toArray⟩ W (by rw [arr_size]; exact h1)
  have htb : ∀ W, Calls Tryz.prog 222 #[.string ⟨lb.toArray⟩] W (NatTextRes lb W) := fun W => natText_read ⟨lb.toArray⟩ W (by rw [arr_size]; exact h2)
  have HCUT := Lib.hid hcut; have HCP := Lib.hid hcp2; have HRA := Lib.hid hra; have HRB := Lib.hid hrb; have HRC := Lib.hid hrc; have HRD := Lib.hid hrd; have HRE := Lib.hid hre; have HTA := Lib.hid hta; have HTB := Lib.hid htb
  clear hcut hcp2 hra hrb hrc hrd hre hta htb hr
  obtain ⟨W0, hW0⟩ : ∃ W0, W0 = w.alloc (.cells #[.bool false, .slice none 0 0, .slice none 0 0] 128) := ⟨_, rfl⟩
  have hbw : Below w.heap.size w W0 := by rw [hW0]; exact (Below.refl w.heap.size w).alloc (Nat.le_refl _) _
  have hz0 : W0.heap.size = w.heap.size + 1 := by rw [hW0]; simp
  have HBX : Hid (∀ {B : Nat} {w1 : World}, Below B W0 w1 → w.heap.size < B → (∀ i, w1.cell? ⟨w.heap.size, i, none⟩ = #[Value.bool false, .slice none 0 0, .slice none 0 0][i]?) ∧ (∀ i, w1.frozen? ⟨w.heap.size, i, none⟩ = false)) := fun hb hB => by
    rw [hW0] at hb
    exact ⟨fun i => box_keep hb hB i, fun i => box_free hb hB i⟩
  have HBW := Lib.hid hbw
  clear hbw
  go_enter Tryz.func188, Tryz.ntmps188
  go_wp2_with fail
  rw [← hW0]
  have HW0 := Lib.hid hW0
  clear hW0
  refine (HCP.out _).mono ?_
  rintro e w' ⟨rfl, rfl⟩
  go_wp2_with fail
  refine (HCUT.out _).mono ?_
  rintro e w' ⟨rfl, nd, rfl⟩
  go_wp2_with fail
  refine (HTA.out _).mono ?_
  rintro e w1 ⟨hm1, hb1⟩
  have hbx1 := (bel_drewN (Below.refl w'.heap.size w') nd).trans hb1
  clear hb1
  rcases hna : natP la with _ | n
  · rw [hna] at hm1
    have HR := Lib.hid (HRA.out hna)
    clear hna
    subst hm1
    obtain ⟨f1, f2⟩ := HBX.out hbx1 (by omega)
    have q0 := f1 0
    have q1 := f1 1
    have q2 := f1 2
    simp only [List.getElem?_toArray, List.getElem?_cons_succ, List.getElem?_cons_zero] at q0 q1 q2
    have g0 := f2 0
    have g1 := f2 1
    have g2 := f2 2
    clear f1 f2
    go_wp2
    refine bodyPost_ret (v := .tuple #[.agg #[.bool false, .slice none 0 0, .slice none 0 0], .bool false]) (by simp [results, Tryz.results188, go_sem, q0, q1, q2]) rfl ?_
    exact parsed_none HR.out ((((HBW.out.trans (hbx1.mono (by omega))).setCell (Nat.le_refl _) _).setCell (Nat.le_refl _) _).setCell (Nat.le_refl _) _)
  · rw [hna] at hm1
    obtain ⟨vn, rfl, hvn⟩ := hm1
    have hnl := natP_len hna
    have HNA := Lib.hid hna
    clear hna
    have HVN := Lib.hid hvn
    obtain ⟨an, cn, rfl⟩ := hvn.cases
    clear hvn
    go_wp2_with fail
    refine (one_any _).mono ?_
    rintro e w2 ⟨⟨v1, rfl, hv1⟩, hb2⟩
    have hbx2 := hbx1.trans (hb2.mono hbx1.size)
    have HVN2 := Lib.hid (HVN.out.below hb2 (Nat.le_refl _))
    have HV1 := Lib.hid hv1
    obtain ⟨a1, c1, rfl⟩ := hv1.cases
    clear hv1 hb2 hbx1
    cases dv
    · have HR := Lib.hid (HRB.out n HNA.out (by trivial))
      have hred := fun va vb W ha hb => reduced_any 2 (overOK_all _) m va vb n 1 W ha hb (by omega) (by rw [dig_1]; simp) (by decide) (by decide)
      have HRED := Lib.hid hred
      clear hred
      go_wp2_with fail
      refine (HRED.out _ _ _ HVN2.out HV1.out).mono ?_
      rintro e w3 ⟨⟨v3, rfl, hv3⟩, hb3⟩
      have hbx3 := hbx2.trans (hb3.mono hbx2.size)
      have HV3 := Lib.hid hv3
      obtain ⟨vx, vy, rfl, hx, hy⟩ := hv3
      obtain ⟨ax, cx, rfl⟩ := hx.cases
      obtain ⟨ay, cy, rfl⟩ := hy.cases
      have HX := Lib.hid hx; have HY := Lib.hid hy
      clear hx hy hb3 hbx2
      obtain ⟨f1, f2⟩ := HBX.out hbx3 (by omega)
      have q0 := f1 0
      have q1 := f1 1
      have q2 := f1 2
      simp only [List.getElem?_toArray, List.getElem?_cons_succ, List.getElem?_cons_zero] at q0 q1 q2
      have g0 := f2 0
      have g1 := f2 1
      have g2 := f2 2
      clear f1 f2
      go_wp2
      refine bodyPost_ret (v := .tuple #[.agg #[.bool (m && decide (n ≠ 0)), .slice ax (dig (n / Nat.gcd n 1)).length cx, .slice ay (dig (1 / Nat.gcd n 1)).length cy], .bool true]) (by simp [results, Tryz.results188, go_sem, q0, q1, q2]) rfl ?_
      exact parsed_some HR.out ⟨_, _, rfl, HX.out.box3 q0 q1 q2 trivial trivial trivial, HY.out.box3 q0 q1 q2 trivial trivial trivial⟩ ((((HBW.out.trans (hbx3.mono (by omega))).setCell (Nat.le_refl _) _).setCell (Nat.le_refl _) _).setCell (Nat.le_refl _) _)
    · go_wp2_with fail
      refine (HTB.out _).mono ?_
      rintro e w3 ⟨hm3, hb3⟩
      have hbx3 := hbx2.trans (hb3.mono hbx2.size)
      have HVN3 := Lib.hid (HVN2.out.below hb3 (Nat.le_refl _))
      clear hb3 hbx2
      rcases hnb : natP lb with _ | d
      · rw [hnb] at hm3
        have HR := Lib.hid (HRC.out n HNA.out (by trivial) hnb)
        clear hnb
        subst hm3
        obtain ⟨f1, f2⟩ := HBX.out hbx3 (by omega)
        have q0 := f1 0
        have q1 := f1 1
        have q2 := f1 2
        simp only [List.getElem?_toArray, List.getElem?_cons_succ, List.getElem?_cons_zero] at q0 q1 q2
        have g0 := f2 0
        have g1 := f2 1
        have g2 := f2 2
        clear f1 f2
        go_wp2
        refine bodyPost_ret (v := .tuple #[.agg #[.bool false, .slice none 0 0, .slice none 0 0], .bool false]) (by simp [results, Tryz.results188, go_sem, q0, q1, q2]) rfl ?_
        exact parsed_none HR.out ((((HBW.out.trans (hbx3.mono (by omega))).setCell (Nat.le_refl _) _).setCell (Nat.le_refl _) _).setCell (Nat.le_refl _) _)
      · rw [hnb] at hm3
        obtain ⟨vd, rfl, hvd⟩ := hm3
        have hdl := natP_len hnb
        have HVD := Lib.hid hvd
        obtain ⟨ad, cd, rfl⟩ := hvd.cases
        clear hvd
        by_cases hd0 : d = 0
        · subst hd0
          have HR := Lib.hid (HRD.out n HNA.out (by trivial) hnb)
          clear hnb
          have hl0 : (dig 0).length = 0 := by rw [dig_zero]; rfl
          rw [hl0]
          clear hl0
          obtain ⟨f1, f2⟩ := HBX.out hbx3 (by omega)
          have q0 := f1 0
          have q1 := f1 1
          have q2 := f1 2
          simp only [List.getElem?_toArray, List.getElem?_cons_succ, List.getElem?_cons_zero] at q0 q1 q2
          have g0 := f2 0
          have g1 := f2 1
          have g2 := f2 2
          clear f1 f2
          go_wp2
          refine bodyPost_ret (v := .tuple #[.agg #[.bool false, .slice none 0 0, .slice none 0 0], .bool false]) (by simp [results, Tryz.results188, go_sem, q0, q1, q2]) rfl ?_
          exact parsed_none HR.out ((((HBW.out.trans (hbx3.mono (by omega))).setCell (Nat.le_refl _) _).setCell (Nat.le_refl _) _).setCell (Nat.le_refl _) _)
        · have HR := Lib.hid (HRE.out n d HNA.out (by trivial) hnb hd0)
          have hdp : (((dig d).length : Int) == 0) = false := by
            have := mt dig_len_pos.1 hd0
            rw [beq_eq_false_iff_ne]; omega
          have hred := fun va vb W ha hb => reduced_any (d + 1) (overOK_all _) m va vb n d W ha hb (by omega) (by omega) (by omega) hd0
          have HRED := Lib.hid hred
          clear hred hnb hd0
          go_wp2_with fail
          refine (HRED.out _ _ _ HVN3.out HVD.out).mono ?_
          rintro e w4 ⟨⟨v3, rfl, hv3⟩, hb4⟩
          have hbx4 := hbx3.trans (hb4.mono hbx3.size)
          obtain ⟨vx, vy, rfl, hx, hy⟩ := hv3
          obtain ⟨ax, cx, rfl⟩ := hx.cases
          obtain ⟨ay, cy, rfl⟩ := hy.cases
          have HX := Lib.hid hx; have HY := Lib.hid hy
          clear hx hy hb4 hbx3
          obtain ⟨f1, f2⟩ := HBX.out hbx4 (by omega)
          have q0 := f1 0
          have q1 := f1 1
          have q2 := f1 2
          simp only [List.getElem?_toArray, List.getElem?_cons_succ, List.getElem?_cons_zero] at q0 q1 q2
          have g0 := f2 0
          have g1 := f2 1
          have g2 := f2 2
          clear f1 f2
          go_wp2
          refine bodyPost_ret (v := .tuple #[.agg #[.bool (m && decide (n ≠ 0)), .slice ax (dig (n / Nat.gcd n d)).length cx, .slice ay (dig (d / Nat.gcd n d)).length cy], .bool true]) (by simp [results, Tryz.results188, go_sem, q0, q1, q2]) rfl ?_
          exact parsed_some HR.out ⟨_, _, rfl, HX.out.box3 q0 q1 q2 trivial trivial trivial, HY.out.box3 q0 q1 q2 trivial trivial trivial⟩ ((((HBW.out.trans (hbx4.mono (by omega))).setCell (Nat.le_refl _) _).setCell (Nat.le_refl _) _).setCell (Nat.le_refl _) _)
end Go.Proofs.YtmafjfhnejeogaaGreatDoor

/- Reading a number without an imaginary part: get of package num. -/
namespace Go.Proofs.YtmafjfhnejeogaaGreatDoor
open Go.RowKit

/-- the number that a text says, if it is the number's own text and not too long -/
def ownD (s : ByteArray) (r : Option (Bool × Nat × Nat)) : Option (Bool × Nat × Nat) :=
  match r with
  | none => none
  | some (m, n, d) => if ratT (m && decide (n ≠ 0)) (n / Nat.gcd n d) (d / Nat.gcd n d) = s ∧ bigQ (n / Nat.gcd n d) (d / Nat.gcd n d) = false then some (m && decide (n ≠ 0), n / Nat.gcd n d, d / Nat.gcd n d) else none
def getR (s : ByteArray) : Option (Bool × Nat × Nat) := if 8008 < s.size then none else ownD s (parseR s.data.toList)
def GetRes (r : Option (Bool × Nat × Nat)) (w : World) (e : Ending) (w' : World) : Prop :=
  (match r with
    | none => e = .returned (.tuple #[.agg #[.bool false, .slice none 0 0, .slice none 0 0, .bool false, .slice none 0 0, .slice none 0 0], .bool false])
    | some (s, n, d) => ∃ v, e = .returned (.tuple #[v, .bool true]) ∧ ValV w' v s n d false 0 1) ∧ Below w.heap.size w w'
theorem get_none {r : Option (Bool × Nat × Nat)} {w w' : World} (h : r = none) (hb : Below w.heap.size w w') : GetRes r w (.returned (.tuple #[.agg #[.bool false, .slice none 0 0, .slice none 0 0, .bool false, .slice none 0 0, .slice none 0 0], .bool false])) w' := by subst h; exact ⟨rfl, hb⟩
theorem get_some {r : Option (Bool × Nat × Nat)} {w w' : World} {s : Bool} {n d : Nat} {v : Value} (h : r = some (s, n, d)) (hv : ValV w' v s n d false 0 1) (hb : Below w.heap.size w w') : GetRes r w (.returned (.tuple #[v, .bool true])) w' := by subst h; exact ⟨⟨v, rfl, hv⟩, hb⟩
theorem parseD_bd {m : Bool} {c : List UInt8 × List UInt8 × Bool} {L : Nat} (h1 : c.1.length ≤ L) (h2 : c.2.1.length ≤ L) {m' : Bool} {n d : Nat} (h : parseD m c = some (m', n, d)) : n < 10 ^ L ∧ d ≤ 10 ^ L ∧ d ≠ 0 := by
  have hp : 0 < 10 ^ L := Nat.pow_pos (by decide)
  rw [parseD] at h
  rcases ha : natP c.1 with _ | a
  · rw [ha] at h; cases h
  · rw [ha] at h
    have ha1 := Nat.lt_of_lt_of_le (natP_some ha) (Nat.pow_le_pow_right (by decide) h1)
    simp only at h
    split at h
    · rcases hb : natP c.2.1 with _ | b
      · rw [hb] at h; cases h
      · rw [hb] at h
        simp only at h
        have hb1 := Nat.lt_of_lt_of_le (natP_some hb) (Nat.pow_le_pow_right (by decide) h2)
        split at h
        · cases h
        · cases h; exact ⟨ha1, by omega, by assumption⟩
    · cases h; exact ⟨ha1, by omega, by decide⟩
theorem parseR_bd {l : List UInt8} {m : Bool} {n d : Nat} (h : parseR l = some (m, n, d)) : n < 10 ^ l.length ∧ d ≤ 10 ^ l.length ∧ d ≠ 0 := by
  have h1 := cut_len (Lib.trimPrefix l [45])
  have h2 := trim_len l [45]
  exact parseD_bd (by omega) (by omega) h
theorem digits_pow {n L : Nat} (h : n ≤ 10 ^ L) (hL : L ≤ 8008) : Lib.nDigits n ≤ 8009 := by
  refine Nat.le_trans (nDigits_le L n ?_) (by omega)
  have : 10 ^ L < 10 ^ (L + 1) := Nat.pow_lt_pow_right (by decide) (by omega)
  omega
theorem parse_zero : parseR [48] = some (false, 0, 1) := by decide

set_option maxRecDepth 100000 in
set_option maxHeartbeats 4000000 in
theorem get_noI (s : ByteArray) (w : World) (ht : Tab w) (hs : s.size ≤ 1099511627776) (hi : Lib.hasSuffix s.data.toList [105] = false) :
    Calls Tryz.prog 132 #[.string s] w (GetRes (getR s) w) := by
  have hcs := fun W => Tryz.strings_CutSuffix s ⟨#[105]⟩ W (by omega)
  have hcs2 : ∀ W, Calls Tryz.prog 187 #[.string s, .string ⟨#[105]⟩] W fun e w' => e = .returned (.tuple #[.string ⟨(Lib.trimSuffix s.data.toList [105]).toArray⟩, .bool false]) ∧ w' = W := fun W => by
    have := hcs W
    rwa [show (⟨#[105]⟩ : ByteArray).data.toList = [105] from rfl, hi] at this
  obtain ⟨W0, hW0⟩ : ∃ W0, W0 = w.alloc (.cells #[.bool false, .slice none 0 0, .slice none 0 0, .bool false, .slice none 0 0, .slice none 0 0] 145) := ⟨_, rfl⟩
  have hbw : Below w.heap.size w W0 := by rw [hW0]; exact (Below.refl w.heap.size w).alloc (Nat.le_refl _) _
  have hz0 : W0.heap.size = w.heap.size + 1 := by rw [hW0]; simp
  have HBX : Hid (∀ {B : Nat} {w1 : World}, Below B W0 w1 → w.heap.size < B → (∀ i, w1.cell? ⟨w.heap.size, i, none⟩ = #[Value.bool false, .slice none 0 0, .slice none 0 0, .bool false, .slice none 0 0, .slice none 0 0][i]?) ∧ (∀ i, w1.frozen? ⟨w.heap.size, i, none⟩ = false)) := fun hb hB => by
    rw [hW0] at hb
    exact ⟨fun i => box_keep hb hB i, fun i => box_free hb hB i⟩
  have HBW := Lib.hid hbw; have HT := Lib.hid (ht.below hbw (Nat.le_refl _)); have HCS := Lib.hid hcs2
  clear hbw ht hcs hcs2 hi
  have hpa := fun W => parsed_any s W hs
  have hpz : ∀ W, Calls Tryz.prog 188 #[.string ⟨#[48]⟩] W (ParsedRes (some (false, 0, 1)) W) := fun W => by
    have := parsed_any ⟨#[48]⟩ W (by decide)
    rwa [show parseR (⟨#[48]⟩ : ByteArray).data.toList = some (false, 0, 1) from parse_zero] at this
  have HPA := Lib.hid hpa; have HPZ := Lib.hid hpz
  clear hpa hpz
  by_cases hlen : 8008 < s.size
  · have hg : getR s = none := by rw [getR, if_pos hlen]
    have HG := Lib.hid hg
    clear hg
    go_enter Tryz.func132, Tryz.ntmps132
    have HW0 := Lib.hid hW0
    clear hW0
    go_wp2_with fail
    refine bodyPost_ret (v := .tuple #[.agg #[.bool false, .slice none 0 0, .slice none 0 0, .bool false, .slice none 0 0, .slice none 0 0], .bool false]) (by simp [results, Tryz.results132, go_sem]) rfl ?_
    rw [← HW0.out]
    exact get_none HG.out HBW.out
  · have hg : getR s = ownD s (parseR s.data.toList) := by rw [getR, if_neg hlen]
    rw [hg]
    clear hg
    go_enter Tryz.func132, Tryz.ntmps132
    go_wp2_with fail
    rw [← hW0]
    have HW0 := Lib.hid hW0
    clear hW0
    refine (HCS.out _).mono ?_
    rintro e w' ⟨rfl, rfl⟩
    go_wp2_with fail
    refine (HPA.out _).mono ?_
    rintro e w1 ⟨hm1, hb1⟩
    rcases hpr : parseR s.data.toList with _ | ⟨m, n, d⟩
    · rw [hpr] at hm1
      subst hm1
      have hlt : w.heap.size < w1.heap.size := by have := hb1.size; omega
      obtain ⟨f1, f2⟩ := HBX.out hb1 (by omega)
      have q0 := f1 0
      have q1 := f1 1
      have q2 := f1 2
      have q3 := f1 3
      have q4 := f1 4
      have q5 := f1 5
      simp only [List.getElem?_toArray, List.getElem?_cons_succ, List.getElem?_cons_zero] at q0 q1 q2 q3 q4 q5
      have g0 := f2 0
      have g1 := f2 1
      have g2 := f2 2
      have g3 := f2 3
      have g4 := f2 4
      have g5 := f2 5
      clear f1 f2
      have HNO := Lib.hid hpr
      clear hpr
      go_wp2_with fail
      refine bodyPost_ret (v := .tuple #[.agg #[.bool false, .slice none 0 0, .slice none 0 0, .bool false, .slice none 0 0, .slice none 0 0], .bool false]) (by simp [results, Tryz.results132, go_sem, q0, q1, q2, q3, q4, q5, hlt]) rfl ?_
      exact get_none (by rw [HNO.out]; rfl) (((((((((HBW.out.trans (hb1.mono (by omega))).setCell (Nat.le_refl _) _).setCell (Nat.le_refl _) _).setCell (Nat.le_refl _) _).setCell (Nat.le_refl _) _).setCell (Nat.le_refl _) _).setCell (Nat.le_refl _) _)).alloc (by simp; omega) _)
    · rw [hpr] at hm1
      obtain ⟨v1, rfl, hv1⟩ := hm1
      obtain ⟨hn1, hd1, hd0⟩ := parseR_bd hpr
      obtain ⟨sb, hsb⟩ : ∃ sb, sb = (m && decide (n ≠ 0)) := ⟨_, rfl⟩
      obtain ⟨N, hN⟩ : ∃ N, N = n / Nat.gcd n d := ⟨_, rfl⟩
      obtain ⟨D, hD⟩ : ∃ D, D = d / Nat.gcd n d := ⟨_, rfl⟩
      have hod : ownD s (parseR s.data.toList) = if ratT sb N D = s ∧ bigQ N D = false then some (sb, N, D) else none := by rw [hpr, hsb, hN, hD]; rfl
      have hNn : N ≤ n := by rw [hN]; exact Nat.div_le_self _ _
      have hDd : D ≤ d := by rw [hD]; exact Nat.div_le_self _ _
      have hD0 : D ≠ 0 := by
        rw [hD]
        have h1 := Nat.gcd_dvd_right n d
        have h3 : 0 < Nat.gcd n d := Nat.gcd_pos_of_pos_right _ (by omega)
        have := Nat.div_pos (Nat.le_of_dvd (by omega) h1) h3
        omega
      have hsz8 : s.data.toList.length ≤ 8008 := by have : s.data.toList.length = s.size := rfl; omega
      have hNd := digits_pow (show N ≤ 10 ^ s.data.toList.length by omega) hsz8
      have hDd2 := digits_pow (show D ≤ 10 ^ s.data.toList.length by omega) hsz8
      rw [← hsb, ← hN, ← hD] at hv1
      have HOD := Lib.hid hod; have HD0 := Lib.hid hD0
      clear hod hsb hN hD hNn hDd hn1 hd1 hd0 hpr hD0 hsz8
      have HV1 := Lib.hid hv1
      obtain ⟨va, vb, rfl, ha, hbb⟩ := hv1
      obtain ⟨aa, ca, rfl⟩ := ha.cases
      obtain ⟨ab, cb, rfl⟩ := hbb.cases
      have HA := Lib.hid ha; have HBB := Lib.hid hbb
      clear ha hbb
      go_wp2_with fail
      refine (HPZ.out _).mono ?_
      rintro e w2 ⟨hm2, hb2⟩
      obtain ⟨v2, rfl, hv2⟩ := hm2
      have hz1 : RatV w2 v2 false 0 1 := by simpa using hv2
      clear hv2
      have HV2 := Lib.hid hz1
      obtain ⟨vc, vd, rfl, hc, hdd⟩ := hz1
      obtain ⟨ac, cc, rfl⟩ := hc.cases
      obtain ⟨ad, cd, rfl⟩ := hdd.cases
      have HC := Lib.hid hc; have HD := Lib.hid hdd
      clear hc hdd
      have hal := (Below.refl w1.heap.size w1).alloc (Nat.le_refl _) (.cells #[.bool sb, .slice aa (dig N).length ca, .slice ab (dig D).length cb] 128)
      have hab := hal.trans (hb2.mono (show w1.heap.size ≤ (w1.alloc (.cells #[.bool sb, .slice aa (dig N).length ca, .slice ab (dig D).length cb] 128)).heap.size by simp))
      have hbx := hb1.trans (hab.mono hb1.size)
      have hl1 : w1.heap.size < w2.heap.size := by have := hb2.size; simp at this; omega
      have hl0 : w.heap.size < w1.heap.size := by have := hb1.size; omega
      have hl2 : w.heap.size < w2.heap.size := by omega
      obtain ⟨f1, f2⟩ := HBX.out hbx (by omega)
      have q0 := f1 0
      have q1 := f1 1
      have q2 := f1 2
      have q3 := f1 3
      have q4 := f1 4
      have q5 := f1 5
      simp only [List.getElem?_toArray, List.getElem?_cons_succ, List.getElem?_cons_zero] at q0 q1 q2 q3 q4 q5
      have g0 := f2 0
      have g1 := f2 1
      have g2 := f2 2
      have g3 := f2 3
      have g4 := f2 4
      have g5 := f2 5
      clear f1 f2
      have a0 : w2.cell? ⟨w1.heap.size, 0, none⟩ = some (.bool sb) := box_keep hb2 (by simp) 0
      have a1 : w2.cell? ⟨w1.heap.size, 1, none⟩ = some (.slice aa (dig N).length ca) := box_keep hb2 (by simp) 1
      have a2 : w2.cell? ⟨w1.heap.size, 2, none⟩ = some (.slice ab (dig D).length cb) := box_keep hb2 (by simp) 2
      have n1 : ¬ w1.heap.size = w2.heap.size := by omega
      have n2 : ¬ w.heap.size = w2.heap.size := by omega
      have HVV : Hid (∀ W, Below w2.heap.size w2 W → ValV W (.agg #[.bool sb, .slice aa (dig N).length ca, .slice ab (dig D).length cb, .bool false, .slice ac (dig 0).length cc, .slice ad (dig 1).length cd]) sb N D false 0 1) := fun W hb => ⟨_, _, _, _, rfl, (HA.out.below hab (Nat.le_refl _)).below hb (Nat.le_refl _), (HBB.out.below hab (Nat.le_refl _)).below hb (Nat.le_refl _), HC.out.below hb (Nat.le_refl _), HD.out.below hb (Nat.le_refl _)⟩
      have HTT : Hid (∀ W, Below w2.heap.size w2 W → Tab W) := fun W hb => (HT.out.below hbx (Nat.le_refl _)).below hb (Nat.le_refl _)
      have hlN := len_of_digits (show Lib.nDigits N ≤ 10000 by omega)
      have hlD := len_of_digits (show Lib.nDigits D ≤ 10000 by omega)
      clear hb1 hb2 hal
      go_wp2_with fail
      refine (valText_any _ sb N D false 1 _ (HVV.out _ (((Below.refl _ _).alloc (Nat.le_refl _) _).alloc (by simp) _)) (HTT.out _ (((Below.refl _ _).alloc (Nat.le_refl _) _).alloc (by simp) _)) (by omega) (by omega) HD0.out).mono ?_
      rintro e w3 ⟨rfl, hb3⟩
      have hb23 : Below w2.heap.size w2 w3 := (((Below.refl _ _).alloc (Nat.le_refl _) _).alloc (by simp) _).trans (hb3.mono (by simp; omega))
      have p0 : w3.cell? ⟨w2.heap.size, 0, none⟩ = some (.bool false) := box_keep2 hb3 (by simp; omega) 0
      have p1 : w3.cell? ⟨w2.heap.size, 1, none⟩ = some (.slice ac (dig 0).length cc) := box_keep2 hb3 (by simp; omega) 1
      have p2 : w3.cell? ⟨w2.heap.size, 2, none⟩ = some (.slice ad (dig 1).length cd) := box_keep2 hb3 (by simp; omega) 2
      have c0 : w3.cell? ⟨w2.heap.size + 1, 0, none⟩ = some (.bool sb) := box_keep1 hb3 (by simp) 0
      have c1 : w3.cell? ⟨w2.heap.size + 1, 1, none⟩ = some (.slice aa (dig N).length ca) := box_keep1 hb3 (by simp) 1
      have c2 : w3.cell? ⟨w2.heap.size + 1, 2, none⟩ = some (.slice ab (dig D).length cb) := box_keep1 hb3 (by simp) 2
      have c3 : w3.cell? ⟨w2.heap.size + 1, 3, none⟩ = some (.bool false) := box_keep1 hb3 (by simp) 3
      have c4 : w3.cell? ⟨w2.heap.size + 1, 4, none⟩ = some (.slice ac (dig 0).length cc) := box_keep1 hb3 (by simp) 4
      have c5 : w3.cell? ⟨w2.heap.size + 1, 5, none⟩ = some (.slice ad (dig 1).length cd) := box_keep1 hb3 (by simp) 5
      clear hb3 n1 n2
      generalize hT : ratT sb N D = T at *
      by_cases heq : T = s
      · subst heq
        have e1 : (T.toList == T.toList) = true := by simp
        have A0 := cell_keep a0 hb23 (Nat.le_refl _)
        have A1 := cell_keep a1 hb23 (Nat.le_refl _)
        have A2 := cell_keep a2 hb23 (Nat.le_refl _)
        clear hT
        go_wp2_with fail
        clear A0 A1 A2 e1
        refine (big_any _ sb N D _ ⟨_, _, rfl, (HA.out.below hab (Nat.le_refl _)).below hb23 (Nat.le_refl _), (HBB.out.below hab (Nat.le_refl _)).below hb23 (Nat.le_refl _)⟩ (HTT.out _ hb23) (by omega) (by omega)).mono ?_
        rintro e w4 ⟨rfl, hb4⟩
        have hb24 := hb23.trans (hb4.mono hb23.size)
        rcases hbq : bigQ N D with _ | _
        · have HBQ := Lib.hid hbq
          clear hbq
          have P0 := cell_keep p0 hb4 (Nat.le_refl _)
          have P1 := cell_keep p1 hb4 (Nat.le_refl _)
          have P2 := cell_keep p2 hb4 (Nat.le_refl _)
          go_wp2_with fail
          clear P0 P1 P2
          refine (big_any _ false 0 1 _ ⟨_, _, rfl, HC.out.below hb24 (Nat.le_refl _), HD.out.below hb24 (Nat.le_refl _)⟩ (HTT.out _ hb24) (by rw [dig_zero]; simp) (by rw [dig_1]; simp)).mono ?_
          rw [big_one]
          rintro e w5 ⟨rfl, hb5⟩
          have hb35 := hb4.trans (hb5.mono hb4.size)
          have hb25 := hb24.trans (hb5.mono hb24.size)
          have C0 := cell_keep c0 hb35 (Nat.le_refl _)
          have C1 := cell_keep c1 hb35 (Nat.le_refl _)
          have C2 := cell_keep c2 hb35 (Nat.le_refl _)
          have C3 := cell_keep c3 hb35 (Nat.le_refl _)
          have C4 := cell_keep c4 hb35 (Nat.le_refl _)
          have C5 := cell_keep c5 hb35 (Nat.le_refl _)
          have y0 := cell_keep q0 hb25 (Nat.le_refl _)
          have y1 := cell_keep q1 hb25 (Nat.le_refl _)
          have y2 := cell_keep q2 hb25 (Nat.le_refl _)
          have y3 := cell_keep q3 hb25 (Nat.le_refl _)
          have y4 := cell_keep q4 hb25 (Nat.le_refl _)
          have y5 := cell_keep q5 hb25 (Nat.le_refl _)
          have yg0 := (hb25.frozen (p := ⟨w.heap.size, 0, none⟩) hl2).trans g0
          have yg1 := (hb25.frozen (p := ⟨w.heap.size, 1, none⟩) hl2).trans g1
          have yg2 := (hb25.frozen (p := ⟨w.heap.size, 2, none⟩) hl2).trans g2
          have yg3 := (hb25.frozen (p := ⟨w.heap.size, 3, none⟩) hl2).trans g3
          have yg4 := (hb25.frozen (p := ⟨w.heap.size, 4, none⟩) hl2).trans g4
          have yg5 := (hb25.frozen (p := ⟨w.heap.size, 5, none⟩) hl2).trans g5
          clear a0 a1 a2 p0 p1 p2 c0 c1 c2 c3 c4 c5 q0 q1 q2 q3 q4 q5 g0 g1 g2 g3 g4 g5 hb4 hb5
          go_wp2_with fail
          refine bodyPost_ret (v := .tuple #[.agg #[.bool sb, .slice aa (dig N).length ca, .slice ab (dig D).length cb, .bool false, .slice ac (dig 0).length cc, .slice ad (dig 1).length cd], .bool true]) (by simp [results, Tryz.results132, go_sem, y0, y1, y2, y3, y4, y5]) rfl ?_
          obtain ⟨_, _, _, _, hh, i1, i2, i3, i4⟩ := HVV.out _ hb25
          simp only [Value.agg.injEq, Array.mk.injEq, List.cons.injEq, and_true, true_and] at hh
          obtain ⟨rfl, rfl, rfl, rfl⟩ := hh
          refine get_some (by rw [HOD.out, if_pos ⟨by trivial, HBQ.out⟩]) ⟨_, _, _, _, rfl, i1.box6 y0 y1 y2 y3 y4 y5 trivial trivial trivial trivial trivial trivial, i2.box6 y0 y1 y2 y3 y4 y5 trivial trivial trivial trivial trivial trivial, i3.box6 y0 y1 y2 y3 y4 y5 trivial trivial trivial trivial trivial trivial, i4.box6 y0 y1 y2 y3 y4 y5 trivial trivial trivial trivial trivial trivial⟩ ?_
          exact (((((((HBW.out.trans (hbx.mono (by omega))).trans (hb25.mono (by omega))).setCell (Nat.le_refl _) _).setCell (Nat.le_refl _) _).setCell (Nat.le_refl _) _).setCell (Nat.le_refl _) _).setCell (Nat.le_refl _) _).setCell (Nat.le_refl _) _
        · have HBQ := Lib.hid hbq
          clear hbq
          have y0 := cell_keep q0 hb24 (Nat.le_refl _)
          have y1 := cell_keep q1 hb24 (Nat.le_refl _)
          have y2 := cell_keep q2 hb24 (Nat.le_refl _)
          have y3 := cell_keep q3 hb24 (Nat.le_refl _)
          have y4 := cell_keep q4 hb24 (Nat.le_refl _)
          have y5 := cell_keep q5 hb24 (Nat.le_refl _)
          have yg0 := (hb24.frozen (p := ⟨w.heap.size, 0, none⟩) hl2).trans g0
          have yg1 := (hb24.frozen (p := ⟨w.heap.size, 1, none⟩) hl2).trans g1
          have yg2 := (hb24.frozen (p := ⟨w.heap.size, 2, none⟩) hl2).trans g2
          have yg3 := (hb24.frozen (p := ⟨w.heap.size, 3, none⟩) hl2).trans g3
          have yg4 := (hb24.frozen (p := ⟨w.heap.size, 4, none⟩) hl2).trans g4
          have yg5 := (hb24.frozen (p := ⟨w.heap.size, 5, none⟩) hl2).trans g5
          clear a0 a1 a2 p0 p1 p2 c0 c1 c2 c3 c4 c5 q0 q1 q2 q3 q4 q5 g0 g1 g2 g3 g4 g5 hb4
          go_wp2_with fail
          refine bodyPost_ret (v := .tuple #[.agg #[.bool false, .slice none 0 0, .slice none 0 0, .bool false, .slice none 0 0, .slice none 0 0], .bool false]) (by simp [results, Tryz.results132, go_sem, y0, y1, y2, y3, y4, y5]) rfl ?_
          exact get_none (by rw [HOD.out, if_neg (fun h => by rw [HBQ.out] at h; cases h.2)]) ((((((((HBW.out.trans (hbx.mono (by omega))).trans (hb24.mono (by omega))).setCell (Nat.le_refl _) _).setCell (Nat.le_refl _) _).setCell (Nat.le_refl _) _).setCell (Nat.le_refl _) _).setCell (Nat.le_refl _) _).setCell (Nat.le_refl _) _)
      · have e1 : (T.toList != s.toList) = true := by
          rw [bne_iff_ne]
          intro h
          refine heq ?_
          rw [Lib.toList_data, Lib.toList_data] at h
          cases T; cases s
          simpa using h
        have e2 : (T.toList == s.toList) = false := by rw [beq_eq_false_iff_ne]; exact bne_iff_ne.1 e1
        have HEQ := Lib.hid heq
        have y0 := cell_keep q0 hb23 (Nat.le_refl _)
        have y1 := cell_keep q1 hb23 (Nat.le_refl _)
        have y2 := cell_keep q2 hb23 (Nat.le_refl _)
        have y3 := cell_keep q3 hb23 (Nat.le_refl _)
        have y4 := cell_keep q4 hb23 (Nat.le_refl _)
        have y5 := cell_keep q5 hb23 (Nat.le_refl _)
        have yg0 := (hb23.frozen (p := ⟨w.heap.size, 0, none⟩) hl2).trans g0
        have yg1 := (hb23.frozen (p := ⟨w.heap.size, 1, none⟩) hl2).trans g1
        have yg2 := (hb23.frozen (p := ⟨w.heap.size, 2, none⟩) hl2).trans g2
        have yg3 := (hb23.frozen (p := ⟨w.heap.size, 3, none⟩) hl2).trans g3
        have yg4 := (hb23.frozen (p := ⟨w.heap.size, 4, none⟩) hl2).trans g4
        have yg5 := (hb23.frozen (p := ⟨w.heap.size, 5, none⟩) hl2).trans g5
        clear a0 a1 a2 p0 p1 p2 c0 c1 c2 c3 c4 c5 q0 q1 q2 q3 q4 q5 g0 g1 g2 g3 g4 g5 hT heq
        go_wp2_with fail
        refine bodyPost_ret (v := .tuple #[.agg #[.bool false, .slice none 0 0, .slice none 0 0, .bool false, .slice none 0 0, .slice none 0 0], .bool false]) (by simp [results, Tryz.results132, go_sem, y0, y1, y2, y3, y4, y5]) rfl ?_
        exact get_none (by rw [HOD.out, if_neg (fun h => HEQ.out h.1)]) ((((((((HBW.out.trans (hbx.mono (by omega))).trans (hb23.mono (by omega))).setCell (Nat.le_refl _) _).setCell (Nat.le_refl _) _).setCell (Nat.le_refl _) _).setCell (Nat.le_refl _) _).setCell (Nat.le_refl _) _).setCell (Nat.le_refl _) _)
end Go.Proofs.YtmafjfhnejeogaaGreatDoor
