/- Parts of a proof, in build order: M3, M4, M5, L3, Z0, Z1, Z2, Z3. -/
import Derived.Test.YtmafjfhnejeogaaGreatDoorKl4

/- Texts of rational numbers; big; put. -/
namespace Go.Proofs.YtmafjfhnejeogaaGreatDoor
open Go.RowKit

/-- the text of a rational number -/
def sgT (s : Bool) (n : Nat) : ByteArray := if s = true then ⟨#[45]⟩ ++ decB n else decB n
def ratT (s : Bool) (n d : Nat) : ByteArray := if d = 1 then sgT s n else sgT s n ++ (⟨#[47]⟩ ++ decB d)
theorem len_of_digits {n : Nat} (h : Lib.nDigits n ≤ 10000) : (dig n).length ≤ 1112 := by
  by_cases h0 : n = 0
  · subst h0; rw [dig_zero]; simp
  · have hp : 0 < (dig n).length := by have := mt dig_len_pos.1 h0; omega
    obtain ⟨t, ht⟩ := get_of_lt (show (dig n).length - 1 < (dig n).length by omega)
    have h1 := size_dig_eq ht
    have h2 := Lib.nDigits_pos t
    omega
theorem digits_le {n : Nat} {L : Nat} (h : (dig n).length ≤ L) (hL : 1 ≤ L) : Lib.nDigits n ≤ 9 * L := by
  by_cases h0 : n = 0
  · subst h0; rw [Lib.nDigits_small (by decide)]; omega
  · have hp : 0 < (dig n).length := by have := mt dig_len_pos.1 h0; omega
    have := nDigits_val (sm_dig n) hp
    rw [val_dig] at this
    omega

set_option maxRecDepth 100000 in
set_option maxHeartbeats 2000000 in
theorem ratText_any (v : Value) (s : Bool) (n d : Nat) (w : World) (hv : RatV w v s n d) (ht : Tab w) (h : Lib.nDigits n ≤ 10000) (h2 : Lib.nDigits d ≤ 10000) (h3 : d ≠ 0) :
    Calls Tryz.prog 195 #[v] w fun e w' => e = .returned (.string (ratT s n d)) ∧ Below w.heap.size w w' := by
  obtain ⟨vn, vd, rfl, hn, hd⟩ := hv
  have HN := Lib.hid hn; have HD := Lib.hid hd
  obtain ⟨an, cn, rfl⟩ := hn.cases
  obtain ⟨ad, cd, rfl, hdc, _⟩ := hd
  have hl1 := len_of_digits h
  have hl2 := len_of_digits h2
  have hdp := dig_pos h3
  have hdl : (dig d).length = (dig (d / B)).length + 1 := by rw [hdp]; rfl
  obtain ⟨b, off, rfl⟩ := hdc.addr (dgs_ne (by omega))
  have h0d : (dig d)[0]? = some (d % B) := by rw [hdp]; rfl
  have HDC : Hid (∀ w1 : World, Below w.heap.size w w1 → w1.cell? ⟨b, off, none⟩ = some (.int .u64 (d % B : Nat))) := fun w1 hb => by
    have := (hdc.below hb (Nat.le_refl _)).dgs h0d; exact this
  have hs1 : (decB n).size = Lib.nDigits n := decB_size n
  have hs2 : (decB d).size = Lib.nDigits d := decB_size d
  have hs3 : (⟨#[45]⟩ : ByteArray).size = 1 := rfl
  have hs4 : (⟨#[47]⟩ : ByteArray).size = 1 := rfl
  have hD1 : d = 1 ↔ ((dig (d / B)).length = 0 ∧ d % B = 1) := by
    rw [dig_len_pos]
    have hB := B_pos
    constructor
    · rintro rfl; decide
    · rintro ⟨h5, h6⟩
      have := Nat.div_add_mod d B
      rw [h5, h6] at this
      omega
  have hx0 : (dig (d / B)).length = 0 → d % B ≠ 0 := by
    intro h5 h6
    rw [dig_len_pos] at h5
    have := Nat.div_add_mod d B
    rw [h5, h6] at this
    omega
  have HTX := fun w1 (hb : Below w.heap.size w w1) => Lib.hid (natText_any (.slice an (dig n).length cn) n w1 (HN.out.below hb (Nat.le_refl _)) (ht.below hb (Nat.le_refl _)) (by omega))
  have HTD := fun w1 (hb : Below w.heap.size w w1) => Lib.hid (natText_any (.slice (some ⟨b, off, none⟩) (dig d).length cd) d w1 (HD.out.below hb (Nat.le_refl _)) (ht.below hb (Nat.le_refl _)) (by omega))
  have HTN := Lib.hid HTX; have HTE := Lib.hid HTD
  clear HTX HTD hdc h0d
  rw [hdl] at *
  clear hn hdp hdl ht HN HD
  generalize (dig (d / B)).length = M at *
  generalize d % B = x at *
  go_enter Tryz.func195, Tryz.ntmps195
  go_wp2_with fail
  refine (HTN.out _ ((Below.refl _ _).alloc (Nat.le_refl _) _)).out.mono ?_
  rintro e w1 ⟨rfl, hb1⟩
  have q0 : w1.cell? ⟨w.heap.size, 0, none⟩ = some (.bool s) := box_keep hb1 (by simp) 0
  have q1 : w1.cell? ⟨w.heap.size, 1, none⟩ = some (.slice an (dig n).length cn) := box_keep hb1 (by simp) 1
  have q2 : w1.cell? ⟨w.heap.size, 2, none⟩ = some (.slice (some ⟨b, off, none⟩) (M + 1) cd) := box_keep hb1 (by simp) 2
  have hbw : Below w.heap.size w w1 := ((Below.refl _ _).alloc (Nat.le_refl _) _).trans (hb1.mono (by simp))
  have c0 := HDC.out w1 hbw
  have hte := HTE.out w1 hbw
  obtain ⟨st, hst⟩ : ∃ st, st = decB n := ⟨_, rfl⟩
  obtain ⟨dt, hdt⟩ : ∃ dt, dt = decB d := ⟨_, rfl⟩
  have hsg : (s = true → sgT s n = ⟨#[45]⟩ ++ st) ∧ (s = false → sgT s n = st) := by rw [hst]; unfold sgT; exact ⟨fun h => by rw [if_pos h], fun h => by rw [h]; rfl⟩
  have hrt : ratT s n d = if M = 0 ∧ x = 1 then sgT s n else sgT s n ++ (⟨#[47]⟩ ++ dt) := by
    unfold ratT; rw [hdt]; by_cases h5 : d = 1
    · rw [if_pos h5, if_pos (hD1.1 h5)]
    · rw [if_neg h5, if_neg (fun h6 => h5 (hD1.2 h6))]
  have HRT := Lib.hid hrt; have HSG := Lib.hid hsg
  rw [← hst] at hs1
  rw [← hdt] at hs2
  rw [← hst]
  rw [← hdt] at hte
  clear hst hdt hrt hsg hD1 HTN HTE HDC hb1
  rcases Bool.eq_false_or_eq_true s with hs | hs
  · subst hs
    have hs5 := HSG.out.1 rfl
    by_cases hM : M = 0
    · have hx := hx0 hM
      simp only [hM, Nat.zero_add] at hte
      have i1 : ¬ (1 : Int) < ((M + 1 : Nat) : Int) := by omega
      have i1' : ¬ (0 : Int) < M := by omega
      by_cases hx1 : x = 1
      · have i2 : ¬ (1 : Int) < (x : Int) := by omega
        go_wp2
        go_ret
        rw [HRT.out, if_pos ⟨hM, hx1⟩, hs5]
        exact ⟨rfl, hbw⟩
      · have i2 : (1 : Int) < (x : Int) := by omega
        go_wp2_with fail
        refine hte.out.mono ?_
        rintro e w2 ⟨rfl, hb2⟩
        go_wp2
        go_ret
        rw [HRT.out, if_neg (fun h5 => hx1 h5.2), hs5]
        exact ⟨rfl, hbw.trans (hb2.mono hbw.size)⟩
    · have i1 : (1 : Int) < ((M + 1 : Nat) : Int) := by omega
      have i1' : (0 : Int) < M := by omega
      go_wp2_with fail
      refine hte.out.mono ?_
      rintro e w2 ⟨rfl, hb2⟩
      go_wp2
      go_ret
      rw [HRT.out, if_neg (fun h5 => hM h5.1), hs5]
      exact ⟨rfl, hbw.trans (hb2.mono hbw.size)⟩
  · subst hs
    have hs5 := HSG.out.2 rfl
    by_cases hM : M = 0
    · have hx := hx0 hM
      simp only [hM, Nat.zero_add] at hte
      have i1 : ¬ (1 : Int) < ((M + 1 : Nat) : Int) := by omega
      have i1' : ¬ (0 : Int) < M := by omega
      by_cases hx1 : x = 1
      · have i2 : ¬ (1 : Int) < (x : Int) := by omega
        go_wp2
        go_ret
        rw [HRT.out, if_pos ⟨hM, hx1⟩, hs5]
        exact ⟨rfl, hbw⟩
      · have i2 : (1 : Int) < (x : Int) := by omega
        go_wp2_with fail
        refine hte.out.mono ?_
        rintro e w2 ⟨rfl, hb2⟩
        go_wp2
        go_ret
        rw [HRT.out, if_neg (fun h5 => hx1 h5.2), hs5]
        exact ⟨rfl, hbw.trans (hb2.mono hbw.size)⟩
    · have i1 : (1 : Int) < ((M + 1 : Nat) : Int) := by omega
      have i1' : (0 : Int) < M := by omega
      go_wp2_with fail
      refine hte.out.mono ?_
      rintro e w2 ⟨rfl, hb2⟩
      go_wp2
      go_ret
      rw [HRT.out, if_neg (fun h5 => hM h5.1), hs5]
      exact ⟨rfl, hbw.trans (hb2.mono hbw.size)⟩
end Go.Proofs.YtmafjfhnejeogaaGreatDoor

/- big, text and put of real numbers; whole; num.Of of any two numbers. -/
namespace Go.Proofs.YtmafjfhnejeogaaGreatDoor
open Go.RowKit

/-- whether a number has too many digits -/
def bigQ (n d : Nat) : Bool := decide (2000 < Lib.nDigits n) || decide (2000 < Lib.nDigits d)
set_option maxRecDepth 100000 in
theorem big_any (v : Value) (s : Bool) (n d : Nat) (w : World) (hv : RatV w v s n d) (ht : Tab w) (h : (dig n).length ≤ 17592186044416) (h2 : (dig d).length ≤ 17592186044416) :
    Calls Tryz.prog 146 #[v] w fun e w' => e = .returned (.bool (bigQ n d)) ∧ Below w.heap.size w w' := by
  obtain ⟨vn, vd, rfl, hn, hd⟩ := hv
  have hsn := size_any vn n _ (hn.below ((Below.refl w.heap.size w).alloc (Nat.le_refl _) (.cells #[.bool s, vn, vd] 128)) (Nat.le_refl _)) (ht.below ((Below.refl w.heap.size w).alloc (Nat.le_refl _) _) (Nat.le_refl _)) h
  have hsd := fun w1 (hb : Below w.heap.size w w1) => size_any vd d w1 (hd.below hb (Nat.le_refl _)) (ht.below hb (Nat.le_refl _)) h2
  have HSN := Lib.hid hsn; have HSD := Lib.hid hsd
  obtain ⟨an, cn, rfl⟩ := hn.cases
  obtain ⟨ad, cd, rfl⟩ := hd.cases
  clear hn hd hsn hsd ht
  have hbq : bigQ n d = (decide ((2000 : Int) < (Lib.nDigits n : Nat)) || decide ((2000 : Int) < (Lib.nDigits d : Nat))) := by
    unfold bigQ; congr 1 <;> (rw [Bool.eq_iff_iff, decide_eq_true_iff, decide_eq_true_iff]; omega)
  have HBQ := Lib.hid hbq
  clear hbq
  by_cases hb : (2000 : Int) < (Lib.nDigits n : Nat)
  · go_enter Tryz.func146, Tryz.ntmps146
    go_wp2_with fail
    refine HSN.out.mono ?_
    rintro e w1 ⟨rfl, hb1⟩
    have hbw : Below w.heap.size w w1 := ((Below.refl _ _).alloc (Nat.le_refl _) _).trans (hb1.mono (by simp))
    go_wp2
    go_ret
    rw [HBQ.out]
    exact ⟨by rw [decide_eq_true hb]; rfl, hbw⟩
  · go_enter Tryz.func146, Tryz.ntmps146
    go_wp2_with fail
    refine HSN.out.mono ?_
    rintro e w1 ⟨rfl, hb1⟩
    have hbw : Below w.heap.size w w1 := ((Below.refl _ _).alloc (Nat.le_refl _) _).trans (hb1.mono (by simp))
    have q2 : w1.cell? ⟨w.heap.size, 2, none⟩ = some (.slice ad (dig d).length cd) := box_keep hb1 (by simp) 2
    go_wp2_with fail
    refine (HSD.out w1 hbw).mono ?_
    rintro e w2 ⟨rfl, hb2⟩
    go_wp2
    go_ret
    rw [HBQ.out]
    exact ⟨by rw [decide_eq_false (Int.not_lt.2 hb)]; rfl, hbw.trans (hb2.mono hbw.size)⟩

set_option maxRecDepth 100000 in
theorem valText_any (v : Value) (s : Bool) (n d : Nat) (s2 : Bool) (d2 : Nat) (w : World) (hv : ValV w v s n d s2 0 d2) (ht : Tab w) (h : Lib.nDigits n ≤ 10000) (h2 : Lib.nDigits d ≤ 10000) (h3 : d ≠ 0) :
    Calls Tryz.prog 147 #[v] w fun e w' => e = .returned (.string (ratT s n d)) ∧ Below w.heap.size w w' := by
  have HV := Lib.hid hv
  obtain ⟨va, vb, vc, vd, rfl, ha, hb, hc, hd⟩ := hv
  have HA := Lib.hid ha; have HB := Lib.hid hb
  obtain ⟨aa, ca, rfl⟩ := ha.cases
  obtain ⟨ab, cb, rfl⟩ := hb.cases
  obtain ⟨ac, cc, rfl⟩ := hc.cases
  obtain ⟨ad, cd, rfl⟩ := hd.cases
  clear ha hb hc hd
  go_enter Tryz.func147, Tryz.ntmps147
  go_wp2_with fail
  refine (isReal_any _ s s2 n d 0 d2 _ (HV.out.below ((Below.refl _ _).alloc (Nat.le_refl _) _) (Nat.le_refl _))).mono ?_
  rintro e w1 ⟨rfl, hb1⟩
  have hbw : Below w.heap.size w w1 := ((Below.refl _ _).alloc (Nat.le_refl _) _).trans (hb1.mono (by simp))
  have q0 : w1.cell? ⟨w.heap.size, 0, none⟩ = some (.bool s) := box_keep hb1 (by simp) 0
  have q1 : w1.cell? ⟨w.heap.size, 1, none⟩ = some (.slice aa (dig n).length ca) := box_keep hb1 (by simp) 1
  have q2 : w1.cell? ⟨w.heap.size, 2, none⟩ = some (.slice ab (dig d).length cb) := box_keep hb1 (by simp) 2
  go_wp2_with fail
  refine (ratText_any _ s n d _ ⟨_, _, rfl, HA.out.below hbw (Nat.le_refl _), HB.out.below hbw (Nat.le_refl _)⟩ (ht.below hbw (Nat.le_refl _)) h h2 h3).mono ?_
  rintro e w2 ⟨rfl, hb2⟩
  go_wp2
  go_ret
  exact ⟨rfl, hbw.trans (hb2.mono hbw.size)⟩

/-- what put gives -/
def putT (s : Bool) (n d : Nat) : ByteArray := if bigQ n d then ⟨#[]⟩ else ratT s n d
def putE (n d : Nat) : Int := if bigQ n d then 11 else 0
theorem big_one : bigQ 0 1 = false := by
  unfold bigQ; rw [Lib.nDigits_small (by decide), Lib.nDigits_small (by decide)]; rfl

set_option maxRecDepth 100000 in
theorem put_any (v : Value) (s : Bool) (n d : Nat) (s2 : Bool) (w : World) (hv : ValV w v s n d s2 0 1) (ht : Tab w) (h : (dig n).length ≤ 17592186044416) (h2 : (dig d).length ≤ 17592186044416) (h3 : d ≠ 0) :
    Calls Tryz.prog 91 #[v] w fun e w' => e = .returned (.tuple #[.string (putT s n d), .int .i64 (putE n d)]) ∧ Below w.heap.size w w' := by
  have HV := Lib.hid hv
  obtain ⟨va, vb, vc, vd, rfl, ha, hb, hc, hd⟩ := hv
  have HA := Lib.hid ha; have HB := Lib.hid hb; have HC := Lib.hid hc; have HD := Lib.hid hd
  obtain ⟨aa, ca, rfl⟩ := ha.cases
  obtain ⟨ab, cb, rfl⟩ := hb.cases
  obtain ⟨ac, cc, rfl⟩ := hc.cases
  obtain ⟨ad, cd, rfl⟩ := hd.cases
  clear ha hb hc hd
  have HT := Lib.hid ht; clear ht
  go_enter Tryz.func91, Tryz.ntmps91
  go_wp2_with fail
  refine (big_any _ s n d _ ⟨_, _, rfl, HA.out.below ((Below.refl _ _).alloc (Nat.le_refl _) _) (Nat.le_refl _), HB.out.below ((Below.refl _ _).alloc (Nat.le_refl _) _) (Nat.le_refl _)⟩ (HT.out.below ((Below.refl _ _).alloc (Nat.le_refl _) _) (Nat.le_refl _)) h h2).mono ?_
  rintro e w1 ⟨rfl, hb1⟩
  have hbw : Below w.heap.size w w1 := ((Below.refl _ _).alloc (Nat.le_refl _) _).trans (hb1.mono (by simp))
  rcases Bool.eq_false_or_eq_true (bigQ n d) with hq | hq
  · have hpt : putT s n d = ⟨#[]⟩ := by unfold putT; rw [if_pos hq]
    have hpe : putE n d = 11 := by unfold putE; rw [if_pos hq]
    have HPT := Lib.hid hpt; have HPE := Lib.hid hpe
    clear hpt hpe
    rw [hq]
    clear hq
    go_wp2
    go_ret2
    rw [HPT.out, HPE.out]
    exact ⟨rfl, hbw⟩
  have hpt : putT s n d = ratT s n d := by unfold putT; rw [hq]; rfl
  have hpe : putE n d = 0 := by unfold putE; rw [hq]; rfl
  have HPT := Lib.hid hpt; have HPE := Lib.hid hpe
  have hd1 : Lib.nDigits n ≤ 10000 ∧ Lib.nDigits d ≤ 10000 := by
    unfold bigQ at hq
    rw [Bool.or_eq_false_iff, decide_eq_false_iff_not, decide_eq_false_iff_not] at hq
    omega
  rw [hq]
  clear hpt hpe hq
  have q3 : w1.cell? ⟨w.heap.size, 3, none⟩ = some (.bool s2) := box_keep hb1 (by simp) 3
  have q4 : w1.cell? ⟨w.heap.size, 4, none⟩ = some (.slice ac (dig 0).length cc) := box_keep hb1 (by simp) 4
  have q5 : w1.cell? ⟨w.heap.size, 5, none⟩ = some (.slice ad (dig 1).length cd) := box_keep hb1 (by simp) 5
  go_wp2_with fail
  refine (big_any _ s2 0 1 _ ⟨_, _, rfl, HC.out.below hbw (Nat.le_refl _), HD.out.below hbw (Nat.le_refl _)⟩ (HT.out.below hbw (Nat.le_refl _)) (by rw [dig_zero]; simp) (by rw [dig_1]; simp)).mono ?_
  rw [big_one]
  rintro e w2 ⟨rfl, hb2⟩
  have hbx := hb1.trans (hb2.mono hb1.size)
  have hbw2 : Below w.heap.size w w2 := hbw.trans (hb2.mono hbw.size)
  clear q3 q4 q5
  have q0 : w2.cell? ⟨w.heap.size, 0, none⟩ = some (.bool s) := box_keep hbx (by simp) 0
  have q1 : w2.cell? ⟨w.heap.size, 1, none⟩ = some (.slice aa (dig n).length ca) := box_keep hbx (by simp) 1
  have q2 : w2.cell? ⟨w.heap.size, 2, none⟩ = some (.slice ab (dig d).length cb) := box_keep hbx (by simp) 2
  have q3 : w2.cell? ⟨w.heap.size, 3, none⟩ = some (.bool s2) := box_keep hbx (by simp) 3
  have q4 : w2.cell? ⟨w.heap.size, 4, none⟩ = some (.slice ac (dig 0).length cc) := box_keep hbx (by simp) 4
  have q5 : w2.cell? ⟨w.heap.size, 5, none⟩ = some (.slice ad (dig 1).length cd) := box_keep hbx (by simp) 5
  go_wp2_with fail
  refine (valText_any _ s n d s2 1 _ (HV.out.below hbw2 (Nat.le_refl _)) (HT.out.below hbw2 (Nat.le_refl _)) hd1.1 hd1.2 h3).mono ?_
  rintro e w3 ⟨rfl, hb3⟩
  go_wp2
  go_ret2
  rw [HPT.out, HPE.out]
  exact ⟨rfl, hbw2.trans (hb3.mono hbw2.size)⟩
end Go.Proofs.YtmafjfhnejeogaaGreatDoor

/- whole of any number; num.Of of any two numbers. -/
namespace Go.Proofs.YtmafjfhnejeogaaGreatDoor
open Go.RowKit

set_option maxRecDepth 100000 in
theorem whole_neg (m : Nat) (w : World) (h : m < 9223372036854775808) :
    Calls Tryz.prog 90 #[.int .i64 (-(m : Int) - 1)] w fun e w' => (∃ v, e = .returned v ∧ RatV w' v true (m + 1) 1) ∧ Below w.heap.size w w' := by
  have h0 : ¬ (0 : Int) ≤ -(m : Int) - 1 := by omega
  have h0' : -(m : Int) - 1 < 0 := by omega
  have hn := fun wx => natural_any (m + 1) wx (by omega)
  have HN := Lib.hid hn; clear hn
  have e1 : IntKind.i64.wrap (-(m : Int) - 1 + 1) = -(m : Int) := by rw [show -(m : Int) - 1 + 1 = -(m : Int) from by omega]; exact IntWalk.i64_in _ (by omega)
  have e2 : IntKind.i64.wrap (m : Int) = m := IntWalk.i64_in _ (by omega)
  have e3 : IntKind.u64.wrap (m : Int) = m := IntWalk.u64_in _ (by omega)
  have e4 : IntKind.u64.wrap ((m : Int) + 1) = ((m + 1 : Nat) : Int) := by rw [show (m : Int) + 1 = ((m + 1 : Nat) : Int) from by omega]; exact IntWalk.u64_in _ (by omega)
  go_enter Tryz.func90, Tryz.ntmps90
  go_wp2_with fail
  refine (HN.out _).mono ?_
  rintro e w1 ⟨⟨a, c, rfl, hc, hc1, hc2⟩, hb1⟩
  have H1 : Hid (NatV w1 (.slice a (dig (m + 1)).length c) (m + 1)) := ⟨a, c, rfl, hc, hc1, hc2⟩
  clear hc
  have hbw : Below w.heap.size w w1 := ((Below.refl _ _).alloc (Nat.le_refl _) _).trans (hb1.mono (by simp))
  go_wp2_with fail
  refine (one_any _).mono ?_
  rintro e w2 ⟨⟨v1, rfl, h1⟩, hb2⟩
  have hbx := hb1.trans (hb2.mono hb1.size)
  have hbw2 : Below w.heap.size w w2 := hbw.trans (hb2.mono hbw.size)
  have H2 := Lib.hid (H1.out.below hb2 (Nat.le_refl _))
  have H3 := Lib.hid h1
  obtain ⟨a1, c1, hv1⟩ := h1.cases
  rw [dig_1] at hv1
  subst hv1
  clear h1
  have q0 : w2.cell? ⟨w.heap.size, 0, none⟩ = some (.bool false) := box_keep hbx (by simp) 0
  have q1 : w2.cell? ⟨w.heap.size, 1, none⟩ = some (.slice none 0 0) := box_keep hbx (by simp) 1
  have q2 : w2.cell? ⟨w.heap.size, 2, none⟩ = some (.slice none 0 0) := box_keep hbx (by simp) 2
  have f0 := box_free hbx (by simp) 0
  have f1 := box_free hbx (by simp) 1
  have f2 := box_free hbx (by simp) 2
  go_wp2
  refine bodyPost_ret (v := .agg #[.bool true, .slice a (dig (m + 1)).length c, .slice a1 1 c1]) (by simp [results, Tryz.results90, go_sem, q0, q1, q2]) rfl ?_
  exact ⟨⟨_, rfl, _, _, rfl, H2.out.box3 q0 q1 q2 trivial trivial trivial, H3.out.box3 q0 q1 q2 trivial trivial trivial⟩, ((hbw2.setCell (Nat.le_refl _) _).setCell (Nat.le_refl _) _).setCell (Nat.le_refl _) _⟩

theorem whole_any (n : Int) (w : World) (h : -9223372036854775808 ≤ n) (h2 : n ≤ 9223372036854775807) :
    Calls Tryz.prog 90 #[.int .i64 n] w fun e w' => (∃ v, e = .returned v ∧ RatV w' v (decide (n < 0)) n.natAbs 1) ∧ Below w.heap.size w w' := by
  rcases (show n < 0 ∨ 0 ≤ n from by omega) with hn | hn
  · obtain ⟨m, rfl⟩ : ∃ m : Nat, n = -(m : Int) - 1 := ⟨(-n - 1).toNat, by omega⟩
    have e1 : (-(m : Int) - 1).natAbs = m + 1 := by omega
    rw [decide_eq_true hn, e1]
    exact whole_neg m w (by omega)
  · obtain ⟨m, rfl⟩ : ∃ m : Nat, n = (m : Int) := ⟨n.toNat, by omega⟩
    rw [decide_eq_false (by omega), Int.natAbs_natCast]
    exact whole_pos m w (by omega)

/-- the quotient of two whole numbers -/
def ofS (n d : Int) : Bool := (decide (n < 0) != decide (d < 0)) && decide (n.natAbs ≠ 0)
def ofN (n d : Int) : Nat := n.natAbs / Nat.gcd n.natAbs d.natAbs
def ofD (n d : Int) : Nat := d.natAbs / Nat.gcd n.natAbs d.natAbs
theorem ofD_pos {n d : Int} (h : d ≠ 0) : ofD n d ≠ 0 := by
  unfold ofD
  have h1 := Nat.gcd_dvd_right n.natAbs d.natAbs
  have h2 : 0 < d.natAbs := by omega
  have h3 : 0 < Nat.gcd n.natAbs d.natAbs := Nat.gcd_pos_of_pos_right _ h2
  have := Nat.div_pos (Nat.le_of_dvd h2 h1) h3
  omega
theorem digits_u64 {n : Nat} (h : n < 18446744073709551616) : Lib.nDigits n ≤ 20 := by
  exact nDigits_le 19 n (by omega)
theorem of_small (n d : Int) (h : -9223372036854775808 ≤ n) (h2 : n ≤ 9223372036854775807) (h3 : -9223372036854775808 ≤ d) (h4 : d ≤ 9223372036854775807) : bigQ (ofN n d) (ofD n d) = false := by
  have e1 : ofN n d ≤ n.natAbs := Nat.div_le_self _ _
  have e2 : ofD n d ≤ d.natAbs := Nat.div_le_self _ _
  have e3 := digits_u64 (show ofN n d < 18446744073709551616 by omega)
  have e4 := digits_u64 (show ofD n d < 18446744073709551616 by omega)
  unfold bigQ
  rw [Bool.or_eq_false_iff, decide_eq_false_iff_not, decide_eq_false_iff_not]
  omega

set_option maxRecDepth 100000 in
set_option maxHeartbeats 1000000 in
theorem of_any (n d : Int) (w : World) (ht : Tab w) (h : -9223372036854775808 ≤ n) (h2 : n ≤ 9223372036854775807) (h3 : -9223372036854775808 ≤ d) (h4 : d ≤ 9223372036854775807) (h0 : d ≠ 0) :
    Calls Tryz.prog 40 #[.int .i64 n, .int .i64 d] w fun e w' => e = .returned (.tuple #[.string (ratT (ofS n d) (ofN n d) (ofD n d)), .int .i64 0]) ∧ Below w.heap.size w w' := by
  have hl1 : (dig n.natAbs).length ≤ 17592186044415 := Nat.le_trans (dig_len_u64 (by omega)) (by decide)
  have hl2 : (dig d.natAbs).length ≤ 17592186044415 := Nat.le_trans (dig_len_u64 (by omega)) (by decide)
  have hne : (d == 0) = false := by rw [beq_eq_false_iff_ne]; omega
  have hsm := of_small n d h h2 h3 h4
  have hpt : putT (ofS n d) (ofN n d) (ofD n d) = ratT (ofS n d) (ofN n d) (ofD n d) := by unfold putT; rw [hsm]; rfl
  have hpe : putE (ofN n d) (ofD n d) = 0 := by unfold putE; rw [hsm]; rfl
  have hn1 : (dig (ofN n d)).length ≤ 17592186044416 := Nat.le_trans (dig_len_mono (Nat.div_le_self _ _)) (by omega)
  have hd1 : (dig (ofD n d)).length ≤ 17592186044416 := Nat.le_trans (dig_len_mono (Nat.div_le_self _ _)) (by omega)
  have hd0 := ofD_pos (n := n) h0
  have hred := fun va vb wx ha hb => reduced_any (d.natAbs + 1) (overOK_all _) (decide (n < 0) != decide (d < 0)) va vb n.natAbs d.natAbs wx ha hb hl1 hl2 (by omega) (by omega)
  have hwn := fun wx => whole_any n wx h h2
  have hwd := fun wx => whole_any d wx h3 h4
  have HR := Lib.hid hred; have HWN := Lib.hid hwn; have HWD := Lib.hid hwd; have HT := Lib.hid ht; have HPT := Lib.hid hpt; have HPE := Lib.hid hpe
  clear hred hwn hwd ht hl1 hl2 hpt hpe hsm
  have hus : ((decide (n < 0) != decide (d < 0)) && decide (n.natAbs ≠ 0)) = ofS n d := rfl
  have hun : n.natAbs / Nat.gcd n.natAbs d.natAbs = ofN n d := rfl
  have hud : d.natAbs / Nat.gcd n.natAbs d.natAbs = ofD n d := rfl
  rw [hus, hun, hud] at HR
  clear hus hun hud
  generalize decide (n < 0) = sn at *
  generalize decide (d < 0) = sd at *
  go_enter Tryz.func40, Tryz.ntmps40
  go_wp2_with fail
  refine (HWN.out _).mono ?_
  rintro e w1 ⟨⟨v1, rfl, h1⟩, hb1⟩
  obtain ⟨v11, v12, rfl, h11, h12⟩ := h1
  go_wp2_with fail
  refine (HWD.out _).mono ?_
  rintro e w2 ⟨⟨v2, rfl, hv2⟩, hb2⟩
  obtain ⟨v21, v22, rfl, h21, h22⟩ := hv2
  have hbw : Below w.heap.size w w2 := hb1.trans (hb2.mono hb1.size)
  have H11 := Lib.hid (h11.below hb2 (Nat.le_refl _))
  have H21 := Lib.hid h21
  obtain ⟨a11, c11, rfl⟩ := h11.cases
  obtain ⟨a12, c12, rfl⟩ := h12.cases
  obtain ⟨a21, c21, rfl⟩ := h21.cases
  obtain ⟨a22, c22, rfl⟩ := h22.cases
  clear h11 h12 h21 h22
  go_wp2_with fail
  refine (HR.out _ _ _ (H11.out.below (((Below.refl w2.heap.size _).alloc (Nat.le_refl _) _).alloc (by simp) _) (Nat.le_refl _)) (H21.out.below (((Below.refl w2.heap.size _).alloc (Nat.le_refl _) _).alloc (by simp) _) (Nat.le_refl _))).mono ?_
  rintro e w3 ⟨⟨v3, rfl, h3'⟩, hb3⟩
  have hbw3 : Below w.heap.size w w3 := ((hbw.alloc hbw.size _).alloc (by have := hbw.size; simp; omega) _).trans (hb3.mono (by have := hbw.size; simp; omega))
  have H3 := Lib.hid h3'
  obtain ⟨v31, v32, rfl, h31, h32⟩ := h3'
  clear h31 h32
  go_wp2_with fail
  refine (plain_any _ _ _ _ _ H3.out).mono ?_
  rintro e w4 ⟨⟨v4, rfl, h4⟩, hb4⟩
  have hbw4 : Below w.heap.size w w4 := hbw3.trans (hb4.mono hbw3.size)
  have H4 := Lib.hid h4; clear h4
  go_wp2_with fail
  refine (put_any _ _ _ _ _ _ H4.out (HT.out.below hbw4 (Nat.le_refl _)) hn1 hd1 hd0).mono ?_
  rw [HPT.out, HPE.out]
  rintro e w5 ⟨rfl, hb5⟩
  go_wp2
  go_ret2
  exact ⟨rfl, hbw4.trans (hb5.mono hbw4.size)⟩
end Go.Proofs.YtmafjfhnejeogaaGreatDoor

/- Track, of the program. -/
namespace Go.Proofs.YtmafjfhnejeogaaGreatDoor
open Go.RowKit

def trN (sh xs : List Int) : Int := ampN sh xs (whole sh xs)
def trD (sh xs : List Int) : Int := ampD sh (whole sh xs)
def trkErr (sh xs : List Int) : Int := if linedErr sh xs ≠ 0 then linedErr sh xs else if trD sh xs = 0 then 4 else 0
def trkT (sh xs : List Int) : ByteArray := if trkErr sh xs = 0 then ratT (ofS (trN sh xs) (trD sh xs)) (ofN (trN sh xs) (trD sh xs)) (ofD (trN sh xs) (trD sh xs)) else ⟨#[]⟩

set_option maxRecDepth 100000 in
theorem track_any (ao : Option Addr) (sh : List Int) (cap : Nat) (ax : Option Addr) (xs : List Int) (cx : Nat) (w : World) (ht : Tab w) (hc : Cells w ao (sh.map (Value.int .i64))) (hl : sh.length ≤ 17592186044416) (hx : Cells w ax (xs.map (Value.int .i64))) (hlx : xs.length ≤ 9223372036854775807) :
    Calls Tryz.prog 17 #[.slice ao sh.length cap, .slice ax xs.length cx] w fun e w' => e = .returned (.tuple #[.string (trkT sh xs), .int .i64 (trkErr sh xs)]) ∧ Below w.heap.size w w' := by
  have hlin := fun wx h1 h2 => lined_any ao sh cap ax xs cx wx h1 hl h2 hlx
  have HL := Lib.hid hlin; have HC := Lib.hid hc; have HX := Lib.hid hx; have HT := Lib.hid ht
  clear hlin hc hx ht
  by_cases he : linedErr sh xs = 0
  · have hamp := fun wx h1 h2 => amplitude_any ao sh cap ax xs cx wx h1 h2 he
    rw [show ampN sh xs (whole sh xs) = trN sh xs from rfl, show ampD sh (whole sh xs) = trD sh xs from rfl] at hamp
    have hab := amp_bd he (whole sh xs) (whole_le sh xs)
    rw [show ampN sh xs (whole sh xs) = trN sh xs from rfl, show ampD sh (whole sh xs) = trD sh xs from rfl] at hab
    have hwl := whole_le sh xs
    have hs4 := (serErr_zero (linedErr_zero he).2).1
    obtain ⟨d1, d2, d3, d4⟩ := hab
    have HA := Lib.hid hamp; have HE := Lib.hid he
    clear hamp
    by_cases h0 : trD sh xs = 0
    · have hr : trkErr sh xs = 4 := by simp [trkErr, he, h0]
      have htt : trkT sh xs = ⟨#[]⟩ := by simp [trkT, hr]
      have HR := Lib.hid hr; have HTT := Lib.hid htt; have H0 := Lib.hid h0
      clear hr htt h0 he
      go_enter Tryz.func17, Tryz.ntmps17
      go_wp2_with fail
      refine (HL.out _ HC.out HX.out).mono ?_
      rintro e w1 ⟨rfl, hb1⟩
      rw [HE.out]
      go_wp2_with fail
      refine (HA.out _ (HC.out.below hb1 (Nat.le_refl _)) (HX.out.below hb1 (Nat.le_refl _))).mono ?_
      rintro e w2 ⟨rfl, rfl⟩
      rw [H0.out]
      go_wp2
      go_ret2
      rw [HR.out, HTT.out]
      exact ⟨rfl, hb1⟩
    · have hr : trkErr sh xs = 0 := by simp [trkErr, he, h0]
      have htt : trkT sh xs = ratT (ofS (trN sh xs) (trD sh xs)) (ofN (trN sh xs) (trD sh xs)) (ofD (trN sh xs) (trD sh xs)) := by simp [trkT, hr]
      have hof := fun wx h => of_any (trN sh xs) (trD sh xs) wx h (by omega) (by omega) (by omega) (by omega) h0
      rw [← htt] at hof
      have hne : (trD sh xs == 0) = false := by rw [beq_eq_false_iff_ne]; exact h0
      have HR := Lib.hid hr; have HO := Lib.hid hof
      clear hr htt h0 he hof
      generalize trN sh xs = n at *
      generalize trD sh xs = d at *
      go_enter Tryz.func17, Tryz.ntmps17
      go_wp2_with fail
      refine (HL.out _ HC.out HX.out).mono ?_
      rintro e w1 ⟨rfl, hb1⟩
      rw [HE.out]
      go_wp2_with fail
      refine (HA.out _ (HC.out.below hb1 (Nat.le_refl _)) (HX.out.below hb1 (Nat.le_refl _))).mono ?_
      rintro e w2 ⟨rfl, rfl⟩
      go_wp2_with fail
      refine (HO.out _ (HT.out.below hb1 (Nat.le_refl _))).mono ?_
      rintro e w3 ⟨rfl, hb3⟩
      go_wp2
      go_ret2
      rw [HR.out]
      exact ⟨rfl, hb1.trans (hb3.mono hb1.size)⟩
  · have hr : trkErr sh xs = linedErr sh xs := by simp [trkErr, he]
    have htt : trkT sh xs = ⟨#[]⟩ := by simp [trkT, hr, he]
    have h3 : (linedErr sh xs != 0) = true := by simpa using he
    have h4 : (linedErr sh xs == 0) = false := by simpa using he
    have HR := Lib.hid hr; have HTT := Lib.hid htt
    clear hr htt he
    go_enter Tryz.func17, Tryz.ntmps17
    go_wp2_with fail
    refine (HL.out _ HC.out HX.out).mono ?_
    rintro e w1 ⟨rfl, hb1⟩
    go_wp2
    go_ret2
    rw [HR.out, HTT.out]
    exact ⟨rfl, hb1⟩
end Go.Proofs.YtmafjfhnejeogaaGreatDoor

/- Digits of natural numbers to the base 10^4, the least one first: plain facts. -/
namespace Go.Proofs.YtmafjfhnejeogaaGreatDoor.Z4
def B : Nat := 10000

def val : List Nat → Nat
  | [] => 0
  | d :: ds => d + B * val ds

def dig (n : Nat) : List Nat := if n = 0 then [] else n % B :: dig (n / B)
termination_by n
decreasing_by exact Nat.div_lt_self (Nat.pos_of_ne_zero ‹_›) (by decide)

theorem B_pos : 0 < B := by decide
theorem dig_zero : dig 0 = [] := by rw [dig]; simp
theorem dig_pos {n : Nat} (h : n ≠ 0) : dig n = n % B :: dig (n / B) := by rw [dig]; simp [h]

theorem val_dig (n : Nat) : val (dig n) = n := by
  induction n using Nat.strongRecOn with
  | _ n ih =>
    by_cases h : n = 0
    · subst h; simp [dig_zero, val]
    · rw [dig_pos h, val, ih _ (Nat.div_lt_self (Nat.pos_of_ne_zero h) (by decide))]
      exact Nat.mod_add_div n B

def Sm (xs : List Nat) : Prop := ∀ d ∈ xs, d < B

theorem sm_dig (n : Nat) : Sm (dig n) := by
  induction n using Nat.strongRecOn with
  | _ n ih =>
    by_cases h : n = 0
    · subst h; simp [dig_zero, Sm]
    · rw [dig_pos h]
      intro d hd
      rcases List.mem_cons.1 hd with rfl | hd
      · exact Nat.mod_lt _ B_pos
      · exact ih _ (Nat.div_lt_self (Nat.pos_of_ne_zero h) (by decide)) d hd

theorem val_nil : val [] = 0 := rfl
theorem val_cons (d : Nat) (ds : List Nat) : val (d :: ds) = d + B * val ds := rfl

theorem val_append (xs ys : List Nat) : val (xs ++ ys) = val xs + B ^ xs.length * val ys := by
  induction xs with
  | nil => simp [val]
  | cons d ds ih => simp only [List.cons_append, val_cons, ih, List.length_cons, Nat.pow_succ]; rw [Nat.mul_add, Nat.add_assoc, Nat.mul_comm (B ^ ds.length) B, Nat.mul_assoc]

theorem val_snoc (xs : List Nat) (d : Nat) : val (xs ++ [d]) = val xs + B ^ xs.length * d := by
  rw [val_append]; simp [val]

theorem val_lt {xs : List Nat} (h : Sm xs) : val xs < B ^ xs.length := by
  induction xs with
  | nil => simp [val]
  | cons d ds ih =>
    have h1 : d < B := h d (by simp)
    have h2 := ih (fun x hx => h x (by simp [hx]))
    simp only [val_cons, List.length_cons, Nat.pow_succ]
    have : B * (val ds + 1) ≤ B * B ^ ds.length := Nat.mul_le_mul_left _ h2
    rw [Nat.mul_add, Nat.mul_one] at this
    rw [Nat.mul_comm (B ^ ds.length) B]; omega

/-- digits without zeros at the end -/
def Lean_ (xs : List Nat) : Prop := Sm xs ∧ xs.getLast? ≠ some 0

theorem val_eq_zero {xs : List Nat} : val xs = 0 ↔ ∀ d ∈ xs, d = 0 := by
  induction xs with
  | nil => simp [val]
  | cons d ds ih =>
    simp only [val_cons, List.mem_cons, forall_eq_or_imp, ← ih]
    constructor
    · intro h
      have h1 : d = 0 := by omega
      have h2 : B * val ds = 0 := by omega
      refine ⟨h1, ?_⟩
      rcases Nat.mul_eq_zero.1 h2 with h | h
      · exact absurd h (by decide)
      · exact h
    · rintro ⟨rfl, h⟩; simp [h]

theorem dig_val {xs : List Nat} (h : Sm xs) (hl : xs.getLast? ≠ some 0) : dig (val xs) = xs := by
  induction xs with
  | nil => simp [val, dig_zero]
  | cons d ds ih =>
    have h1 : d < B := h d (by simp)
    have hs : Sm ds := fun x hx => h x (by simp [hx])
    have hne : val (d :: ds) ≠ 0 := by
      intro h0
      have h0' := val_eq_zero.1 h0
      have : ((d :: ds).getLast (by simp)) = 0 := h0' _ (List.getLast_mem _)
      exact hl (by rw [List.getLast?_eq_some_getLast (by simp), this])
    rw [dig_pos hne, val_cons]
    have e1 : (d + B * val ds) % B = d := by rw [Nat.add_mul_mod_self_left, Nat.mod_eq_of_lt h1]
    have e2 : (d + B * val ds) / B = val ds := by rw [Nat.add_mul_div_left _ _ B_pos, Nat.div_eq_of_lt h1, Nat.zero_add]
    rw [e1, e2, ih hs]
    cases ds with
    | nil => simp
    | cons x xs => simpa [List.getLast?_cons_cons] using hl

theorem last_dig (n : Nat) : (dig n).getLast? ≠ some 0 := by
  induction n using Nat.strongRecOn with
  | _ n ih =>
    by_cases h : n = 0
    · subst h; simp [dig_zero]
    · rw [dig_pos h]
      have := ih (n / B) (Nat.div_lt_self (Nat.pos_of_ne_zero h) (by decide))
      by_cases h2 : n / B = 0
      · rw [h2, dig_zero]; simp
        have h3 : n < B := by
          rcases Nat.div_eq_zero_iff.1 h2 with h | h
          · exact absurd h (by decide)
          · exact h
        rw [Nat.mod_eq_of_lt h3]; exact h
      · rw [dig_pos h2] at this ⊢
        simpa [List.getLast?_cons_cons] using this

theorem dig_len_pos {n : Nat} : (dig n).length = 0 ↔ n = 0 := by
  by_cases h : n = 0
  · subst h; simp [dig_zero]
  · rw [dig_pos h]; simp [h]

theorem dig_small {n : Nat} (h : n < B) (h0 : n ≠ 0) : dig n = [n] := by
  rw [dig_pos h0, Nat.mod_eq_of_lt h, Nat.div_eq_of_lt h, dig_zero]

theorem lt_pow_len (n : Nat) : n < B ^ (dig n).length := by
  have := val_lt (sm_dig n); rwa [val_dig] at this

theorem pow_len_le {n : Nat} (h : n ≠ 0) : B ^ ((dig n).length - 1) ≤ n := by
  induction n using Nat.strongRecOn with
  | _ n ih =>
    rw [dig_pos h]
    by_cases h2 : n / B = 0
    · rw [h2, dig_zero]; simp; omega
    · have := ih _ (Nat.div_lt_self (Nat.pos_of_ne_zero h) (by decide)) h2
      have hl : (dig (n / B)).length ≠ 0 := by rw [Ne, dig_len_pos]; exact h2
      simp only [List.length_cons, Nat.add_sub_cancel]
      obtain ⟨k, hk⟩ : ∃ k, (dig (n / B)).length = k + 1 := ⟨(dig (n/B)).length - 1, by omega⟩
      rw [hk, Nat.add_sub_cancel] at this
      rw [hk, Nat.pow_succ]
      calc B ^ k * B ≤ n / B * B := Nat.mul_le_mul_right _ this
        _ ≤ n := Nat.div_mul_le_self n B

/-- lengths tell the order -/
theorem lt_of_len {m n : Nat} (h : (dig m).length < (dig n).length) : m < n := by
  have hn : n ≠ 0 := by rintro rfl; simp [dig_zero] at h
  have h1 := lt_pow_len m
  have h2 := pow_len_le hn
  have h3 : B ^ (dig m).length ≤ B ^ ((dig n).length - 1) := Nat.pow_le_pow_right B_pos (by omega)
  omega

theorem dig_len_mono {m n : Nat} (h : m ≤ n) : (dig m).length ≤ (dig n).length := by
  apply Nat.le_of_not_lt
  intro hc
  have := lt_of_len hc
  omega
end Go.Proofs.YtmafjfhnejeogaaGreatDoor.Z4

/- Digits: order, quotients. -/
namespace Go.Proofs.YtmafjfhnejeogaaGreatDoor.Z4

theorem val_split {l : List Nat} {j x : Nat} (hx : l[j]? = some x) : val l = val (l.take j) + B ^ j * (x + B * val (l.drop (j + 1))) := by
  have hj : j < l.length := (List.getElem?_eq_some_iff.1 hx).1
  have h1 : l = l.take j ++ (x :: l.drop (j + 1)) := by
    have := (List.take_append_drop j l).symm
    rw [List.drop_eq_getElem_cons hj, (List.getElem?_eq_some_iff.1 hx).2] at this
    exact this
  have h2 := congrArg val h1
  rw [val_append, val_cons, List.length_take, Nat.min_eq_left (by omega)] at h2
  exact h2

theorem cmp_digit {l1 l2 : List Nat} (h1 : Sm l1) {j x y : Nat} (hx : l1[j]? = some x) (hy : l2[j]? = some y) (hd : l1.drop (j + 1) = l2.drop (j + 1)) (hlt : x < y) : val l1 < val l2 := by
  rw [val_split hx, val_split hy, hd]
  have hj : j < l1.length := (List.getElem?_eq_some_iff.1 hx).1
  have h3 : val (l1.take j) < B ^ j := by
    have := val_lt (xs := l1.take j) (fun d hd => h1 d (List.mem_of_mem_take hd))
    rwa [List.length_take, Nat.min_eq_left (by omega)] at this
  have h4 : B ^ j * (x + 1 + B * val (l2.drop (j + 1))) ≤ B ^ j * (y + B * val (l2.drop (j + 1))) := Nat.mul_le_mul_left _ (by omega)
  have h5 : B ^ j * (x + 1 + B * val (l2.drop (j + 1))) = B ^ j * (x + B * val (l2.drop (j + 1))) + B ^ j := by
    rw [show x + 1 + B * val (l2.drop (j + 1)) = (x + B * val (l2.drop (j + 1))) + 1 from by omega, Nat.mul_add, Nat.mul_one]
  omega

/-- the order, as Go's compare says it -/
def cmpN (m n : Nat) : Int := if m < n then -1 else if n < m then 1 else 0
theorem cmpN_lt {m n : Nat} (h : m < n) : cmpN m n = -1 := by simp [cmpN, h]
theorem cmpN_gt {m n : Nat} (h : n < m) : cmpN m n = 1 := by simp [cmpN, h]; omega
theorem cmpN_eq (n : Nat) : cmpN n n = 0 := by simp [cmpN]

/-- a step of a division by one digit: r the rest of what lies above -/
theorem short_step {H d x : Nat} (hd : 0 < d) : ((H % d) * B + x) / d + B * (H / d) = (x + B * H) / d ∧ ((H % d) * B + x) % d = (x + B * H) % d := by
  have h : x + B * H = ((H % d) * B + x) + d * (B * (H / d)) := by
    have h1 : d * (H / d) + H % d = H := Nat.div_add_mod H d
    have h2 : B * H = B * (d * (H / d)) + B * (H % d) := by rw [← Nat.mul_add, h1]
    rw [h2, Nat.mul_comm (H % d) B, Nat.mul_left_comm d B]; omega
  rw [h, Nat.add_mul_div_left _ _ hd, Nat.add_mul_mod_self_left]
  exact ⟨rfl, rfl⟩

theorem short_dig {r d x : Nat} (hr : r < d) (hx : x < B) : (r * B + x) / d < B := by
  apply Nat.div_lt_of_lt_mul
  have : (r + 1) * B ≤ d * B := Nat.mul_le_mul_right _ hr
  rw [Nat.add_mul] at this; omega
theorem dig_len_val {l : List Nat} (h : Sm l) : (dig (val l)).length ≤ l.length := by
  have h1 := val_lt h
  apply Nat.le_of_not_lt
  intro hc
  have hne : val l ≠ 0 := by
    intro h0; rw [h0, dig_zero] at hc; simp at hc
  have h2 := pow_len_le hne
  have h3 : B ^ l.length ≤ B ^ ((dig (val l)).length - 1) := Nat.pow_le_pow_right B_pos (by omega)
  omega
end Go.Proofs.YtmafjfhnejeogaaGreatDoor.Z4

/- The reference's whole numbers: strip, made, ZOf. -/
namespace Go.Proofs.YtmafjfhnejeogaaGreatDoor.Z4
open Go.RowKit

/-- digits as cells -/
def zs (l : List Nat) : List Value := l.map fun d => Value.int .i64 (d : Nat)
theorem zs_length (l : List Nat) : (zs l).length = l.length := by simp [zs]
theorem zs_append (a b : List Nat) : zs (a ++ b) = zs a ++ zs b := by simp [zs]
theorem zs_ne {l : List Nat} (h : 0 < l.length) : zs l ≠ [] := by
  intro h2; have := congrArg List.length h2; rw [zs_length, List.length_nil] at this; omega
theorem zs_get {l : List Nat} {i d : Nat} (hd : l[i]? = some d) : (zs l)[i]? = some (.int .i64 (d : Nat)) := by simp [zs, hd]
theorem zcell {w : World} {b off : Nat} {l : List Nat} (h : Cells w (some ⟨b, off, none⟩) (zs l)) {i d : Nat} (hd : l[i]? = some d) : w.cell? ⟨b, off + i, none⟩ = some (.int .i64 (d : Nat)) :=
  h.at (zs_get hd)
theorem sm_get {l : List Nat} (h : Sm l) {i d : Nat} (hd : l[i]? = some d) : d ≤ 9999 := by
  have := h d (List.mem_of_getElem? hd); simp only [B] at this; omega
theorem val_take_zero {l : List Nat} {k : Nat} (h0 : l[k]? = some 0) : val (l.take (k + 1)) = val (l.take k) := by
  rw [take_get h0, val_snoc]; simp

theorem strip_any (ao : Option Addr) (l : List Nat) (c : Nat) (w : World) (hc : Cells w ao (zs l)) (hs : Sm l) (hl : l.length ≤ 9223372036854775807) (hcap : l.length ≤ c) (hc2 : c ≤ 9223372036854775807) :
    Calls Tryz.prog 209 #[.slice ao l.length c] w fun e w' => (e = .returned (.slice ao (dig (val l)).length c) ∧ Cells w' ao (zs (dig (val l)))) ∧ w = w' := by
  have HC := Lib.hid hc; clear hc
  have HS := Lib.hid hs; clear hs
  go_enter Tryz.func209, Tryz.ntmps209
  go_wp2
  go_loop [0] (fun v => ∃ k : Nat, k ≤ l.length ∧ v = .slice ao k c ∧ val (l.take k) = val l) (fun v => lenOf v)
  case atStart => exact ⟨l.length, Nat.le_refl _, rfl, by rw [List.take_length]⟩
  case round =>
    obtain ⟨k, hk, rfl, hv⟩ := hrel
    by_cases h0 : k = 0
    · subst h0
      rw [List.take_zero, val_nil] at hv
      have hv2 : dig (val l) = [] := by rw [← hv, dig_zero]
      have HV := Lib.hid hv2; clear hv hv2
      go_wp2
      go_ret
      exact ⟨⟨by rw [HV.out]; rfl, by rw [HV.out]; exact Cells.nil _ _⟩, rfl⟩
    · obtain ⟨j, rfl⟩ : ∃ j, k = j + 1 := ⟨k - 1, by omega⟩
      have hj : j < l.length := by omega
      obtain ⟨d, hd⟩ := get_of_lt hj
      obtain ⟨b, off, rfl⟩ := HC.out.addr (zs_ne (by omega))
      have hcell := zcell HC.out hd
      by_cases hd0 : d = 0
      · subst hd0
        have hv2 := val_take_zero hd
        rw [hv] at hv2
        have HV := Lib.hid hv2.symm; clear hv hv2 hd
        go_wp2
        go_round
        case rel => exact ⟨j, by omega, by go_num, HV.out⟩
        case measure => simp [lenOf]
      · have hdp : 0 < d := by omega
        have hne : ((d : Int) == 0) = false := by simp; omega
        have hlast : (l.take (j + 1)).getLast? ≠ some 0 := by rw [take_get hd]; simp; omega
        have hsm : Sm (l.take (j + 1)) := fun x hx => HS.out x (List.mem_of_mem_take hx)
        have hv2 : dig (val l) = l.take (j + 1) := by rw [← hv, dig_val hsm hlast]
        have hl2 : (dig (val l)).length = j + 1 := by rw [hv2, List.length_take]; omega
        have hcs : Cells w (some ⟨b, off, none⟩) (zs (dig (val l))) := by
          rw [hv2, zs, List.map_take]; exact HC.out.take _
        have HL := Lib.hid hl2; have HCS := Lib.hid hcs; clear hv hv2 hl2 hcs hd hsm hlast
        go_wp2
        go_ret
        exact ⟨⟨by rw [HL.out]; rfl, HCS.out⟩, rfl⟩

set_option maxRecDepth 100000 in
theorem made_any (s : Bool) (ao : Option Addr) (l : List Nat) (c : Nat) (w : World) (hc : Cells w ao (zs l)) (hs : Sm l) (hl : l.length ≤ 9223372036854775807) (hcap : l.length ≤ c) (hc2 : c ≤ 9223372036854775807) :
    Calls Tryz.prog 170 #[.bool s, .slice ao l.length c] w fun e w' => e = .returned (.agg #[.bool (s && decide (0 < (dig (val l)).length)), .slice ao (dig (val l)).length c]) ∧ Below w.heap.size w w' := by
  have hst := fun W (h : Cells W ao (zs l)) => strip_any ao l c W h hs hl hcap hc2
  have HST := Lib.hid hst; have HC := Lib.hid hc
  clear hst hc hs
  have hb1 : (s && decide (0 < (dig (val l)).length)) = (s && decide ((0 : Int) < (dig (val l)).length)) := by
    congr 1; rw [Bool.eq_iff_iff, decide_eq_true_iff, decide_eq_true_iff]; omega
  have HB1 := Lib.hid hb1; clear hb1
  have hbw := (Below.refl w.heap.size w).alloc (Nat.le_refl _) (.cells #[.bool false, .slice none 0 0] 72)
  have q0 : (w.alloc (.cells #[.bool false, .slice none 0 0] 72)).cell? ⟨w.heap.size, 0, none⟩ = some (.bool false) := by simp
  cases s
  · skip
    go_enter Tryz.func170, Tryz.ntmps170
    go_wp2_with fail
    refine (HST.out _ (HC.out.below hbw (Nat.le_refl _))).mono ?_
    rintro e w1 ⟨⟨rfl, hcl⟩, rfl⟩
    clear hcl
    go_wp2
    rw [HB1.out]
    refine bodyPost_ret (v := .agg #[.bool (false && decide ((0 : Int) < (dig (val l)).length)), .slice ao (dig (val l)).length c]) (by simp [results, Tryz.results170, go_sem]) rfl ?_
    exact ⟨rfl, (Below.refl w.heap.size w).alloc (Nat.le_refl _) _⟩
  · skip
    go_enter Tryz.func170, Tryz.ntmps170
    go_wp2_with fail
    refine (HST.out _ (HC.out.below hbw (Nat.le_refl _))).mono ?_
    rintro e w1 ⟨⟨rfl, hcl⟩, rfl⟩
    clear hcl
    go_wp2
    rw [HB1.out]
    refine bodyPost_ret (v := .agg #[.bool (true && decide ((0 : Int) < (dig (val l)).length)), .slice ao (dig (val l)).length c]) (by simp [results, Tryz.results170, go_sem]) rfl ?_
    exact ⟨rfl, (Below.refl w.heap.size w).alloc (Nat.le_refl _) _⟩

theorem dig_len_i64 {n : Nat} (h : n < 18446744073709551616) : (dig n).length ≤ 5 := by
  apply Nat.le_of_not_lt
  intro hc
  have hn : n ≠ 0 := by rintro rfl; simp [dig_zero] at hc
  have h1 := pow_len_le hn
  have h2 : B ^ 5 ≤ B ^ ((dig n).length - 1) := Nat.pow_le_pow_right B_pos (by omega)
  have h3 : B ^ 5 = 100000000000000000000 := by decide
  omega

/-- a whole number of the reference -/
def ZV (w : World) (v : Value) (n : Int) : Prop := ∃ a c, v = .agg #[.bool (decide (n < 0)), .slice a (dig n.natAbs).length c] ∧ Cells w a (zs (dig n.natAbs)) ∧ (dig n.natAbs).length ≤ c ∧ c ≤ 9223372036854775807
theorem ZV.below {w w' : World} {B : Nat} {v : Value} {n : Int} (h : ZV w v n) (hb : Below B w w') (hB : w.heap.size ≤ B) : ZV w' v n := by
  obtain ⟨a, c, h1, h2, h3⟩ := h
  exact ⟨a, c, h1, h2.below hb hB, h3⟩

/-- the sign of a magnitude -/
def sg (s : Bool) (k : Nat) : Int := if s then -(k : Int) else (k : Int)
theorem zbox {w : World} {ao : Option Addr} {l : List Nat} {b : Nat} {x0 : Bool} {a1 : Option Addr} {n1 c1 : Nat} {u0 u1 : Value} (h : Cells w ao (zs l)) (q0 : w.cell? ⟨b, 0, none⟩ = some (.bool x0)) (q1 : w.cell? ⟨b, 1, none⟩ = some (.slice a1 n1 c1)) : Cells ((w.setCell ⟨b, 0, none⟩ u0).setCell ⟨b, 1, none⟩ u1) ao (zs l) := by
  refine (h.set q0 ?_).set (v0 := .slice a1 n1 c1) ?_ ?_
  · intro x hx e; simp only [zs, List.mem_map] at hx; obtain ⟨d, _, rfl⟩ := hx; cases e
  · rw [World.cell?_setCell_other _ _ _ _ (by simp)]; exact q1
  · intro x hx e; simp only [zs, List.mem_map] at hx; obtain ⟨d, _, rfl⟩ := hx; cases e
theorem sg_in (s : Bool) (k : Nat) (h : k ≤ 9223372036854775807) : wrap64 (sg s k) = sg s k := by
  unfold sg
  cases s
  · simp only [wrap64]; simp; omega
  · simp only [wrap64]; simp; omega
theorem sg_abs (s : Bool) (k : Nat) : (intOf (.int .i64 (sg s k))).natAbs = k := by
  unfold sg intOf; cases s <;> simp
theorem sg_rem (s : Bool) (k : Nat) : (sg s k).tmod 10000 = sg s (k % B) := by
  unfold sg
  have h : (k : Int).tmod 10000 = ((k % B : Nat) : Int) := by rw [Int.tmod_eq_emod_of_nonneg (by omega)]; simp [B]
  cases s
  · simpa using h
  · simp only [if_true]
    rw [Int.neg_tmod, h]
theorem sg_div (s : Bool) (k : Nat) : (sg s k).tdiv 10000 = sg s (k / B) := by
  unfold sg
  have h : (k : Int).tdiv 10000 = ((k / B : Nat) : Int) := by rw [Int.tdiv_eq_ediv_of_nonneg (by omega)]; simp [B]
  cases s
  · simpa using h
  · simp only [if_true]
    rw [Int.neg_tdiv, h]

set_option maxRecDepth 100000 in
theorem zOf_any (n : Int) (w : World) (h1 : -9223372036854775808 ≤ n) (h2 : n ≤ 9223372036854775807) :
    Calls Tryz.prog 116 #[.int .i64 n] w fun e w' => (∃ v, e = .returned v ∧ ZV w' v n) ∧ Below w.heap.size w w' := by
  obtain ⟨i0, hi, hz0, hz1, hz2⟩ := info_parts Tryz.infoInt
  have hlen := dig_len_i64 (n := n.natAbs) (by omega)
  obtain ⟨s, hs⟩ : ∃ s, s = decide (n < 0) := ⟨_, rfl⟩
  obtain ⟨N, hN⟩ : ∃ N, N = n.natAbs := ⟨_, rfl⟩
  have hn : n = sg s N := by
    unfold sg
    by_cases h : n < 0
    · rw [hs, decide_eq_true h, if_pos rfl]; omega
    · rw [hs, decide_eq_false h]; simp; omega
  have hsg : (s && decide (0 < (dig N).length)) = s := by
    cases hsv : s with
    | false => rfl
    | true =>
      rw [hsv] at hs
      have : N ≠ 0 := by have := of_decide_eq_true hs.symm; omega
      have := mt dig_len_pos.1 this
      simp; omega
  have HZV : ∀ W a c, Cells W a (zs (dig N)) → (dig N).length ≤ c → c ≤ 9223372036854775807 → ZV W (.agg #[.bool s, .slice a (dig N).length c]) n := fun W a c q1 q2 q3 => ⟨a, c, by rw [← hs, ← hN], by rw [← hN]; exact q1, by rw [← hN]; exact q2, q3⟩
  have HZ := Lib.hid HZV; have HS := Lib.hid hs
  rw [← hN] at hlen
  have hNb : N ≤ 9223372036854775808 := by omega
  clear HZV hN h1 h2
  subst hn
  clear hs
  have hneg : decide (sg s N < 0) = s := HS.out.symm
  have hbw0 := (Below.refl w.heap.size w).alloc (Nat.le_refl _) (.cells #[.bool false, .slice none 0 0] 72)
  have HBW0 := Lib.hid hbw0; clear hbw0
  have HSG := Lib.hid hsg; clear hsg
  go_enter Tryz.func116, Tryz.ntmps116
  go_wp2
  go_loopw [0, 4] (fun m v wr => ∃ (ds : List Nat) (k : Nat), m = .int .i64 (sg s k) ∧ k ≤ N ∧ dig N = ds ++ dig k ∧ wr.ownsRow (w.heap.size + 1) 3 1 v ds.length (zs ds) ∧ Below (w.heap.size + 1) (w.alloc (.cells #[.bool false, .slice none 0 0] 72)) wr) (fun m _ _ => (intOf m).natAbs)
  case atStart => exact ⟨[], N, rfl, Nat.le_refl _, rfl, World.ownsRow_nil _ _ _ _, Below.refl _ _⟩
  case round =>
    obtain ⟨ds, k, rfl, hk, hds, hown, hb⟩ := hrel
    have hsz := hb.size
    simp only [World.size_alloc] at hsz
    by_cases h0 : k = 0
    · subst h0
      rw [dig_zero, List.append_nil] at hds
      have hs0 : sg s 0 = 0 := by unfold sg; cases s <;> rfl
      rw [hs0]
      obtain ⟨g, c, rfl, hcs, hc1, hc2⟩ := own_cap hown
      unfold maxLen at hc2
      have hsm : Sm ds := by rw [← hds]; exact sm_dig _
      have hvd : val ds = N := by rw [← hds, val_dig]
      have hmd := made_any s g ds c wr hcs hsm (by rw [← hds]; omega) hc1 hc2
      have hz := HZ.out
      rw [hvd, HSG.out] at hmd
      rw [← hvd] at hds
      have hvn := hvd
      have HMD := Lib.hid hmd; have HZ2 := Lib.hid hz; have HCS := Lib.hid hcs; have HDS := Lib.hid hds
      clear hmd hz hcs hown hds hsm hvd
      go_wp2_with fail
      refine HMD.out.mono ?_
      rintro e w1 ⟨rfl, hb1⟩
      have hbx := hb.trans (hb1.mono hsz)
      have hbw := HBW0.out.trans (hbx.mono (by omega))
      have q0 : w1.cell? ⟨w.heap.size, 0, none⟩ = some (.bool false) := box_keep hbx (by omega) 0
      have q1 : w1.cell? ⟨w.heap.size, 1, none⟩ = some (.slice none 0 0) := box_keep hbx (by omega) 1
      have f0 := box_free hbx (by omega) 0
      have f1 := box_free hbx (by omega) 1
      have hcs1 := HCS.out.below hb1 (Nat.le_refl _)
      have hdn : dig N = ds := by rw [← hvn]; exact HDS.out
      have hld : (dig N).length = ds.length := by rw [hdn]
      rw [← hdn] at hcs1
      have HC1 := Lib.hid hcs1
      clear hcs1 hdn
      go_wp2
      refine bodyPost_ret (v := .agg #[.bool s, .slice g (dig N).length c]) (by simp [results, Tryz.results116, go_sem, q0, q1, hld]) rfl ?_
      exact ⟨⟨_, rfl, HZ2.out _ _ _ (zbox HC1.out q0 q1) (by omega) hc2⟩, (hbw.setCell (Nat.le_refl _) _).setCell (Nat.le_refl _) _⟩
    · have hds2 : dig N = (ds ++ [k % B]) ++ dig (k / B) := by rw [hds, dig_pos h0]; simp
      have hle : ds.length ≤ 4 := by
        have := congrArg List.length hds2
        simp only [List.length_append, List.length_singleton] at this; omega
      have HDS := Lib.hid hds2; clear hds hds2 hlen
      have hlt : k / B < k := Nat.div_lt_self (by omega) (by decide)
      have hq9 : k % B ≤ 9999 := by have hqB : k % B < B := Nat.mod_lt _ B_pos; have hB : B = 10000 := rfl; omega
      have e0 : (sg s k != 0) = true := by rw [bne_iff_ne]; unfold sg; cases s <;> simp <;> omega
      have e2 : (sg s k).tdiv 10000 = sg s (k / B) := sg_div s k
      have e1 : (sg s k).tmod 10000 = sg s (k % B) := sg_rem s k
      generalize k % B = q at *
      generalize k / B = kd at *
      have e5 : wrap64 (sg s kd) = sg s kd := sg_in s kd (by omega)
      have HOB : Hid (∀ j, u4.ownBlock = some j → w.heap.size + 1 ≤ j) := fun j e => (hown.lt j e).1
      have hA : sg s (q) = ((q : Nat) : Int) ∨ (sg s (q) = -((q : Nat) : Int) ∧ 0 < q) := by
        unfold sg
        cases s
        · exact .inl rfl
        · rcases Nat.eq_zero_or_pos (q) with h | h
          · rw [h]; exact .inl rfl
          · exact .inr ⟨rfl, h⟩
      rcases hA with hA | ⟨hA, hqp⟩
      · rw [hA] at e1
        have e3 : ¬ ((q : Nat) : Int) < 0 := by omega
        go_wp2_with (at_builtin; refine wpList_append_own _ rfl _ _ 22 rfl (w.heap.size + 1) 3 i0 (.int .i64 0) 1 8 Tryz.underlying22 hi hz0 hz1 hz2 rfl (by decide) _ _ _ rfl (hown.alloc _) ⟨wr.heap.size, 0, none⟩ 1 1 [.int .i64 (q : Nat)] rfl rfl (news1 _ _ _) (by simp [Value.oneCell']) (by unfold maxLen; omega) (by omega) (by simp; omega) ?_; intro v1 wz hown1 hgrow _)
        have hfin := hown1
        rw [show zs ds ++ [.int .i64 (q : Nat)] = zs (ds ++ [q]) from by rw [zs_append]; rfl] at hfin
        have hbz := (hb.alloc hsz (.cells #[.int .i64 (q : Nat)] 3)).grown hgrow (by simp; omega) HOB.out
        clear hown1 hgrow hown
        have HFIN := Lib.hid hfin; clear hfin
        go_wp2
        go_roundw
        case rel => exact ⟨ds ++ [q], kd, by rw [e5], by omega, HDS.out, by simpa using HFIN.out, hbz⟩
        case measure => rw [e5, sg_abs, sg_abs]; omega
      · rw [hA] at e1
        have e3 : -((q : Nat) : Int) < 0 := by omega
        have e4 : IntKind.i64.wrap ((q : Nat) : Int) = ((q : Nat) : Int) := IntWalk.i64_in _ (by omega)
        go_wp2_with (at_builtin; refine wpList_append_own _ rfl _ _ 22 rfl (w.heap.size + 1) 3 i0 (.int .i64 0) 1 8 Tryz.underlying22 hi hz0 hz1 hz2 rfl (by decide) _ _ _ rfl (hown.alloc _) ⟨wr.heap.size, 0, none⟩ 1 1 [.int .i64 (q : Nat)] rfl rfl (news1 _ _ _) (by simp [Value.oneCell']) (by unfold maxLen; omega) (by omega) (by simp; omega) ?_; intro v1 wz hown1 hgrow _)
        have hfin := hown1
        rw [show zs ds ++ [.int .i64 (q : Nat)] = zs (ds ++ [q]) from by rw [zs_append]; rfl] at hfin
        have hbz := (hb.alloc hsz (.cells #[.int .i64 (q : Nat)] 3)).grown hgrow (by simp; omega) HOB.out
        clear hown1 hgrow hown
        have HFIN := Lib.hid hfin; clear hfin
        go_wp2
        go_roundw
        case rel => exact ⟨ds ++ [q], kd, by rw [e5], by omega, HDS.out, by simpa using HFIN.out, hbz⟩
        case measure => rw [e5, sg_abs, sg_abs]; omega
end Go.Proofs.YtmafjfhnejeogaaGreatDoor.Z4

/- The reference's whole numbers: compare. -/
namespace Go.Proofs.YtmafjfhnejeogaaGreatDoor.Z4
open Go.RowKit

theorem drop_of_len {l1 l2 : List Nat} (h : l1.length = l2.length) : l1.drop l1.length = l2.drop l1.length := by
  rw [List.drop_length, h, List.drop_length]

set_option maxRecDepth 100000 in
theorem compare_any (aa ab : Option Addr) (m n : Nat) (ca cb : Nat) (w : World) (ha : Cells w aa (zs (dig m))) (hb : Cells w ab (zs (dig n))) (hm : (dig m).length ≤ 4611686018427387904) (hn : (dig n).length ≤ 4611686018427387904) :
    Calls Tryz.prog 192 #[.slice aa (dig m).length ca, .slice ab (dig n).length cb] w fun e w' => e = .returned (.int .i64 (cmpN m n)) ∧ Below w.heap.size w w' := by
  have HA := Lib.hid ha; clear ha
  have HB := Lib.hid hb; clear hb
  by_cases hlen : (dig m).length = (dig n).length
  · have h1 : (((dig m).length : Int) != (dig n).length) = false := by simp [hlen]
    have HL := Lib.hid hlen; clear hlen
    go_enter Tryz.func192, Tryz.ntmps192
    go_wp2
    go_loopw [5] (fun i wr => ∃ k : Nat, k ≤ (dig m).length ∧ i = .int .i64 ((k : Int) - 1) ∧ (dig m).drop k = (dig n).drop k ∧ Below w.heap.size w wr) (fun i _ => (intOf i + 1).toNat)
    case atStart => exact ⟨(dig m).length, Nat.le_refl _, rfl, drop_of_len HL.out, Below.refl _ _⟩
    case round =>
      obtain ⟨k, hk, rfl, hd, hbe⟩ := hrel
      have HD := Lib.hid hd; clear hd
      by_cases h0 : k = 0
      · subst h0
        have he : cmpN m n = 0 := by
          have := HD.out
          simp only [List.drop_zero] at this
          have h2 := congrArg val this
          rw [val_dig, val_dig] at h2
          rw [h2, cmpN_eq]
        have HE := Lib.hid he; clear he
        go_wp2
        go_ret
        exact ⟨ret_int HE.out.symm, hbe⟩
      · obtain ⟨j, rfl⟩ : ∃ j, k = j + 1 := ⟨k - 1, by omega⟩
        have hj2 : j < (dig n).length := by have := HL.out; omega
        obtain ⟨x, hx⟩ := get_of_lt (show j < (dig m).length by omega)
        obtain ⟨y, hy⟩ := get_of_lt hj2
        obtain ⟨b, off, rfl⟩ := HA.out.addr (zs_ne (by omega))
        obtain ⟨b2, off2, rfl⟩ := HB.out.addr (zs_ne (by omega))
        have c1 := cell_keep (zcell HA.out hx) hbe (Nat.le_refl _)
        have c2 := cell_keep (zcell HB.out hy) hbe (Nat.le_refl _)
        have e1 : (((j + 1 : Nat) : Int) - 1) = (j : Int) := by omega
        rw [e1]
        have i1 : (j : Int) < (dig m).length := by omega
        have i2 : (j : Int) < (dig n).length := by omega
        have i3 : (0 : Int) ≤ j := by omega
        have HX := Lib.hid (sm_get (sm_dig m) hx)
        have HY := Lib.hid (sm_get (sm_dig n) hy)
        have hxy : x < y ∨ y < x ∨ x = y := by omega
        rcases hxy with hlt | hgt | heq
        · have he : cmpN m n = -1 := cmpN_lt (by have := cmp_digit (sm_dig m) hx hy HD.out hlt; rwa [val_dig, val_dig] at this)
          have HE := Lib.hid he; clear he hx hy e1
          have hne : ((x : Int) != y) = true := by simp; omega
          have hxb : x ≤ 9999 := HX.out
          have hyb : y ≤ 9999 := HY.out
          have hw : IntKind.i64.wrap ((x : Int) - y) = (x : Int) - y := IntWalk.i64_in _ (by omega)
          have hm : max (-1) (min 1 ((x : Int) - y)) = -1 := by omega
          go_wp2
          go_quiet (fail)
          go_wp2
          go_quiet (fail)
          go_wp2
          go_ret
          exact ⟨ret_int HE.out.symm, bel_drewN (bel_drewN hbe _) _⟩
        · have he : cmpN m n = 1 := cmpN_gt (by have := cmp_digit (sm_dig n) hy hx HD.out.symm hgt; rwa [val_dig, val_dig] at this)
          have HE := Lib.hid he; clear he hx hy e1
          have hne : ((x : Int) != y) = true := by simp; omega
          have hxb : x ≤ 9999 := HX.out
          have hyb : y ≤ 9999 := HY.out
          have hw : IntKind.i64.wrap ((x : Int) - y) = (x : Int) - y := IntWalk.i64_in _ (by omega)
          have hm : max (-1) (min 1 ((x : Int) - y)) = 1 := by omega
          go_wp2
          go_quiet (fail)
          go_wp2
          go_quiet (fail)
          go_wp2
          go_ret
          exact ⟨ret_int HE.out.symm, bel_drewN (bel_drewN hbe _) _⟩
        · subst heq
          have he : (dig m).drop j = (dig n).drop j := by
            rw [List.drop_eq_getElem_cons (show j < (dig m).length by omega), List.drop_eq_getElem_cons hj2, HD.out, (List.getElem?_eq_some_iff.1 hx).2, (List.getElem?_eq_some_iff.1 hy).2]
          have HE := Lib.hid he; clear he hx hy e1
          have hne : ((x : Int) != x) = false := by simp
          go_wp2
          go_quiet (fail)
          go_wp2
          go_roundw
          case rel => exact ⟨j, by omega, by go_num, HE.out, bel_drewN hbe _⟩
          case measure => simp [intOf]
  · rcases Nat.lt_or_gt_of_ne hlen with hlt | hgt
    · have he : cmpN m n = -1 := cmpN_lt (lt_of_len hlt)
      have HE := Lib.hid he; clear he
      have h1 : (((dig m).length : Int) != (dig n).length) = true := by simp; omega
      have hw : IntKind.i64.wrap (((dig m).length : Int) - (dig n).length) = ((dig m).length : Int) - (dig n).length := IntWalk.i64_in _ (by omega)
      have hmx : max (-1) (min 1 (((dig m).length : Int) - (dig n).length)) = -1 := by omega
      go_enter Tryz.func192, Tryz.ntmps192
      go_wp2
      go_ret
      exact ⟨ret_int HE.out.symm, Below.refl _ _⟩
    · have he : cmpN m n = 1 := cmpN_gt (lt_of_len hgt)
      have HE := Lib.hid he; clear he
      have h1 : (((dig m).length : Int) != (dig n).length) = true := by simp; omega
      have hw : IntKind.i64.wrap (((dig m).length : Int) - (dig n).length) = ((dig m).length : Int) - (dig n).length := IntWalk.i64_in _ (by omega)
      have hmx : max (-1) (min 1 (((dig m).length : Int) - (dig n).length)) = 1 := by omega
      go_enter Tryz.func192, Tryz.ntmps192
      go_wp2
      go_ret
      exact ⟨ret_int HE.out.symm, Below.refl _ _⟩
end Go.Proofs.YtmafjfhnejeogaaGreatDoor.Z4
