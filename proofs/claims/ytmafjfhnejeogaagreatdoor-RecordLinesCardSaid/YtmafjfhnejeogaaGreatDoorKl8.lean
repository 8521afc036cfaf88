/- Parts of a proof, in build order: L4, E0, E1, E2, E3, E4, E5, E6. -/
import Derived.Test.YtmafjfhnejeogaaGreatDoorKl7
import Derived.Test.YtmafjfhnejeogaaGreatDoorShelf
import Derived.Deep.RegionWith
import Derived.Laws.BitsLemmas

/- Track, of the reference. -/
namespace Go.Proofs.YtmafjfhnejeogaaGreatDoor
open Go.RowKit

theorem dig10_len {n : Nat} (h : n < 18446744073709551616) : (Z4.dig n).length ≤ 549755813888 := Nat.le_trans (Z4.dig_len_i64 h) (by decide)

/-- the amplitude of the reference -/
def RAmp (sh xs : List Int) (w : World) (e : Ending) (w' : World) : Prop :=
  (∃ v, e = .returned (.tuple #[v, .bool (decide (whole sh xs ≠ 0))]) ∧ (whole sh xs ≠ 0 → Z4.QV w' v (decide (trN sh xs < 0)) ((trN sh xs).natAbs / Nat.gcd (trN sh xs).natAbs (trD sh xs).natAbs) ((trD sh xs).natAbs / Nat.gcd (trN sh xs).natAbs (trD sh xs).natAbs)) ∧ (whole sh xs = 0 → Z4.QV w' v false 0 1)) ∧ Below w.heap.size w w'

/-- the squares of a line over whole periods are more than 0 -/
theorem ampD_mono {sh : List Int} (t : Nat) : ∀ k, ampD sh t ≤ ampD sh (t + k) := by
  intro k
  induction k with
  | zero => exact Int.le_refl _
  | succ k ih =>
    have h : 0 ≤ sh.getD ((t + k) % sh.length) 0 * sh.getD ((t + k) % sh.length) 0 := by
      rcases Int.le_total 0 (sh.getD ((t + k) % sh.length) 0) with h | h
      · exact Int.mul_nonneg h h
      · exact Int.mul_nonneg_of_nonpos_of_nonpos h h
    rw [show t + (k + 1) = t + k + 1 from rfl]
    simp only [ampD]
    omega
theorem ampD_pos {sh : List Int} (h : lineErr sh = 0) (n : Nat) (hn : sh.length ≤ n) : 0 < ampD sh n := by
  have h1 : lineOK sh = true := by
    cases e : lineOK sh
    · simp [lineErr, e] at h
    · rfl
  simp only [lineOK, Bool.and_eq_true, List.any_eq_true] at h1
  obtain ⟨x, hx, hx0⟩ := h1.2.2.2
  obtain ⟨i, hi, rfl⟩ := List.getElem_of_mem hx
  have e : ampD sh (i + 1) = ampD sh i + sh[i] * sh[i] := by
    simp only [ampD]
    rw [Nat.mod_eq_of_lt hi, List.getD_eq_getElem?_getD, List.getElem?_eq_getElem hi]; rfl
  have h2 := ampD_mono (sh := sh) 0 i
  rw [Nat.zero_add, show ampD sh 0 = 0 from rfl] at h2
  have h3 := ampD_mono (sh := sh) (i + 1) (n - (i + 1))
  rw [show i + 1 + (n - (i + 1)) = n from by omega] at h3
  have h4 : 0 < sh[i] * sh[i] := by
    have : sh[i] ≠ 0 := by simpa using hx0
    rcases Int.lt_or_gt_of_ne this with h | h
    · exact Int.mul_pos_of_neg_of_neg h h
    · exact Int.mul_pos h h
  omega
theorem trD_zero {sh xs : List Int} (h : linedErr sh xs = 0) : trD sh xs = 0 ↔ whole sh xs = 0 := by
  obtain ⟨h1, _⟩ := linedErr_zero h
  have h2 := (lineErr_zero h1).1
  constructor
  · intro h3
    rcases Nat.eq_zero_or_pos (whole sh xs) with h4 | h4
    · exact h4
    · have h5 : sh.length ≤ whole sh xs := by
        unfold whole at h4 ⊢
        have : 0 < xs.length / sh.length := Nat.pos_of_mul_pos_right h4
        exact Nat.le_mul_of_pos_left _ this
      have := ampD_pos h1 _ h5
      unfold trD at h3
      omega
  · intro h3
    unfold trD; rw [h3]; rfl
theorem text_same (n : Int) (d : Nat) : ratT (ofS n d) (ofN n d) (ofD n d) = Z4.qT (decide (n < 0)) (n.natAbs / Nat.gcd n.natAbs d) (d / Nat.gcd n.natAbs d) := by
  have h1 : ofS n d = decide (n < 0) := by
    unfold ofS
    rw [decide_eq_false (show ¬ (d : Int) < 0 by omega)]
    by_cases hn : n < 0
    · rw [decide_eq_true hn, decide_eq_true (show n.natAbs ≠ 0 by omega)]; rfl
    · rw [decide_eq_false hn]; rfl
  have h2 : ofN n d = n.natAbs / Nat.gcd n.natAbs d := by unfold ofN; rw [Int.natAbs_natCast]
  have h3 : ofD n d = d / Nat.gcd n.natAbs d := by unfold ofD; rw [Int.natAbs_natCast]
  rw [h1, h2, h3]
  unfold ratT Z4.qT
  have e1 : ∀ s k, sgT s k = Z4.zT s k := fun _ _ => rfl
  have e2 : ∀ k, decB k = Z4.dcB k := fun _ => rfl
  rw [e1, e2, ByteArray.append_assoc]

set_option maxRecDepth 100000 in
set_option maxHeartbeats 2000000 in
theorem refAmplitude_any (ao : Option Addr) (sh : List Int) (cap : Nat) (ax : Option Addr) (xs : List Int) (cx : Nat) (w : World) (hc : Cells w ao (sh.map (Value.int .i64))) (hx : Cells w ax (xs.map (Value.int .i64))) (h : linedErr sh xs = 0) :
    Calls Tryz.prog 52 #[.slice ao sh.length cap, .slice ax xs.length cx] w (RAmp sh xs w) := by
  have HC := Lib.hid hc; clear hc
  have HX := Lib.hid hx; clear hx
  obtain ⟨h1, h2⟩ := linedErr_zero h
  obtain ⟨a1, a2, _, a3⟩ := lineErr_zero h1
  obtain ⟨b1, b2⟩ := serErr_zero h2
  have HB := Lib.hid (fun t ht => amp_bd h t ht)
  have A3 := Lib.hid a3; clear a3
  have B2 := Lib.hid b2; clear b2
  have hw := whole_le sh xs
  have hw0 : ((xs.length : Int) / sh.length) * sh.length = (whole sh xs : Nat) := by simp [whole]
  have hw1 : 0 ≤ ((xs.length : Int) / sh.length) * sh.length := by rw [hw0]; omega
  have hw2 : ((xs.length : Int) / sh.length) * sh.length ≤ 4096 := by rw [hw0]; omega
  have hq1 : 0 ≤ (xs.length : Int) / sh.length := Int.ediv_nonneg (by omega) (by omega)
  have hq2 : (xs.length : Int) / sh.length ≤ 4096 := by have := Int.ediv_le_self (a := (xs.length : Int)) (sh.length : Int) (by omega); omega
  have HW := Lib.hid hw0; clear hw0
  have hne : ((sh.length : Int) == 0) = false := by simp; intro e; simp [e] at a1
  have hpos : whole sh xs ≠ 0 → 0 < trD sh xs := by
    intro h3
    have h4 := mt (trD_zero h).1 h3
    have h5 := (amp_bd h (whole sh xs) hw).2.2.1
    rw [show ampD sh (whole sh xs) = trD sh xs from rfl] at h5
    omega
  have HP := Lib.hid hpos
  clear h h1 h2 hpos
  have hbw := (Below.refl w.heap.size w).alloc (Nat.le_refl _) (.cells #[.bool false, .slice none 0 0, .bool false, .slice none 0 0] 74)
  have HBW := Lib.hid hbw; clear hbw
  go_enter Tryz.func52, Tryz.ntmps52
  go_wp2
  rw [HW.out]
  clear hw1 hw2 hq1 hq2
  generalize hW0 : (w.alloc (.cells #[.bool false, .slice none 0 0, .bool false, .slice none 0 0] 74)) = W0 at *
  have HCC := Lib.hid (HC.out.below HBW.out (Nat.le_refl _))
  have HXX := Lib.hid (HX.out.below HBW.out (Nat.le_refl _))
  have HW0 := Lib.hid hW0
  clear hW0
  go_loop [7, 8, 9] (fun n d i => ∃ k : Nat, k ≤ whole sh xs ∧ i = .int .i64 k ∧ n = .int .i64 (ampN sh xs k) ∧ d = .int .i64 (ampD sh k)) (fun _ _ i => whole sh xs - (intOf i).toNat)
  case atStart => exact ⟨0, Nat.zero_le _, rfl, rfl, rfl⟩
  case round =>
    obtain ⟨k, hk, rfl, rfl, rfl⟩ := hrel
    obtain ⟨d1, d2, d3, d4⟩ := HB.out k (by omega)
    by_cases hlt : k < whole sh xs
    · obtain ⟨x, hx⟩ := get_of_lt (show k < xs.length by omega)
      have hm0 : k % sh.length < sh.length := Nat.mod_lt _ (by omega)
      obtain ⟨y, hy⟩ := get_of_lt hm0
      obtain ⟨b, off, rfl⟩ := HC.out.addr (by simpa using List.ne_nil_of_length_pos (by omega))
      obtain ⟨bx, ox, rfl⟩ := HX.out.addr (by simpa using List.ne_nil_of_length_pos (by omega))
      have c1 := HXX.out.int hx
      have c2 := HCC.out.int hy
      have t1 := B2.out _ (List.mem_of_getElem? hx)
      have t2 := A3.out _ (List.mem_of_getElem? hy)
      have p1 := mul_bd t1.1 t1.2 t2.1 t2.2
      have p2 := mul_bd t2.1 t2.2 t2.1 t2.2
      obtain ⟨p11, p12⟩ := p1
      obtain ⟨p21, p22⟩ := p2
      have e1 : ampN sh xs (k + 1) = ampN sh xs k + x * y := by simp [ampN, hx, hy]
      have e2 : ampD sh (k + 1) = ampD sh k + y * y := by simp [ampD, hy]
      have E1 := Lib.hid e1; have E2 := Lib.hid e2; clear e1 e2 hx hy
      go_wp2
      go_round
      case rel => exact ⟨k + 1, by omega, by go_num, by rw [E1.out], by rw [E2.out]⟩
      case measure => simp [intOf]; omega
    · obtain rfl : k = whole sh xs := by omega
      have HBX : Hid (∀ {B : Nat} {w1 : World}, Below B W0 w1 → w.heap.size < B → (∀ i, w1.cell? ⟨w.heap.size, i, none⟩ = #[Value.bool false, .slice none 0 0, .bool false, .slice none 0 0][i]?) ∧ (∀ i, w1.frozen? ⟨w.heap.size, i, none⟩ = false)) := fun hb hB => by
        rw [← HW0.out] at hb
        exact ⟨fun i => box_keep hb hB i, fun i => box_free hb hB i⟩
      have hz0 : W0.heap.size = w.heap.size + 1 := by rw [← HW0.out]; simp
      rw [show ampN sh xs (whole sh xs) = trN sh xs from rfl, show ampD sh (whole sh xs) = trD sh xs from rfl] at *
      by_cases h0 : whole sh xs = 0
      · have hrr : decide (whole sh xs ≠ 0) = false := by simp [h0]
        have HRR := Lib.hid hrr
        have H0 := Lib.hid h0
        clear hrr h0
        have H00 : ((whole sh xs : Int) == 0) = true := by rw [H0.out]; rfl
        have hqi := fun W => Z4.qInt_any 0 W (by omega) (by omega)
        have HQI := Lib.hid hqi; clear hqi
        rw [H0.out]
        go_wp2_with fail
        refine (HQI.out _).mono ?_
        rintro e w1 ⟨⟨v1, rfl, hq⟩, hb1⟩
        obtain ⟨f1, f2⟩ := HBX.out hb1 (by omega)
        have q0 := f1 0
        have q1 := f1 1
        have q2 := f1 2
        have q3 := f1 3
        simp only [List.getElem?_toArray, List.getElem?_cons_succ, List.getElem?_cons_zero] at q0 q1 q2 q3
        have g0 := f2 0
        have g1 := f2 1
        have g2 := f2 2
        have g3 := f2 3
        obtain ⟨vn, vd, rfl, hm1, hm2⟩ := hq
        obtain ⟨an, cn, rfl⟩ := hm1.cases
        obtain ⟨ad, cd, rfl⟩ := hm2.cases
        have HM1 := Lib.hid hm1; have HM2 := Lib.hid hm2
        clear hm1 hm2 f1 f2
        go_wp2
        refine bodyPost_ret (v := .tuple #[.agg #[.bool false, .slice an (Z4.dig (0 : Int).natAbs).length cn, .bool false, .slice ad (Z4.dig 1).length cd], .bool false]) (by simp [results, Tryz.results52, go_sem, q0, q1, q2, q3]) rfl ?_
        refine ⟨⟨_, by rw [HRR.out], fun h => absurd H0.out h, fun _ => ⟨_, _, rfl, HM1.out.box4 q0 q1 q2 q3, HM2.out.box4 q0 q1 q2 q3⟩⟩, ?_⟩
        exact (((((HBW.out.trans (hb1.mono (by omega))).setCell (Nat.le_refl _) _).setCell (Nat.le_refl _) _).setCell (Nat.le_refl _) _).setCell (Nat.le_refl _) _)
      · have hrr : decide (whole sh xs ≠ 0) = true := by simp [h0]
        have hdp := HP.out h0
        have HRR := Lib.hid hrr
        have H0 := Lib.hid h0
        have H00 : ((whole sh xs : Int) == 0) = false := by rw [beq_eq_false_iff_ne]; omega
        obtain ⟨D, hD⟩ : ∃ D : Nat, trD sh xs = (D : Int) := ⟨(trD sh xs).toNat, by omega⟩
        have hD2 : (trD sh xs).natAbs = D := by omega
        obtain ⟨N, hN⟩ : ∃ N : Int, N = trN sh xs := ⟨_, rfl⟩
        have HD2 := Lib.hid hD2; have HN := Lib.hid hN
        rw [hD] at d3 d4 hdp ⊢
        rw [← hN] at d1 d2 ⊢
        have HD := Lib.hid hD
        clear hrr hD hD2 hN
        have hzn := fun W => Z4.zOf_any N W (by omega) (by omega)
        have hzd := fun W => Z4.zOf_any (D : Int) W (by omega) (by omega)
        have hqo := fun va vb W h1 h2 => Z4.qOf_pos va vb N D W h1 h2 (by omega) (dig10_len (by omega)) (dig10_len (by omega))
        have HZN := Lib.hid hzn; have HZD := Lib.hid hzd; have HQO := Lib.hid hqo
        clear hzn hzd hqo h0
        go_wp2_with fail
        refine (HZN.out _).mono ?_
        rintro e w1 ⟨⟨v1, rfl, hv1⟩, hb1⟩
        go_wp2_with fail
        refine (HZD.out _).mono ?_
        rintro e w2 ⟨⟨v2, rfl, hv2⟩, hb2⟩
        go_wp2_with fail
        refine (HQO.out _ _ _ (hv1.below hb2 (Nat.le_refl _)) hv2).mono ?_
        rintro e w3 ⟨⟨v3, rfl, hv3⟩, hb3⟩
        have hbx := (hb1.trans (hb2.mono hb1.size)).trans (hb3.mono (Nat.le_trans hb1.size hb2.size))
        obtain ⟨f1, f2⟩ := HBX.out hbx (by omega)
        have q0 := f1 0
        have q1 := f1 1
        have q2 := f1 2
        have q3 := f1 3
        simp only [List.getElem?_toArray, List.getElem?_cons_succ, List.getElem?_cons_zero] at q0 q1 q2 q3
        have g0 := f2 0
        have g1 := f2 1
        have g2 := f2 2
        have g3 := f2 3
        obtain ⟨vn, vd, rfl, hm1, hm2⟩ := hv3
        obtain ⟨an, cn, rfl⟩ := hm1.cases
        obtain ⟨ad, cd, rfl⟩ := hm2.cases
        have HM1 := Lib.hid hm1; have HM2 := Lib.hid hm2
        have hbw := HBW.out.trans (hbx.mono (by omega))
        clear hm1 hm2 f1 f2 hb1 hb2 hb3 hv1 hv2
        go_wp2
        refine bodyPost_ret (v := .tuple #[.agg #[.bool (decide (N < 0)), .slice an (Z4.dig (N.natAbs / Nat.gcd N.natAbs D)).length cn, .bool false, .slice ad (Z4.dig (D / Nat.gcd N.natAbs D)).length cd], .bool true]) (by simp [results, Tryz.results52, go_sem, q0, q1, q2, q3]) rfl ?_
        refine ⟨⟨_, by rw [HRR.out], fun _ => ?_, fun h => absurd h H0.out⟩, (((hbw.setCell (Nat.le_refl _) _).setCell (Nat.le_refl _) _).setCell (Nat.le_refl _) _).setCell (Nat.le_refl _) _⟩
        rw [HD2.out, ← HN.out]
        exact ⟨_, _, rfl, HM1.out.box4 q0 q1 q2 q3, HM2.out.box4 q0 q1 q2 q3⟩

set_option maxRecDepth 100000 in
set_option maxHeartbeats 1000000 in
theorem refTrack_any (ao : Option Addr) (sh : List Int) (cap : Nat) (ax : Option Addr) (xs : List Int) (cx : Nat) (w : World) (hc : Cells w ao (sh.map (Value.int .i64))) (hl : sh.length ≤ 17592186044416) (hx : Cells w ax (xs.map (Value.int .i64))) (hlx : xs.length ≤ 9223372036854775807) :
    Calls Tryz.prog 18 #[.slice ao sh.length cap, .slice ax xs.length cx] w fun e w' => e = .returned (.tuple #[.string (trkT sh xs), .int .i64 (trkErr sh xs)]) ∧ Below w.heap.size w w' := by
  have hlin := fun wx h1 h2 => refLined_any ao sh cap ax xs cx wx h1 hl h2 hlx
  have HL := Lib.hid hlin; have HC := Lib.hid hc; have HX := Lib.hid hx
  clear hlin hc hx
  by_cases he : linedErr sh xs = 0
  · have hamp := fun wx h1 h2 => refAmplitude_any ao sh cap ax xs cx wx h1 h2 he
    have hab := amp_bd he (whole sh xs) (whole_le sh xs)
    rw [show ampN sh xs (whole sh xs) = trN sh xs from rfl, show ampD sh (whole sh xs) = trD sh xs from rfl] at hab
    have hwl := whole_le sh xs
    have hs4 := (serErr_zero (linedErr_zero he).2).1
    obtain ⟨d1, d2, d3, d4⟩ := hab
    have HA := Lib.hid hamp; have HE := Lib.hid he
    clear hamp
    by_cases h0 : whole sh xs = 0
    · have hr : trkErr sh xs = 4 := by simp [trkErr, he, (trD_zero he).2 h0]
      have htt : trkT sh xs = ⟨#[]⟩ := by simp [trkT, hr]
      have hdc : decide (whole sh xs ≠ 0) = false := by simp [h0]
      have HR := Lib.hid hr; have HTT := Lib.hid htt; have H0 := Lib.hid h0; have HDC := Lib.hid hdc
      clear hr htt h0 he hdc
      go_enter Tryz.func18, Tryz.ntmps18
      go_wp2_with fail
      refine (HL.out _ HC.out HX.out).mono ?_
      rintro e w1 ⟨rfl, hb1⟩
      rw [HE.out]
      go_wp2_with fail
      refine (HA.out _ (HC.out.below hb1 (Nat.le_refl _)) (HX.out.below hb1 (Nat.le_refl _))).mono ?_
      rintro e w2 ⟨⟨v, rfl, _, hv⟩, hb2⟩
      obtain ⟨vn, vd, rfl, hm1, hm2⟩ := hv H0.out
      obtain ⟨an, cn, rfl⟩ := hm1.cases
      obtain ⟨ad, cd, rfl⟩ := hm2.cases
      clear hm1 hm2 hv
      rw [HDC.out]
      go_wp2
      go_ret2
      rw [HR.out, HTT.out]
      exact ⟨rfl, (hb1.trans (hb2.mono hb1.size)).alloc (Nat.le_trans hb1.size hb2.size) _⟩
    · have hz := mt (trD_zero he).1 h0
      have hr : trkErr sh xs = 0 := by simp [trkErr, he, hz]
      obtain ⟨D, hD⟩ : ∃ D : Nat, trD sh xs = (D : Int) := ⟨(trD sh xs).toNat, by omega⟩
      have hD0 : D ≠ 0 := by omega
      have htt : trkT sh xs = Z4.qT (decide (trN sh xs < 0)) ((trN sh xs).natAbs / Nat.gcd (trN sh xs).natAbs D) (D / Nat.gcd (trN sh xs).natAbs D) := by
        simp only [trkT, hr, if_true]
        rw [hD, text_same]
      have hdc : decide (whole sh xs ≠ 0) = true := by simp [h0]
      have hnn : (trN sh xs).natAbs / Nat.gcd (trN sh xs).natAbs D ≤ (trN sh xs).natAbs := Nat.div_le_self _ _
      have hdd : D / Nat.gcd (trN sh xs).natAbs D ≤ D := Nat.div_le_self _ _
      have hgp : 0 < Nat.gcd (trN sh xs).natAbs D := Nat.gcd_pos_of_pos_right _ (by omega)
      have hd1 : D / Nat.gcd (trN sh xs).natAbs D ≠ 0 := by
        have := Nat.div_pos (Nat.le_of_dvd (by omega) (Nat.gcd_dvd_right (trN sh xs).natAbs D)) hgp
        omega
      rw [hD] at d3 d4
      have hDA : (trD sh xs).natAbs = D := by omega
      have hput := fun v W h => Z4.refPut_small v (decide (trN sh xs < 0)) ((trN sh xs).natAbs / Nat.gcd (trN sh xs).natAbs D) (D / Nat.gcd (trN sh xs).natAbs D) W h hd1 (dig10_len (by omega)) (dig10_len (by omega)) (Nat.le_trans (digits_u64 (by omega)) (by decide)) (Nat.le_trans (digits_u64 (by omega)) (by decide))
      rw [← htt] at hput
      have hreal := fun v W h => Z4.real_any v (decide (trN sh xs < 0)) ((trN sh xs).natAbs / Nat.gcd (trN sh xs).natAbs D) (D / Nat.gcd (trN sh xs).natAbs D) W h
      have HR := Lib.hid hr; have H0 := Lib.hid h0; have HDC := Lib.hid hdc; have HPUT := Lib.hid hput; have HREAL := Lib.hid hreal; have HDA := Lib.hid hDA
      clear hr htt h0 he hdc hput hreal hDA hD hd1 hgp hnn hdd
      go_enter Tryz.func18, Tryz.ntmps18
      go_wp2_with fail
      refine (HL.out _ HC.out HX.out).mono ?_
      rintro e w1 ⟨rfl, hb1⟩
      rw [HE.out]
      go_wp2_with fail
      refine (HA.out _ (HC.out.below hb1 (Nat.le_refl _)) (HX.out.below hb1 (Nat.le_refl _))).mono ?_
      rintro e w2 ⟨⟨v, rfl, hv, _⟩, hb2⟩
      have hvv := hv H0.out
      rw [HDA.out] at hvv
      have HV := Lib.hid hvv
      obtain ⟨vn, vd, rfl, hm1, hm2⟩ := hvv
      obtain ⟨an, cn, rfl⟩ := hm1.cases
      obtain ⟨ad, cd, rfl⟩ := hm2.cases
      clear hm1 hm2 hv
      rw [HDC.out]
      have hbw := hb1.trans (hb2.mono hb1.size)
      have hsz := hbw.size
      go_wp2_with fail
      refine (HREAL.out _ _ (HV.out.below ((Below.refl _ _).alloc (Nat.le_refl _) _) (Nat.le_refl _))).mono ?_
      rintro e w3 ⟨⟨v3, rfl, h3⟩, hb3⟩
      go_wp2_with fail
      refine (HPUT.out _ _ h3).mono ?_
      rintro e w4 ⟨rfl, hb4⟩
      go_wp2
      go_ret2
      rw [HR.out]
      exact ⟨rfl, (hbw.alloc hsz _).trans ((hb3.trans (hb4.mono hb3.size)).mono (by simp; omega))⟩
  · have hr : trkErr sh xs = linedErr sh xs := by simp [trkErr, he]
    have htt : trkT sh xs = ⟨#[]⟩ := by simp [trkT, hr, he]
    have h3 : (linedErr sh xs != 0) = true := by simpa using he
    have h4 : (linedErr sh xs == 0) = false := by simpa using he
    have HR := Lib.hid hr; have HTT := Lib.hid htt
    clear hr htt he
    go_enter Tryz.func18, Tryz.ntmps18
    go_wp2_with fail
    refine (HL.out _ HC.out HX.out).mono ?_
    rintro e w1 ⟨rfl, hb1⟩
    go_wp2
    go_ret2
    rw [HR.out, HTT.out]
    exact ⟨rfl, hb1⟩
end Go.Proofs.YtmafjfhnejeogaaGreatDoor

/- Codes: check, folded, residues. -/
namespace Go.Proofs.YtmafjfhnejeogaaGreatDoor
open Go.RowKit

/-- bytes, cell by cell -/
def bys (l : List Nat) : List Value := l.map fun d => Value.int .u8 (d : Nat)
theorem bys_length (l : List Nat) : (bys l).length = l.length := by simp [bys]
theorem bys_append (a b : List Nat) : bys (a ++ b) = bys a ++ bys b := by simp [bys]
theorem bys_get {l : List Nat} {i d : Nat} (h : l[i]? = some d) : (bys l)[i]? = some (.int .u8 (d : Nat)) := by simp [bys, h]
theorem bys_ne {l : List Nat} (h : 0 < l.length) : bys l ≠ [] := by
  intro e; have := bys_length l; rw [e] at this; simp at this; omega

def chkL (l : List Nat) : Nat := l.foldl (fun n b => (n * 257 + b + 1) % 16777213) 0
theorem chkL_snoc (l : List Nat) (b : Nat) : chkL (l ++ [b]) = (chkL l * 257 + b + 1) % 16777213 := by simp [chkL]
theorem chkL_lt (l : List Nat) : chkL l < 16777213 := by
  rcases List.eq_nil_or_concat l with rfl | ⟨l', b, rfl⟩
  · decide
  · rw [List.concat_eq_append, chkL_snoc]; exact Nat.mod_lt _ (by decide)

theorem check_any (ao : Option Addr) (l : List Nat) (cap : Nat) (w : World) (hc : Cells w ao (bys l)) (hb : ∀ d ∈ l, d < 256) (hl : l.length ≤ 9223372036854775807) :
    Calls Tryz.prog 180 #[.slice ao l.length cap] w fun e w' => e = .returned (.int .i64 (chkL l : Nat)) ∧ w = w' := by
  have HC := Lib.hid hc; have HB := Lib.hid hb; clear hc hb
  go_enter Tryz.func180, Tryz.ntmps180
  go_wp2
  go_loop [3, 8] (fun n i => ∃ k : Nat, k ≤ l.length ∧ i = .int .i64 k ∧ n = .int .i64 (chkL (l.take k) : Nat)) (fun _ i => l.length - (intOf i).toNat)
  case atStart => exact ⟨0, Nat.zero_le _, rfl, rfl⟩
  case round =>
    obtain ⟨k, hk, rfl, rfl⟩ := hrel
    have hlt1 := chkL_lt (l.take k)
    by_cases hlt : k < l.length
    · obtain ⟨x, hx⟩ := get_of_lt hlt
      obtain ⟨b, off, rfl⟩ := HC.out.addr (bys_ne (by omega))
      have hcell := HC.out.at (bys_get hx)
      have hx2 := HB.out x (List.mem_of_getElem? hx)
      have hs : chkL (l.take (k + 1)) = (chkL (l.take k) * 257 + x + 1) % 16777213 := by rw [take_get hx, chkL_snoc]
      have HS := Lib.hid hs; clear hs hx
      generalize chkL (l.take k) = n at *
      go_wp2
      go_round
      case rel => exact ⟨k + 1, by omega, by go_num, by rw [HS.out]; simp⟩
      case measure => simp [intOf]; omega
    · obtain rfl : k = l.length := by omega
      go_wp2
      go_ret
      exact ⟨ret_int (by simp), rfl⟩

def foldU (r : Int) : Int := if r < 0 then -2 * r - 1 else 2 * r
theorem folded_any (r : Int) (w : World) (h1 : -1099511627776 ≤ r) (h2 : r ≤ 1099511627776) :
    Calls Tryz.prog 218 #[.int .i64 r] w fun e w' => e = .returned (.int .i64 (foldU r)) ∧ w = w' := by
  by_cases h : r < 0
  · go_enter Tryz.func218, Tryz.ntmps218
    go_wp2
    go_ret
    exact ⟨ret_int (by rw [foldU, if_pos h]), rfl⟩
  · go_enter Tryz.func218, Tryz.ntmps218
    go_wp2
    go_ret
    exact ⟨ret_int (by rw [foldU, if_neg (by omega)]), rfl⟩

/-- the differences of neighbours -/
def diffs (xs : List Int) : List Int := (List.range xs.length).map fun i => if i = 0 then xs.getD 0 0 else xs.getD i 0 - xs.getD (i - 1) 0
def resid (xs : List Int) : Nat → List Int
  | 0 => xs
  | o + 1 => diffs (resid xs o)
theorem diffs_length (xs : List Int) : (diffs xs).length = xs.length := by simp [diffs]
theorem resid_length (xs : List Int) (o : Nat) : (resid xs o).length = xs.length := by
  induction o with
  | zero => rfl
  | succ o ih => simp [resid, diffs_length, ih]
theorem diffs_get {xs : List Int} {i : Nat} (h : i < xs.length) : (diffs xs)[i]? = some (if i = 0 then xs.getD 0 0 else xs.getD i 0 - xs.getD (i - 1) 0) := by
  simp [diffs, h]

/-- a round of the differences, from the end -/
theorem diff_step {xs : List Int} {k : Nat} (h0 : 0 < k) (hk : k < xs.length) :
    (xs.take (k + 1) ++ (diffs xs).drop (k + 1)).set k (xs.getD k 0 - xs.getD (k - 1) 0) = xs.take k ++ (diffs xs).drop k := by
  rw [List.take_add_one, List.getElem?_eq_getElem hk, Option.toList_some, List.append_assoc, List.set_append_right _ _ (by rw [List.length_take]; omega)]
  have hl : (xs.take k).length = k := by rw [List.length_take]; omega
  rw [hl, Nat.sub_self]
  have hd : k < (diffs xs).length := by rw [diffs_length]; exact hk
  have := diffs_get hk
  rw [if_neg (by omega)] at this
  rw [List.drop_eq_getElem_cons hd, (List.getElem?_eq_some_iff.1 this).2]
  simp
theorem diff_end {xs : List Int} (h : 0 < xs.length) : xs.take 1 ++ (diffs xs).drop 1 = diffs xs := by
  have hd : 0 < (diffs xs).length := by rw [diffs_length]; exact h
  have := diffs_get h
  rw [if_pos rfl] at this
  have e : (diffs xs) = (diffs xs)[0] :: (diffs xs).drop 1 := by
    have := List.drop_eq_getElem_cons hd
    rwa [List.drop_zero] at this
  have e2 : (diffs xs)[0] = xs.getD 0 0 := (List.getElem?_eq_some_iff.1 this).2
  rw [e2] at e
  conv => rhs; rw [e]
  rw [show xs.take 1 = [xs.getD 0 0] from by
    match xs, h with
    | x :: t, _ => simp]
  rfl

theorem diffs_bd {xs : List Int} {M : Int} (hM : 0 ≤ M) (h : ∀ x ∈ xs, -M ≤ x ∧ x ≤ M) : ∀ x ∈ diffs xs, -(2 * M) ≤ x ∧ x ≤ 2 * M := by
  have hg : ∀ i, -M ≤ xs.getD i 0 ∧ xs.getD i 0 ≤ M := by
    intro i
    rw [List.getD_eq_getElem?_getD]
    cases hx : xs[i]? with
    | none => simp; omega
    | some x => exact h x (List.mem_of_getElem? hx)
  intro x hx
  simp only [diffs, List.mem_map, List.mem_range] at hx
  obtain ⟨i, _, rfl⟩ := hx
  have h1 := hg 0; have h2 := hg i; have h3 := hg (i - 1)
  split <;> omega
theorem resid_bd {xs : List Int} (h : ∀ x ∈ xs, -8388608 ≤ x ∧ x ≤ 8388608) (o : Nat) (ho : o ≤ 3) : ∀ x ∈ resid xs o, -67108864 ≤ x ∧ x ≤ 67108864 := by
  match o, ho with
  | 0, _ => intro x hx; have := h x hx; omega
  | 1, _ => intro x hx; have := diffs_bd (M := 8388608) (by omega) h x hx; omega
  | 2, _ => intro x hx; have := diffs_bd (M := 16777216) (by omega) (diffs_bd (M := 8388608) (by omega) h) x hx; omega
  | 3, _ => intro x hx; have := diffs_bd (M := 33554432) (by omega) (diffs_bd (M := 16777216) (by omega) (diffs_bd (M := 8388608) (by omega) h)) x hx; omega

theorem clone_any (ao : Option Addr) (xs : List Int) (cap : Nat) (w : World) (hc : Cells w ao (xs.map (Value.int .i64))) (hl : xs.length * 8 ≤ 140737488355328) :
    Calls Tryz.prog 126 #[.slice ao xs.length cap] w fun e w' => (∃ v, e = .returned v ∧ w'.ownsRow w.heap.size 3 1 v xs.length (xs.map (Value.int .i64))) ∧ Below w.heap.size w w' := by
  by_cases h0 : xs = []
  · subst h0
    cases ao with
    | none =>
      refine (Tryz.slices_Clone_int_nil 0 cap w).mono ?_
      rintro e w' ⟨rfl, rfl⟩
      exact ⟨⟨_, rfl, World.ownsRow_nil _ _ _ _⟩, Below.refl _ _⟩
    | some a =>
      refine (Tryz.slices_Clone_int_zero a cap w).mono ?_
      rintro e w' ⟨v, rfl, ho, _, hb⟩
      exact ⟨⟨_, rfl, ho⟩, hb⟩
  · obtain ⟨b, off, rfl⟩ := hc.addr (by simpa using h0)
    refine (Tryz.slices_Clone_int b off xs.length cap xs w (Nat.le_refl _) hl (fun j hj => ?_)).mono ?_
    · obtain ⟨x, hx⟩ := get_of_lt hj
      rw [List.getD_eq_getElem?_getD, hx]
      exact hc.int hx
    · rintro e w' ⟨v, rfl, ho, _, hb⟩
      rw [List.take_length] at ho
      exact ⟨⟨_, rfl, ho⟩, hb⟩
end Go.Proofs.YtmafjfhnejeogaaGreatDoor

/- Codes: residues. -/
namespace Go.Proofs.YtmafjfhnejeogaaGreatDoor
open Go.RowKit

set_option maxRecDepth 100000 in
set_option maxHeartbeats 1000000 in
theorem residues_any (ao : Option Addr) (xs : List Int) (cap : Nat) (o : Nat) (w : World) (hc : Cells w ao (xs.map (Value.int .i64))) (hl : xs.length ≤ 4096) (ho : o ≤ 3) (hx : ∀ x ∈ xs, -8388608 ≤ x ∧ x ≤ 8388608) :
    Calls Tryz.prog 179 #[.slice ao xs.length cap, .int .i64 (o : Nat)] w fun e w' => (∃ a c, e = .returned (.slice a (resid xs o).length c) ∧ Cells w' a ((resid xs o).map (Value.int .i64)) ∧ ∀ b off, a = some ⟨b, off, none⟩ → w.heap.size ≤ b) ∧ Below w.heap.size w w' := by
  have HC := Lib.hid hc; have HX := Lib.hid hx; clear hc hx
  go_enter Tryz.func179, Tryz.ntmps179
  go_wp2_with fail
  refine (clone_any ao xs cap w HC.out (by omega)).mono ?_
  rintro e w1 ⟨⟨v, rfl, hown⟩, hb1⟩
  obtain ⟨g, cg, hv⟩ : ∃ g cg, v = .slice g xs.length cg := by
    obtain ⟨a, c, h, _⟩ := own_cells hown; exact ⟨a, c, h⟩
  subst hv
  have HO := Lib.hid hown; clear hown
  go_wp2
  go_loopw [10] (fun i wr => ∃ k : Nat, k ≤ o ∧ i = .int .i64 k ∧ wr.ownsRow w.heap.size 3 1 (.slice g xs.length cg) xs.length ((resid xs k).map (Value.int .i64)) ∧ Below w.heap.size w wr) (fun i _ => o - (intOf i).toNat)
  case atStart => exact ⟨0, Nat.zero_le _, rfl, HO.out, hb1⟩
  case round =>
    clear hb1
    obtain ⟨k, hk, rfl, hown, hb⟩ := hrel
    obtain ⟨wo, rfl⟩ : ∃ wo : World, wo = wr := ⟨_, rfl⟩
    have HO2 := Lib.hid hown; clear hown
    by_cases hlt : k < o
    · have hrl := resid_length xs k
      have hrb := resid_bd HX.out k (by omega)
      generalize hys : resid xs k = ys at *
      have HYS : Hid (resid xs (k + 1) = diffs ys) := by rw [← hys]; rfl
      clear hys
      have HYB := Lib.hid hrb; clear hrb
      have hrl2 : xs.length = ys.length := hrl.symm
      have hyl : ys.length ≤ 4096 := by omega
      clear hl
      generalize xs.length = n at *
      subst hrl2
      clear hrl
      go_wp2
      go_loopw [6] (fun i wi => ∃ j : Nat, j ≤ ys.length ∧ (j = 0 → ys.length = 0) ∧ i = .int .i64 ((j : Int) - 1) ∧ wi.ownsRow w.heap.size 3 1 (.slice g ys.length cg) ys.length ((ys.take j ++ (diffs ys).drop j).map (Value.int .i64)) ∧ Below w.heap.size w wi) (fun i _ => (intOf i + 1).toNat)
      case atStart =>
        refine ⟨ys.length, Nat.le_refl _, fun h => h, rfl, ?_, hb⟩
        rw [List.take_length, List.drop_eq_nil_of_le (by rw [diffs_length]; omega), List.append_nil]
        exact HO2.out
      case round =>
        clear hb
        obtain ⟨j, hj, hj0, rfl, hown, hb⟩ := hrel
        by_cases h1 : 1 < j
        · obtain ⟨q, rfl⟩ : ∃ q, j = q + 2 := ⟨j - 2, by omega⟩
          have e1 : (((q + 2 : Nat) : Int) - 1) = ((q + 1 : Nat) : Int) := by omega
          rw [e1]
          obtain ⟨x, hx⟩ := get_of_lt (show q + 1 < ys.length by omega)
          obtain ⟨y, hy⟩ := get_of_lt (show q < ys.length by omega)
          have hst := diff_step (xs := ys) (k := q + 1) (by omega) (by omega)
          have hxg : ys.getD (q + 1) 0 = x := by rw [List.getD_eq_getElem?_getD, hx]; rfl
          have hyg : ys.getD (q + 1 - 1) 0 = y := by rw [Nat.add_sub_cancel, List.getD_eq_getElem?_getD, hy]; rfl
          rw [hxg, hyg] at hst
          have bx := HYB.out x (List.mem_of_getElem? hx)
          have bY := HYB.out y (List.mem_of_getElem? hy)
          obtain ⟨bx1, bx2⟩ := bx
          obtain ⟨by1, by2⟩ := bY
          obtain ⟨a, c, hv, hcs⟩ := own_cells hown
          simp only [Value.slice.injEq, true_and] at hv
          obtain ⟨rfl, rfl⟩ := hv
          obtain ⟨gb, go, rfl⟩ := hcs.addr (List.ne_nil_of_length_pos (by rw [List.length_map, List.length_append, List.length_take]; omega))
          have hg0 : go = 0 := by
            rcases hown.2 with ⟨h, _⟩ | ⟨_, _, _, h, _⟩
            · simp at h
            · simp at h; exact h.1.2
          subst hg0
          have hlx : (ys.take (q + 2)).length = q + 2 := by rw [List.length_take]; omega
          have c1 : wr.cell? ⟨gb, q + 1, none⟩ = some (.int .i64 x) := by
            rw [hown.cellAt (q + 1) (by omega), List.getElem?_map, List.getElem?_append_left (by rw [hlx]; omega), List.getElem?_take, if_pos (by omega), hx]; rfl
          have c2 : wr.cell? ⟨gb, q, none⟩ = some (.int .i64 y) := by
            rw [hown.cellAt q (by omega), List.getElem?_map, List.getElem?_append_left (by rw [hlx]; omega), List.getElem?_take, if_pos (by omega), hy]; rfl
          have f1 := hown.frozenAt (q + 1)
          have hsto := (hown.stored (q + 1) (.int .i64 (x - y))).1
          rw [← List.map_set, hst] at hsto
          have hgb : w.heap.size ≤ gb := (hown.lt gb rfl).1
          have hb2 : Below w.heap.size w (wr.setCell ⟨gb, q + 1, none⟩ (.int .i64 (x - y))) := hb.setCell hgb _
          have HST := Lib.hid hsto; have HB2 := Lib.hid hb2
          clear hsto hb2 hst hxg hyg hx hy hcs hown e1 hj0 hlx
          have i1 : (q : Int) + 1 < ys.length := by omega
          have i2 : (q : Int) < ys.length := by omega
          have i3 : (0 : Int) ≤ q := by omega
          have i4 : (0 : Int) ≤ (q : Int) + 1 := by omega
          have i5 : (q : Int) + 1 = ((q + 1 : Nat) : Int) := by omega
          have I5 := Lib.hid i5; clear i5
          have q1 : IntKind.i64.wrap (((q + 1 : Nat) : Int) - 1) = (q : Int) := by rw [IntWalk.i64_in _ (by omega)]; omega
          have q6 : IntKind.i64.wrap (q : Int) = (q : Int) := IntWalk.i64_in _ (by omega)
          have q2 : IntKind.i64.wrap (x - y) = x - y := IntWalk.i64_in _ (by omega)
          have q5 : IntKind.i64.wrap ((q : Int) + 1 - 1) = (q : Int) := by rw [IntWalk.i64_in _ (by omega)]; omega
          have q3 : (((q : Int) + 1)).toNat = q + 1 := by omega
          go_wp2
          go_still_tail 11, (by kernel_rfl)
          change wpList _ _ _ _ _ wr.drew
          have c1d : wr.drew.cell? ⟨gb, q + 1, none⟩ = some (.int .i64 x) := c1
          have f1d : wr.drew.frozen? ⟨gb, q + 1, none⟩ = false := f1
          have HSTd : Hid ((wr.drew.setCell ⟨gb, q + 1, none⟩ (.int .i64 (x - y))).ownsRow w.heap.size 3 1 (.slice (some ⟨gb, 0, none⟩) ys.length cg) ys.length ((ys.take (q + 1) ++ (diffs ys).drop (q + 1)).map (Value.int .i64))) := HST.out
          have HB2d : Hid (Below w.heap.size w (wr.drew.setCell ⟨gb, q + 1, none⟩ (.int .i64 (x - y)))) := by
            have h := HB2.out
            exact ⟨h.os, h.tape, h.output, h.size, h.block⟩
          clear HST HB2 c1 c2 f1 q1 q2 q5 q6 q3
          generalize wr.drew = wd at *
          go_wp2
          go_roundw
          case rel => exact ⟨q + 1, by omega, by omega, by go_num, HSTd.out, HB2d.out⟩
          case measure => simp [intOf]; omega
        · have hfin : wr.ownsRow w.heap.size 3 1 (.slice g ys.length cg) ys.length ((diffs ys).map (Value.int .i64)) := by
            by_cases hj1 : j = 1
            · subst hj1; rw [diff_end (by omega)] at hown; exact hown
            · obtain rfl : j = 0 := by omega
              have h0 := hj0 rfl
              have e0 : ys = [] := List.length_eq_zero_iff.1 h0
              subst e0
              simpa [diffs] using hown
          have HF := Lib.hid hfin; clear hfin hown hj0
          have hle : ((j : Int) - 1) ≤ 0 := by omega
          go_wp2
          go_roundw
          case rel => exact ⟨k + 1, by omega, by go_num, by rw [HYS.out]; exact HF.out, hb⟩
          case measure => simp [intOf]; omega
    · obtain rfl : k = o := by omega
      obtain ⟨a, c, hv, hcs⟩ := own_cells HO2.out
      simp only [Value.slice.injEq, true_and] at hv
      obtain ⟨rfl, rfl⟩ := hv
      have HCS := Lib.hid hcs; clear hcs
      have hrl := resid_length xs k
      have HRL := Lib.hid hrl; clear hrl
      go_wp2
      go_ret
      exact ⟨⟨_, _, by rw [HRL.out]; rfl, HCS.out, fun b off h => (HO2.out.lt b (by rw [h]; rfl)).1⟩, hb⟩
end Go.Proofs.YtmafjfhnejeogaaGreatDoor

/- Codes: sinks; way.write over whatever sink. -/
namespace Go.Proofs.YtmafjfhnejeogaaGreatDoor
open Go.RowKit

/-- the lowest k bits of n, the highest one first -/
def binL (n : Int) : Nat → List Nat
  | 0 => []
  | k + 1 => (n / 2 ^ k % 2).toNat :: binL n k
theorem binL_length (n : Int) (k : Nat) : (binL n k).length = k := by
  induction k with
  | zero => rfl
  | succ k ih => simp [binL, ih]

/-- blocks in S, and those below B, are as they were -/
structure KeepS (S : Nat → Prop) (B : Nat) (w w' : World) : Prop where
  below : Below B w w'
  same : ∀ k, S k → w'.heap[k]? = w.heap[k]?
theorem KeepS.refl (S : Nat → Prop) (B : Nat) (w : World) : KeepS S B w w := ⟨Below.refl _ _, fun _ _ => rfl⟩
theorem KeepS.trans {S : Nat → Prop} {B : Nat} {a b c : World} (h : KeepS S B a b) (k : KeepS S B b c) : KeepS S B a c :=
  ⟨h.below.trans k.below, fun i hi => (k.same i hi).trans (h.same i hi)⟩
theorem KeepS.drew {S : Nat → Prop} {B : Nat} {a b : World} (h : KeepS S B a b) : KeepS S B a b.drew := ⟨h.below.drew, h.same⟩
theorem KeepS.mono {S S' : Nat → Prop} {B : Nat} {a b : World} (h : KeepS S B a b) (hs : ∀ k, S' k → S k) : KeepS S' B a b := ⟨h.below, fun k hk => h.same k (hs k hk)⟩
theorem KeepS.cell {S : Nat → Prop} {B : Nat} {w w' : World} (h : KeepS S B w w') {b i : Nat} {v : Value} (hb : S b) (hc : w.cell? ⟨b, i, none⟩ = some v) : w'.cell? ⟨b, i, none⟩ = some v := by
  rw [World.cell?_of_block (w := w) (a := ⟨b, i, none⟩) (h.same b hb)]; exact hc

/-- a sink of bits, by what it holds: 'St S w bs': bs has been put; the blocks of S are none of its own -/
structure SinkOK (T : TypeId) (pv : Value) (F : FuncId) (B : Nat) (St : (Nat → Prop) → World → List Nat → Prop) : Prop where
  alloc : ∀ S w bs o, St S w bs → St (fun k => S k ∨ k = w.heap.size) (w.alloc o) bs
  drew : ∀ S w bs, St S w bs → St S w.drew bs
  mono : ∀ (S S' : Nat → Prop) w bs, (∀ k, S' k → S k) → St S w bs → St S' w bs
  size : ∀ S w bs, St S w bs → B ≤ w.heap.size
  lt : ∀ (S : Nat → Prop) w bs k, St S w bs → S k → k < w.heap.size
  put : ∀ S w bs (n : Int) (k : Nat), St S w bs → 0 ≤ n → n ≤ 4294967295 → k ≤ 32 → bs.length ≤ 1099511627776 →
    Calls Tryz.prog F #[pv, .int .i64 n, .int .i64 (k : Nat)] w fun e w' => e = .returned (.tuple #[]) ∧ St S w' (bs ++ binL n k) ∧ KeepS S B w w'
  meth : ∀ w d, (method (d + 1) T pv "ringdown/record.put").run Tryz.prog w = .ok (F, pv) w
  ahead : ∀ w d, (nilAhead (d + 1) T pv "ringdown/record.put").run Tryz.prog w = .ok (some false) w
  enter : ∀ (vs : Array Value) (w : World), Sem.run Tryz.prog (callFunc F vs) w = .ok (.enter F vs) w

/-- the bits of a folded value; of a list -/
def encU (u : Int) (sh : Nat) : List Nat := if u / 2 ^ sh < 20 then binL (2 ^ ((u / 2 ^ sh).toNat + 1) - 2) ((u / 2 ^ sh).toNat + 1) ++ binL u sh else binL 1048575 20 ++ binL u 32
def encL (o sh : Nat) (l : List Int) : List Nat := binL o 2 ++ binL sh 5 ++ l.flatMap fun r => encU (foldU r) sh

theorem pow_bd (q : Nat) (h : q < 20) : (2 : Int) ≤ 2 ^ (q + 1) ∧ (2 : Int) ^ (q + 1) ≤ 1048576 := by
  have h1 : (2 : Nat) ^ 1 ≤ 2 ^ (q + 1) := Nat.pow_le_pow_right (by decide) (by omega)
  have h2 : (2 : Nat) ^ (q + 1) ≤ 2 ^ 20 := Nat.pow_le_pow_right (by decide) (by omega)
  have h3 : ((2 ^ (q + 1) : Nat) : Int) = (2 : Int) ^ (q + 1) := by simp
  have h4 : (2 : Nat) ^ 20 = 1048576 := by decide
  omega
theorem foldU_bd {r : Int} (h1 : -67108864 ≤ r) (h2 : r ≤ 67108864) : 0 ≤ foldU r ∧ foldU r ≤ 268435456 := by
  unfold foldU; split <;> omega
theorem encU_length (u : Int) (sh : Nat) (hs : sh ≤ 30) : (encU u sh).length ≤ 52 := by
  unfold encU
  split
  · rw [List.length_append, binL_length, binL_length]; omega
  · rw [List.length_append, binL_length, binL_length]; omega
theorem flat_length (l : List Int) (sh : Nat) (hs : sh ≤ 30) : (l.flatMap fun r => encU (foldU r) sh).length ≤ 52 * l.length := by
  induction l with
  | nil => simp
  | cons r l ih =>
    have := encU_length (foldU r) sh hs
    simp only [List.flatMap_cons, List.length_append, List.length_cons]; omega

set_option maxRecDepth 100000 in
set_option maxHeartbeats 1000000 in
theorem write_any {T : TypeId} {pv : Value} {F : FuncId} {B : Nat} {St : (Nat → Prop) → World → List Nat → Prop} (hk : SinkOK T pv F B St) (S : Nat → Prop) (o sh : Nat) (ho : o ≤ 3) (hsh : sh ≤ 30) (al : Option Addr) (l : List Int) (cl : Nat) (bs : List Nat) (w : World)
    (hst : St S w bs) (hl : ∀ b off, al = some ⟨b, off, none⟩ → l ≠ [] → S b) (hc : Cells w al (l.map (Value.int .i64))) (hlen : l.length ≤ 4096) (hbs : bs.length ≤ 1000000) (hr : ∀ r ∈ l, -67108864 ≤ r ∧ r ≤ 67108864) :
    Calls Tryz.prog 178 #[.agg #[.int .i64 (o : Nat), .int .i64 (sh : Nat)], .iface T pv, .slice al l.length cl] w fun e w' => e = .returned (.tuple #[]) ∧ St S w' (bs ++ encL o sh l) ∧ KeepS S B w w' := by
  have HK := Lib.hid hk; have HST := Lib.hid hst; have HC := Lib.hid hc; have HR := Lib.hid hr
  have hmeth := hk.meth
  have hen := hk.enter
  clear hk hst hc hr
  go_enter Tryz.func178, Tryz.ntmps178
  have hs1 := HK.out.alloc S w bs (.cells #[.int .i64 (o : Nat), .int .i64 (sh : Nat)] 234) HST.out
  have hsz0 := HK.out.size S w bs HST.out
  go_wp2_with fail
  refine (HK.out.put _ _ bs o 2 hs1 (by omega) (by omega) (by omega) (by omega)).mono ?_
  rintro e w1 ⟨rfl, hs2, hk1⟩
  have hbx : w1.cell? ⟨w.heap.size, 1, none⟩ = some (.int .i64 (sh : Nat)) := hk1.cell (.inr rfl) (by simp)
  have HS2 := Lib.hid hs2; clear hs1 hs2
  go_wp2_with fail
  refine (HK.out.put _ _ _ sh 5 HS2.out (by omega) (by omega) (by omega) (by rw [List.length_append, binL_length]; omega)).mono ?_
  rintro e w2 ⟨rfl, hs3, hk2⟩
  have hk3 := hk1.trans hk2
  have HS3 := Lib.hid hs3; clear hs3 hk1 hk2 hbx HS2
  go_wp2
  go_loopw [20] (fun i wr => ∃ k : Nat, k ≤ l.length ∧ i = .int .i64 k ∧ St (fun k => S k ∨ k = w.heap.size) wr (bs ++ binL o 2 ++ binL sh 5 ++ (l.take k).flatMap fun r => encU (foldU r) sh) ∧ KeepS (fun k => S k ∨ k = w.heap.size) B (w.alloc (.cells #[.int .i64 (o : Nat), .int .i64 (sh : Nat)] 234)) wr) (fun i _ => l.length - (intOf i).toNat)
  case atStart => exact ⟨0, Nat.zero_le _, rfl, by simpa using HS3.out, hk3⟩
  case round =>
    clear hk3 HS3
    obtain ⟨k, hk, rfl, hst, hks⟩ := hrel
    have hbx : wr.cell? ⟨w.heap.size, 1, none⟩ = some (.int .i64 (sh : Nat)) := hks.cell (.inr rfl) (by simp)
    have hfl := flat_length (l.take k) sh hsh
    rw [List.length_take, Nat.min_eq_left hk] at hfl
    by_cases hlt : k < l.length
    · obtain ⟨r, hx⟩ := get_of_lt hlt
      obtain ⟨r1, r2⟩ := HR.out r (List.mem_of_getElem? hx)
      have hne : l ≠ [] := by intro h; rw [h] at hlt; simp at hlt
      obtain ⟨bl, ol, rfl⟩ := HC.out.addr (by intro h; exact hne (List.map_eq_nil_iff.1 h))
      have hSb : S bl := hl bl ol rfl hne
      clear hl hne
      have hc1 : wr.cell? ⟨bl, ol + k, none⟩ = some (.int .i64 r) := hks.cell (.inl hSb) (by
        have h0 := HC.out.int hx
        have h1 := World.block_lt_of_cell? w _ h0
        rw [World.cell?_alloc_lt _ _ _ (by simpa using h1)]; exact h0)
      obtain ⟨u1, u2⟩ := foldU_bd r1 r2
      have hq0 : 0 ≤ foldU r / 2 ^ sh := Int.ediv_nonneg u1 (Int.le_of_lt (Int.pow_pos (by decide)))
      obtain ⟨qn, hqn⟩ := Int.eq_ofNat_of_zero_le hq0
      have ht : (l.take (k + 1)).flatMap (fun r => encU (foldU r) sh) = (l.take k).flatMap (fun r => encU (foldU r) sh) ++ encU (foldU r) sh := by
        rw [take_get hx, List.flatMap_append]; simp
      have HT := Lib.hid ht; have HS := Lib.hid hst
      clear ht hst hx hq0
      have hmin : min sh 64 = sh := by omega
      by_cases hq : foldU r / 2 ^ sh < 20
      · have hqn2 : qn < 20 := by omega
        have he : encU (foldU r) sh = binL (2 ^ (qn + 1) - 2) (qn + 1) ++ binL (foldU r) sh := by
          rw [encU, if_pos hq, hqn]; rfl
        have HE := Lib.hid he; clear he hq
        go_wp2_with fail
        refine (folded_any _ _ (by omega) (by omega)).mono ?_
        rintro e w1 ⟨rfl, rfl⟩
        obtain ⟨p1, p2⟩ := pow_bd qn hqn2
        have a1 : IntKind.i64.wrap ((qn : Int) + 1) = (qn : Int) + 1 := IntWalk.i64_in _ (by omega)
        have a2 : ((qn : Int) + 1).toNat = qn + 1 := by omega
        have a3 : min (qn + 1) 64 = qn + 1 := by omega
        have a4 : IntKind.i64.wrap (2 ^ (qn + 1)) = 2 ^ (qn + 1) := IntWalk.i64_in _ (by omega)
        have a5 : IntKind.i64.wrap (2 ^ (qn + 1) - 2) = 2 ^ (qn + 1) - 2 := IntWalk.i64_in _ (by omega)
        have a6 : (0 : Int) ≤ (qn : Int) + 1 := by omega
        have hah := HK.out.ahead
        go_wp2
        go_still_tail 10, (by kernel_rfl)
        change wpList _ _ _ _ _ wr.drew
        have hksd := hks.drew
        have HSd := Lib.hid (HK.out.drew _ _ _ HS.out)
        clear hbx hks HS a1 a2 a3 a4 a5 a6
        generalize wr.drew = wd at *
        have hp := HK.out.put _ wd _ (2 ^ (qn + 1) - 2) (qn + 1) HSd.out (by omega) (by omega) (by omega) (by simp only [List.length_append, binL_length]; omega)
        rw [show (((qn + 1 : Nat) : Int)) = (qn : Int) + 1 from by omega] at hp
        have HP := Lib.hid hp; clear hp
        go_wp2_with fail
        refine HP.out.mono ?_
        rintro e w3 ⟨rfl, hs3, hk3⟩
        have hks3 := hksd.trans hk3
        have hbx3 : w3.cell? ⟨w.heap.size, 1, none⟩ = some (.int .i64 (sh : Nat)) := hks3.cell (.inr rfl) (by simp)
        have HS3 := Lib.hid hs3
        have hp := HK.out.put _ w3 _ (foldU r) sh hs3 u1 (by omega) (by omega) (by simp only [List.length_append, binL_length]; omega)
        have HP2 := Lib.hid hp
        clear hp hs3 hk3 hksd
        go_wp2_with fail
        refine HP2.out.mono ?_
        rintro e w4 ⟨rfl, hs4, hk4⟩
        have hks4 := hks3.trans hk4
        have HS4 := Lib.hid hs4
        clear hs4 hk4 hks3 hbx3
        go_wp2
        go_roundw
        case rel => exact ⟨k + 1, by omega, by go_num, by rw [HT.out, HE.out]; simpa [List.append_assoc] using HS4.out, hks4⟩
        case measure => simp [intOf]; omega
      · have he : encU (foldU r) sh = binL 1048575 20 ++ binL (foldU r) 32 := by rw [encU, if_neg hq]
        have HE := Lib.hid he; clear he
        have hqn2 : ¬ ((qn : Int) < 20) := by omega
        clear hq
        go_wp2_with fail
        refine (folded_any _ _ (by omega) (by omega)).mono ?_
        rintro e w1 ⟨rfl, rfl⟩
        have hp := HK.out.put _ wr _ 1048575 20 HS.out (by omega) (by omega) (by omega) (by simp only [List.length_append, binL_length]; omega)
        have HP := Lib.hid hp; clear hp
        go_wp2_with fail
        refine HP.out.mono ?_
        rintro e w3 ⟨rfl, hs3, hk3⟩
        have hks3 := hks.trans hk3
        have hp := HK.out.put _ w3 _ (foldU r) 32 hs3 u1 (by omega) (by omega) (by simp only [List.length_append, binL_length]; omega)
        have HP2 := Lib.hid hp
        clear hp hs3 hk3 hks
        go_wp2_with fail
        refine HP2.out.mono ?_
        rintro e w4 ⟨rfl, hs4, hk4⟩
        have hks4 := hks3.trans hk4
        have HS4 := Lib.hid hs4
        clear hs4 hk4 hks3
        go_wp2
        go_roundw
        case rel => exact ⟨k + 1, by omega, by go_num, by rw [HT.out, HE.out]; simpa [List.append_assoc] using HS4.out, hks4⟩
        case measure => simp [intOf]; omega
    · obtain rfl : k = l.length := by omega
      rw [List.take_length] at hst
      have hst2 := HK.out.mono _ S _ _ (fun k h => .inl h) hst
      have HS := Lib.hid hst2
      have HW : Hid (KeepS S B w wr) := ⟨((Below.refl B w).alloc hsz0 _).trans hks.below, fun j hj => by
        rw [hks.same j (.inl hj), Below.heap_alloc _ _ _ (HK.out.lt S w bs j HST.out hj)]⟩
      clear hst hst2 hks hbx
      go_wp2
      go_end0
      exact ⟨rfl, by simpa [encL, List.append_assoc] using HS.out, HW.out⟩
end Go.Proofs.YtmafjfhnejeogaaGreatDoor

/- Codes: the counter is a sink. -/
namespace Go.Proofs.YtmafjfhnejeogaaGreatDoor
open Go.RowKit

/-- a counter at block bc that has counted bs -/
def CtS (B bc : Nat) (S : Nat → Prop) (w : World) (bs : List Nat) : Prop :=
  B ≤ bc ∧ w.heap[bc]? = some (.cells #[.int .i64 (bs.length : Nat)] 266 (0, 0)) ∧ ∀ k, S k → k < w.heap.size ∧ k ≠ bc

theorem heap_lt {w : World} {b : Nat} {o : Obj} (h : w.heap[b]? = some o) : b < w.heap.size := (Array.getElem?_eq_some_iff.1 h).1

theorem counter_put (bc : Nat) (c : Nat) (n : Int) (k : Nat) (w : World) (h : w.heap[bc]? = some (.cells #[.int .i64 (c : Nat)] 266 (0, 0))) (hk : k ≤ 32) (hc : c ≤ 1099511627776) :
    Calls Tryz.prog 290 #[.pointer (some ⟨bc, 0, none⟩), .int .i64 n, .int .i64 (k : Nat)] w fun e w' => e = .returned (.tuple #[]) ∧ w' = w.setCell ⟨bc, 0, none⟩ (.int .i64 ((c + k : Nat) : Int)) := by
  have c0 : w.cell? ⟨bc, 0, none⟩ = some (.int .i64 (c : Nat)) := cell_of_one h
  have f0 : w.frozen? ⟨bc, 0, none⟩ = false := free_of_one h
  go_enter Tryz.func290, Tryz.ntmps290
  go_wp2
  go_end0
  exact ⟨rfl, by simp⟩

theorem counter_ok (B bc : Nat) : SinkOK 267 (.pointer (some ⟨bc, 0, none⟩)) 290 B (CtS B bc) where
  alloc := by
    rintro S w bs o ⟨h1, h2, h3⟩
    have hl := heap_lt h2
    refine ⟨h1, by rw [Below.heap_alloc _ _ _ hl]; exact h2, fun k hk => ?_⟩
    rcases hk with hk | rfl
    · have := h3 k hk; exact ⟨by simp; omega, this.2⟩
    · exact ⟨by simp, by omega⟩
  drew := fun S w bs h => h
  mono := fun S S' w bs hs h => ⟨h.1, h.2.1, fun k hk => h.2.2 k (hs k hk)⟩
  size := fun S w bs h => by have := heap_lt h.2.1; have := h.1; omega
  lt := fun S w bs k h hk => (h.2.2 k hk).1
  put := by
    rintro S w bs n k ⟨h1, h2, h3⟩ _ _ hk hl
    refine (counter_put bc bs.length n k w h2 hk hl).mono ?_
    rintro e w' ⟨rfl, rfl⟩
    refine ⟨rfl, ⟨h1, ?_, fun j hj => ?_⟩, (Below.refl _ _).setCell (p := ⟨bc, 0, none⟩) h1 _, fun j hj => Below.heap_setCell _ _ _ _ (h3 j hj).2⟩
    · rw [one_setCell h2, List.length_append, binL_length]
    · have := h3 j hj; exact ⟨by simpa using this.1, this.2⟩
  meth := fun w d => by kernel_rfl
  ahead := fun w d => by kernel_rfl
  enter := fun vs w => by kernel_rfl
end Go.Proofs.YtmafjfhnejeogaaGreatDoor

/- Codes: bits in bytes. -/
namespace Go.Proofs.YtmafjfhnejeogaaGreatDoor
open Go.RowKit

/-- one bit more behind n bits -/
def pushBit (l : List Nat) (n b : Nat) : List Nat := if n % 8 = 0 then l ++ [b * 128] else l.set (l.length - 1) (l.getD (l.length - 1) 0 + b * 2 ^ (7 - n % 8))
def octsP (l : List Nat) : List Nat × Nat := l.foldl (fun p b => (pushBit p.1 p.2 b, p.2 + 1)) ([], 0)
/-- bits as bytes, with bits 0 behind them -/
def octs (l : List Nat) : List Nat := (octsP l).1
theorem octsP_snd (l : List Nat) : (octsP l).2 = l.length := by
  suffices ∀ (p : List Nat × Nat), (l.foldl (fun p b => (pushBit p.1 p.2 b, p.2 + 1)) p).2 = p.2 + l.length by
    have := this ([], 0); simpa [octsP] using this
  induction l with
  | nil => intro p; simp
  | cons b l ih => intro p; rw [List.foldl_cons, ih]; simp; omega
theorem octs_snoc (l : List Nat) (b : Nat) : octs (l ++ [b]) = pushBit (octs l) l.length b := by
  have h := octsP_snd l
  unfold octs octsP at *
  rw [List.foldl_append, List.foldl_cons, List.foldl_nil, h]
theorem octs_nil : octs [] = [] := rfl

/-- the free bits of the last byte -/
def freeOf (n : Nat) : Nat := (8 - n % 8) % 8
theorem octs_len (l : List Nat) : (octs l).length = (l.length + 7) / 8 := by
  suffices ∀ n (l : List Nat), l.length = n → (octs l).length = (n + 7) / 8 from this _ l rfl
  intro n
  induction n with
  | zero => intro l hl; rw [List.length_eq_zero_iff.1 hl]; rfl
  | succ n ih =>
    intro l hl
    obtain ⟨l', b, rfl⟩ : ∃ l' b, l = l' ++ [b] := by
      rcases List.eq_nil_or_concat l with rfl | ⟨l', b, rfl⟩
      · simp at hl
      · exact ⟨l', b, by simp⟩
    simp at hl
    have h := ih l' hl
    rw [octs_snoc, pushBit, hl]
    split
    · rw [List.length_append, h]; simp; omega
    · rw [List.length_set, h]; omega

/-- the bytes are bytes; the free bits of the last one are 0 -/
theorem octs_ok (l : List Nat) (hl : ∀ b ∈ l, b ≤ 1) : (∀ d ∈ octs l, d < 256) ∧ (l.length % 8 ≠ 0 → (octs l).getD ((octs l).length - 1) 0 % 2 ^ (8 - l.length % 8) = 0) := by
  suffices ∀ n (l : List Nat), l.length = n → (∀ b ∈ l, b ≤ 1) → (∀ d ∈ octs l, d < 256) ∧ (n % 8 ≠ 0 → (octs l).getD ((octs l).length - 1) 0 % 2 ^ (8 - n % 8) = 0) from this _ l rfl hl
  intro n
  induction n with
  | zero => intro l hl _; rw [List.length_eq_zero_iff.1 hl, octs_nil]; simp
  | succ n ih =>
    intro l hl hb
    obtain ⟨l', b, rfl⟩ : ∃ l' b, l = l' ++ [b] := by
      rcases List.eq_nil_or_concat l with rfl | ⟨l', b, rfl⟩
      · simp at hl
      · exact ⟨l', b, by simp⟩
    simp at hl
    obtain ⟨h1, h2⟩ := ih l' hl (fun x hx => hb x (by simp [hx]))
    have hb1 : b ≤ 1 := hb b (by simp)
    have hlen := octs_len l'
    rw [hl] at hlen
    rw [octs_snoc, pushBit, hl]
    by_cases h0 : n % 8 = 0
    · rw [if_pos h0]
      refine ⟨?_, fun _ => ?_⟩
      · intro d hd
        rcases List.mem_append.1 hd with h | h
        · exact h1 d h
        · simp at h; subst h; omega
      · have e1 : (n + 1) % 8 = 1 := by omega
        rw [e1, List.length_append, List.length_singleton, Nat.add_sub_cancel, List.getD_eq_getElem?_getD, List.getElem?_append_right (Nat.le_refl _), Nat.sub_self]
        simp
    · rw [if_neg h0]
      have hpos : 0 < (octs l').length := by omega
      have hx := h2 h0
      obtain ⟨x, hxx⟩ := get_of_lt (show (octs l').length - 1 < (octs l').length by omega)
      have hgx : (octs l').getD ((octs l').length - 1) 0 = x := by rw [List.getD_eq_getElem?_getD, hxx]; rfl
      have hx256 := h1 x (List.mem_of_getElem? hxx)
      rw [hgx] at hx ⊢
      have hm : n % 8 < 8 := Nat.mod_lt _ (by decide)
      have key : ∀ r : Fin 8, r.val ≠ 0 → ∀ y : Fin 256, y.val % 2 ^ (8 - r.val) = 0 → ∀ c : Fin 2, y.val + c.val * 2 ^ (7 - r.val) < 256 ∧ (y.val + c.val * 2 ^ (7 - r.val)) % 2 ^ (7 - r.val) = 0 := by decide +kernel
      have hk := key ⟨n % 8, hm⟩ h0 ⟨x, hx256⟩ hx ⟨b, by omega⟩
      simp only at hk
      refine ⟨?_, fun hne => ?_⟩
      · intro d hd
        rcases List.mem_or_eq_of_mem_set hd with h | h
        · exact h1 d h
        · rw [h]; exact hk.1
      · rw [List.length_set, List.getD_eq_getElem?_getD, List.getElem?_set_self (by omega)]
        have e1 : 8 - (n + 1) % 8 = 7 - n % 8 := by omega
        rw [e1]; simpa using hk.2

theorem i64_wrap_nat (n : Int) (h0 : 0 ≤ n) (h1 : n < 2 ^ 63) : IntKind.i64.wrap n = n := IntWalk.i64_in n ⟨by omega, by omega⟩
theorem bit_and {x : Int} (h0 : 0 ≤ x) (h1 : x ≤ 4294967295) : bits BinOp.and IntKind.i64 x 1 = x % 2 := by
  obtain ⟨n, rfl⟩ := Int.eq_ofNat_of_zero_le h0
  have h := (bits_nat .i64 63 (by decide) i64_wrap_nat n 1 (by omega) (by decide)).1
  rw [show ((1 : Nat) : Int) = 1 from rfl] at h
  rw [h, Nat.and_one_is_mod]; simp
theorem u8_wrap_nat (n : Int) (h0 : 0 ≤ n) (h1 : n < 2 ^ 8) : IntKind.u8.wrap n = n := IntWalk.u8_in n ⟨by omega, by omega⟩
theorem or_add (x f b : Nat) (hx : x < 256) (hf : f ≤ 7) (hb : b ≤ 1) (h0 : x % 2 ^ (f + 1) = 0) : bits BinOp.or IntKind.u8 (x : Int) ((b * 2 ^ f : Nat) : Int) = ((x + b * 2 ^ f : Nat) : Int) := by
  have key : ∀ f : Fin 8, ∀ x : Fin 256, x.val % 2 ^ (f.val + 1) = 0 → ∀ c : Fin 2, c.val * 2 ^ f.val < 256 ∧ (x.val ||| c.val * 2 ^ f.val) = x.val + c.val * 2 ^ f.val := by decide +kernel
  have hk := key ⟨f, by omega⟩ ⟨x, hx⟩ h0 ⟨b, by omega⟩
  simp only at hk
  have h := (bits_nat .u8 8 (by decide) u8_wrap_nat x (b * 2 ^ f) (by omega) (by omega)).2
  rw [h, hk.2]
end Go.Proofs.YtmafjfhnejeogaaGreatDoor

/- Codes: the writer is a sink. -/
namespace Go.Proofs.YtmafjfhnejeogaaGreatDoor
open Go.RowKit

theorem binL_get (n : Int) : ∀ (k j : Nat), j < k → (binL n k)[k - 1 - j]? = some (n / 2 ^ j % 2).toNat := by
  intro k
  induction k with
  | zero => intro j hj; omega
  | succ k ih =>
    intro j hj
    by_cases h : j = k
    · subst h; simp [binL]
    · have e : k + 1 - 1 - j = (k - 1 - j) + 1 := by omega
      rw [e, binL, List.getElem?_cons_succ]; exact ih j (by omega)
theorem binL_bits (n : Int) (k : Nat) : ∀ b ∈ binL n k, b ≤ 1 := by
  induction k with
  | zero => intro b hb; simp [binL] at hb
  | succ k ih =>
    intro b hb
    rcases List.mem_cons.1 hb with rfl | hb
    · omega
    · exact ih b hb

/-- a writer at block bW that has written bs -/
def WrS (B bW : Nat) (S : Nat → Prop) (w : World) (bs : List Nat) : Prop :=
  B ≤ bW ∧ (∀ b ∈ bs, b ≤ 1) ∧ ∃ v, w.heap[bW]? = some (.cells #[v, .int .i64 (freeOf bs.length : Nat)] 231 (0, 0)) ∧ w.ownsRow B 5 1 v (octs bs).length (bys (octs bs)) ∧ v.ownBlock ≠ some bW ∧ ∀ k, S k → k < w.heap.size ∧ k ≠ bW ∧ v.ownBlock ≠ some k

theorem grown_set (w : World) (p : Addr) (u : Value) : w.grownBy (w.setCell p u) (some p.block) :=
  ⟨rfl, rfl, rfl, by simp [World.setCell], fun k _ hk => Below.heap_setCell _ _ _ _ (fun e => hk (by rw [e]))⟩
theorem own_set_other {w : World} {B : Nat} {e : TypeId} {s : Nat} {v : Value} {n : Nat} {xs : List Value} (h : w.ownsRow B e s v n xs) {p : Addr} {u : Value} (hp : v.ownBlock ≠ some p.block) : (w.setCell p u).ownsRow B e s v n xs :=
  h.kept (grown_set w p u) (.inr hp)
theorem heap_set0 {w : World} {b : Nat} {a c u : Value} {T : TypeId} (h : w.heap[b]? = some (.cells #[a, c] T (0, 0))) : (w.setCell ⟨b, 0, none⟩ u).heap[b]? = some (.cells #[u, c] T (0, 0)) := by
  rw [heap_setCell_same w b 0 _ _ u h]; rfl
theorem heap_set1 {w : World} {b : Nat} {a c u : Value} {T : TypeId} (h : w.heap[b]? = some (.cells #[a, c] T (0, 0))) : (w.setCell ⟨b, 1, none⟩ u).heap[b]? = some (.cells #[a, u] T (0, 0)) := by
  rw [heap_setCell_same w b 1 _ _ u h]; rfl
theorem KeepS.set {S : Nat → Prop} {B : Nat} {a w : World} (h : KeepS S B a w) {p : Addr} {u : Value} (hB : B ≤ p.block) (hS : ∀ k, S k → k ≠ p.block) : KeepS S B a (w.setCell p u) :=
  h.trans ⟨(Below.refl _ _).setCell hB _, fun k hk => Below.heap_setCell _ _ _ _ (hS k hk)⟩

theorem WrS.size {B bW : Nat} {S : Nat → Prop} {w : World} {bs : List Nat} (h : WrS B bW S w bs) : B ≤ w.heap.size := by
  obtain ⟨h1, _, v, h2, _⟩ := h
  have := heap_lt h2; omega

set_option maxRecDepth 100000 in
set_option maxHeartbeats 2000000 in
theorem writer_put (B bW : Nat) (S : Nat → Prop) (bs : List Nat) (n : Int) (k : Nat) (w : World) (h : WrS B bW S w bs) (hn0 : 0 ≤ n) (hn1 : n ≤ 4294967295) (hk : k ≤ 32) (hbs : bs.length ≤ 1099511627776) :
    Calls Tryz.prog 176 #[.pointer (some ⟨bW, 0, none⟩), .int .i64 n, .int .i64 (k : Nat)] w fun e w' => e = .returned (.tuple #[]) ∧ WrS B bW S w' (bs ++ binL n k) ∧ KeepS S B w w' := by
  have H := Lib.hid h; clear h
  obtain ⟨i0, hi, hz0, hz1, hz2⟩ := info_parts Tryz.infoByte
  go_enter Tryz.func176, Tryz.ntmps176
  go_wp2
  go_loopw [6] (fun i wr => ∃ j : Nat, j ≤ k ∧ i = .int .i64 ((j : Int) - 1) ∧ WrS B bW S wr (bs ++ (binL n k).take (k - j)) ∧ KeepS S B w wr) (fun i _ => (intOf i + 1).toNat)
  case atStart => exact ⟨k, Nat.le_refl _, rfl, by simpa using H.out, KeepS.refl _ _ _⟩
  case round =>
    obtain ⟨j, hj, rfl, hw, hks⟩ := hrel
    by_cases h0 : j = 0
    · subst h0
      rw [Nat.sub_zero, List.take_of_length_le (by rw [binL_length]; omega)] at hw
      have HW := Lib.hid hw; clear hw
      go_wp2
      go_end0
      exact ⟨rfl, HW.out, hks⟩
    · obtain ⟨q, rfl⟩ : ∃ q, j = q + 1 := ⟨j - 1, by omega⟩
      have e1 : (((q + 1 : Nat) : Int) - 1) = (q : Int) := by omega
      rw [e1]
      have hget := binL_get n k q (by omega)
      have hnext : bs ++ (binL n k).take (k - q) = (bs ++ (binL n k).take (k - (q + 1))) ++ [(n / 2 ^ q % 2).toNat] := by
        rw [show k - q = (k - (q + 1)) + 1 from by omega, take_get (show (binL n k)[k - (q + 1)]? = _ from by rw [show k - (q + 1) = k - 1 - q from by omega]; exact hget), List.append_assoc]
      have hlenc : (bs ++ (binL n k).take (k - (q + 1))).length ≤ 1099511627776 + 32 := by
        rw [List.length_append, List.length_take, binL_length]; omega
      have HNX := Lib.hid hnext
      clear hnext hget e1
      generalize bs ++ (binL n k).take (k - (q + 1)) = cs at *
      obtain ⟨b, hbdef⟩ : ∃ b, b = (n / 2 ^ q % 2).toNat := ⟨_, rfl⟩
      rw [← hbdef] at HNX
      have hb1 : b ≤ 1 := by omega
      have hx0 : 0 ≤ n / 2 ^ q := Int.ediv_nonneg hn0 (Int.le_of_lt (Int.pow_pos (by decide)))
      have hx1 : n / 2 ^ q ≤ 4294967295 := by have := Int.ediv_le_self (2 ^ q) hn0; omega
      have hand : bits BinOp.and IntKind.i64 (n / 2 ^ q) 1 = (b : Int) := by rw [bit_and hx0 hx1, hbdef]; omega
      have hcv : IntKind.u8.wrap (b : Int) = (b : Int) := IntWalk.u8_in _ (by omega)
      have hmq : min q 64 = q := by omega
      clear hbdef
      obtain ⟨hB, hbits, v, hbk, hown, hne, hS⟩ := hw
      have hok := octs_ok cs hbits
      have hol := octs_len cs
      have hol2 : (octs cs).length ≤ 137438953480 := by omega
      have HOL := Lib.hid hol; clear hol
      obtain ⟨g, cg, hv⟩ : ∃ g cg, v = .slice g (octs cs).length cg := by
        obtain ⟨a, c, h, _⟩ := own_cells hown; exact ⟨a, c, h⟩
      have c0 : wr.cell? ⟨bW, 0, none⟩ = some v := by rw [Lib.cell_of_heap hbk]; rfl
      have c1 : wr.cell? ⟨bW, 1, none⟩ = some (.int .i64 (freeOf cs.length : Nat)) := by rw [Lib.cell_of_heap hbk]; rfl
      have f0 : wr.frozen? ⟨bW, 0, none⟩ = false := Lib.frozen_of_heap hbk 0
      have f1 : wr.frozen? ⟨bW, 1, none⟩ = false := Lib.frozen_of_heap hbk 1
      by_cases hm : cs.length % 8 = 0
      · have hfr : freeOf cs.length = 0 := by unfold freeOf; omega
        rw [hfr] at c1 hbk
        subst hv
        have hnx2 : octs (cs ++ [b]) = octs cs ++ [b * 128] := by rw [octs_snoc, pushBit, if_pos hm]
        have hfr2 : freeOf (cs ++ [b]).length = 7 := by unfold freeOf; rw [List.length_append, List.length_singleton]; omega
        have hsz := hks.below.size
        have hszB : B ≤ wr.heap.size := by have := heap_lt hbk; omega
        have HNX2 := Lib.hid hnx2; have HFR2 := Lib.hid hfr2; have HO := Lib.hid hown; have HS := Lib.hid hS; have HBK := Lib.hid hbk; have HNE := Lib.hid hne; have HB2 := Lib.hid hbits
        clear hnx2 hfr2 hS hbk hok hbits hfr
        go_wp2_with (at_builtin; refine wpList_append_lies _ rfl _ _ _ rfl B 5 i0 (.int .u8 0) 1 1 Tryz.underlying81 hi hz0 hz1 hz2 rfl (by decide) _ _ _ rfl (hown.alloc _) ⟨wr.heap.size, 0, none⟩ 1 1 [.int .u8 0] rfl rfl (news1 _ _ _) (by simp [Value.oneCell']) (by omega) (by unfold maxLen; omega) (by omega) (by simp; omega) (wr.heap.size + 1) (by simp) ?_)
        intro g1 cg1 w1 hown1 hgrow hat hlt1
        have hbW : bW < wr.heap.size := heap_lt HBK.out
        have hbk1 : w1.heap[bW]? = some (.cells #[.slice g (octs cs).length cg, .int .i64 0] 231 (0, 0)) := by
          rw [hgrow.block bW (by simp; omega) (fun e => HNE.out e.symm), Below.heap_alloc _ _ _ hbW]; exact HBK.out
        have hg1 : g1 ≠ bW := by
          rintro rfl
          rcases hown1.2 with ⟨h, _⟩ | ⟨g2, cg2, cur, h, _, hh, _⟩
          · simp at h
          · simp at h; obtain ⟨rfl, rfl⟩ := h; rw [hbk1] at hh; simp at hh
        have d0 : w1.cell? ⟨bW, 0, none⟩ = some (.slice g (octs cs).length cg) := by rw [Lib.cell_of_heap hbk1]; rfl
        have d1 : w1.cell? ⟨bW, 1, none⟩ = some (.int .i64 0) := by rw [Lib.cell_of_heap hbk1]; rfl
        have e0 : w1.frozen? ⟨bW, 0, none⟩ = false := Lib.frozen_of_heap hbk1 0
        have e1 : w1.frozen? ⟨bW, 1, none⟩ = false := Lib.frozen_of_heap hbk1 1
        have HAT := Lib.hid hat; clear hat hlt1
        have HO1 := Lib.hid hown1; have HG := Lib.hid hgrow; have HK1 := Lib.hid hbk1
        clear hown1 hgrow hbk1 hown c0 c1 f0 f1
        go_wp2
        have hbB : B ≤ bW := hB
        have hz1 := heap_set1 (u := .int .i64 7) (heap_set1 (u := .int .i64 8) (heap_set0 (u := .slice (some ⟨g1, 0, none⟩) ((octs cs).length + 1) cg1) HK1.out))
        have hz2 := own_set_other (p := ⟨bW, 1, none⟩) (u := .int .i64 7) (own_set_other (p := ⟨bW, 1, none⟩) (u := .int .i64 8) (own_set_other (p := ⟨bW, 0, none⟩) (u := .slice (some ⟨g1, 0, none⟩) ((octs cs).length + 1) cg1) HO1.out (by simpa [Value.ownBlock] using hg1)) (by simpa [Value.ownBlock] using hg1)) (by simpa [Value.ownBlock] using hg1)
        have hks1 : KeepS S B w w1 := hks.trans ⟨((Below.refl _ _).alloc hszB _).grown HG.out (by simp; omega) (fun j e => (HO.out.lt j e).1), fun j hj => by
          have := HS.out j hj
          rw [HG.out.block j (by simp; omega) (fun e => this.2.2 e.symm), Below.heap_alloc _ _ _ this.1]⟩
        have hz4 := ((hks1.set (p := ⟨bW, 0, none⟩) (u := .slice (some ⟨g1, 0, none⟩) ((octs cs).length + 1) cg1) hbB (fun k hk => (HS.out k hk).2.1)).set (p := ⟨bW, 1, none⟩) (u := .int .i64 8) hbB (fun k hk => (HS.out k hk).2.1)).set (p := ⟨bW, 1, none⟩) (u := .int .i64 7) hbB (fun k hk => (HS.out k hk).2.1)
        have hz3 : ∀ k, S k → k < (((w1.setCell ⟨bW, 0, none⟩ (.slice (some ⟨g1, 0, none⟩) ((octs cs).length + 1) cg1)).setCell ⟨bW, 1, none⟩ (.int .i64 8)).setCell ⟨bW, 1, none⟩ (.int .i64 7)).heap.size ∧ k ≠ bW ∧ g1 ≠ k := by
          intro j hj
          obtain ⟨s1, s2, s3⟩ := HS.out j hj
          refine ⟨by have := HG.out.size; simp at this ⊢; omega, s2, ?_⟩
          rintro rfl
          rcases HAT.out with h | h
          · exact s3 h
          · omega
        generalize (((w1.setCell ⟨bW, 0, none⟩ (.slice (some ⟨g1, 0, none⟩) ((octs cs).length + 1) cg1)).setCell ⟨bW, 1, none⟩ (.int .i64 8)).setCell ⟨bW, 1, none⟩ (.int .i64 7)) = wz at *
        obtain ⟨ds, hdsd⟩ : ∃ ds, ds = octs cs ++ [0] := ⟨_, rfl⟩
        obtain ⟨N, hN⟩ : ∃ N, N = (octs cs).length + 1 := ⟨_, rfl⟩
        obtain ⟨f, hf⟩ : ∃ f, f = 7 := ⟨_, rfl⟩
        have hNd : N = ds.length := by rw [hdsd, hN]; simp
        have hN1 : 1 ≤ N := by omega
        have hN2 : N ≤ 137438953481 := by omega
        have hf7 : f ≤ 7 := by omega
        have hds : ∀ d ∈ ds, d < 256 := by
          rw [hdsd]; intro d hd
          rcases List.mem_append.1 hd with h | h
          · exact (octs_ok cs HB2.out).1 d h
          · simp at h; omega
        have hdm : ds.getD (N - 1) 0 % 2 ^ (f + 1) = 0 := by
          rw [hdsd, hN, Nat.add_sub_cancel, List.getD_eq_getElem?_getD, List.getElem?_append_right (Nat.le_refl _), Nat.sub_self]; simp
        have hfin : ∀ {x}, ds[N - 1]? = some x → octs (cs ++ [b]) = ds.set (N - 1) (x + b * 2 ^ f) := by
          intro x hx
          rw [hdsd, hN, Nat.add_sub_cancel] at hx ⊢
          rw [List.getElem?_append_right (Nat.le_refl _), Nat.sub_self] at hx
          simp at hx; subst hx
          rw [HNX2.out, List.set_append_right _ _ (Nat.le_refl _), Nat.sub_self, hf]; simp
        have hfrf : freeOf (cs ++ [b]).length = f := by rw [HFR2.out, hf]
        have e7 : (7 : Int) = (f : Nat) := by omega
        rw [e7] at hz1
        rw [← hN] at hz1 hz2
        have hz2' : wz.ownsRow B 5 1 (.slice (some ⟨g1, 0, none⟩) N cg1) N (bys ds) := by rw [hdsd, bys_append]; exact hz2
        clear hz2
        have hz2 := hz2'
        rw [e7, ← hN]
        clear hz2' e7 hdsd hN hf d0 d1 e0 e1
        obtain ⟨x, hx⟩ := get_of_lt (show N - 1 < ds.length by omega)
        have hx256 := hds x (List.mem_of_getElem? hx)
        have hxm : x % 2 ^ (f + 1) = 0 := by
          have := hdm
          rw [List.getD_eq_getElem?_getD, hx] at this; exact this
        have ho := or_add x f b hx256 hf7 hb1 hxm
        have d0 : wz.cell? ⟨bW, 0, none⟩ = some (.slice (some ⟨g1, 0, none⟩) N cg1) := by rw [Lib.cell_of_heap hz1]; rfl
        have d1 : wz.cell? ⟨bW, 1, none⟩ = some (.int .i64 (f : Nat)) := by rw [Lib.cell_of_heap hz1]; rfl
        have d2 : wz.cell? ⟨g1, N - 1, none⟩ = some (.int .u8 (x : Nat)) := by rw [hz2.cellAt (N - 1) (by omega)]; exact bys_get hx
        have e2 := hz2.frozenAt (N - 1)
        have hsto := (hz2.stored (N - 1) (.int .u8 ((x + b * 2 ^ f : Nat) : Int))).1
        rw [show (bys ds).set (N - 1) (.int .u8 ((x + b * 2 ^ f : Nat) : Int)) = bys (ds.set (N - 1) (x + b * 2 ^ f)) from by rw [bys, bys, List.map_set]] at hsto
        have hgB : B ≤ g1 := (hz2.lt g1 rfl).1
        have hbk2 : (wz.setCell ⟨g1, N - 1, none⟩ (.int .u8 ((x + b * 2 ^ f : Nat) : Int))).heap[bW]? = some (.cells #[.slice (some ⟨g1, 0, none⟩) N cg1, .int .i64 (f : Nat)] 231 (0, 0)) := by
          rw [Below.heap_setCell _ _ _ _ (fun e => hg1 e.symm)]; exact hz1
        have hksz := hz4.set (p := ⟨g1, N - 1, none⟩) (u := .int .u8 ((x + b * 2 ^ f : Nat) : Int)) hgB (fun k hk e => (hz3 k hk).2.2 e.symm)
        have hfinal : WrS B bW S (wz.setCell ⟨g1, N - 1, none⟩ (.int .u8 ((x + b * 2 ^ f : Nat) : Int))) (cs ++ [b]) := by
          refine ⟨hB, ?_, .slice (some ⟨g1, 0, none⟩) N cg1, by rw [hfrf]; exact hbk2, ?_, by simpa [Value.ownBlock] using hg1, fun k hk => ?_⟩
          · intro y hy
            rcases List.mem_append.1 hy with h | h
            · exact HB2.out y h
            · simp at h; omega
          · rw [hfin hx, List.length_set, ← hNd]; exact hsto
          · have := hz3 k hk; exact ⟨by simpa [World.setCell] using this.1, this.2.1, by simpa [Value.ownBlock] using this.2.2⟩
        have HF := Lib.hid hfinal; have HKS := Lib.hid hksz
        have HOR : Hid (bits BinOp.or IntKind.u8 (x : Int) ((b : Int) * 2 ^ f) = ((x + b * 2 ^ f : Nat) : Int)) := by
          show _ = _
          rw [show (b : Int) * 2 ^ f = ((b * 2 ^ f : Nat) : Int) from by simp]; exact ho
        have t1 : IntKind.i64.wrap ((N : Int) - 1) = (N : Int) - 1 := IntWalk.i64_in _ (by omega)
        have t2 : ((N : Int) - 1).toNat = N - 1 := by omega
        have t3 : (0 : Int) ≤ (N : Int) - 1 := by omega
        have t4 : (N : Int) - 1 < (N : Int) := by omega
        have t7 : (1 : Int) ≤ (N : Int) := by omega
        have t8 : (0 : Int) < (N : Int) := by omega
        have t5 : min f 8 = f := by omega
        have t6 : IntKind.u8.wrap ((b : Int) * 2 ^ f) = ((b * 2 ^ f : Nat) : Int) := by
          have h9 : b * 2 ^ f ≤ 1 * 2 ^ f := Nat.mul_le_mul_right _ hb1
          have h10 : 2 ^ f ≤ 2 ^ 7 := Nat.pow_le_pow_right (by decide) hf7
          rw [show (b : Int) * 2 ^ f = ((b * 2 ^ f : Nat) : Int) from by simp]
          exact IntWalk.u8_in _ (by omega)
        clear hx hxm hsto hz1 hz2 hz3 hz4 hbk2 hfinal hksz hds hdm hfin hNd hks
        go_still_tail 24, (by kernel_rfl)
        change wpList _ _ _ _ _ wz.drew
        have d2d : wz.drew.cell? ⟨g1, N - 1, none⟩ = some (.int .u8 (x : Nat)) := d2
        have e2d : wz.drew.frozen? ⟨g1, N - 1, none⟩ = false := e2
        have HFd : Hid (WrS B bW S (wz.drew.setCell ⟨g1, N - 1, none⟩ (.int .u8 ((x + b * 2 ^ f : Nat) : Int))) (cs ++ [b])) := HF.out
        have HKSd : Hid (KeepS S B w (wz.drew.setCell ⟨g1, N - 1, none⟩ (.int .u8 ((x + b * 2 ^ f : Nat) : Int)))) := ⟨⟨HKS.out.below.os, HKS.out.below.tape, HKS.out.below.output, HKS.out.below.size, HKS.out.below.block⟩, HKS.out.same⟩
        clear t1 t2 t3 t4 t5 t6 t7 t8 d0 d1 d2 e2 HF HKS ho
        generalize wz.drew = wd at *
        go_wp2
        go_roundw
        case rel => exact ⟨q, by omega, by go_num, by rw [HNX.out, HOR.out]; exact HFd.out, by rw [HOR.out]; exact HKSd.out⟩
        case measure => simp [intOf]
      · have hfr : freeOf cs.length = 8 - cs.length % 8 := by unfold freeOf; omega
        have hmlt : cs.length % 8 < 8 := Nat.mod_lt _ (by decide)
        obtain ⟨f, hf⟩ : ∃ f, f = 7 - cs.length % 8 := ⟨_, rfl⟩
        have hfr1 : freeOf cs.length = f + 1 := by omega
        rw [hfr1] at c1 hbk
        have hne1 : (((f + 1 : Nat) : Int) == 0) = false := by rw [beq_eq_false_iff_ne]; omega
        have hf7 : f ≤ 7 := by omega
        obtain ⟨g1, cg1, hv1⟩ : ∃ g1 cg1, v = .slice (some ⟨g1, 0, none⟩) (octs cs).length cg1 := by
          rcases hown.2 with ⟨_, h⟩ | ⟨g1, cg1, _, h, _⟩
          · have := HOL.out; omega
          · exact ⟨g1, cg1, h⟩
        clear hv
        subst hv1
        have hg1 : g1 ≠ bW := by simpa [Value.ownBlock] using hne
        have hbB : B ≤ bW := hB
        have HS := Lib.hid hS
        have e8 : (((f + 1 : Nat) : Int) - 1) = (f : Int) := by omega
        have e9 : ((f : Int) + 1 - 1) = (f : Int) := by omega
        have hnat : ((f + 1 : Nat) : Int) = (f : Int) + 1 := by omega
        rw [hnat] at c1 hbk hne1
        have hz1 := heap_set1 (u := .int .i64 (f : Nat)) hbk
        have hz2 := own_set_other (p := ⟨bW, 1, none⟩) (u := .int .i64 (f : Nat)) hown (by simpa [Value.ownBlock] using hg1)
        have hz4 := hks.set (p := ⟨bW, 1, none⟩) (u := .int .i64 (f : Nat)) hbB (fun k hk => (hS k hk).2.1)
        have hz3 : ∀ k, S k → k < (wr.setCell ⟨bW, 1, none⟩ (.int .i64 (f : Nat))).heap.size ∧ k ≠ bW ∧ g1 ≠ k := by
          intro j hj
          obtain ⟨s1, s2, s3⟩ := hS j hj
          exact ⟨by simpa [World.setCell] using s1, s2, by simpa [Value.ownBlock] using s3⟩
        have hdm0 := hok.2 hm
        have HB2 := Lib.hid hbits; have HOK := Lib.hid hok.1
        have HZ1 := Lib.hid hz1; have HZ2 := Lib.hid hz2; have HZ3 := Lib.hid hz3; have HZ4 := Lib.hid hz4; have HDM := Lib.hid hdm0
        clear hS hbk hok hbits hz1 hz2 hz3 hz4 hdm0 hown e8 e9 hnat hne hfr hfr1
        have HFF := Lib.hid hf; clear hf
        go_wp2
        have hz1 := HZ1.out
        have hz2 := HZ2.out
        have hz3 := HZ3.out
        have hz4 := HZ4.out
        clear HZ1 HZ2 HZ3 HZ4 c0 c1 f0 f1
        generalize wr.setCell ⟨bW, 1, none⟩ (.int .i64 (f : Nat)) = wz at *
        obtain ⟨ds, hdsd⟩ : ∃ ds, ds = octs cs := ⟨_, rfl⟩
        obtain ⟨N, hN⟩ : ∃ N, N = (octs cs).length := ⟨_, rfl⟩
        have hNd : N = ds.length := by rw [hdsd, hN]
        have hN1 : 1 ≤ N := by have := HOL.out; omega
        have hN2 : N ≤ 137438953481 := by omega
        have hds : ∀ d ∈ ds, d < 256 := by rw [hdsd]; exact HOK.out
        have hdm : ds.getD (N - 1) 0 % 2 ^ (f + 1) = 0 := by
          rw [hdsd, hN, show f + 1 = 8 - cs.length % 8 from by have := HFF.out; omega]; exact HDM.out
        have hfin : ∀ {x}, ds[N - 1]? = some x → octs (cs ++ [b]) = ds.set (N - 1) (x + b * 2 ^ f) := by
          intro x hx
          rw [hdsd, hN] at hx ⊢
          rw [octs_snoc, pushBit, if_neg hm, HFF.out, List.getD_eq_getElem?_getD, hx]; rfl
        have hfrf : freeOf (cs ++ [b]).length = f := by unfold freeOf; rw [List.length_append, List.length_singleton, HFF.out]; omega
        rw [← hN] at hz1 hz2
        rw [← hdsd] at hz2
        clear hdsd hN
        obtain ⟨x, hx⟩ := get_of_lt (show N - 1 < ds.length by omega)
        have hx256 := hds x (List.mem_of_getElem? hx)
        have hxm : x % 2 ^ (f + 1) = 0 := by
          have := hdm
          rw [List.getD_eq_getElem?_getD, hx] at this; exact this
        have ho := or_add x f b hx256 hf7 hb1 hxm
        have d0 : wz.cell? ⟨bW, 0, none⟩ = some (.slice (some ⟨g1, 0, none⟩) N cg1) := by rw [Lib.cell_of_heap hz1]; rfl
        have d1 : wz.cell? ⟨bW, 1, none⟩ = some (.int .i64 (f : Nat)) := by rw [Lib.cell_of_heap hz1]; rfl
        have d2 : wz.cell? ⟨g1, N - 1, none⟩ = some (.int .u8 (x : Nat)) := by rw [hz2.cellAt (N - 1) (by omega)]; exact bys_get hx
        have e2 := hz2.frozenAt (N - 1)
        have hsto := (hz2.stored (N - 1) (.int .u8 ((x + b * 2 ^ f : Nat) : Int))).1
        rw [show (bys ds).set (N - 1) (.int .u8 ((x + b * 2 ^ f : Nat) : Int)) = bys (ds.set (N - 1) (x + b * 2 ^ f)) from by rw [bys, bys, List.map_set]] at hsto
        have hgB : B ≤ g1 := (hz2.lt g1 rfl).1
        have hbk2 : (wz.setCell ⟨g1, N - 1, none⟩ (.int .u8 ((x + b * 2 ^ f : Nat) : Int))).heap[bW]? = some (.cells #[.slice (some ⟨g1, 0, none⟩) N cg1, .int .i64 (f : Nat)] 231 (0, 0)) := by
          rw [Below.heap_setCell _ _ _ _ (fun e => hg1 e.symm)]; exact hz1
        have hksz := hz4.set (p := ⟨g1, N - 1, none⟩) (u := .int .u8 ((x + b * 2 ^ f : Nat) : Int)) hgB (fun k hk e => (hz3 k hk).2.2 e.symm)
        have hfinal : WrS B bW S (wz.setCell ⟨g1, N - 1, none⟩ (.int .u8 ((x + b * 2 ^ f : Nat) : Int))) (cs ++ [b]) := by
          refine ⟨hB, ?_, .slice (some ⟨g1, 0, none⟩) N cg1, by rw [hfrf]; exact hbk2, ?_, by simpa [Value.ownBlock] using hg1, fun k hk => ?_⟩
          · intro y hy
            rcases List.mem_append.1 hy with h | h
            · exact HB2.out y h
            · simp at h; omega
          · rw [hfin hx, List.length_set, ← hNd]; exact hsto
          · have := hz3 k hk; exact ⟨by simpa [World.setCell] using this.1, this.2.1, by simpa [Value.ownBlock] using this.2.2⟩
        have HF := Lib.hid hfinal; have HKS := Lib.hid hksz
        have HOR : Hid (bits BinOp.or IntKind.u8 (x : Int) ((b : Int) * 2 ^ f) = ((x + b * 2 ^ f : Nat) : Int)) := by
          show _ = _
          rw [show (b : Int) * 2 ^ f = ((b * 2 ^ f : Nat) : Int) from by simp]; exact ho
        have t1 : IntKind.i64.wrap ((N : Int) - 1) = (N : Int) - 1 := IntWalk.i64_in _ (by omega)
        have t2 : ((N : Int) - 1).toNat = N - 1 := by omega
        have t3 : (0 : Int) ≤ (N : Int) - 1 := by omega
        have t4 : (N : Int) - 1 < (N : Int) := by omega
        have t7 : (1 : Int) ≤ (N : Int) := by omega
        have t8 : (0 : Int) < (N : Int) := by omega
        have t5 : min f 8 = f := by omega
        have t6 : IntKind.u8.wrap ((b : Int) * 2 ^ f) = ((b * 2 ^ f : Nat) : Int) := by
          have h9 : b * 2 ^ f ≤ 1 * 2 ^ f := Nat.mul_le_mul_right _ hb1
          have h10 : 2 ^ f ≤ 2 ^ 7 := Nat.pow_le_pow_right (by decide) hf7
          rw [show (b : Int) * 2 ^ f = ((b * 2 ^ f : Nat) : Int) from by simp]
          exact IntWalk.u8_in _ (by omega)
        clear hx hxm hsto hz1 hz2 hz3 hz4 hbk2 hfinal hksz hds hdm hfin hNd hks
        go_still_tail 24, (by kernel_rfl)
        change wpList _ _ _ _ _ wz.drew
        have d2d : wz.drew.cell? ⟨g1, N - 1, none⟩ = some (.int .u8 (x : Nat)) := d2
        have e2d : wz.drew.frozen? ⟨g1, N - 1, none⟩ = false := e2
        have HFd : Hid (WrS B bW S (wz.drew.setCell ⟨g1, N - 1, none⟩ (.int .u8 ((x + b * 2 ^ f : Nat) : Int))) (cs ++ [b])) := HF.out
        have HKSd : Hid (KeepS S B w (wz.drew.setCell ⟨g1, N - 1, none⟩ (.int .u8 ((x + b * 2 ^ f : Nat) : Int)))) := ⟨⟨HKS.out.below.os, HKS.out.below.tape, HKS.out.below.output, HKS.out.below.size, HKS.out.below.block⟩, HKS.out.same⟩
        clear t1 t2 t3 t4 t5 t6 t7 t8 d0 d1 d2 e2 HF HKS ho
        generalize wz.drew = wd at *
        go_wp2
        go_roundw
        case rel => exact ⟨q, by omega, by go_num, by rw [HNX.out, HOR.out]; exact HFd.out, by rw [HOR.out]; exact HKSd.out⟩
        case measure => simp [intOf]
end Go.Proofs.YtmafjfhnejeogaaGreatDoor

/- Codes: the writer is a sink. -/
namespace Go.Proofs.YtmafjfhnejeogaaGreatDoor
open Go.RowKit

theorem writer_ok (B bW : Nat) : SinkOK 229 (.pointer (some ⟨bW, 0, none⟩)) 176 B (WrS B bW) where
  alloc := by
    rintro S w bs o ⟨h1, h2, v, h3, h4, h5, h6⟩
    have hl := heap_lt h3
    refine ⟨h1, h2, v, by rw [Below.heap_alloc _ _ _ hl]; exact h3, h4.alloc _, h5, fun k hk => ?_⟩
    rcases hk with hk | rfl
    · have := h6 k hk; exact ⟨by simp; omega, this.2⟩
    · exact ⟨by simp, by omega, fun e => by have := (h4.lt _ e).2; omega⟩
  drew := fun S w bs h => h
  mono := fun S S' w bs hs h => by
    obtain ⟨h1, h2, v, h3, h4, h5, h6⟩ := h
    exact ⟨h1, h2, v, h3, h4, h5, fun k hk => h6 k (hs k hk)⟩
  size := fun S w bs h => h.size
  lt := fun S w bs k h hk => by
    obtain ⟨h1, h2, v, h3, h4, h5, h6⟩ := h
    exact (h6 k hk).1
  put := fun S w bs n k h hn0 hn1 hk hl => writer_put B bW S bs n k w h hn0 hn1 hk hl
  meth := fun w d => by kernel_rfl
  ahead := fun w d => by kernel_rfl
  enter := fun vs w => by kernel_rfl
end Go.Proofs.YtmafjfhnejeogaaGreatDoor
