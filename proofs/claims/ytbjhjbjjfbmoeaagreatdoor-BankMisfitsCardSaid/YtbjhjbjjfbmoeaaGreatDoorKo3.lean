/- Parts of a proof, in build order: I5, I6, I7, I8. -/
import Derived.Test.YtbjhjbjjfbmoeaaGreatDoorKo2

/- Ratio, of the reference. -/
namespace Go.Proofs.YtbjhjbjjfbmoeaaGreatDoor
open Go.RowKit

theorem rdig_len {n : Nat} (h : n < 18446744073709551616) : (Z4.dig n).length ≤ 549755813888 := Nat.le_trans (Z4.dig_len_i64 h) (by decide)
theorem rtext_same (n : Int) (d : Nat) : ratT (ofS n d) (ofN n d) (ofD n d) = Z4.qT (decide (n < 0)) (n.natAbs / Nat.gcd n.natAbs d) (d / Nat.gcd n.natAbs d) := by
  have h1 : ofS n d = decide (n < 0) := by
    unfold ofS
    rw [decide_eq_false (show ¬ (d : Int) < 0 by omega)]
    by_cases hn : n < 0
    · rw [decide_eq_true hn, decide_eq_true (show n.natAbs ≠ 0 by omega)]; rfl
    · rw [decide_eq_false hn]; rfl
  have h2 : ofN n d = n.natAbs / Nat.gcd n.natAbs d := by unfold ofN; rw [Int.natAbs_natCast]
  have h3 : ofD n d = d / Nat.gcd n.natAbs d := by unfold ofD; rw [Int.natAbs_natCast]
  rw [h1, h2, h3]
  unfold ratT Z4.qT
  have e1 : ∀ s k, sgT s k = Z4.zT s k := fun _ _ => rfl
  have e2 : ∀ k, decB k = Z4.dcB k := fun _ => rfl
  rw [e1, e2, ByteArray.append_assoc]

set_option maxRecDepth 100000 in
set_option maxHeartbeats 1000000 in
theorem refRatio_any (n : Int) (D : Nat) (w : World) (h1 : -9223372036854775808 ≤ n) (h2 : n ≤ 9223372036854775807) (h3 : 1 ≤ D) (h4 : D ≤ 9223372036854775807) :
    Calls Tryz.prog 87 #[.int .i64 n, .int .i64 D] w fun e w' => (∃ v, e = .returned v ∧ Z4.QV w' v (decide (n < 0)) (n.natAbs / Nat.gcd n.natAbs D) (D / Nat.gcd n.natAbs D)) ∧ Below w.heap.size w w' := by
  have hzn := fun W => Z4.zOf_any n W (by omega) (by omega)
  have hzd := fun W => Z4.zOf_any (D : Int) W (by omega) (by omega)
  have hqo := fun va vb W g1 g2 => Z4.qOf_pos va vb n D W g1 g2 (by omega) (rdig_len (by omega)) (rdig_len (by omega))
  have HZN := Lib.hid hzn; have HZD := Lib.hid hzd; have HQO := Lib.hid hqo
  clear hzn hzd hqo h1 h2 h3 h4
  have hbw := (Below.refl w.heap.size w).alloc (Nat.le_refl _) (.cells #[.bool false, .slice none 0 0, .bool false, .slice none 0 0] 120)
  have HBW := Lib.hid hbw; clear hbw
  go_enter Tryz.func87, Tryz.ntmps87
  go_wp2_with fail
  refine (HZN.out _).mono ?_
  rintro e w1 ⟨⟨v1, rfl, hv1⟩, hb1⟩
  go_wp2_with fail
  refine (HZD.out _).mono ?_
  rintro e w2 ⟨⟨v2, rfl, hv2⟩, hb2⟩
  go_wp2_with fail
  refine (HQO.out _ _ _ (hv1.below hb2 (Nat.le_refl _)) hv2).mono ?_
  rintro e w3 ⟨⟨v3, rfl, hv3⟩, hb3⟩
  have hbx := (hb1.trans (hb2.mono hb1.size)).trans (hb3.mono (Nat.le_trans hb1.size hb2.size))
  have q0 := box_keep hbx (by simp) 0
  have q1 := box_keep hbx (by simp) 1
  have q2 := box_keep hbx (by simp) 2
  have q3 := box_keep hbx (by simp) 3
  simp only [List.getElem?_toArray, List.getElem?_cons_succ, List.getElem?_cons_zero] at q0 q1 q2 q3
  have f0 := box_free hbx (by simp) 0
  have f1 := box_free hbx (by simp) 1
  have f2 := box_free hbx (by simp) 2
  have f3 := box_free hbx (by simp) 3
  have hle : w.heap.size ≤ w.heap.size := Nat.le_refl _
  have hb := HBW.out.trans (hbx.mono (by simp))
  obtain ⟨vn, vd, rfl, hm1, hm2⟩ := hv3
  obtain ⟨an, cn, rfl⟩ := hm1.cases
  obtain ⟨ad, cd, rfl⟩ := hm2.cases
  have HM1 := Lib.hid hm1; have HM2 := Lib.hid hm2
  clear hm1 hm2 hb1 hb2 hb3 hv1 hv2
  go_wp2
  refine bodyPost_ret (v := .agg #[.bool (decide (n < 0)), .slice an (Z4.dig (n.natAbs / Nat.gcd n.natAbs D)).length cn, .bool false, .slice ad (Z4.dig (D / Nat.gcd n.natAbs D)).length cd]) (by simp [results, Tryz.results87, go_sem, q0, q1, q2, q3]) rfl ?_
  exact ⟨⟨_, rfl, _, _, rfl, HM1.out.box4 q0 q1 q2 q3, HM2.out.box4 q0 q1 q2 q3⟩, (((hb.setCell hle _).setCell hle _).setCell hle _).setCell hle _⟩
end Go.Proofs.YtbjhjbjjfbmoeaaGreatDoor

/- match over two waves, of the reference. -/
namespace Go.Proofs.YtbjhjbjjfbmoeaaGreatDoor
open Go.RowKit

theorem silent_zero {xs : List Int} (h : silentB xs = true) (L : Nat) : ovl xs xs L 0 = 0 := by
  have he : xs = smp 0 0 0 := by simpa [silentB] using h
  subst he
  have hz : ∀ i, (smp 0 0 0).getD i 0 = 0 := by
    intro i
    rw [List.getD_eq_getElem?_getD]
    by_cases hi : i < 64
    · rw [smp_at 0 0 0 i hi, if_neg (by omega)]; rfl
    · rw [List.getElem?_eq_none (by rw [smp_length]; omega)]; rfl
  rw [ovl_sqTo]
  induction L with
  | zero => rfl
  | succ n ih => simp only [sqTo]; rw [ih, hz]; rfl

/-- the greatest overlap of the first k shifts -/
def bsR (xs ys : List Int) (L : Nat) : Nat → Int
  | 0 => 0
  | k + 1 => max (bsR xs ys L k) (ovl xs ys L (1 - (L : Int) + k))
theorem bsR_nn (xs ys : List Int) (L k : Nat) : 0 ≤ bsR xs ys L k := by
  induction k with
  | zero => simp [bsR]
  | succ k ih => simp only [bsR]; omega
theorem bsR_le (xs ys : List Int) (L : Nat) (hL : L ≤ 64) (k : Nat) (hk : k ≤ 2 * L - 1) : bsR xs ys L k ≤ bestN xs ys L := by
  induction k with
  | zero => exact bestN_nn _ _ _
  | succ k ih =>
    have h1 := ih (by omega)
    have h2 := bestN_ge xs ys L hL (1 - (L : Int) + k) (by omega) (by omega)
    simp only [bsR]; omega
theorem bsR_ge (xs ys : List Int) (L : Nat) (k : Nat) : ∀ i, i < k → ovl xs ys L (1 - (L : Int) + i) ≤ bsR xs ys L k := by
  induction k with
  | zero => intro i hi; omega
  | succ k ih =>
    intro i hi
    simp only [bsR]
    by_cases h : i = k
    · subst h; omega
    · have := ih i (by omega); omega
theorem bsR_full (xs ys : List Int) (L : Nat) (h0 : 1 ≤ L) (hL : L ≤ 64) : bsR xs ys L (2 * L - 1) = bestN xs ys L := by
  refine Int.le_antisymm (bsR_le xs ys L hL _ (Nat.le_refl _)) ?_
  rcases bestN_is xs ys L h0 hL with h | ⟨s, h1, h2, h⟩
  · rw [h]; exact bsR_nn _ _ _ _
  · have := bsR_ge xs ys L (2 * L - 1) (s - (1 - (L : Int))).toNat (by omega)
    rw [show 1 - (L : Int) + (((s - (1 - (L : Int))).toNat : Nat) : Int) = s by omega] at this
    rw [h]; exact this
theorem bsR_bd {xs ys : List Int} (h1 : ∀ x ∈ xs, -127 ≤ x ∧ x ≤ 127) (h2 : ∀ x ∈ ys, -127 ≤ x ∧ x ≤ 127) {L : Nat} (hL : L ≤ 64) (k : Nat) : bsR xs ys L k ≤ 1032256 := by
  induction k with
  | zero => simp [bsR]
  | succ k ih =>
    have := ovl_bd h1 h2 L (1 - (L : Int) + k) (by omega)
    simp only [bsR]; omega

set_option maxRecDepth 100000 in
set_option maxHeartbeats 4000000 in
theorem refmatchL_any (xs ys : List Int) (L D : Nat) (ao : Option Addr) (ca : Nat) (bo : Option Addr) (cb : Nat) (w : World) (hx : xs.length = 64) (hy : ys.length = 64) (hL1 : 1 ≤ L) (hL : L ≤ 64) (h1 : ∀ x ∈ xs, -127 ≤ x ∧ x ≤ 127) (h2 : ∀ x ∈ ys, -127 ≤ x ∧ x ≤ 127)
    (hD : (D : Int) = ovl xs xs L 0 * ovl ys ys L 0) (hD1 : 1 ≤ D)
    (hc : Cells w ao ((xs.take L).map (Value.int .i64))) (hd : Cells w bo ((ys.take L).map (Value.int .i64))) :
    Calls Tryz.prog 77 #[.slice ao L ca, .slice bo L cb] w fun e w' => (∃ v, e = .returned v ∧ Z4.QV w' v (decide (bestN xs ys L * bestN xs ys L < 0)) ((bestN xs ys L * bestN xs ys L).natAbs / Nat.gcd (bestN xs ys L * bestN xs ys L).natAbs D) (D / Nat.gcd (bestN xs ys L * bestN xs ys L).natAbs D)) ∧ Below w.heap.size w w' := by
  have hfull := bsR_full xs ys L hL1 hL
  have hbb := bsR_bd h1 h2 hL
  have hbn := bsR_nn xs ys L
  have hov := fun s W (g1 : -1000 ≤ s) (g2 : s ≤ 1000) c1 c2 => refOverlapL_any xs ys L s ao ca bo cb W hx hy hL1 hL g1 g2 h1 h2 c1 c2
  have hob := fun s g => ovl_bd h1 h2 L s g
  have hn1 := fun W c1 => refNorm_any xs L ao ca W hx hL h1 c1
  have hn2 := fun W c1 => refNorm_any ys L bo cb W hy hL h2 c1
  rw [← ovl_sqTo] at hn1 hn2
  have b1 := ovl_bd h1 h1 L 0 (by omega)
  have b2 := ovl_bd h2 h2 L 0 (by omega)
  have nn1 := norm_nn xs L
  have nn2 := norm_nn ys L
  have hbs : ∀ k, bsR xs ys L (k + 1) = max (bsR xs ys L k) (ovl xs ys L (1 - (L : Int) + k)) := fun k => rfl
  have hb0 : bsR xs ys L 0 = 0 := rfl
  generalize ovl xs xs L 0 = n1 at *
  generalize ovl ys ys L 0 = n2 at *
  generalize ovl xs ys L = F at *
  generalize bsR xs ys L = G at *
  generalize bestN xs ys L = N at *
  have m2 := Int.mul_le_mul (show n1 ≤ 1032256 by omega) (show n2 ≤ 1032256 by omega) (by omega) (by omega)
  have hNb : 0 ≤ N ∧ N ≤ 1032256 := by rw [← hfull]; exact ⟨hbn _, hbb _⟩
  have m3 := Int.mul_le_mul hNb.2 hNb.2 hNb.1 (by omega)
  have m4 := Int.mul_nonneg hNb.1 hNb.1
  have hra := fun W => refRatio_any (N * N) D W (by omega) (by omega) hD1 (by omega)
  have hbw := (Below.refl w.heap.size w).alloc (Nat.le_refl _) (.cells #[.bool false, .slice none 0 0, .bool false, .slice none 0 0] 120)
  have HBW := Lib.hid hbw
  have HC := Lib.hid hc; have HDC := Lib.hid hd
  have HF := Lib.hid hfull; have HBB := Lib.hid hbb; have HBN := Lib.hid hbn; have HOV := Lib.hid hov; have HOB := Lib.hid hob
  have HN1 := Lib.hid hn1; have HN2 := Lib.hid hn2; have HBS := Lib.hid hbs; have HRA := Lib.hid hra
  have q1 : IntKind.i64.wrap (N * N) = N * N := IntWalk.i64_in _ (by omega)
  have q2 : IntKind.i64.wrap (n1 * n2) = (D : Int) := by rw [hD]; exact IntWalk.i64_in _ (by omega)
  have Q1 := Lib.hid q1; have Q2 := Lib.hid q2
  clear hfull hbb hbn hov hob hn1 hn2 hbs hra hc hd h1 h2 hD b1 b2 nn1 nn2 m2 m3 m4 q1 q2 hbw
  go_enter Tryz.func77, Tryz.ntmps77
  go_wp2
  go_loopw [5, 6] (fun v i wr => ∃ k : Nat, k ≤ 2 * L - 1 ∧ i = .int .i64 (1 - (L : Int) + k) ∧ v = .int .i64 (G k) ∧ Below (w.heap.size + 1) (w.alloc (.cells #[.bool false, .slice none 0 0, .bool false, .slice none 0 0] 120)) wr) (fun _ i _ => (L - intOf i).toNat)
  case atStart => exact ⟨0, Nat.zero_le _, by simp, by rw [hb0], Below.refl _ _⟩
  case round =>
    obtain ⟨k, hk, rfl, rfl, hb⟩ := hrel
    have hs1 : w.heap.size + 1 ≤ wr.heap.size := by have := hb.size; simpa using this
    have hbz : Below w.heap.size w wr := HBW.out.trans (hb.mono (by omega))
    by_cases hlt : k < 2 * L - 1
    · have hov := HOV.out (1 - (L : Int) + k) wr (by omega) (by omega) (HC.out.below hbz (Nat.le_refl _)) (HDC.out.below hbz (Nat.le_refl _))
      have hE := HBS.out k
      have f1 := HOB.out (1 - (L : Int) + k) (by omega)
      have g1 := HBN.out k
      have g2 := HBB.out k
      have HO := Lib.hid hov; have HE := Lib.hid hE
      clear hov hE
      go_wp2_with (go_at_call 71; refine HO.out.mono ?_; rintro e w2 ⟨rfl, hb2⟩)
      have hbn2 := hb.trans (hb2.mono hs1)
      go_roundw
      case rel => exact ⟨k + 1, by omega, by go_num, by rw [HE.out], hbn2⟩
      case measure => simp [intOf]; omega
    · obtain rfl : k = 2 * L - 1 := by omega
      rw [HF.out]
      have q1 := Q1.out
      have hCx := HC.out.below hbz (Nat.le_refl _)
      have hDx := HDC.out.below hbz (Nat.le_refl _)
      go_wp2_with fail
      refine (HN1.out _ hCx).mono ?_
      rintro e w2 ⟨rfl, hb2⟩
      go_wp2_with fail
      refine (HN2.out _ (hDx.below hb2 (Nat.le_refl _))).mono ?_
      rintro e w3 ⟨rfl, hb3⟩
      have q2 := Q2.out
      go_wp2_with fail
      refine (HRA.out _).mono ?_
      rintro e w4 ⟨⟨v, rfl, hv⟩, hb4⟩
      have hbx := ((hb.trans (hb2.mono hs1)).trans (hb3.mono (Nat.le_trans hs1 hb2.size))).trans (hb4.mono (Nat.le_trans hs1 (Nat.le_trans hb2.size hb3.size)))
      have q0 := box_keep hbx (by simp) 0
      have q1 := box_keep hbx (by simp) 1
      have q2 := box_keep hbx (by simp) 2
      have q3 := box_keep hbx (by simp) 3
      simp only [List.getElem?_toArray, List.getElem?_cons_succ, List.getElem?_cons_zero] at q0 q1 q2 q3
      have f0 := box_free hbx (by simp) 0
      have f1 := box_free hbx (by simp) 1
      have f2 := box_free hbx (by simp) 2
      have f3 := box_free hbx (by simp) 3
      have hle : w.heap.size ≤ w.heap.size := Nat.le_refl _
      have hb := HBW.out.trans (hbx.mono (by simp))
      obtain ⟨vn, vd, rfl, hm1, hm2⟩ := hv
      obtain ⟨an, cn, rfl⟩ := hm1.cases
      obtain ⟨ad, cd, rfl⟩ := hm2.cases
      have HM1 := Lib.hid hm1; have HM2 := Lib.hid hm2
      clear hm1 hm2 hb2 hb3 hb4 hCx hDx hbz
      go_wp2
      refine bodyPost_ret (v := .agg #[.bool (decide (N * N < 0)), .slice an (Z4.dig ((N * N).natAbs / Nat.gcd (N * N).natAbs D)).length cn, .bool false, .slice ad (Z4.dig (D / Nat.gcd (N * N).natAbs D)).length cd]) (by simp [results, Tryz.results77, go_sem, q0, q1, q2, q3]) rfl ?_
      exact ⟨⟨_, rfl, _, _, rfl, HM1.out.box4 q0 q1 q2 q3, HM2.out.box4 q0 q1 q2 q3⟩, (((hb.setCell hle _).setCell hle _).setCell hle _).setCell hle _⟩
end Go.Proofs.YtbjhjbjjfbmoeaaGreatDoor

/- Match, of the reference. -/
namespace Go.Proofs.YtbjhjbjjfbmoeaaGreatDoor
open Go.RowKit

set_option maxRecDepth 100000 in
set_option maxHeartbeats 4000000 in
theorem refMatch_any (L p q r s : Int) (w : World) :
    Calls Tryz.prog 26 #[.int .i64 L, .agg #[.int .i64 p, .int .i64 q], .agg #[.int .i64 r, .int .i64 s]] w fun e w' => e = .returned (.tuple #[.string (matT L p q r s), .int .i64 (matE L p q r s)]) ∧ Below w.heap.size w w' := by
  have hbo := fun w => refBoth_any L p q r s w
  have cB0 : ((w.alloc (.cells #[.int .i64 p, .int .i64 q] 23)).alloc (.cells #[.int .i64 r, .int .i64 s] 23)).cell? ⟨w.heap.size + 1, 0, none⟩ = some (.int .i64 r) := (cell_of_row _ _ 0 _ _ _ (heap_alloc2_new w _ _)).trans rfl
  have cB1 : ((w.alloc (.cells #[.int .i64 p, .int .i64 q] 23)).alloc (.cells #[.int .i64 r, .int .i64 s] 23)).cell? ⟨w.heap.size + 1, 1, none⟩ = some (.int .i64 s) := (cell_of_row _ _ 1 _ _ _ (heap_alloc2_new w _ _)).trans rfl
  have cA0 : ((w.alloc (.cells #[.int .i64 p, .int .i64 q] 23)).alloc (.cells #[.int .i64 r, .int .i64 s] 23)).cell? ⟨w.heap.size, 0, none⟩ = some (.int .i64 p) := (cell_of_row _ _ 0 _ _ _ ((hold_old _ _ _ (by simp)).trans (heap_alloc_new w _))).trans rfl
  have cA1 : ((w.alloc (.cells #[.int .i64 p, .int .i64 q] 23)).alloc (.cells #[.int .i64 r, .int .i64 s] 23)).cell? ⟨w.heap.size, 1, none⟩ = some (.int .i64 q) := (cell_of_row _ _ 1 _ _ _ ((hold_old _ _ _ (by simp)).trans (heap_alloc_new w _))).trans rfl
  by_cases hok : (waveOK L p q && waveOK L r s) = true
  · have hE0 : bothE L p q r s = 0 := by simp only [bothE, hok, if_true]
    rw [hE0] at hbo
    have hok2 : waveOK L p q = true ∧ waveOK L r s = true := by simpa using hok
    have hL := waveOK_true hok2.1
    have l1 : 4 ≤ L := by omega
    have l2 : L ≤ 64 := by omega
    obtain ⟨M, hM⟩ : ∃ M : Nat, M = L.toNat := ⟨_, rfl⟩
    have hML : ((M : Nat) : Int) = L := by omega
    have m1 : 1 ≤ M := by omega
    have m2 : M ≤ 64 := by omega
    have hw1 := fun w => refWaveL_any L p q w hok2.1
    have hw2 := fun w => refWaveL_any L r s w hok2.2
    rw [← hM] at hw1 hw2
    have hsz1 := silent_zero (xs := wav L p q)
    have hsz2 := silent_zero (xs := wav L r s)
    have hnp1 := norm_pos (L := L) (p := p) (q := q)
    have hnp2 := norm_pos (L := L) (p := r) (q := s)
    have hn1 := fun ao ca W c1 => refNorm_any (wav L p q) M ao ca W (wav_length _ _ _) m2 (wav_bd _ _ _) c1
    have hn2 := fun ao ca W c1 => refNorm_any (wav L r s) M ao ca W (wav_length _ _ _) m2 (wav_bd _ _ _) c1
    rw [← ovl_sqTo, hML] at hn1 hn2
    have hmE : matE L p q r s = if silentB (wav L p q) || silentB (wav L r s) then 4 else 0 := by simp only [matE, hok, if_true]
    have hmT : matE L p q r s = 0 → matT L p q r s = matR (bestN (wav L p q) (wav L r s) M) (ovl (wav L p q) (wav L p q) L 0 * ovl (wav L r s) (wav L r s) L 0) := fun h => by unfold matT; rw [if_pos h, hM]; rfl
    have hmT4 : matE L p q r s = 4 → matT L p q r s = ⟨#[]⟩ := fun h => by unfold matT; rw [h]; rfl
    have hmat := fun D ao ca bo cb W g1 g2 c1 c2 => refmatchL_any (wav L p q) (wav L r s) M D ao ca bo cb W (wav_length _ _ _) (wav_length _ _ _) m1 m2 (wav_bd _ _ _) (wav_bd _ _ _) g1 g2 c1 c2
    have b1 := ovl_bd (wav_bd L p q) (wav_bd L p q) L 0 (by omega)
    have b2 := ovl_bd (wav_bd L r s) (wav_bd L r s) L 0 (by omega)
    have nn1 := norm_nn (wav L p q) L
    have nn2 := norm_nn (wav L r s) L
    have z1 := fun h => hsz1 h M
    have z2 := fun h => hsz2 h M
    rw [hML] at z1 z2 hmat
    have hNb : 0 ≤ bestN (wav L p q) (wav L r s) M ∧ bestN (wav L p q) (wav L r s) M ≤ 1032256 := by
      rw [← bsR_full _ _ M m1 m2]; exact ⟨bsR_nn _ _ _ _, bsR_bd (wav_bd _ _ _) (wav_bd _ _ _) m2 _⟩
    clear hsz1 hsz2
    generalize silentB (wav L p q) = S1 at *
    generalize silentB (wav L r s) = S2 at *
    generalize ovl (wav L p q) (wav L p q) L 0 = n1 at *
    generalize ovl (wav L r s) (wav L r s) L 0 = n2 at *
    generalize bestN (wav L p q) (wav L r s) M = N at *
    generalize wav L p q = xs at *
    generalize wav L r s = ys at *
    generalize matE L p q r s = E at *
    generalize matT L p q r s = T at *
    have HB := Lib.hid hbo
    have HW1 := Lib.hid hw1; have HW2 := Lib.hid hw2; have HN1 := Lib.hid hn1; have HN2 := Lib.hid hn2
    have HMAT := Lib.hid hmat; have HMT := Lib.hid hmT; have HMT4 := Lib.hid hmT4
    have HZ1 := Lib.hid z1; have HZ2 := Lib.hid z2; have HP1 := Lib.hid hnp1; have HP2 := Lib.hid hnp2; have HME := Lib.hid hmE
    clear hbo hw1 hw2 hn1 hn2 hmat hmT hmT4 z1 z2 hnp1 hnp2 hmE hok hok2 hL hE0 hM
    go_enter Tryz.func26, Tryz.ntmps26
    go_wp2_with fail
    refine (HB.out _).mono ?_
    rintro e w1 ⟨rfl, hb1⟩
    have g1 : Below w.heap.size w w1 := (((Below.refl _ _).alloc (Nat.le_refl _) _).alloc (by simp) _).trans (hb1.mono (by simp; omega))
    have x0 := cell_keep cA0 hb1 (Nat.le_refl _)
    have x1 := cell_keep cA1 hb1 (Nat.le_refl _)
    have y0 := cell_keep cB0 hb1 (Nat.le_refl _)
    have y1 := cell_keep cB1 hb1 (Nat.le_refl _)
    have xd0 : w1.drew.cell? ⟨w.heap.size, 0, none⟩ = some (.int .i64 p) := x0
    have xd1 : w1.drew.cell? ⟨w.heap.size, 1, none⟩ = some (.int .i64 q) := x1
    have yd0 : w1.drew.cell? ⟨w.heap.size + 1, 0, none⟩ = some (.int .i64 r) := y0
    have yd1 : w1.drew.cell? ⟨w.heap.size + 1, 1, none⟩ = some (.int .i64 s) := y1
    clear cA0 cA1 cB0 cB1 hb1
    go_wp2_with fail
    go_region_held3 (fun w' => w'.cell? ⟨w.heap.size, 0, none⟩ = some (.int .i64 p) ∧ w'.cell? ⟨w.heap.size, 1, none⟩ = some (.int .i64 q) ∧ w'.cell? ⟨w.heap.size + 1, 0, none⟩ = some (.int .i64 r) ∧ w'.cell? ⟨w.heap.size + 1, 1, none⟩ = some (.int .i64 s))
      (first | with_reducible exact ⟨x0, x1, y0, y1⟩ | with_reducible exact ⟨xd0, xd1, yd0, yd1⟩ | with_reducible exact ⟨rx0, rx1, ry0, ry1⟩ | with_reducible exact ⟨px0, px1, py0, py1⟩ | go_keep)
      (first
        | (go_at_call 65; (with_reducible refine Calls.mono (HW1.out w1.drew) ?_); rintro e w2 ⟨⟨ba, ca, rfl, hca⟩, hb2⟩; have HA := Lib.hid hca; have hbz : Below w1.heap.size w1 w2 := ((Below.refl w1.heap.size w1).drew).trans hb2; have HB2 := Lib.hid hbz; have px0 := cell_keep x0 hbz (Nat.le_refl _); have px1 := cell_keep x1 hbz (Nat.le_refl _); have py0 := cell_keep y0 hbz (Nat.le_refl _); have py1 := cell_keep y1 hbz (Nat.le_refl _); clear hca hb2 hbz)
        | (go_at_call 65; (with_reducible refine Calls.mono (HW2.out w1.drew) ?_); rintro e w2 ⟨⟨bb, cb, rfl, hcb⟩, hb2⟩; have HBB := Lib.hid hcb; have hbz : Below w1.heap.size w1 w2 := ((Below.refl w1.heap.size w1).drew).trans hb2; have HB2 := Lib.hid hbz; have px0 := cell_keep x0 hbz (Nat.le_refl _); have px1 := cell_keep x1 hbz (Nat.le_refl _); have py0 := cell_keep y0 hbz (Nat.le_refl _); have py1 := cell_keep y1 hbz (Nat.le_refl _); clear hcb hb2 hbz)
        | (go_at_call 65; (with_reducible refine Calls.mono (HW1.out w2) ?_); rintro e w3 ⟨⟨ba, ca, rfl, hca⟩, hb3⟩; have HA3 := Lib.hid hca; have HBB3 := Lib.hid (HBB.out.below hb3 (Nat.le_refl _)); have hbz : Below w1.heap.size w1 w3 := HB2.out.trans (hb3.mono HB2.out.size); have HB3 := Lib.hid hbz; have rx0 := cell_keep x0 hbz (Nat.le_refl _); have rx1 := cell_keep x1 hbz (Nat.le_refl _); have ry0 := cell_keep y0 hbz (Nat.le_refl _); have ry1 := cell_keep y1 hbz (Nat.le_refl _); clear hca hb3 hbz)
        | (go_at_call 65; (with_reducible refine Calls.mono (HW2.out w2) ?_); rintro e w3 ⟨⟨bb, cb, rfl, hcb⟩, hb3⟩; have HBB3 := Lib.hid hcb; have HA3 := Lib.hid (HA.out.below hb3 (Nat.le_refl _)); have hbz : Below w1.heap.size w1 w3 := HB2.out.trans (hb3.mono HB2.out.size); have HB3 := Lib.hid hbz; have rx0 := cell_keep x0 hbz (Nat.le_refl _); have rx1 := cell_keep x1 hbz (Nat.le_refl _); have ry0 := cell_keep y0 hbz (Nat.le_refl _); have ry1 := cell_keep y1 hbz (Nat.le_refl _); clear hcb hb3 hbz))
    all_goals
      have g3 := g1.trans (HB3.out.mono g1.size)
      have CA := HA3.out
      have CB := HBB3.out
      clear x0 x1 y0 y1 xd0 xd1 yd0 yd1 px0 px1 py0 py1 rx0 rx1 ry0 ry1
      go_wp2_with fail
      refine (HN1.out _ _ _ CA).mono ?_
      rintro e w4 ⟨rfl, hb4⟩
      have g4 := g3.trans (hb4.mono g3.size)
      by_cases k1 : n1 = 0
      · have hS : S1 = true := by cases hs1 : S1; · have := HP1.out hs1; omega
                                  · rfl
        have hE4 : E = 4 := by rw [HME.out, hS]; rfl
        have hT4 := HMT4.out hE4
        subst hE4; subst hT4; subst k1
        go_wp2_with fail
        go_ret2
        exact ⟨rfl, g4⟩
      · have d1 : (n1 == 0) = false := by simpa using k1
        have hS1 : S1 = false := by cases hs1 : S1; · rfl
                                    · exact absurd (HZ1.out hs1) k1
        go_wp2_with fail
        refine (HN2.out _ _ _ (CB.below hb4 (Nat.le_refl _))).mono ?_
        rintro e w5 ⟨rfl, hb5⟩
        have g5 := g4.trans (hb5.mono g4.size)
        by_cases k2 : n2 = 0
        · have hS : S2 = true := by cases hs1 : S2; · have := HP2.out hs1; omega
                                    · rfl
          have hE4 : E = 4 := by rw [HME.out, hS, Bool.or_true]; rfl
          have hT4 := HMT4.out hE4
          subst hE4; subst hT4; subst k2
          go_wp2_with fail
          go_ret2
          exact ⟨rfl, g5⟩
        · have d2 : (n2 == 0) = false := by simpa using k2
          have hS2 : S2 = false := by cases hs1 : S2; · rfl
                                      · exact absurd (HZ2.out hs1) k2
          have hE00 : E = 0 := by rw [HME.out, hS1, hS2]; rfl
          have hT0 := HMT.out hE00
          have mm1 := Int.mul_le_mul (show n1 ≤ 1032256 by omega) (show n2 ≤ 1032256 by omega) (by omega) (by omega)
          have mm2 := Int.mul_le_mul (show 1 ≤ n1 by omega) (show 1 ≤ n2 by omega) (by omega) (by omega)
          have mm3 := Int.mul_le_mul hNb.2 hNb.2 hNb.1 (by omega)
          have mm4 := Int.mul_nonneg hNb.1 hNb.1
          obtain ⟨D, hD⟩ : ∃ D : Nat, (D : Int) = n1 * n2 := ⟨(n1 * n2).toNat, by omega⟩
          have hT1 : T = Z4.qT (decide (N * N < 0)) ((N * N).natAbs / Nat.gcd (N * N).natAbs D) (D / Nat.gcd (N * N).natAbs D) := by
            rw [hT0, ← hD, matR, rtext_same]
          have hnn : (N * N).natAbs / Nat.gcd (N * N).natAbs D ≤ (N * N).natAbs := Nat.div_le_self _ _
          have hdd : D / Nat.gcd (N * N).natAbs D ≤ D := Nat.div_le_self _ _
          have hgp : 0 < Nat.gcd (N * N).natAbs D := Nat.gcd_pos_of_pos_right _ (by omega)
          have hd1 : D / Nat.gcd (N * N).natAbs D ≠ 0 := by
            have := Nat.div_pos (Nat.le_of_dvd (by omega) (Nat.gcd_dvd_right (N * N).natAbs D)) hgp
            omega
          have hput := fun v W h => Z4.refPut_small v (decide (N * N < 0)) ((N * N).natAbs / Nat.gcd (N * N).natAbs D) (D / Nat.gcd (N * N).natAbs D) W h hd1 (rdig_len (by omega)) (rdig_len (by omega)) (Nat.le_trans (digits_u64 (by omega)) (by decide)) (Nat.le_trans (digits_u64 (by omega)) (by decide))
          rw [← hT1] at hput
          have hreal := fun v W h => Z4.real_any v (decide (N * N < 0)) ((N * N).natAbs / Nat.gcd (N * N).natAbs D) (D / Nat.gcd (N * N).natAbs D) W h
          have hma := fun ao ca bo cb W c1 c2 => HMAT.out D ao ca bo cb W hD (by omega) c1 c2
          have HPUT := Lib.hid hput; have HREAL := Lib.hid hreal; have HMA := Lib.hid hma
          have cb5 := CB.below (hb4.trans (hb5.mono hb4.size)) (Nat.le_refl _)
          have ca5 := CA.below (hb4.trans (hb5.mono hb4.size)) (Nat.le_refl _)
          clear hput hreal hma hd1 hgp hdd hnn hT1 hD mm1 mm2 mm3 mm4 hT0 hS1 hS2
          subst hE00
          go_wp2_with fail
          refine (HMA.out _ _ _ _ _ ca5 cb5).mono ?_
          rintro e w6 ⟨⟨v6, rfl, hv6⟩, hb6⟩
          go_wp2_with fail
          refine (HREAL.out _ _ hv6).mono ?_
          rintro e w7 ⟨⟨v7, rfl, hv7⟩, hb7⟩
          go_wp2_with fail
          refine (HPUT.out _ _ hv7).mono ?_
          rintro e w8 ⟨rfl, hb8⟩
          have g6 := g5.trans (hb6.mono g5.size)
          have g7 := g6.trans (hb7.mono g6.size)
          have g8 := g7.trans (hb8.mono g7.size)
          go_wp2
          go_ret2
          exact ⟨rfl, g8⟩
  · have hok' : (waveOK L p q && waveOK L r s) = false := by simpa using hok
    have hE : matE L p q r s = 70 := by simp only [matE, hok']; rfl
    have hV : matT L p q r s = ⟨#[]⟩ := by unfold matT; rw [hE]; rfl
    have hE0 : bothE L p q r s = 70 := by simp [bothE, hok']
    rw [hE0] at hbo
    rw [hE, hV]
    have HB := Lib.hid hbo
    clear hbo hE hV hE0 hok hok' cA0 cA1 cB0 cB1
    go_enter Tryz.func26, Tryz.ntmps26
    go_wp2_with (go_at_call 70; refine (HB.out _).mono ?_; rintro e w1 ⟨rfl, hb1⟩)
    go_ret2
    exact ⟨rfl, (((Below.refl _ _).alloc (Nat.le_refl _) _).alloc (by simp) _).trans (hb1.mono (by simp; omega))⟩
end Go.Proofs.YtbjhjbjjfbmoeaaGreatDoor

/- BankWaves: the walk. -/
namespace Go.Proofs.YtbjhjbjjfbmoeaaGreatDoor
open Go.RowKit

set_option maxRecDepth 100000 in
set_option maxHeartbeats 4000000 in
theorem waves_law (L p q r s t : Int) (w : World) (ht : Tab w) :
    Calls Tryz.prog 4 #[.agg #[.int .i64 L, .int .i64 p, .int .i64 q, .int .i64 r, .int .i64 s], .int .i64 t] w fun e w' => e = .returned (.bool true) ∧ Below w.heap.size w w' := by
  have hw1 := fun W => Wave_any L p q W
  have hw2 := fun W => refWave_any L p q W
  have hc1 := fun W => checkChirp_any L p q W
  have hc2 := fun W => refCheckChirp_any L p q W
  have hn1 := fun W => Norm_any L p q W
  have hn2 := fun W => refNormF_any L p q W
  have ho1 := fun W => Overlap_any L p q r s t W
  have ho2 := fun W => refOverlap_any L p q r s t W
  have hm1 := fun W hT => match_any L p q r s W hT
  have hm2 := fun W => refMatch_any L p q r s W
  have hlen : (wavR L p q).length ≤ 9223372036854775807 := by
    rw [wavR_length]
    by_cases h : waveOK L p q = true
    · rw [if_pos h]; have := waveOK_true h; omega
    · rw [if_neg h]; omega
  have hsi := fun aa ab ca cb W h1 h2 => same_ints_eq aa ab ca cb W (wavR L p q) _ rfl hlen h1 h2
  clear hlen
  generalize (wavR L p q).length = n at *
  generalize wavR L p q = xs at *
  generalize wavE L p q = E at *
  generalize nrmV L p q = N at *
  generalize ovrV L p q r s t = O at *
  generalize ovrE L p q r s t = OE at *
  generalize matT L p q r s = T at *
  generalize matE L p q r s = ME at *
  have HW1 := Lib.hid hw1; have HW2 := Lib.hid hw2; have HC1 := Lib.hid hc1; have HC2 := Lib.hid hc2; have HN1 := Lib.hid hn1; have HN2 := Lib.hid hn2
  have HO1 := Lib.hid ho1; have HO2 := Lib.hid ho2; have HM1 := Lib.hid hm1; have HM2 := Lib.hid hm2; have HSI := Lib.hid hsi
  have HB0 := Lib.hid ((Below.refl w.heap.size w).alloc (Nat.le_refl _) (.cells #[.int .i64 L, .int .i64 p, .int .i64 q, .int .i64 r, .int .i64 s] 32))
  have HT := Lib.hid (ht.below HB0.out (Nat.le_refl _))
  clear hw1 hw2 hc1 hc2 hn1 hn2 ho1 ho2 hm1 hm2 hsi ht
  go_enter Tryz.func4, Tryz.ntmps4
  go_wp2_with fail
  refine (HW1.out _).mono ?_
  rintro e w1 ⟨⟨ba, ca, rfl, hca⟩, hb1⟩
  have hbb1 := hb1.mono (show w.heap.size + 1 ≤ _ by simp)
  obtain ⟨y0, y1, y2, y3, y4⟩ := five_box hbb1 (by simp)
  have g1 := HB0.out.trans (hb1.mono HB0.out.size)
  have hz1 : w.heap.size + 1 ≤ w1.heap.size := by have := hb1.size; simpa using this
  go_wp2_with fail
  refine (HW2.out _).mono ?_
  rintro e w2 ⟨⟨bb, cb, rfl, hcb⟩, hb2⟩
  have hbb2 := hbb1.trans (hb2.mono hz1)
  clear y0 y1 y2 y3 y4
  obtain ⟨y0, y1, y2, y3, y4⟩ := five_box hbb2 (by simp)
  have g2 := g1.trans (hb2.mono g1.size)
  have hz2 : w.heap.size + 1 ≤ w2.heap.size := Nat.le_trans hz1 hb2.size
  have HCA := Lib.hid (hca.below hb2 (Nat.le_refl _))
  have HCB := Lib.hid hcb
  have HBB2 := Lib.hid hbb2; have HG2 := Lib.hid g2
  have HT2 := Lib.hid ((HT.out.below hb1 (Nat.le_refl _)).below hb2 (Nat.le_refl _))
  clear hca hcb hb1 hb2 hbb1 hbb2 g1 g2 hz1
  have hEE : (E != E) = false := by simp
  go_wp2_with fail
  refine wp_region_quiet (C := fun w' => Below w2.heap.size w2 w') (by kernel_rfl) (by kernel_rfl) (Below.refl _ w2).drew ?_
  simp only
  repeat
    (refine wpQuiet_step (fun K hK => ?_)
     go_simp
     first
       | (refine hK _ ?_; clear hK K)
       | (apply Exists.intro
          refine ⟨fun w' hw' => ?_, hK _ ?_⟩
          (first
            | rfl
            | (have z0' := cell_keep y0 hw' (Nat.le_refl _); go_simp; rfl)
            | (have z1' := cell_keep y1 hw' (Nat.le_refl _); have z2' := cell_keep y2 hw' (Nat.le_refl _); go_simp; rfl)
            | (with_reducible refine Calls.mono (HC1.out w') ?_; exact fun e w'' ⟨he, hb⟩ => ⟨he, hw'.trans (hb.mono hw'.size)⟩)
            | (with_reducible refine Calls.mono (HC2.out w') ?_; exact fun e w'' ⟨he, hb⟩ => ⟨he, hw'.trans (hb.mono hw'.size)⟩)
            | (with_reducible refine Calls.mono (HSI.out _ _ _ _ w' (HCA.out.below hw' (Nat.le_refl _)) (HCB.out.below hw' (Nat.le_refl _))) ?_; exact fun e w'' ⟨he, hb⟩ => ⟨he, hw'.trans (hb.mono hw'.size)⟩))
          clear hK K))
  refine wpQuiet_nil ?_
  intro w3 hb3
  clear y0 y1 y2 y3 y4
  have hbb3 := HBB2.out.trans (hb3.mono hz2)
  obtain ⟨y0, y1, y2, y3, y4⟩ := five_box hbb3 (by simp)
  have g3 := HG2.out.trans (hb3.mono HG2.out.size)
  have hz3 : w.heap.size + 1 ≤ w3.heap.size := Nat.le_trans hz2 hb3.size
  have HT3 := Lib.hid (HT2.out.below hb3 (Nat.le_refl _))
  clear hb3 hz2
  go_wp2_with fail
  refine (HN1.out _).mono ?_
  rintro e w4 ⟨rfl, hb4⟩
  have hbb4 := hbb3.trans (hb4.mono hz3)
  clear y0 y1 y2 y3 y4
  obtain ⟨y0, y1, y2, y3, y4⟩ := five_box hbb4 (by simp)
  have g4 := g3.trans (hb4.mono g3.size)
  have hz4 : w.heap.size + 1 ≤ w4.heap.size := Nat.le_trans hz3 hb4.size
  have HT4 := Lib.hid (HT3.out.below hb4 (Nat.le_refl _))
  go_wp2_with fail
  refine (HN2.out _).mono ?_
  rintro e w5 ⟨rfl, hb5⟩
  have hbb5 := hbb4.trans (hb5.mono hz4)
  clear y0 y1 y2 y3 y4
  obtain ⟨y0, y1, y2, y3, y4⟩ := five_box hbb5 (by simp)
  have g5 := g4.trans (hb5.mono g4.size)
  have hz5 : w.heap.size + 1 ≤ w5.heap.size := Nat.le_trans hz4 hb5.size
  have HT5 := Lib.hid (HT4.out.below hb5 (Nat.le_refl _))
  clear hb4 hb5 hbb3 hbb4 g3 g4 hz3 hz4
  go_wp2_with fail
  refine (HO1.out _).mono ?_
  rintro e w6 ⟨rfl, hb6⟩
  have hbb6 := hbb5.trans (hb6.mono hz5)
  clear y0 y1 y2 y3 y4
  obtain ⟨y0, y1, y2, y3, y4⟩ := five_box hbb6 (by simp)
  have g6 := g5.trans (hb6.mono g5.size)
  have hz6 : w.heap.size + 1 ≤ w6.heap.size := Nat.le_trans hz5 hb6.size
  have HT6 := Lib.hid (HT5.out.below hb6 (Nat.le_refl _))
  go_wp2_with fail
  refine (HO2.out _).mono ?_
  rintro e w7 ⟨rfl, hb7⟩
  have hbb7 := hbb6.trans (hb7.mono hz6)
  clear y0 y1 y2 y3 y4
  obtain ⟨y0, y1, y2, y3, y4⟩ := five_box hbb7 (by simp)
  have g7 := g6.trans (hb7.mono g6.size)
  have hz7 : w.heap.size + 1 ≤ w7.heap.size := Nat.le_trans hz6 hb7.size
  have HT7 := Lib.hid (HT6.out.below hb7 (Nat.le_refl _))
  clear hb6 hb7 hbb5 hbb6 g5 g6 hz5 hz6
  go_wp2_with fail
  refine (HM1.out _ HT7.out).mono ?_
  rintro e w8 ⟨rfl, hb8⟩
  have hbb8 := hbb7.trans (hb8.mono hz7)
  clear y0 y1 y2 y3 y4
  obtain ⟨y0, y1, y2, y3, y4⟩ := five_box hbb8 (by simp)
  have g8 := g7.trans (hb8.mono g7.size)
  have HT8 := Lib.hid (HT7.out.below hb8 (Nat.le_refl _))
  go_wp2_with fail
  refine (HM2.out _).mono ?_
  rintro e w9 ⟨rfl, hb9⟩
  have g9 := g8.trans (hb9.mono g8.size)
  have HT9 := Lib.hid (HT8.out.below hb9 (Nat.le_refl _))
  clear y0 y1 y2 y3 y4 hb8 hb9 hbb7 hbb8 g7 g8 hz7
  go_wp2_with (go_at_call 15; refine (bworks_any _ HT9.out).mono ?_; rintro e w10 ⟨rfl, hb10⟩)
  go_ret
  exact ⟨rfl, g9.trans (hb10.mono g9.size)⟩
end Go.Proofs.YtbjhjbjjfbmoeaaGreatDoor
