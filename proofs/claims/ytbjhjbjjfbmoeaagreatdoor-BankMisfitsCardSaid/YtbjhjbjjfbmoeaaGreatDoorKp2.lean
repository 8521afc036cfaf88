/- Parts of a proof, in build order: PA, P6. -/
import Derived.Test.YtbjhjbjjfbmoeaaGreatDoorKp1

/- Misfit, of the reference: what is not in order; in general. -/
namespace Go.Proofs.YtbjhjbjjfbmoeaaGreatDoor
open Go.RowKit

set_option maxRecDepth 100000 in
set_option maxHeartbeats 4000000 in
theorem refMisfit_any (L p q : Int) (ao : Option Addr) (ds : List Int) (cap : Nat) (t n : Int) (w : World) (hc : Cells w ao (ds.map (Value.int .i64))) (hcap : ds.length ≤ cap) (hl : ds.length ≤ 17592186044415) :
    Calls Tryz.prog 31 #[.int .i64 L, .agg #[.int .i64 p, .int .i64 q], .slice ao ds.length cap, .int .i64 t, .int .i64 n] w fun e w' => e = .returned (.tuple #[.string (misT L p q ds t n), .int .i64 (misE L p q ds t n)]) ∧ Below w.heap.size w w' := by
  have bad : ∀ x : Int, x ≠ 0 → misE L p q ds t n = x → misT L p q ds t n = ⟨#[]⟩ := fun x hx h => by unfold misT; rw [h, if_neg hx]
  have hck := fun w => refCheckChirp_any L p q w
  cases h1 : waveOK L p q
  · have he : misE L p q ds t n = 70 := by simp [misE, h1]
    rw [bad _ (by decide) he, he]
    have hE : wavE L p q = 70 := by simp [wavE, h1]
    rw [hE] at hck
    have HC := Lib.hid hck
    clear bad hck he hE h1 hc
    go_enter Tryz.func31, Tryz.ntmps31
    go_wp2_with (go_at_call 19; refine (HC.out _).mono ?_; rintro e w1 ⟨rfl, hb1⟩)
    go_ret2
    exact ⟨rfl, ((Below.refl _ _).alloc (Nat.le_refl _) _).trans (hb1.mono (by simp))⟩
  by_cases he0 : misE L p q ds t n = 0
  · have hT : misT L p q ds t n = ofT (misQ L p q ds t n).1 (misQ L p q ds t n).2 := by unfold misT; rw [he0, if_pos rfl]
    rw [hT, he0]; exact refMisfit_ok L p q ao ds cap t n w hc hcap he0
  have hE : wavE L p q = 0 := by simp [wavE, h1]
  rw [hE] at hck
  have hL := waveOK_true h1
  have l1 : 4 ≤ L := by omega
  have l2 : L ≤ 64 := by omega
  obtain ⟨M, hM⟩ : ∃ M : Nat, M = L.toNat := ⟨_, rfl⟩
  have hwv := fun w => refWaveL_any L p q w h1
  have hnm := fun ao cap wx hc => refNorm_any (wav L p q) M ao cap wx (wav_length _ _ _) (by omega) (wav_bd _ _ _) hc
  have hsz := fun h => silent_zero (xs := wav L p q) h M
  rw [ovl_sqTo] at hsz
  have hnp := norm_pos (L := L) (p := p) (q := q)
  rw [show ovl (wav L p q) (wav L p q) L 0 = sqTo (wav L p q) 0 M by rw [← ovl_sqTo]; congr 1; omega] at hnp
  have hda := fun wx hcx => refData_any ao ds cap wx hcx (by omega)
  have hmE : misE L p q ds t n = if silentB (wav L p q) then 4 else if dataOK ds then (if t < 0 ∨ (ds.length : Int) - L < t then 8 else if inB 1 n 8 && decide (L % n = 0) then 0 else 2) else 73 := by unfold misE; rw [h1]; rfl
  rw [← hM] at hwv
  generalize silentB (wav L p q) = SB at *
  generalize sqTo (wav L p q) 0 M = S at *
  generalize wav L p q = xs at *
  generalize dataOK ds = DO at *
  generalize misT L p q ds t n = T at *
  generalize misE L p q ds t n = E at *
  have HC := Lib.hid hck; have HW := Lib.hid hwv; have HN := Lib.hid hnm; have HSZ := Lib.hid hsz; have HNP := Lib.hid hnp; have HDA := Lib.hid hda; have HME := Lib.hid hmE; have HBAD := Lib.hid bad; have HE0 := Lib.hid he0; have HCD := Lib.hid hc
  clear hck hwv hnm hsz hnp hda hmE bad he0 hc hE h1 hM hL
  go_enter Tryz.func31, Tryz.ntmps31
  go_wp2_with fail
  refine (HC.out _).mono ?_
  rintro e w1 ⟨rfl, hb1⟩
  have y0 : w1.cell? ⟨w.heap.size, 0, none⟩ = some (.int .i64 p) := box_keep hb1 (by simp) 0
  have y1 : w1.cell? ⟨w.heap.size, 1, none⟩ = some (.int .i64 q) := box_keep hb1 (by simp) 1
  have g1 := ((Below.refl w.heap.size w).alloc (Nat.le_refl _) _).trans (hb1.mono (by simp))
  go_wp2_with fail
  refine (HW.out _).mono ?_
  rintro e w2 ⟨⟨b, c, rfl, hc⟩, hb2⟩
  have HCC := Lib.hid hc; clear hc y0 y1
  have g2 := g1.trans (hb2.mono g1.size)
  go_wp2_with fail
  refine (HN.out _ _ _ HCC.out).mono ?_
  rintro e w3 ⟨rfl, hb3⟩
  have g3 := g2.trans (hb3.mono g2.size)
  clear hb1 hb2 hb3 g1 g2 HCC
  cases SB
  · have hS1 := HNP.out rfl
    have d1 : (S == 0) = false := by rw [beq_eq_false_iff_ne]; omega
    have hd := HDA.out w3 (HCD.out.below g3 (Nat.le_refl _))
    cases DO
    · have hE : E = 73 := HME.out
      have hT := HBAD.out 73 (by decide) hE
      have HD := Lib.hid hd
      clear hd
      subst hE; subst hT
      go_wp2_with (go_at_call 83; refine (HD.out).mono ?_; rintro e w4 ⟨rfl, hb4⟩)
      go_ret2
      exact ⟨rfl, g3.trans (hb4.mono g3.size)⟩
    · have HD := Lib.hid hd
      have hin1 := fun W => rin_any t 0 (ds.length - L) W
      have hin2 := fun W => rin_any n 1 8 W
      have q1 : IntKind.i64.wrap ((ds.length : Int) - L) = (ds.length : Int) - L := IntWalk.i64_in _ (by omega)
      clear hd
      cases hi1 : inB 0 t (ds.length - L)
      · have hE : E = 8 := by
          rw [HME.out, if_neg (by decide), if_pos rfl, if_pos]
          simp only [inB, decide_eq_false_iff_not] at hi1
          omega
        have hT := HBAD.out 8 (by decide) hE
        rw [hi1] at hin1
        have HI1 := Lib.hid hin1
        clear hin1 hin2 hi1
        subst hE; subst hT
        go_wp2_with (first
          | (go_at_call 83; refine (HD.out).mono ?_; rintro e w4 ⟨rfl, hb4⟩)
          | (go_at_call 42; (with_reducible refine Calls.mono (HI1.out _) ?_); rintro e w' ⟨rfl, rfl⟩))
        go_ret2
        exact ⟨rfl, g3.trans (hb4.mono g3.size)⟩
      · have ht : ¬ (t < 0 ∨ (ds.length : Int) - L < t) := by
          simp only [inB, decide_eq_true_eq] at hi1
          omega
        have hE2 : E = 2 := by
          have h0 := HE0.out
          have h1 := HME.out
          rw [if_neg (by decide), if_pos rfl, if_neg ht] at h1
          split at h1
          · exact absurd h1 h0
          · exact h1
        have hT := HBAD.out 2 (by decide) hE2
        rw [hi1] at hin1
        have HI1 := Lib.hid hin1
        cases hi2 : inB 1 n 8
        · rw [hi2] at hin2
          have HI2 := Lib.hid hin2
          clear hin1 hin2 hi1 hi2 ht HBAD
          subst hE2; subst hT
          go_wp2_with (first
            | (go_at_call 83; refine (HD.out).mono ?_; rintro e w4 ⟨rfl, hb4⟩)
            | (go_at_call 42; (with_reducible refine Calls.mono (HI1.out _) ?_); rintro e w' ⟨rfl, rfl⟩)
            | (go_at_call 42; (with_reducible refine Calls.mono (HI2.out _) ?_); rintro e w' ⟨rfl, rfl⟩))
          go_ret2
          exact ⟨rfl, g3.trans (hb4.mono g3.size)⟩
        · have hn : 1 ≤ n ∧ n ≤ 8 := by simpa [inB] using hi2
          have hm : L % n ≠ 0 := by
            intro h
            have h1 := HME.out
            rw [if_neg (by decide), if_pos rfl, if_neg ht, hi2, h] at h1
            exact HE0.out h1
          have hr : Int.tmod L n = L % n := Int.tmod_eq_emod_of_nonneg (by omega)
          have hr1 := Int.emod_nonneg L (show n ≠ 0 by omega)
          have hr2 := Int.emod_lt_of_pos L (show 0 < n by omega)
          have hne : (L % n != 0) = true := by simpa using hm
          rw [hi2] at hin2
          have HI2 := Lib.hid hin2
          generalize L % n = R at *
          clear hin1 hin2 hi1 hi2 ht HBAD
          subst hE2; subst hT
          go_wp2_with (first
            | (go_at_call 83; refine (HD.out).mono ?_; rintro e w4 ⟨rfl, hb4⟩)
            | (go_at_call 42; (with_reducible refine Calls.mono (HI1.out _) ?_); rintro e w' ⟨rfl, rfl⟩)
            | (go_at_call 42; (with_reducible refine Calls.mono (HI2.out _) ?_); rintro e w' ⟨rfl, rfl⟩))
          go_ret2
          exact ⟨rfl, g3.trans (hb4.mono g3.size)⟩
  · have hz := HSZ.out rfl
    have hE : E = 4 := HME.out
    have hT := HBAD.out 4 (by decide) hE
    subst hE; subst hT; subst hz
    go_wp2
    go_ret2
    exact ⟨rfl, g3⟩
end Go.Proofs.YtbjhjbjjfbmoeaaGreatDoor

/- BankMisfits: the walk. -/
namespace Go.Proofs.YtbjhjbjjfbmoeaaGreatDoor
open Go.RowKit

set_option maxRecDepth 100000 in
set_option maxHeartbeats 4000000 in
theorem misfits_law (L p q : Int) (al : Option Addr) (nl cl : Nat) (aa : Option Addr) (ds : List Int) (ca : Nat) (va fl wi n0 n1 n2 : Int) (w : World) (ht : Tab w) (hc : Cells w aa (ds.map (Value.int .i64))) (hl : ds.length ≤ 17592186044415) (hcap : ds.length ≤ ca) :
    Calls Tryz.prog 7 #[.agg #[.int .i64 L, .slice al nl cl, .slice aa ds.length ca, .int .i64 va, .int .i64 fl, .int .i64 wi], .agg #[.int .i64 p, .int .i64 q], .agg #[.int .i64 n0, .int .i64 n1, .int .i64 n2]] w fun e w' => e = .returned (.bool true) ∧ Below w.heap.size w w' := by
  have hm := fun wx hT hC => misfit_any L p q aa ds ca n0 n1 wx hT hC (by omega)
  have hr := fun wx hC => refMisfit_any L p q aa ds ca n0 n1 wx hC hcap hl
  have hs := fun wx => sure_any L p q n2 va fl wx
  have hsr := fun wx => refSure_any L p q n2 va fl wx
  have hone := fun v e v' e' => SurT.one (L := L) (p := p) (q := q) (ns := n2) (va := va) (fl := fl) (v := v) (e := e) (v' := v') (e' := e')
  generalize misE L p q ds n0 n1 = E at *
  generalize misT L p q ds n0 n1 = T at *
  generalize SurT L p q n2 va fl = SR at *
  have HM := Lib.hid hm; have HR := Lib.hid hr; have HS := Lib.hid hs; have HSR := Lib.hid hsr; have HONE := Lib.hid hone
  clear hm hr hs hsr hone
  obtain ⟨W0, hW0⟩ : ∃ W0, ((w.alloc (.cells #[.int .i64 L, .slice al nl cl, .slice aa ds.length ca, .int .i64 va, .int .i64 fl, .int .i64 wi] 47)).alloc (.cells #[.int .i64 p, .int .i64 q] 23)).alloc (.cells #[.int .i64 n0, .int .i64 n1, .int .i64 n2] 48) = W0 := ⟨_, rfl⟩
  have hB0 : Below w.heap.size w W0 := by rw [← hW0]; exact (((Below.refl _ w).alloc (Nat.le_refl _) _).alloc (by simp) _).alloc (by simp; omega) _
  have hs0 : W0.heap.size = w.heap.size + 3 := by rw [← hW0]; simp
  have b0 : W0.heap[w.heap.size]? = some (.cells #[.int .i64 L, .slice al nl cl, .slice aa ds.length ca, .int .i64 va, .int .i64 fl, .int .i64 wi] 47 (0, 0)) := by rw [← hW0, hold_old _ _ _ (by simp; omega)]; exact heap_alloc2_old w _ _
  have b1 : W0.heap[w.heap.size + 1]? = some (.cells #[.int .i64 p, .int .i64 q] 23 (0, 0)) := by rw [← hW0, hold_old _ _ _ (by simp)]; exact heap_alloc2_new w _ _
  have b2 : W0.heap[w.heap.size + 1 + 1]? = some (.cells #[.int .i64 n0, .int .i64 n1, .int .i64 n2] 48 (0, 0)) := by
    have hsz : ((w.alloc (.cells #[.int .i64 L, .slice al nl cl, .slice aa ds.length ca, .int .i64 va, .int .i64 fl, .int .i64 wi] 47)).alloc (.cells #[.int .i64 p, .int .i64 q] 23)).heap.size = w.heap.size + 1 + 1 := by simp
    rw [← hW0, ← hsz]; exact heap_alloc_new _ _
  have FK : ∀ wx, Below W0.heap.size W0 wx → (wx.cell? ⟨w.heap.size, 0, none⟩ = some (.int .i64 L) ∧ wx.cell? ⟨w.heap.size, 2, none⟩ = some (.slice aa ds.length ca) ∧ wx.cell? ⟨w.heap.size, 3, none⟩ = some (.int .i64 va) ∧ wx.cell? ⟨w.heap.size, 4, none⟩ = some (.int .i64 fl)) ∧ (wx.cell? ⟨w.heap.size + 1, 0, none⟩ = some (.int .i64 p) ∧ wx.cell? ⟨w.heap.size + 1, 1, none⟩ = some (.int .i64 q)) ∧ (wx.cell? ⟨w.heap.size + 1 + 1, 0, none⟩ = some (.int .i64 n0) ∧ wx.cell? ⟨w.heap.size + 1 + 1, 1, none⟩ = some (.int .i64 n1) ∧ wx.cell? ⟨w.heap.size + 1 + 1, 2, none⟩ = some (.int .i64 n2)) ∧ Tab wx ∧ Cells wx aa (ds.map (Value.int .i64)) ∧ Below w.heap.size w wx := by
    intro wx hb
    have e0 := (hb.block _ (by omega)).trans b0
    have e1 := (hb.block _ (by omega)).trans b1
    have e2 := (hb.block _ (by omega)).trans b2
    have e3 : Below w.heap.size w wx := hB0.trans (hb.mono (by omega))
    exact ⟨⟨(cell_of_row wx _ 0 _ _ _ e0).trans rfl, (cell_of_row wx _ 2 _ _ _ e0).trans rfl, (cell_of_row wx _ 3 _ _ _ e0).trans rfl, (cell_of_row wx _ 4 _ _ _ e0).trans rfl⟩, ⟨(cell_of_row wx _ 0 _ _ _ e1).trans rfl, (cell_of_row wx _ 1 _ _ _ e1).trans rfl⟩, ⟨(cell_of_row wx _ 0 _ _ _ e2).trans rfl, (cell_of_row wx _ 1 _ _ _ e2).trans rfl, (cell_of_row wx _ 2 _ _ _ e2).trans rfl⟩, ht.below e3 (Nat.le_refl _), hc.below e3 (Nat.le_refl _), e3⟩
  have HFK := Lib.hid FK; have HW0 := Lib.hid hW0; have HS0 := Lib.hid hs0
  clear FK hW0 hs0 b0 b1 b2 hB0
  clear ht hc
  go_enter Tryz.func7, Tryz.ntmps7
  go_wp2_with fail
  rw [HW0.out]
  obtain ⟨⟨y0, y2, y3, y4⟩, ⟨z0, z1⟩, ⟨u0, u1, u2⟩, hT, hC, _⟩ := HFK.out W0 (Below.refl _ _)
  refine (HM.out _ hT hC).mono ?_
  rintro e w1 ⟨rfl, hb1⟩
  clear y0 y2 y3 y4 z0 z1 u0 u1 u2 hT hC
  obtain ⟨⟨y0, y2, y3, y4⟩, ⟨z0, z1⟩, ⟨u0, u1, u2⟩, hT, hC, _⟩ := HFK.out w1 hb1
  have HC1 := Lib.hid hC
  clear hT hC
  go_wp2_with fail
  refine (HR.out _ HC1.out).mono ?_
  rintro e w2 ⟨rfl, hb2⟩
  have hb2 := hb1.trans (hb2.mono hb1.size)
  clear y0 y2 y3 y4 z0 z1 u0 u1 u2 HC1
  obtain ⟨⟨y0, y2, y3, y4⟩, ⟨z0, z1⟩, ⟨u0, u1, u2⟩, hT, hC, _⟩ := HFK.out w2 hb2
  have hEE : (E != E) = false := by simp
  have hTT : (T.toList != T.toList) = false := by simp
  clear hT hC hb1
  go_wp2_with fail
  refine (HS.out _).mono ?_
  rintro e w3 ⟨⟨v3, x3, rfl, hs3⟩, hb3⟩
  have hb3 := hb2.trans (hb3.mono hb2.size)
  clear y0 y2 y3 y4 z0 z1 u0 u1 u2 hEE hTT
  obtain ⟨⟨y0, y2, y3, y4⟩, ⟨z0, z1⟩, ⟨u0, u1, u2⟩, hT, hC, _⟩ := HFK.out w3 hb3
  clear hT hC hb2
  go_wp2_with fail
  refine (HSR.out _).mono ?_
  rintro e w4 ⟨⟨v4, x4, rfl, hs4⟩, hb4⟩
  have hb4 := hb3.trans (hb4.mono hb3.size)
  clear y0 y2 y3 y4 z0 z1 u0 u1 u2
  obtain ⟨rfl, rfl⟩ := HONE.out _ _ _ _ hs3 hs4
  obtain ⟨_, _, _, hT, _, g4⟩ := HFK.out w4 hb4
  have HT4 := Lib.hid hT
  clear hT hb3 hs3 hs4
  go_wp2_with (go_at_call 15; refine (bworks_any _ HT4.out).mono ?_; rintro e w5 ⟨rfl, hb5⟩)
  go_ret
  exact ⟨rfl, g4.trans (hb5.mono g4.size)⟩
end Go.Proofs.YtbjhjbjjfbmoeaaGreatDoor
