/- Parts of a proof, in build order: Cp, Cr, Cs, Si, Ct, Cq, Cv. -/
import Derived.Test.YtbjhjbjjfbmoeaaGreatDoorKl9

/- The bank: Misfit. -/
namespace Go.Proofs.YtbjhjbjjfbmoeaaGreatDoor
open Go.RowKit

set_option maxRecDepth 100000 in
set_option maxHeartbeats 4000000 in
theorem misfit_wave (L p q : Int) (ao : Option Addr) (ds : List Int) (cap : Nat) (t n : Int) (w : World) (hc : Cells w ao (ds.map (Value.int .i64))) (hl : ds.length ≤ 9223372036854775807) (h1 : waveOK L p q = false) :
    Calls Tryz.prog 28 #[.int .i64 L, .agg #[.int .i64 p, .int .i64 q], .slice ao ds.length cap, .int .i64 t, .int .i64 n] w fun e w' => e = .returned (.tuple #[.string ⟨#[]⟩, .int .i64 70]) ∧ Below w.heap.size w w' := by
  obtain ⟨Z, hZ⟩ : ∃ Z, Z = shp 0 (smp 0 0 0) := ⟨_, rfl⟩
  have z : Tryz.zeroCells101 = Z := by rw [hZ]; exact zero101
  have hZs : Z.size = 65 := by rw [hZ, shp_size, smp_length]
  have hw1 := fun w => wave_any L p q w
  have hst := store_shape (waveV L p q) Z (waveV_size L p q) hZs (waveV_one L p q)
  have hVs := waveV_size L p q
  have hsi := fun (h : waveOK L p q = true) w => silent_any L (wav L p q) w (wav_length _ _ _)
  have hVe : waveOK L p q = true → waveV L p q = shp L (wav L p q) := fun h => by simp [waveV, h]
  have hda := fun wx hcx => dataOK_any ao ds cap wx hcx hl
  rw [h1] at hw1
  clear hsi hVe
  generalize waveV L p q = V at *
  have hne : ¬ V = #[] := by intro h; rw [h] at hVs; simp at hVs
  have hi : (Tryz.prog.info? 101).map (·.size) = some V.size := by rw [hVs]; kernel_rfl
  have HI := Lib.hid hi; clear hi
  have HW := Lib.hid hw1; clear hw1
  have HDA := Lib.hid hda; clear hda
  have HC := Lib.hid hc; clear hc
  clear hZ
  obtain ⟨W0, hW0⟩ : ∃ W0, ((w.alloc (.cells #[.int .i64 p, .int .i64 q] 23)).alloc (.cells #[.slice ao ds.length cap] 24)).alloc (.cells #[.int .i64 t] 3) = W0 := ⟨_, rfl⟩
  have hB0 : Below w.heap.size w W0 := by rw [← hW0]; exact (((Below.refl _ w).alloc (Nat.le_refl _) _).alloc (by simp) _).alloc (by simp; omega) _
  have hs0 : W0.heap.size = w.heap.size + 3 := by rw [← hW0]; simp
  have b0 : W0.heap[w.heap.size]? = some (.cells #[.int .i64 p, .int .i64 q] 23 (0, 0)) := by rw [← hW0, hold_old _ _ _ (by simp; omega)]; exact heap_alloc2_old w _ _
  have b1 : W0.heap[w.heap.size + 1]? = some (.cells #[.slice ao ds.length cap] 24 (0, 0)) := by rw [← hW0, hold_old _ _ _ (by simp)]; exact heap_alloc2_new w _ _
  have b2 : W0.heap[w.heap.size + 1 + 1]? = some (.cells #[.int .i64 t] 3 (0, 0)) := by
    have hsz : ((w.alloc (.cells #[.int .i64 p, .int .i64 q] 23)).alloc (.cells #[.slice ao ds.length cap] 24)).heap.size = w.heap.size + 1 + 1 := by simp
    rw [← hW0, ← hsz]; exact heap_alloc_new _ _
  have a0 := (cell_of_row W0 _ 0 _ _ _ b0).trans rfl
  have a1 := (cell_of_row W0 _ 1 _ _ _ b0).trans rfl
  have B1 := Lib.hid b1; have B2 := Lib.hid b2; clear b0 b1 b2
  have HS0 := Lib.hid hs0; clear hs0
  have HW0 := Lib.hid hW0; clear hW0
  go_enter Tryz.func28, Tryz.ntmps28
  go_wp2_with fail
  rw [HW0.out]
  refine (HW.out _).mono ?_
  rintro e w1 ⟨rfl, hb1⟩
  have g1 : Below w.heap.size w w1 := hB0.trans (hb1.mono (by have := hB0.size; omega))
  have g1a : Below w.heap.size w (w1.alloc (.cells V 101)) := g1.alloc g1.size _
  go_wp2
  go_ret2
  exact ⟨rfl, g1a⟩

set_option maxRecDepth 100000 in
set_option maxHeartbeats 4000000 in
theorem misfit_silent (L p q : Int) (ao : Option Addr) (ds : List Int) (cap : Nat) (t n : Int) (w : World) (hc : Cells w ao (ds.map (Value.int .i64))) (hl : ds.length ≤ 9223372036854775807) (h1 : waveOK L p q = true) (h2 : silentB (wav L p q) = true) :
    Calls Tryz.prog 28 #[.int .i64 L, .agg #[.int .i64 p, .int .i64 q], .slice ao ds.length cap, .int .i64 t, .int .i64 n] w fun e w' => e = .returned (.tuple #[.string ⟨#[]⟩, .int .i64 4]) ∧ Below w.heap.size w w' := by
  obtain ⟨Z, hZ⟩ : ∃ Z, Z = shp 0 (smp 0 0 0) := ⟨_, rfl⟩
  have z : Tryz.zeroCells101 = Z := by rw [hZ]; exact zero101
  have hZs : Z.size = 65 := by rw [hZ, shp_size, smp_length]
  have hw1 := fun w => wave_any L p q w
  have hst := store_shape (waveV L p q) Z (waveV_size L p q) hZs (waveV_one L p q)
  have hVs := waveV_size L p q
  have hsi := fun (h : waveOK L p q = true) w => silent_any L (wav L p q) w (wav_length _ _ _)
  have hVe : waveOK L p q = true → waveV L p q = shp L (wav L p q) := fun h => by simp [waveV, h]
  have hda := fun wx hcx => dataOK_any ao ds cap wx hcx hl
  rw [h1] at hw1
  replace hsi := hsi h1
  replace hVe := hVe h1
  rw [← hVe] at hsi
  rw [h2] at hsi
  clear hVe
  generalize waveV L p q = V at *
  have hne : ¬ V = #[] := by intro h; rw [h] at hVs; simp at hVs
  have hi : (Tryz.prog.info? 101).map (·.size) = some V.size := by rw [hVs]; kernel_rfl
  have HI := Lib.hid hi; clear hi
  have HW := Lib.hid hw1; clear hw1
  have HDA := Lib.hid hda; clear hda
  have HC := Lib.hid hc; clear hc
  clear hZ
  have HSI := Lib.hid hsi; clear hsi
  obtain ⟨W0, hW0⟩ : ∃ W0, ((w.alloc (.cells #[.int .i64 p, .int .i64 q] 23)).alloc (.cells #[.slice ao ds.length cap] 24)).alloc (.cells #[.int .i64 t] 3) = W0 := ⟨_, rfl⟩
  have hB0 : Below w.heap.size w W0 := by rw [← hW0]; exact (((Below.refl _ w).alloc (Nat.le_refl _) _).alloc (by simp) _).alloc (by simp; omega) _
  have hs0 : W0.heap.size = w.heap.size + 3 := by rw [← hW0]; simp
  have b0 : W0.heap[w.heap.size]? = some (.cells #[.int .i64 p, .int .i64 q] 23 (0, 0)) := by rw [← hW0, hold_old _ _ _ (by simp; omega)]; exact heap_alloc2_old w _ _
  have b1 : W0.heap[w.heap.size + 1]? = some (.cells #[.slice ao ds.length cap] 24 (0, 0)) := by rw [← hW0, hold_old _ _ _ (by simp)]; exact heap_alloc2_new w _ _
  have b2 : W0.heap[w.heap.size + 1 + 1]? = some (.cells #[.int .i64 t] 3 (0, 0)) := by
    have hsz : ((w.alloc (.cells #[.int .i64 p, .int .i64 q] 23)).alloc (.cells #[.slice ao ds.length cap] 24)).heap.size = w.heap.size + 1 + 1 := by simp
    rw [← hW0, ← hsz]; exact heap_alloc_new _ _
  have a0 := (cell_of_row W0 _ 0 _ _ _ b0).trans rfl
  have a1 := (cell_of_row W0 _ 1 _ _ _ b0).trans rfl
  have B1 := Lib.hid b1; have B2 := Lib.hid b2; clear b0 b1 b2
  have HS0 := Lib.hid hs0; clear hs0
  have HW0 := Lib.hid hW0; clear hW0
  go_enter Tryz.func28, Tryz.ntmps28
  go_wp2_with fail
  rw [HW0.out]
  refine (HW.out _).mono ?_
  rintro e w1 ⟨rfl, hb1⟩
  have g1 : Below w.heap.size w w1 := hB0.trans (hb1.mono (by have := hB0.size; omega))
  have g1a : Below w.heap.size w (w1.alloc (.cells V 101)) := g1.alloc g1.size _
  have hs1 := hb1.size
  have hs1a : (w1.alloc (.cells V 101)).heap.size = w1.heap.size + 1 := by simp
  have FK : ∀ wx, Below (w1.heap.size + 1) (w1.alloc (.cells V 101)) wx → wx.heap[w1.heap.size]? = some (.cells V 101 (0, 0)) ∧ wx.cell? ⟨w.heap.size + 1, 0, none⟩ = some (.slice ao ds.length cap) ∧ wx.cell? ⟨w.heap.size + 1 + 1, 0, none⟩ = some (.int .i64 t) ∧ Cells wx ao (ds.map (Value.int .i64)) ∧ Below w.heap.size w wx := by
    intro wx hb
    have h0 := HS0.out
    have e1 : wx.heap[w.heap.size + 1]? = _ := (hb.block _ (by omega)).trans ((hold_old w1 _ _ (by omega)).trans ((hb1.block _ (by omega)).trans B1.out))
    have e2 : wx.heap[w.heap.size + 1 + 1]? = _ := (hb.block _ (by omega)).trans ((hold_old w1 _ _ (by omega)).trans ((hb1.block _ (by omega)).trans B2.out))
    have e3 : Below w.heap.size w wx := g1a.trans (hb.mono (by omega))
    exact ⟨(hb.block _ (by omega)).trans (heap_alloc_new _ _), (cell_of_row wx _ 0 _ _ _ e1).trans rfl, (cell_of_row wx _ 0 _ _ _ e2).trans rfl, HC.out.below e3 (Nat.le_refl _), e3⟩
  have HFK := Lib.hid FK; clear FK
  have HS1 := Lib.hid hs1; have HS1A := Lib.hid hs1a; clear hs1 hs1a
  go_wp2_with (first
    | (refine wpList_load_row (by rfl) 101 _ (by rfl) w1.heap.size (by rfl) _ V _ _ (HFK.out _ (Below.refl _ _)).1 Tryz.underlying101 (by rfl) HI.out ?_)
    | (go_at_call 72; refine (HSI.out _).mono ?_; rintro e w2 ⟨rfl, hb2⟩; have hb2 := hb2.mono (Nat.le_of_eq HS1A.out.symm); obtain ⟨_, q7, _, hcc, _⟩ := HFK.out w2 hb2; have HCC := Lib.hid hcc; clear hcc; refine Hid.out ?_))
  refine Lib.hid ?_
  clear q7 HCC
  go_wp2
  go_ret2
  exact ⟨rfl, (HFK.out w2 hb2).2.2.2.2⟩

set_option maxRecDepth 100000 in
set_option maxHeartbeats 4000000 in
theorem misfit_data (L p q : Int) (ao : Option Addr) (ds : List Int) (cap : Nat) (t n : Int) (w : World) (hc : Cells w ao (ds.map (Value.int .i64))) (hl : ds.length ≤ 9223372036854775807) (h1 : waveOK L p q = true) (h2 : silentB (wav L p q) = false) (h3 : dataOK ds = false) :
    Calls Tryz.prog 28 #[.int .i64 L, .agg #[.int .i64 p, .int .i64 q], .slice ao ds.length cap, .int .i64 t, .int .i64 n] w fun e w' => e = .returned (.tuple #[.string ⟨#[]⟩, .int .i64 73]) ∧ Below w.heap.size w w' := by
  obtain ⟨Z, hZ⟩ : ∃ Z, Z = shp 0 (smp 0 0 0) := ⟨_, rfl⟩
  have z : Tryz.zeroCells101 = Z := by rw [hZ]; exact zero101
  have hZs : Z.size = 65 := by rw [hZ, shp_size, smp_length]
  have hw1 := fun w => wave_any L p q w
  have hst := store_shape (waveV L p q) Z (waveV_size L p q) hZs (waveV_one L p q)
  have hVs := waveV_size L p q
  have hsi := fun (h : waveOK L p q = true) w => silent_any L (wav L p q) w (wav_length _ _ _)
  have hVe : waveOK L p q = true → waveV L p q = shp L (wav L p q) := fun h => by simp [waveV, h]
  have hda := fun wx hcx => dataOK_any ao ds cap wx hcx hl
  rw [h1] at hw1
  replace hsi := hsi h1
  replace hVe := hVe h1
  rw [← hVe] at hsi
  rw [h2] at hsi
  clear hVe
  rw [h3] at hda
  generalize waveV L p q = V at *
  have hne : ¬ V = #[] := by intro h; rw [h] at hVs; simp at hVs
  have hi : (Tryz.prog.info? 101).map (·.size) = some V.size := by rw [hVs]; kernel_rfl
  have HI := Lib.hid hi; clear hi
  have HW := Lib.hid hw1; clear hw1
  have HDA := Lib.hid hda; clear hda
  have HC := Lib.hid hc; clear hc
  clear hZ
  have HSI := Lib.hid hsi; clear hsi
  obtain ⟨W0, hW0⟩ : ∃ W0, ((w.alloc (.cells #[.int .i64 p, .int .i64 q] 23)).alloc (.cells #[.slice ao ds.length cap] 24)).alloc (.cells #[.int .i64 t] 3) = W0 := ⟨_, rfl⟩
  have hB0 : Below w.heap.size w W0 := by rw [← hW0]; exact (((Below.refl _ w).alloc (Nat.le_refl _) _).alloc (by simp) _).alloc (by simp; omega) _
  have hs0 : W0.heap.size = w.heap.size + 3 := by rw [← hW0]; simp
  have b0 : W0.heap[w.heap.size]? = some (.cells #[.int .i64 p, .int .i64 q] 23 (0, 0)) := by rw [← hW0, hold_old _ _ _ (by simp; omega)]; exact heap_alloc2_old w _ _
  have b1 : W0.heap[w.heap.size + 1]? = some (.cells #[.slice ao ds.length cap] 24 (0, 0)) := by rw [← hW0, hold_old _ _ _ (by simp)]; exact heap_alloc2_new w _ _
  have b2 : W0.heap[w.heap.size + 1 + 1]? = some (.cells #[.int .i64 t] 3 (0, 0)) := by
    have hsz : ((w.alloc (.cells #[.int .i64 p, .int .i64 q] 23)).alloc (.cells #[.slice ao ds.length cap] 24)).heap.size = w.heap.size + 1 + 1 := by simp
    rw [← hW0, ← hsz]; exact heap_alloc_new _ _
  have a0 := (cell_of_row W0 _ 0 _ _ _ b0).trans rfl
  have a1 := (cell_of_row W0 _ 1 _ _ _ b0).trans rfl
  have B1 := Lib.hid b1; have B2 := Lib.hid b2; clear b0 b1 b2
  have HS0 := Lib.hid hs0; clear hs0
  have HW0 := Lib.hid hW0; clear hW0
  go_enter Tryz.func28, Tryz.ntmps28
  go_wp2_with fail
  rw [HW0.out]
  refine (HW.out _).mono ?_
  rintro e w1 ⟨rfl, hb1⟩
  have g1 : Below w.heap.size w w1 := hB0.trans (hb1.mono (by have := hB0.size; omega))
  have g1a : Below w.heap.size w (w1.alloc (.cells V 101)) := g1.alloc g1.size _
  have hs1 := hb1.size
  have hs1a : (w1.alloc (.cells V 101)).heap.size = w1.heap.size + 1 := by simp
  have FK : ∀ wx, Below (w1.heap.size + 1) (w1.alloc (.cells V 101)) wx → wx.heap[w1.heap.size]? = some (.cells V 101 (0, 0)) ∧ wx.cell? ⟨w.heap.size + 1, 0, none⟩ = some (.slice ao ds.length cap) ∧ wx.cell? ⟨w.heap.size + 1 + 1, 0, none⟩ = some (.int .i64 t) ∧ Cells wx ao (ds.map (Value.int .i64)) ∧ Below w.heap.size w wx := by
    intro wx hb
    have h0 := HS0.out
    have e1 : wx.heap[w.heap.size + 1]? = _ := (hb.block _ (by omega)).trans ((hold_old w1 _ _ (by omega)).trans ((hb1.block _ (by omega)).trans B1.out))
    have e2 : wx.heap[w.heap.size + 1 + 1]? = _ := (hb.block _ (by omega)).trans ((hold_old w1 _ _ (by omega)).trans ((hb1.block _ (by omega)).trans B2.out))
    have e3 : Below w.heap.size w wx := g1a.trans (hb.mono (by omega))
    exact ⟨(hb.block _ (by omega)).trans (heap_alloc_new _ _), (cell_of_row wx _ 0 _ _ _ e1).trans rfl, (cell_of_row wx _ 0 _ _ _ e2).trans rfl, HC.out.below e3 (Nat.le_refl _), e3⟩
  have HFK := Lib.hid FK; clear FK
  have HS1 := Lib.hid hs1; have HS1A := Lib.hid hs1a; clear hs1 hs1a
  go_wp2_with (first
    | (refine wpList_load_row (by rfl) 101 _ (by rfl) w1.heap.size (by rfl) _ V _ _ (HFK.out _ (Below.refl _ _)).1 Tryz.underlying101 (by rfl) HI.out ?_)
    | (go_at_call 72; refine (HSI.out _).mono ?_; rintro e w2 ⟨rfl, hb2⟩; have hb2 := hb2.mono (Nat.le_of_eq HS1A.out.symm); obtain ⟨_, q7, _, hcc, _⟩ := HFK.out w2 hb2; have HCC := Lib.hid hcc; clear hcc; refine Hid.out ?_))
  refine Lib.hid ?_
  have hs2 := hb2.size
  go_wp2_with (go_at_call 61; refine (HDA.out _ HCC.out).mono ?_; rintro e w3 ⟨rfl, hb3⟩; refine Hid.out ?_)
  have hb3 : Below (w1.heap.size + 1) (w1.alloc (.cells V 101)) w3 := hb2.trans (hb3.mono (by have := HS1A.out; omega))
  clear q7 HCC hb2 hs2
  obtain ⟨_, q7, q8, hcc, g3⟩ := HFK.out w3 hb3
  have HCC := Lib.hid hcc; clear hcc
  refine Lib.hid ?_
  clear q7 q8 HCC
  go_wp2
  go_ret2
  exact ⟨rfl, g3⟩

set_option maxRecDepth 100000 in
set_option maxHeartbeats 4000000 in
theorem misfit_before (L p q : Int) (ao : Option Addr) (ds : List Int) (cap : Nat) (t n : Int) (w : World) (hc : Cells w ao (ds.map (Value.int .i64))) (hl : ds.length ≤ 9223372036854775807) (h1 : waveOK L p q = true) (h2 : silentB (wav L p q) = false) (h3 : dataOK ds = true) (h4 : t < 0) :
    Calls Tryz.prog 28 #[.int .i64 L, .agg #[.int .i64 p, .int .i64 q], .slice ao ds.length cap, .int .i64 t, .int .i64 n] w fun e w' => e = .returned (.tuple #[.string ⟨#[]⟩, .int .i64 8]) ∧ Below w.heap.size w w' := by
  obtain ⟨Z, hZ⟩ : ∃ Z, Z = shp 0 (smp 0 0 0) := ⟨_, rfl⟩
  have z : Tryz.zeroCells101 = Z := by rw [hZ]; exact zero101
  have hZs : Z.size = 65 := by rw [hZ, shp_size, smp_length]
  have hw1 := fun w => wave_any L p q w
  have hst := store_shape (waveV L p q) Z (waveV_size L p q) hZs (waveV_one L p q)
  have hVs := waveV_size L p q
  have hsi := fun (h : waveOK L p q = true) w => silent_any L (wav L p q) w (wav_length _ _ _)
  have hVe : waveOK L p q = true → waveV L p q = shp L (wav L p q) := fun h => by simp [waveV, h]
  have hda := fun wx hcx => dataOK_any ao ds cap wx hcx hl
  rw [h1] at hw1
  replace hsi := hsi h1
  replace hVe := hVe h1
  rw [← hVe] at hsi
  rw [h2] at hsi
  clear hVe
  rw [h3] at hda
  have hdl := (dataOK_true h3).1
  have hwt := waveOK_true h1
  obtain ⟨k1, k2, _, _, _, _⟩ := hwt
  generalize waveV L p q = V at *
  have hne : ¬ V = #[] := by intro h; rw [h] at hVs; simp at hVs
  have hi : (Tryz.prog.info? 101).map (·.size) = some V.size := by rw [hVs]; kernel_rfl
  have HI := Lib.hid hi; clear hi
  have HW := Lib.hid hw1; clear hw1
  have HDA := Lib.hid hda; clear hda
  have HC := Lib.hid hc; clear hc
  clear hZ
  have HSI := Lib.hid hsi; clear hsi
  obtain ⟨W0, hW0⟩ : ∃ W0, ((w.alloc (.cells #[.int .i64 p, .int .i64 q] 23)).alloc (.cells #[.slice ao ds.length cap] 24)).alloc (.cells #[.int .i64 t] 3) = W0 := ⟨_, rfl⟩
  have hB0 : Below w.heap.size w W0 := by rw [← hW0]; exact (((Below.refl _ w).alloc (Nat.le_refl _) _).alloc (by simp) _).alloc (by simp; omega) _
  have hs0 : W0.heap.size = w.heap.size + 3 := by rw [← hW0]; simp
  have b0 : W0.heap[w.heap.size]? = some (.cells #[.int .i64 p, .int .i64 q] 23 (0, 0)) := by rw [← hW0, hold_old _ _ _ (by simp; omega)]; exact heap_alloc2_old w _ _
  have b1 : W0.heap[w.heap.size + 1]? = some (.cells #[.slice ao ds.length cap] 24 (0, 0)) := by rw [← hW0, hold_old _ _ _ (by simp)]; exact heap_alloc2_new w _ _
  have b2 : W0.heap[w.heap.size + 1 + 1]? = some (.cells #[.int .i64 t] 3 (0, 0)) := by
    have hsz : ((w.alloc (.cells #[.int .i64 p, .int .i64 q] 23)).alloc (.cells #[.slice ao ds.length cap] 24)).heap.size = w.heap.size + 1 + 1 := by simp
    rw [← hW0, ← hsz]; exact heap_alloc_new _ _
  have a0 := (cell_of_row W0 _ 0 _ _ _ b0).trans rfl
  have a1 := (cell_of_row W0 _ 1 _ _ _ b0).trans rfl
  have B1 := Lib.hid b1; have B2 := Lib.hid b2; clear b0 b1 b2
  have HS0 := Lib.hid hs0; clear hs0
  have HW0 := Lib.hid hW0; clear hW0
  go_enter Tryz.func28, Tryz.ntmps28
  go_wp2_with fail
  rw [HW0.out]
  refine (HW.out _).mono ?_
  rintro e w1 ⟨rfl, hb1⟩
  have g1 : Below w.heap.size w w1 := hB0.trans (hb1.mono (by have := hB0.size; omega))
  have g1a : Below w.heap.size w (w1.alloc (.cells V 101)) := g1.alloc g1.size _
  have hs1 := hb1.size
  have hs1a : (w1.alloc (.cells V 101)).heap.size = w1.heap.size + 1 := by simp
  have FK : ∀ wx, Below (w1.heap.size + 1) (w1.alloc (.cells V 101)) wx → wx.heap[w1.heap.size]? = some (.cells V 101 (0, 0)) ∧ wx.cell? ⟨w.heap.size + 1, 0, none⟩ = some (.slice ao ds.length cap) ∧ wx.cell? ⟨w.heap.size + 1 + 1, 0, none⟩ = some (.int .i64 t) ∧ Cells wx ao (ds.map (Value.int .i64)) ∧ Below w.heap.size w wx := by
    intro wx hb
    have h0 := HS0.out
    have e1 : wx.heap[w.heap.size + 1]? = _ := (hb.block _ (by omega)).trans ((hold_old w1 _ _ (by omega)).trans ((hb1.block _ (by omega)).trans B1.out))
    have e2 : wx.heap[w.heap.size + 1 + 1]? = _ := (hb.block _ (by omega)).trans ((hold_old w1 _ _ (by omega)).trans ((hb1.block _ (by omega)).trans B2.out))
    have e3 : Below w.heap.size w wx := g1a.trans (hb.mono (by omega))
    exact ⟨(hb.block _ (by omega)).trans (heap_alloc_new _ _), (cell_of_row wx _ 0 _ _ _ e1).trans rfl, (cell_of_row wx _ 0 _ _ _ e2).trans rfl, HC.out.below e3 (Nat.le_refl _), e3⟩
  have HFK := Lib.hid FK; clear FK
  have HS1 := Lib.hid hs1; have HS1A := Lib.hid hs1a; clear hs1 hs1a
  go_wp2_with (first
    | (refine wpList_load_row (by rfl) 101 _ (by rfl) w1.heap.size (by rfl) _ V _ _ (HFK.out _ (Below.refl _ _)).1 Tryz.underlying101 (by rfl) HI.out ?_)
    | (go_at_call 72; refine (HSI.out _).mono ?_; rintro e w2 ⟨rfl, hb2⟩; have hb2 := hb2.mono (Nat.le_of_eq HS1A.out.symm); obtain ⟨_, q7, _, hcc, _⟩ := HFK.out w2 hb2; have HCC := Lib.hid hcc; clear hcc; refine Hid.out ?_))
  refine Lib.hid ?_
  have hs2 := hb2.size
  go_wp2_with (go_at_call 61; refine (HDA.out _ HCC.out).mono ?_; rintro e w3 ⟨rfl, hb3⟩; refine Hid.out ?_)
  have hb3 : Below (w1.heap.size + 1) (w1.alloc (.cells V 101)) w3 := hb2.trans (hb3.mono (by have := HS1A.out; omega))
  clear q7 HCC hb2 hs2
  obtain ⟨_, q7, q8, hcc, g3⟩ := HFK.out w3 hb3
  have HCC := Lib.hid hcc; clear hcc
  refine Lib.hid ?_
  go_wp2
  go_ret2
  exact ⟨rfl, g3⟩

set_option maxRecDepth 100000 in
set_option maxHeartbeats 4000000 in
theorem misfit_behind (L p q : Int) (ao : Option Addr) (ds : List Int) (cap : Nat) (t n : Int) (w : World) (hc : Cells w ao (ds.map (Value.int .i64))) (hl : ds.length ≤ 9223372036854775807) (h1 : waveOK L p q = true) (h2 : silentB (wav L p q) = false) (h3 : dataOK ds = true) (h4 : 0 ≤ t) (h5 : (ds.length : Int) - L < t) :
    Calls Tryz.prog 28 #[.int .i64 L, .agg #[.int .i64 p, .int .i64 q], .slice ao ds.length cap, .int .i64 t, .int .i64 n] w fun e w' => e = .returned (.tuple #[.string ⟨#[]⟩, .int .i64 8]) ∧ Below w.heap.size w w' := by
  obtain ⟨Z, hZ⟩ : ∃ Z, Z = shp 0 (smp 0 0 0) := ⟨_, rfl⟩
  have z : Tryz.zeroCells101 = Z := by rw [hZ]; exact zero101
  have hZs : Z.size = 65 := by rw [hZ, shp_size, smp_length]
  have hw1 := fun w => wave_any L p q w
  have hst := store_shape (waveV L p q) Z (waveV_size L p q) hZs (waveV_one L p q)
  have hVs := waveV_size L p q
  have hsi := fun (h : waveOK L p q = true) w => silent_any L (wav L p q) w (wav_length _ _ _)
  have hVe : waveOK L p q = true → waveV L p q = shp L (wav L p q) := fun h => by simp [waveV, h]
  have hda := fun wx hcx => dataOK_any ao ds cap wx hcx hl
  rw [h1] at hw1
  replace hsi := hsi h1
  replace hVe := hVe h1
  rw [← hVe] at hsi
  rw [h2] at hsi
  clear hVe
  rw [h3] at hda
  have hdl := (dataOK_true h3).1
  have hwt := waveOK_true h1
  obtain ⟨k1, k2, _, _, _, _⟩ := hwt
  generalize waveV L p q = V at *
  have hne : ¬ V = #[] := by intro h; rw [h] at hVs; simp at hVs
  have hi : (Tryz.prog.info? 101).map (·.size) = some V.size := by rw [hVs]; kernel_rfl
  have HI := Lib.hid hi; clear hi
  have HW := Lib.hid hw1; clear hw1
  have HDA := Lib.hid hda; clear hda
  have HC := Lib.hid hc; clear hc
  clear hZ
  have HSI := Lib.hid hsi; clear hsi
  obtain ⟨W0, hW0⟩ : ∃ W0, ((w.alloc (.cells #[.int .i64 p, .int .i64 q] 23)).alloc (.cells #[.slice ao ds.length cap] 24)).alloc (.cells #[.int .i64 t] 3) = W0 := ⟨_, rfl⟩
  have hB0 : Below w.heap.size w W0 := by rw [← hW0]; exact (((Below.refl _ w).alloc (Nat.le_refl _) _).alloc (by simp) _).alloc (by simp; omega) _
  have hs0 : W0.heap.size = w.heap.size + 3 := by rw [← hW0]; simp
  have b0 : W0.heap[w.heap.size]? = some (.cells #[.int .i64 p, .int .i64 q] 23 (0, 0)) := by rw [← hW0, hold_old _ _ _ (by simp; omega)]; exact heap_alloc2_old w _ _
  have b1 : W0.heap[w.heap.size + 1]? = some (.cells #[.slice ao ds.length cap] 24 (0, 0)) := by rw [← hW0, hold_old _ _ _ (by simp)]; exact heap_alloc2_new w _ _
  have b2 : W0.heap[w.heap.size + 1 + 1]? = some (.cells #[.int .i64 t] 3 (0, 0)) := by
    have hsz : ((w.alloc (.cells #[.int .i64 p, .int .i64 q] 23)).alloc (.cells #[.slice ao ds.length cap] 24)).heap.size = w.heap.size + 1 + 1 := by simp
    rw [← hW0, ← hsz]; exact heap_alloc_new _ _
  have a0 := (cell_of_row W0 _ 0 _ _ _ b0).trans rfl
  have a1 := (cell_of_row W0 _ 1 _ _ _ b0).trans rfl
  have B1 := Lib.hid b1; have B2 := Lib.hid b2; clear b0 b1 b2
  have HS0 := Lib.hid hs0; clear hs0
  have HW0 := Lib.hid hW0; clear hW0
  go_enter Tryz.func28, Tryz.ntmps28
  go_wp2_with fail
  rw [HW0.out]
  refine (HW.out _).mono ?_
  rintro e w1 ⟨rfl, hb1⟩
  have g1 : Below w.heap.size w w1 := hB0.trans (hb1.mono (by have := hB0.size; omega))
  have g1a : Below w.heap.size w (w1.alloc (.cells V 101)) := g1.alloc g1.size _
  have hs1 := hb1.size
  have hs1a : (w1.alloc (.cells V 101)).heap.size = w1.heap.size + 1 := by simp
  have FK : ∀ wx, Below (w1.heap.size + 1) (w1.alloc (.cells V 101)) wx → wx.heap[w1.heap.size]? = some (.cells V 101 (0, 0)) ∧ wx.cell? ⟨w.heap.size + 1, 0, none⟩ = some (.slice ao ds.length cap) ∧ wx.cell? ⟨w.heap.size + 1 + 1, 0, none⟩ = some (.int .i64 t) ∧ Cells wx ao (ds.map (Value.int .i64)) ∧ Below w.heap.size w wx := by
    intro wx hb
    have h0 := HS0.out
    have e1 : wx.heap[w.heap.size + 1]? = _ := (hb.block _ (by omega)).trans ((hold_old w1 _ _ (by omega)).trans ((hb1.block _ (by omega)).trans B1.out))
    have e2 : wx.heap[w.heap.size + 1 + 1]? = _ := (hb.block _ (by omega)).trans ((hold_old w1 _ _ (by omega)).trans ((hb1.block _ (by omega)).trans B2.out))
    have e3 : Below w.heap.size w wx := g1a.trans (hb.mono (by omega))
    exact ⟨(hb.block _ (by omega)).trans (heap_alloc_new _ _), (cell_of_row wx _ 0 _ _ _ e1).trans rfl, (cell_of_row wx _ 0 _ _ _ e2).trans rfl, HC.out.below e3 (Nat.le_refl _), e3⟩
  have HFK := Lib.hid FK; clear FK
  have HS1 := Lib.hid hs1; have HS1A := Lib.hid hs1a; clear hs1 hs1a
  go_wp2_with (first
    | (refine wpList_load_row (by rfl) 101 _ (by rfl) w1.heap.size (by rfl) _ V _ _ (HFK.out _ (Below.refl _ _)).1 Tryz.underlying101 (by rfl) HI.out ?_)
    | (go_at_call 72; refine (HSI.out _).mono ?_; rintro e w2 ⟨rfl, hb2⟩; have hb2 := hb2.mono (Nat.le_of_eq HS1A.out.symm); obtain ⟨_, q7, _, hcc, _⟩ := HFK.out w2 hb2; have HCC := Lib.hid hcc; clear hcc; refine Hid.out ?_))
  refine Lib.hid ?_
  have hs2 := hb2.size
  go_wp2_with (go_at_call 61; refine (HDA.out _ HCC.out).mono ?_; rintro e w3 ⟨rfl, hb3⟩; refine Hid.out ?_)
  have hb3 : Below (w1.heap.size + 1) (w1.alloc (.cells V 101)) w3 := hb2.trans (hb3.mono (by have := HS1A.out; omega))
  clear q7 HCC hb2 hs2
  obtain ⟨_, q7, q8, hcc, g3⟩ := HFK.out w3 hb3
  have HCC := Lib.hid hcc; clear hcc
  refine Lib.hid ?_
  go_wp2
  go_ret2
  exact ⟨rfl, g3⟩

set_option maxRecDepth 100000 in
set_option maxHeartbeats 4000000 in
theorem misfit_parts (L p q : Int) (ao : Option Addr) (ds : List Int) (cap : Nat) (t n : Int) (w : World) (hc : Cells w ao (ds.map (Value.int .i64))) (hl : ds.length ≤ 9223372036854775807) (h1 : waveOK L p q = true) (h2 : silentB (wav L p q) = false) (h3 : dataOK ds = true) (h4 : 0 ≤ t) (h5 : ¬ (ds.length : Int) - L < t) (h6 : inB 1 n 8 = false) :
    Calls Tryz.prog 28 #[.int .i64 L, .agg #[.int .i64 p, .int .i64 q], .slice ao ds.length cap, .int .i64 t, .int .i64 n] w fun e w' => e = .returned (.tuple #[.string ⟨#[]⟩, .int .i64 2]) ∧ Below w.heap.size w w' := by
  obtain ⟨Z, hZ⟩ : ∃ Z, Z = shp 0 (smp 0 0 0) := ⟨_, rfl⟩
  have z : Tryz.zeroCells101 = Z := by rw [hZ]; exact zero101
  have hZs : Z.size = 65 := by rw [hZ, shp_size, smp_length]
  have hw1 := fun w => wave_any L p q w
  have hst := store_shape (waveV L p q) Z (waveV_size L p q) hZs (waveV_one L p q)
  have hVs := waveV_size L p q
  have hsi := fun (h : waveOK L p q = true) w => silent_any L (wav L p q) w (wav_length _ _ _)
  have hVe : waveOK L p q = true → waveV L p q = shp L (wav L p q) := fun h => by simp [waveV, h]
  have hda := fun wx hcx => dataOK_any ao ds cap wx hcx hl
  rw [h1] at hw1
  replace hsi := hsi h1
  replace hVe := hVe h1
  rw [← hVe] at hsi
  rw [h2] at hsi
  clear hVe
  rw [h3] at hda
  have hdl := (dataOK_true h3).1
  have hwt := waveOK_true h1
  obtain ⟨k1, k2, _, _, _, _⟩ := hwt
  generalize waveV L p q = V at *
  have hne : ¬ V = #[] := by intro h; rw [h] at hVs; simp at hVs
  have hi : (Tryz.prog.info? 101).map (·.size) = some V.size := by rw [hVs]; kernel_rfl
  have HI := Lib.hid hi; clear hi
  have HW := Lib.hid hw1; clear hw1
  have HDA := Lib.hid hda; clear hda
  have HC := Lib.hid hc; clear hc
  clear hZ
  have HSI := Lib.hid hsi; clear hsi
  obtain ⟨W0, hW0⟩ : ∃ W0, ((w.alloc (.cells #[.int .i64 p, .int .i64 q] 23)).alloc (.cells #[.slice ao ds.length cap] 24)).alloc (.cells #[.int .i64 t] 3) = W0 := ⟨_, rfl⟩
  have hB0 : Below w.heap.size w W0 := by rw [← hW0]; exact (((Below.refl _ w).alloc (Nat.le_refl _) _).alloc (by simp) _).alloc (by simp; omega) _
  have hs0 : W0.heap.size = w.heap.size + 3 := by rw [← hW0]; simp
  have b0 : W0.heap[w.heap.size]? = some (.cells #[.int .i64 p, .int .i64 q] 23 (0, 0)) := by rw [← hW0, hold_old _ _ _ (by simp; omega)]; exact heap_alloc2_old w _ _
  have b1 : W0.heap[w.heap.size + 1]? = some (.cells #[.slice ao ds.length cap] 24 (0, 0)) := by rw [← hW0, hold_old _ _ _ (by simp)]; exact heap_alloc2_new w _ _
  have b2 : W0.heap[w.heap.size + 1 + 1]? = some (.cells #[.int .i64 t] 3 (0, 0)) := by
    have hsz : ((w.alloc (.cells #[.int .i64 p, .int .i64 q] 23)).alloc (.cells #[.slice ao ds.length cap] 24)).heap.size = w.heap.size + 1 + 1 := by simp
    rw [← hW0, ← hsz]; exact heap_alloc_new _ _
  have a0 := (cell_of_row W0 _ 0 _ _ _ b0).trans rfl
  have a1 := (cell_of_row W0 _ 1 _ _ _ b0).trans rfl
  have B1 := Lib.hid b1; have B2 := Lib.hid b2; clear b0 b1 b2
  have HS0 := Lib.hid hs0; clear hs0
  have HW0 := Lib.hid hW0; clear hW0
  go_enter Tryz.func28, Tryz.ntmps28
  go_wp2_with fail
  rw [HW0.out]
  refine (HW.out _).mono ?_
  rintro e w1 ⟨rfl, hb1⟩
  have g1 : Below w.heap.size w w1 := hB0.trans (hb1.mono (by have := hB0.size; omega))
  have g1a : Below w.heap.size w (w1.alloc (.cells V 101)) := g1.alloc g1.size _
  have hs1 := hb1.size
  have hs1a : (w1.alloc (.cells V 101)).heap.size = w1.heap.size + 1 := by simp
  have FK : ∀ wx, Below (w1.heap.size + 1) (w1.alloc (.cells V 101)) wx → wx.heap[w1.heap.size]? = some (.cells V 101 (0, 0)) ∧ wx.cell? ⟨w.heap.size + 1, 0, none⟩ = some (.slice ao ds.length cap) ∧ wx.cell? ⟨w.heap.size + 1 + 1, 0, none⟩ = some (.int .i64 t) ∧ Cells wx ao (ds.map (Value.int .i64)) ∧ Below w.heap.size w wx := by
    intro wx hb
    have h0 := HS0.out
    have e1 : wx.heap[w.heap.size + 1]? = _ := (hb.block _ (by omega)).trans ((hold_old w1 _ _ (by omega)).trans ((hb1.block _ (by omega)).trans B1.out))
    have e2 : wx.heap[w.heap.size + 1 + 1]? = _ := (hb.block _ (by omega)).trans ((hold_old w1 _ _ (by omega)).trans ((hb1.block _ (by omega)).trans B2.out))
    have e3 : Below w.heap.size w wx := g1a.trans (hb.mono (by omega))
    exact ⟨(hb.block _ (by omega)).trans (heap_alloc_new _ _), (cell_of_row wx _ 0 _ _ _ e1).trans rfl, (cell_of_row wx _ 0 _ _ _ e2).trans rfl, HC.out.below e3 (Nat.le_refl _), e3⟩
  have HFK := Lib.hid FK; clear FK
  have HS1 := Lib.hid hs1; have HS1A := Lib.hid hs1a; clear hs1 hs1a
  go_wp2_with (first
    | (refine wpList_load_row (by rfl) 101 _ (by rfl) w1.heap.size (by rfl) _ V _ _ (HFK.out _ (Below.refl _ _)).1 Tryz.underlying101 (by rfl) HI.out ?_)
    | (go_at_call 72; refine (HSI.out _).mono ?_; rintro e w2 ⟨rfl, hb2⟩; have hb2 := hb2.mono (Nat.le_of_eq HS1A.out.symm); obtain ⟨_, q7, _, hcc, _⟩ := HFK.out w2 hb2; have HCC := Lib.hid hcc; clear hcc; refine Hid.out ?_))
  refine Lib.hid ?_
  have hs2 := hb2.size
  go_wp2_with (go_at_call 61; refine (HDA.out _ HCC.out).mono ?_; rintro e w3 ⟨rfl, hb3⟩; refine Hid.out ?_)
  have hb3 : Below (w1.heap.size + 1) (w1.alloc (.cells V 101)) w3 := hb2.trans (hb3.mono (by have := HS1A.out; omega))
  clear q7 HCC hb2 hs2
  obtain ⟨_, q7, q8, hcc, g3⟩ := HFK.out w3 hb3
  have HCC := Lib.hid hcc; clear hcc
  refine Lib.hid ?_
  go_wp2_with (go_at_call 68; refine (bwithin_any _ _ _ _).mono ?_; rintro e w' ⟨rfl, rfl⟩)
  go_ret2
  exact ⟨rfl, g3⟩

set_option maxRecDepth 100000 in
set_option maxHeartbeats 4000000 in
theorem misfit_rest (L p q : Int) (ao : Option Addr) (ds : List Int) (cap : Nat) (t n : Int) (w : World) (hc : Cells w ao (ds.map (Value.int .i64))) (hl : ds.length ≤ 9223372036854775807) (h1 : waveOK L p q = true) (h2 : silentB (wav L p q) = false) (h3 : dataOK ds = true) (h4 : 0 ≤ t) (h5 : ¬ (ds.length : Int) - L < t) (h6 : inB 1 n 8 = true) (h7 : ¬ L % n = 0) (h8 : 1 ≤ n) (h9 : n ≤ 8) :
    Calls Tryz.prog 28 #[.int .i64 L, .agg #[.int .i64 p, .int .i64 q], .slice ao ds.length cap, .int .i64 t, .int .i64 n] w fun e w' => e = .returned (.tuple #[.string ⟨#[]⟩, .int .i64 2]) ∧ Below w.heap.size w w' := by
  obtain ⟨Z, hZ⟩ : ∃ Z, Z = shp 0 (smp 0 0 0) := ⟨_, rfl⟩
  have z : Tryz.zeroCells101 = Z := by rw [hZ]; exact zero101
  have hZs : Z.size = 65 := by rw [hZ, shp_size, smp_length]
  have hw1 := fun w => wave_any L p q w
  have hst := store_shape (waveV L p q) Z (waveV_size L p q) hZs (waveV_one L p q)
  have hVs := waveV_size L p q
  have hsi := fun (h : waveOK L p q = true) w => silent_any L (wav L p q) w (wav_length _ _ _)
  have hVe : waveOK L p q = true → waveV L p q = shp L (wav L p q) := fun h => by simp [waveV, h]
  have hda := fun wx hcx => dataOK_any ao ds cap wx hcx hl
  rw [h1] at hw1
  replace hsi := hsi h1
  replace hVe := hVe h1
  rw [← hVe] at hsi
  rw [h2] at hsi
  clear hVe
  rw [h3] at hda
  have hdl := (dataOK_true h3).1
  have hwt := waveOK_true h1
  obtain ⟨k1, k2, _, _, _, _⟩ := hwt
  generalize waveV L p q = V at *
  have hne : ¬ V = #[] := by intro h; rw [h] at hVs; simp at hVs
  have hi : (Tryz.prog.info? 101).map (·.size) = some V.size := by rw [hVs]; kernel_rfl
  have HI := Lib.hid hi; clear hi
  have HW := Lib.hid hw1; clear hw1
  have HDA := Lib.hid hda; clear hda
  have HC := Lib.hid hc; clear hc
  clear hZ
  have HSI := Lib.hid hsi; clear hsi
  obtain ⟨W0, hW0⟩ : ∃ W0, ((w.alloc (.cells #[.int .i64 p, .int .i64 q] 23)).alloc (.cells #[.slice ao ds.length cap] 24)).alloc (.cells #[.int .i64 t] 3) = W0 := ⟨_, rfl⟩
  have hB0 : Below w.heap.size w W0 := by rw [← hW0]; exact (((Below.refl _ w).alloc (Nat.le_refl _) _).alloc (by simp) _).alloc (by simp; omega) _
  have hs0 : W0.heap.size = w.heap.size + 3 := by rw [← hW0]; simp
  have b0 : W0.heap[w.heap.size]? = some (.cells #[.int .i64 p, .int .i64 q] 23 (0, 0)) := by rw [← hW0, hold_old _ _ _ (by simp; omega)]; exact heap_alloc2_old w _ _
  have b1 : W0.heap[w.heap.size + 1]? = some (.cells #[.slice ao ds.length cap] 24 (0, 0)) := by rw [← hW0, hold_old _ _ _ (by simp)]; exact heap_alloc2_new w _ _
  have b2 : W0.heap[w.heap.size + 1 + 1]? = some (.cells #[.int .i64 t] 3 (0, 0)) := by
    have hsz : ((w.alloc (.cells #[.int .i64 p, .int .i64 q] 23)).alloc (.cells #[.slice ao ds.length cap] 24)).heap.size = w.heap.size + 1 + 1 := by simp
    rw [← hW0, ← hsz]; exact heap_alloc_new _ _
  have a0 := (cell_of_row W0 _ 0 _ _ _ b0).trans rfl
  have a1 := (cell_of_row W0 _ 1 _ _ _ b0).trans rfl
  have B1 := Lib.hid b1; have B2 := Lib.hid b2; clear b0 b1 b2
  have HS0 := Lib.hid hs0; clear hs0
  have HW0 := Lib.hid hW0; clear hW0
  go_enter Tryz.func28, Tryz.ntmps28
  go_wp2_with fail
  rw [HW0.out]
  refine (HW.out _).mono ?_
  rintro e w1 ⟨rfl, hb1⟩
  have g1 : Below w.heap.size w w1 := hB0.trans (hb1.mono (by have := hB0.size; omega))
  have g1a : Below w.heap.size w (w1.alloc (.cells V 101)) := g1.alloc g1.size _
  have hs1 := hb1.size
  have hs1a : (w1.alloc (.cells V 101)).heap.size = w1.heap.size + 1 := by simp
  have FK : ∀ wx, Below (w1.heap.size + 1) (w1.alloc (.cells V 101)) wx → wx.heap[w1.heap.size]? = some (.cells V 101 (0, 0)) ∧ wx.cell? ⟨w.heap.size + 1, 0, none⟩ = some (.slice ao ds.length cap) ∧ wx.cell? ⟨w.heap.size + 1 + 1, 0, none⟩ = some (.int .i64 t) ∧ Cells wx ao (ds.map (Value.int .i64)) ∧ Below w.heap.size w wx := by
    intro wx hb
    have h0 := HS0.out
    have e1 : wx.heap[w.heap.size + 1]? = _ := (hb.block _ (by omega)).trans ((hold_old w1 _ _ (by omega)).trans ((hb1.block _ (by omega)).trans B1.out))
    have e2 : wx.heap[w.heap.size + 1 + 1]? = _ := (hb.block _ (by omega)).trans ((hold_old w1 _ _ (by omega)).trans ((hb1.block _ (by omega)).trans B2.out))
    have e3 : Below w.heap.size w wx := g1a.trans (hb.mono (by omega))
    exact ⟨(hb.block _ (by omega)).trans (heap_alloc_new _ _), (cell_of_row wx _ 0 _ _ _ e1).trans rfl, (cell_of_row wx _ 0 _ _ _ e2).trans rfl, HC.out.below e3 (Nat.le_refl _), e3⟩
  have HFK := Lib.hid FK; clear FK
  have HS1 := Lib.hid hs1; have HS1A := Lib.hid hs1a; clear hs1 hs1a
  go_wp2_with (first
    | (refine wpList_load_row (by rfl) 101 _ (by rfl) w1.heap.size (by rfl) _ V _ _ (HFK.out _ (Below.refl _ _)).1 Tryz.underlying101 (by rfl) HI.out ?_)
    | (go_at_call 72; refine (HSI.out _).mono ?_; rintro e w2 ⟨rfl, hb2⟩; have hb2 := hb2.mono (Nat.le_of_eq HS1A.out.symm); obtain ⟨_, q7, _, hcc, _⟩ := HFK.out w2 hb2; have HCC := Lib.hid hcc; clear hcc; refine Hid.out ?_))
  refine Lib.hid ?_
  have hs2 := hb2.size
  go_wp2_with (go_at_call 61; refine (HDA.out _ HCC.out).mono ?_; rintro e w3 ⟨rfl, hb3⟩; refine Hid.out ?_)
  have hb3 : Below (w1.heap.size + 1) (w1.alloc (.cells V 101)) w3 := hb2.trans (hb3.mono (by have := HS1A.out; omega))
  clear q7 HCC hb2 hs2
  obtain ⟨_, q7, q8, hcc, g3⟩ := HFK.out w3 hb3
  have HCC := Lib.hid hcc; clear hcc
  refine Lib.hid ?_
  go_wp2_with (go_at_call 68; refine (bwithin_any _ _ _ _).mono ?_; rintro e w' ⟨rfl, rfl⟩)
  go_ret2
  exact ⟨rfl, g3⟩

end Go.Proofs.YtbjhjbjjfbmoeaaGreatDoor

/- The bank: Misfit of what is in order; Misfit in general. -/
namespace Go.Proofs.YtbjhjbjjfbmoeaaGreatDoor
open Go.RowKit

theorem Tryz.infoNum : (Tryz.prog.info? 39).map (fun i => (i.zero, i.size, i.bytes)) = some (some (.string ⟨#[]⟩), 1, 16) := by kernel_rfl
theorem own_one (w : World) (u : Value) (T : TypeId) (b : Nat) (hb : b ≤ w.heap.size) : (w.alloc (.cells #[u] T)).ownsRow b T 1 (.slice (some ⟨w.heap.size, 0, none⟩) 1 1) 1 [u] :=
  ⟨by simp, .inr ⟨w.heap.size, 1, #[u], rfl, hb, World.alloc_heap_new w _, Nat.le_refl _, by unfold maxLen; omega, by simp, by simp⟩⟩
/-- the texts of fractions -/
def frT (l : List (Int × Nat)) : List Value := l.map fun u => Value.string (ofT u.1 u.2)
theorem frT_snoc (l : List (Int × Nat)) (u : Int × Nat) : frT (l ++ [u]) = frT l ++ [.string (ofT u.1 u.2)] := by simp [frT]
theorem frT_strings (l : List (Int × Nat)) : frT l = (l.map fun u => ofT u.1 u.2).map Value.string := by simp [frT]

set_option maxRecDepth 100000 in
set_option maxHeartbeats 4000000 in
theorem misfit_ok (L p q : Int) (ao : Option Addr) (ds : List Int) (cap : Nat) (t n : Int) (w : World) (hc : Cells w ao (ds.map (Value.int .i64))) (hl : ds.length ≤ 9223372036854775807) (h1 : waveOK L p q = true) (h2 : silentB (wav L p q) = false) (h3 : dataOK ds = true) (h4 : 0 ≤ t) (h5 : t + L ≤ ds.length) (h6 : 1 ≤ n) (h7 : n ≤ 8) (h8 : L % n = 0) (ht : Tab w) :
    Calls Tryz.prog 28 #[.int .i64 L, .agg #[.int .i64 p, .int .i64 q], .slice ao ds.length cap, .int .i64 t, .int .i64 n] w fun e w' => e = .returned (.tuple #[.string (ofT (misQ L p q ds t n).1 (misQ L p q ds t n).2), .int .i64 0]) ∧ Below w.heap.size w w' := by
  have hwt := waveOK_true h1
  have hdt := dataOK_true h3
  obtain ⟨k1, k2, _, _, _, _⟩ := hwt
  obtain ⟨N, hN⟩ : ∃ N : Nat, n = (N : Int) := ⟨n.toNat, by omega⟩
  obtain ⟨T, hT⟩ : ∃ T : Nat, t = (T : Int) := ⟨t.toNat, by omega⟩
  obtain ⟨M, hM⟩ : ∃ M : Nat, L = (M : Int) := ⟨L.toNat, by omega⟩
  obtain ⟨k, hk⟩ : ∃ k : Nat, k = M / N := ⟨_, rfl⟩
  have hkn : k * N = M := by
    rw [hk]
    refine Nat.div_mul_cancel (Nat.dvd_of_mod_eq_zero ?_)
    rw [hM, hN] at h8
    omega
  have hQ : misQ L p q ds t n = frSum (misL (wav L p q) ds T M k N) := by
    unfold misQ
    rw [hM, hN, hT, Int.toNat_natCast, Int.toNat_natCast, Int.toNat_natCast, hk]
  have hra := fun (a b : Nat) (sg : Int) (bv bd bt : Nat) wx hTx hab (hbM : b ≤ M) hb => ratio_any L (wav L p q) ds ao cap T a b sg bv bd bt wx hTx (wav_length _ _ _) hab (show b ≤ 64 by omega) (show T + b ≤ ds.length by omega) hdt.1 hb (wav_bd _ _ _) hdt.2
  have hmb : ∀ j, j ≤ N → ∀ u ∈ misL (wav L p q) ds T M k j, u.2 ≠ 0 ∧ u.1.natAbs < 10 ^ 21 ∧ u.2 < 10 ^ 21 := fun j hj => misL_bd (wav_bd _ _ _) hdt.2 T M k j (by omega) (Nat.le_trans (Nat.mul_le_mul_right k hj) (by rw [Nat.mul_comm]; omega))
  have hq1 : Int.tdiv L n = (k : Int) := by rw [hM, hN, hk]; rfl
  have hq2 : L / n = (k : Int) := by rw [hM, hN, hk]; rfl
  have hq3 : Int.tmod L n = 0 := by rw [Int.tmod_eq_emod_of_nonneg (by omega)]; exact h8
  have hkp : 1 ≤ k := by
    rcases Nat.eq_zero_or_pos k with h | h
    · rw [h] at hkn; omega
    · exact h
  have hNs : 1 ≤ N ∧ N ≤ 8 := by omega
  have hM1 : M ≤ 64 := by omega
  have hk64 : k ≤ 64 := by rw [hk]; exact Nat.le_trans (Nat.div_le_self _ _) hM1
  have i6 : inB 1 n 8 = true := by simp [inB]; omega
  have H5 : ¬ (ds.length : Int) - L < t := by omega
  obtain ⟨Z, hZ⟩ : ∃ Z, Z = shp 0 (smp 0 0 0) := ⟨_, rfl⟩
  have z : Tryz.zeroCells101 = Z := by rw [hZ]; exact zero101
  have hZs : Z.size = 65 := by rw [hZ, shp_size, smp_length]
  have hw1 := fun w => wave_any L p q w
  have hst := store_shape (waveV L p q) Z (waveV_size L p q) hZs (waveV_one L p q)
  have hVs := waveV_size L p q
  have hsi := fun (h : waveOK L p q = true) w => silent_any L (wav L p q) w (wav_length _ _ _)
  have hVe : waveOK L p q = true → waveV L p q = shp L (wav L p q) := fun h => by simp [waveV, h]
  have hda := fun wx hcx => dataOK_any ao ds cap wx hcx hl
  rw [h1] at hw1
  replace hsi := hsi h1
  replace hVe := hVe h1
  rw [← hVe] at hsi
  rw [h2] at hsi
  rw [h3] at hda
  rw [← hVe] at hra
  rw [← hT] at hra
  clear hVe
  have HQ := Lib.hid hQ; clear hQ
  have HMB := Lib.hid hmb; clear hmb
  have HRA := Lib.hid hra; clear hra
  generalize misQ L p q ds t n = RQ at *
  generalize wav L p q = xs at *
  have HMM := Lib.hid (And.intro hM (And.intro hN hkn)); clear hM hN hT hk hkn
  generalize waveV L p q = V at *
  have hne : ¬ V = #[] := by intro h; rw [h] at hVs; simp at hVs
  have hi : (Tryz.prog.info? 101).map (·.size) = some V.size := by rw [hVs]; kernel_rfl
  have HI := Lib.hid hi; clear hi
  have HW := Lib.hid hw1; clear hw1
  have HDA := Lib.hid hda; clear hda
  have HC := Lib.hid hc; clear hc
  clear hZ
  have HSI := Lib.hid hsi; clear hsi
  have HT := Lib.hid ht; clear ht
  have hdl := hdt.1
  clear hdt h3 h2 h1 h5
  obtain ⟨W0, hW0⟩ : ∃ W0, ((w.alloc (.cells #[.int .i64 p, .int .i64 q] 23)).alloc (.cells #[.slice ao ds.length cap] 24)).alloc (.cells #[.int .i64 t] 3) = W0 := ⟨_, rfl⟩
  have hB0 : Below w.heap.size w W0 := by rw [← hW0]; exact (((Below.refl _ w).alloc (Nat.le_refl _) _).alloc (by simp) _).alloc (by simp; omega) _
  have hs0 : W0.heap.size = w.heap.size + 3 := by rw [← hW0]; simp
  have b0 : W0.heap[w.heap.size]? = some (.cells #[.int .i64 p, .int .i64 q] 23 (0, 0)) := by rw [← hW0, hold_old _ _ _ (by simp; omega)]; exact heap_alloc2_old w _ _
  have b1 : W0.heap[w.heap.size + 1]? = some (.cells #[.slice ao ds.length cap] 24 (0, 0)) := by rw [← hW0, hold_old _ _ _ (by simp)]; exact heap_alloc2_new w _ _
  have b2 : W0.heap[w.heap.size + 1 + 1]? = some (.cells #[.int .i64 t] 3 (0, 0)) := by
    have hsz : ((w.alloc (.cells #[.int .i64 p, .int .i64 q] 23)).alloc (.cells #[.slice ao ds.length cap] 24)).heap.size = w.heap.size + 1 + 1 := by simp
    rw [← hW0, ← hsz]; exact heap_alloc_new _ _
  have a0 := (cell_of_row W0 _ 0 _ _ _ b0).trans rfl
  have a1 := (cell_of_row W0 _ 1 _ _ _ b0).trans rfl
  have B1 := Lib.hid b1; have B2 := Lib.hid b2; clear b0 b1 b2
  have HS0 := Lib.hid hs0; clear hs0
  have HW0 := Lib.hid hW0; clear hW0
  go_enter Tryz.func28, Tryz.ntmps28
  go_wp2_with fail
  rw [HW0.out]
  refine (HW.out _).mono ?_
  rintro e w1 ⟨rfl, hb1⟩
  have g1 : Below w.heap.size w w1 := hB0.trans (hb1.mono (by have := hB0.size; omega))
  have g1a : Below w.heap.size w (w1.alloc (.cells V 101)) := g1.alloc g1.size _
  have hs1 := hb1.size
  have hs1a : (w1.alloc (.cells V 101)).heap.size = w1.heap.size + 1 := by simp
  have FK : ∀ wx, Below (w1.heap.size + 1) (w1.alloc (.cells V 101)) wx → wx.heap[w1.heap.size]? = some (.cells V 101 (0, 0)) ∧ wx.cell? ⟨w.heap.size + 1, 0, none⟩ = some (.slice ao ds.length cap) ∧ wx.cell? ⟨w.heap.size + 1 + 1, 0, none⟩ = some (.int .i64 t) ∧ Cells wx ao (ds.map (Value.int .i64)) ∧ Below w.heap.size w wx := by
    intro wx hb
    have h0 := HS0.out
    have e1 : wx.heap[w.heap.size + 1]? = _ := (hb.block _ (by omega)).trans ((hold_old w1 _ _ (by omega)).trans ((hb1.block _ (by omega)).trans B1.out))
    have e2 : wx.heap[w.heap.size + 1 + 1]? = _ := (hb.block _ (by omega)).trans ((hold_old w1 _ _ (by omega)).trans ((hb1.block _ (by omega)).trans B2.out))
    have e3 : Below w.heap.size w wx := g1a.trans (hb.mono (by omega))
    exact ⟨(hb.block _ (by omega)).trans (heap_alloc_new _ _), (cell_of_row wx _ 0 _ _ _ e1).trans rfl, (cell_of_row wx _ 0 _ _ _ e2).trans rfl, HC.out.below e3 (Nat.le_refl _), e3⟩
  have HFK := Lib.hid FK; clear FK
  have HS1 := Lib.hid hs1; have HS1A := Lib.hid hs1a; clear hs1 hs1a
  go_wp2_with (first
    | (refine wpList_load_row (by rfl) 101 _ (by rfl) w1.heap.size (by rfl) _ V _ _ (HFK.out _ (Below.refl _ _)).1 Tryz.underlying101 (by rfl) HI.out ?_)
    | (go_at_call 72; refine (HSI.out _).mono ?_; rintro e w2 ⟨rfl, hb2⟩; have hb2 := hb2.mono (Nat.le_of_eq HS1A.out.symm); obtain ⟨_, q7, _, hcc, _⟩ := HFK.out w2 hb2; have HCC := Lib.hid hcc; clear hcc; refine Hid.out ?_))
  refine Lib.hid ?_
  have hs2 := hb2.size
  go_wp2_with (go_at_call 61; refine (HDA.out _ HCC.out).mono ?_; rintro e w3 ⟨rfl, hb3⟩; refine Hid.out ?_)
  have hb3 : Below (w1.heap.size + 1) (w1.alloc (.cells V 101)) w3 := hb2.trans (hb3.mono (by have := HS1A.out; omega))
  clear q7 HCC hb2 hs2
  obtain ⟨_, q7, q8, hcc, g3⟩ := HFK.out w3 hb3
  have HCC := Lib.hid hcc; clear hcc
  refine Lib.hid ?_
  have ht3 := HT.out.below g3 (Nat.le_refl _)
  have HT3 := Lib.hid ht3; clear ht3
  go_wp2_with (first
    | (go_at_call 68; refine (bwithin_any _ _ _ _).mono ?_; rintro e w' ⟨rfl, rfl⟩; rw [i6])
    | (go_at_call 80; refine Hid.out ?_))
  refine Lib.hid ?_
  have f3 := HFK.out w3 hb3
  have hr0 := HRA.out 0 M (-1) w1.heap.size (w.heap.size + 1) (w.heap.size + 1 + 1) w3 HT3.out (by have := HMM.out.1; omega) (Nat.le_refl _) (.inr rfl) f3.1 f3.2.1 f3.2.2.1 f3.2.2.2.1
  rw [← HMM.out.1] at hr0
  clear f3
  refine (show _ from hr0).mono ?_
  rintro e w4 ⟨rfl, hb4⟩
  rw [partT_prt]
  clear hr0 q7 q8 HCC
  have hb4' : Below (w1.heap.size + 1) (w1.alloc (.cells V 101)) w4 := hb3.trans (hb4.mono (by have := hb3.size; have := HS1A.out; omega))
  have hs4 := hb4'.size
  rw [HS1A.out] at hs4
  have ho := own_one w4 (.string (ofT (prt xs ds T 0 M (-1)).1 (prt xs ds T 0 M (-1)).2)) 39 (w1.heap.size + 1) hs4
  have ho0 : (w4.alloc (.cells #[.string (ofT (prt xs ds T 0 M (-1)).1 (prt xs ds T 0 M (-1)).2)] 39)).ownsRow (w1.heap.size + 1) 39 1 (.slice (some ⟨w4.heap.size, 0, none⟩) 1 1) (0 + 1) (frT (misL xs ds T M k 0)) := by simpa [misL, frT] using ho
  have HO0 := Lib.hid ho0; clear ho0 ho
  generalize ofT (prt xs ds T 0 M (-1)).1 (prt xs ds T 0 M (-1)).2 = T0 at *
  obtain ⟨i0, hi, hz0, hz1, hz2⟩ := info_parts Tryz.infoNum
  have hB4 : Below (w1.heap.size + 1) (w1.alloc (.cells V 101)) (w4.alloc (.cells #[.string T0] 39)) := hb4'.alloc hs4 _
  clear hb4 hb4' hb3 g3
  have HN := Lib.hid HMM.out.2.1
  go_wp2
  clear hq1 hq2 hq3
  go_loopw [13, 16, 71] (fun ok v i wr => ∃ j : Nat, j ≤ N ∧ i = .int .i64 (j : Int) ∧ ok = .bool true ∧ wr.ownsRow (w1.heap.size + 1) 39 1 v (j + 1) (frT (misL xs ds T M k j)) ∧ Below (w1.heap.size + 1) (w1.alloc (.cells V 101)) wr) (fun _ _ i _ => N - (intOf i).toNat)
  case atStart => exact ⟨0, Nat.zero_le _, rfl, rfl, HO0.out, hB4⟩
  case round =>
    obtain ⟨j, hj, rfl, rfl, hown, hbe⟩ := hrel
    clear HO0 hB4
    have hsr := hbe.size
    rw [HS1A.out] at hsr
    by_cases hlt : j < N
    · have hlt2 : (j : Int) < n := by rw [HN.out]; omega
      obtain ⟨A, hA⟩ : ∃ A : Nat, A = j * k := ⟨_, rfl⟩
      obtain ⟨C, hC⟩ : ∃ C : Nat, C = (j + 1) * k := ⟨_, rfl⟩
      have hAC : C = A + k := by rw [hA, hC, Nat.add_mul, Nat.one_mul]
      have hCM : C ≤ M := by rw [hC, ← HMM.out.2.2, Nat.mul_comm k N]; exact Nat.mul_le_mul_right k (by omega)
      have f3 := HFK.out wr hbe
      have hr0 := HRA.out A C 1 w1.heap.size (w.heap.size + 1) (w.heap.size + 1 + 1) wr (HT.out.below f3.2.2.2.2 (Nat.le_refl _)) (by omega) hCM (.inl rfl) f3.1 f3.2.1 f3.2.2.1 f3.2.2.2.1
      rw [partT_prt] at hr0
      have e1 : frT (misL xs ds T M k (j + 1)) = frT (misL xs ds T M k j) ++ [.string (ofT (prt xs ds T A C 1).1 (prt xs ds T A C 1).2)] := by rw [misL_succ, frT_snoc, ← hA, ← hC]
      have E1 := Lib.hid e1; clear e1
      have q1 : IntKind.i64.wrap ((j : Int) * k) = (A : Int) := by
        rw [hA, Int.natCast_mul]; exact IntWalk.i64_in _ (by rw [← Int.natCast_mul, ← hA]; omega)
      have q2 : IntKind.i64.wrap (((j : Int) + 1) * k) = (C : Int) := by
        rw [hC, Int.natCast_mul, Int.natCast_add, Int.natCast_one]
        refine IntWalk.i64_in _ ?_
        rw [show ((j : Int) + 1) * k = ((j + 1) * k : Nat) by push_cast; rfl, ← hC]; omega
      have HR0 := Lib.hid hr0; clear hr0 f3 hA hC hAC
      generalize ofT (prt xs ds T A C 1).1 (prt xs ds T A C 1).2 = T1 at *
      have HOB : Hid (∀ b, u16.ownBlock = some b → w1.heap.size + 1 ≤ b) := fun b e => (hown.lt b e).1
      go_wp2_with (first
        | (go_at_call 80; refine (HR0.out).mono ?_; rintro e w5 ⟨rfl, hb5⟩)
        | (at_builtin; refine wpList_append_own _ rfl _ _ 60 rfl (w1.heap.size + 1) 39 i0 (.string ⟨#[]⟩) 1 16 Tryz.underlying60 hi hz0 hz1 hz2 rfl (by decide) _ _ _ rfl ((own_belowK hown hb5 (Nat.le_refl _)).alloc _) ⟨w5.heap.size, 0, none⟩ 1 1 [.string T1] rfl rfl (news1 _ _ _) (by simp [Value.oneCell']) (by unfold maxLen; omega) (by omega) (by have := hb5.size; simp; omega) ?_; intro v1 wz hown1 hgrow _))
      have hfin := hown1
      rw [← E1.out] at hfin
      have hs5 := hb5.size
      have hbz := ((hbe.trans (hb5.mono hsr)).alloc (by omega) (.cells #[.string T1] 39)).grown hgrow (by simp; omega) HOB.out
      clear hown1 hgrow hown
      have HFIN := Lib.hid hfin; clear hfin
      go_roundw
      case rel => exact ⟨j + 1, by omega, by go_num, rfl, HFIN.out, hbz⟩
      case measure => simp [intOf]; omega
    · obtain rfl : j = N := by omega
      have hlt2 : ¬ (j : Int) < n := by rw [HN.out]; omega
      obtain ⟨ag, cg, rfl, hcs⟩ := own_cells hown
      rw [frT_strings] at hcs
      have f3 := HFK.out wr hbe
      have hln : ((misL xs ds T M k j).map fun u => ofT u.1 u.2).length = j + 1 := by rw [List.length_map, misL_length]
      have hsum := sum_any ag ((misL xs ds T M k j).map fun u => ofT u.1 u.2) cg wr (HT.out.below f3.2.2.2.2 (Nat.le_refl _)) hcs (by omega) (fun s hs => by
        obtain ⟨u, hu, rfl⟩ := List.mem_map.1 hs
        obtain ⟨_, m2, m3⟩ := HMB.out j (Nat.le_refl _) u hu
        exact ofT_size m2 m3)
      have hsum2 := hsum.mono fun e w' h => sum_of _ (HMB.out j (Nat.le_refl _)) (by rw [misL_length]; omega) h
      rw [hln, ← HQ.out] at hsum2
      have g5 := f3.2.2.2.2
      have HSUM := Lib.hid hsum2; clear hsum2 hsum hcs hown f3 hln
      go_wp2_with (go_at_call 82; refine (HSUM.out).mono ?_; rintro e w6 ⟨rfl, hb6⟩)
      go_ret2
      exact ⟨rfl, g5.trans (hb6.mono g5.size)⟩

theorem misfit_any (L p q : Int) (ao : Option Addr) (ds : List Int) (cap : Nat) (t n : Int) (w : World) (ht : Tab w) (hc : Cells w ao (ds.map (Value.int .i64))) (hl : ds.length ≤ 9223372036854775807) :
    Calls Tryz.prog 28 #[.int .i64 L, .agg #[.int .i64 p, .int .i64 q], .slice ao ds.length cap, .int .i64 t, .int .i64 n] w fun e w' => e = .returned (.tuple #[.string (misT L p q ds t n), .int .i64 (misE L p q ds t n)]) ∧ Below w.heap.size w w' := by
  have bad : ∀ x : Int, x ≠ 0 → misE L p q ds t n = x → misT L p q ds t n = ⟨#[]⟩ := fun x hx h => by unfold misT; rw [h, if_neg hx]
  cases h1 : waveOK L p q
  · have he : misE L p q ds t n = 70 := by simp [misE, h1]
    rw [bad _ (by decide) he, he]; exact misfit_wave L p q ao ds cap t n w hc hl h1
  rcases Bool.eq_false_or_eq_true (silentB (wav L p q)) with h2 | h2
  · have he : misE L p q ds t n = 4 := by simp [misE, h1, h2]
    rw [bad _ (by decide) he, he]; exact misfit_silent L p q ao ds cap t n w hc hl h1 h2
  cases h3 : dataOK ds
  · have he : misE L p q ds t n = 73 := by simp [misE, h1, h2, h3]
    rw [bad _ (by decide) he, he]; exact misfit_data L p q ao ds cap t n w hc hl h1 h2 h3
  by_cases h4 : t < 0
  · have he : misE L p q ds t n = 8 := by simp [misE, h1, h2, h3, h4]
    rw [bad _ (by decide) he, he]; exact misfit_before L p q ao ds cap t n w hc hl h1 h2 h3 h4
  by_cases h5 : (ds.length : Int) - L < t
  · have he : misE L p q ds t n = 8 := by simp [misE, h1, h2, h3, h5]
    rw [bad _ (by decide) he, he]; exact misfit_behind L p q ao ds cap t n w hc hl h1 h2 h3 (by omega) h5
  cases h6 : inB 1 n 8
  · have he : misE L p q ds t n = 2 := by simp [misE, h1, h2, h3, h4, h5, h6]
    rw [bad _ (by decide) he, he]; exact misfit_parts L p q ao ds cap t n w hc hl h1 h2 h3 (by omega) h5 h6
  have h6' : 1 ≤ n ∧ n ≤ 8 := by simpa [inB] using h6
  by_cases h7 : L % n = 0
  · have he : misE L p q ds t n = 0 := by simp [misE, h1, h2, h3, h4, h5, h6, h7]
    have hT : misT L p q ds t n = ofT (misQ L p q ds t n).1 (misQ L p q ds t n).2 := by unfold misT; rw [he, if_pos rfl]
    rw [hT, he]; exact misfit_ok L p q ao ds cap t n w hc hl h1 h2 h3 (by omega) (by omega) h6'.1 h6'.2 h7 ht
  · have he : misE L p q ds t n = 2 := by simp [misE, h1, h2, h3, h4, h5, h6, h7]
    rw [bad _ (by decide) he, he]; exact misfit_rest L p q ao ds cap t n w hc hl h1 h2 h3 (by omega) h5 h6 h7 h6'.1 h6'.2
end Go.Proofs.YtbjhjbjjfbmoeaaGreatDoor

/- The bank's examples: closed facts. -/
namespace Go.Proofs.YtbjhjbjjfbmoeaaGreatDoor
open Go.RowKit

theorem ex_wave : wavR 4 8 0 = [0, 90, 127, 90] ∧ wavE 4 8 0 = 0 := by decide +kernel
theorem ex_match : matT 4 16 0 48 0 = ⟨#[49, 47, 52]⟩ ∧ matE 4 16 0 48 0 = 0 := by decide +kernel
theorem ex_points : ptsR 4 31 33 0 0 = [(31, 0), (33, 0)] ∧ ptsE 4 31 33 0 0 = 0 := by decide +kernel
theorem ex_filter : filR 4 16 0 [0, 127, 0, -127, 0] = [32258, 0] ∧ filE 4 16 0 [0, 127, 0, -127, 0] = 0 := by decide +kernel
theorem ex_misfit : misT 4 16 0 [0, 127, 0, 127] 0 2 = ⟨#[51, 50, 50, 53, 56]⟩ ∧ misE 4 16 0 [0, 127, 0, 127] 0 2 = 0 := by decide +kernel
end Go.Proofs.YtbjhjbjjfbmoeaaGreatDoor

/- SameInts. -/
namespace Go.Proofs.YtbjhjbjjfbmoeaaGreatDoor
open Go.RowKit


/-- SameInts: are two lists of numbers the same? -/
theorem sameInts_any (aa ab : Option Addr) (xs ys : List Int) (ca cb : Nat) (w : World) (ha : Cells w aa (xs.map (Value.int .i64))) (hb : Cells w ab (ys.map (Value.int .i64))) (hl : xs.length ≤ 9223372036854775807) (hl' : ys.length ≤ 9223372036854775807) :
    Calls Tryz.prog 20 #[.slice aa xs.length ca, .slice ab ys.length cb] w fun e w' => e = .returned (.bool (decide (xs = ys))) ∧ Below w.heap.size w w' := by
  by_cases hlen : xs.length = ys.length
  · have h1 : ((xs.length : Int) != ys.length) = false := by simp [hlen]
    have hlt : (ys.length : Int) ≤ xs.length := by omega
    have HL := Lib.hid hlen; clear hlen
    have HA := Lib.hid ha; have HB := Lib.hid hb; clear ha hb
    go_enter Tryz.func20, Tryz.ntmps20
    go_wp2
    go_loopw [5] (fun i wr => ∃ k : Nat, k ≤ xs.length ∧ i = .int .i64 k ∧ xs.take k = ys.take k ∧ Below w.heap.size w wr) (fun i _ => xs.length - (intOf i).toNat)
    case atStart => exact ⟨0, Nat.zero_le _, rfl, rfl, Below.refl _ _⟩
    case round =>
      obtain ⟨k, hk, rfl, heq, hbe⟩ := hrel
      have HQ := Lib.hid heq; clear heq
      by_cases hlt : k < xs.length
      · have hlt2 : k < ys.length := by have := HL.out; omega
        obtain ⟨x, hx⟩ := get_of_lt hlt
        obtain ⟨y, hy⟩ := get_of_lt hlt2
        obtain ⟨b, off, rfl⟩ := HA.out.addr (by simpa using List.ne_nil_of_length_pos (by omega))
        obtain ⟨b2, off2, rfl⟩ := HB.out.addr (by simpa using List.ne_nil_of_length_pos (by omega))
        have c1 := cell_keep (HA.out.int hx) hbe (Nat.le_refl _)
        have c2 := cell_keep (HB.out.int hy) hbe (Nat.le_refl _)
        have i1 : (k : Int) < xs.length := by omega
        have i2 : (k : Int) < ys.length := by omega
        have i3 : (0 : Int) ≤ k := by omega
        by_cases hxy : x = y
        · obtain rfl := hxy
          have ht : xs.take (k + 1) = ys.take (k + 1) := by rw [take_get hx, take_get hy, HQ.out]
          have HT := Lib.hid ht; clear ht hx hy
          go_wp2
          go_quiet (fail)
          go_wp2
          go_roundw
          case rel => exact ⟨k + 1, by omega, by go_num, HT.out, bel_drewN hbe _⟩
          case measure => simp [intOf]; omega
        · have hne : decide (xs = ys) = false := by
            rw [decide_eq_false_iff_not]; rintro rfl
            rw [hx] at hy; simp at hy; exact hxy hy
          have HNE := Lib.hid hne; clear hne hx hy
          have hb1 : (x == y) = false := by simpa using hxy
          have hb2 : (x != y) = true := by simpa using hxy
          go_wp2
          go_quiet (fail)
          go_wp2
          go_ret
          exact ⟨ret_bool HNE.out.symm, bel_drewN hbe _⟩
      · obtain rfl : k = xs.length := by omega
        have he : decide (xs = ys) = true := by
          rw [decide_eq_true_iff]
          have := HQ.out
          rw [List.take_length, HL.out, List.take_length] at this; exact this
        have HE := Lib.hid he; clear he
        go_wp2
        go_ret
        exact ⟨ret_bool HE.out.symm, hbe⟩
  · have h1 : ((xs.length : Int) != ys.length) = true := by simp; omega
    have he : decide (xs = ys) = false := by
      rw [decide_eq_false_iff_not]; rintro rfl; exact hlen rfl
    have HE := Lib.hid he; clear he
    go_enter Tryz.func20, Tryz.ntmps20
    go_wp2
    go_ret
    exact ⟨ret_bool HE.out.symm, Below.refl _ _⟩
theorem same_ints_eq (aa ab : Option Addr) (ca cb : Nat) (w : World) (xs : List Int) (n : Nat) (hn : n = xs.length) (hl : xs.length ≤ 9223372036854775807) (ha : Cells w aa (xs.map (Value.int .i64))) (hb : Cells w ab (xs.map (Value.int .i64))) :
    Calls Tryz.prog 20 #[.slice aa n ca, .slice ab n cb] w fun e w' => e = .returned (.bool true) ∧ Below w.heap.size w w' := by
  subst hn
  have h := sameInts_any aa ab xs xs ca cb w ha hb hl hl
  simpa using h
end Go.Proofs.YtbjhjbjjfbmoeaaGreatDoor

/- The bank's examples: works. -/
namespace Go.Proofs.YtbjhjbjjfbmoeaaGreatDoor
open Go.RowKit

theorem cells_lit (w : World) (cs : List Value) (T : TypeId) : Cells (w.alloc (.cells cs.toArray T)) (some ⟨w.heap.size, 0, none⟩) cs :=
  .inr ⟨w.heap.size, 0, rfl, fun j u hu => by
    rw [cell_of_row _ _ _ _ _ _ (heap_alloc_new _ _), Nat.zero_add]; simpa using hu⟩

set_option maxRecDepth 100000 in
set_option maxHeartbeats 4000000 in
theorem bworks_any (w : World) (ht : Tab w) :
    Calls Tryz.prog 15 #[] w fun e w' => e = .returned (.bool true) ∧ Below w.heap.size w w' := by
  have hw := fun w => Wave_any 4 8 0 w
  have hm := fun w ht => match_any 4 16 0 48 0 w ht
  have hp := fun w => Points_any 4 31 33 0 0 w
  have hf := fun ao cap w hc => filter_any 4 16 0 ao [0, 127, 0, -127, 0] cap w hc (by decide)
  have hs := fun ao cap w ht hc => misfit_any 4 16 0 ao [0, 127, 0, 127] cap 0 2 w ht hc (by decide)
  rw [ex_wave.1, ex_wave.2] at hw
  rw [ex_match.1, ex_match.2] at hm
  rw [ex_points.1, ex_points.2] at hp
  rw [ex_filter.1, ex_filter.2] at hf
  rw [ex_misfit.1, ex_misfit.2] at hs
  simp only [List.length_cons, List.length_nil, Nat.reduceAdd] at hw hp hf hs
  have HW := Lib.hid hw; have HM := Lib.hid hm; have HP := Lib.hid hp; have HF := Lib.hid hf; have HS := Lib.hid hs; have HT := Lib.hid ht
  clear hw hm hp hf hs ht
  go_enter Tryz.func15, Tryz.ntmps15
  go_wp2_with fail
  refine (HW.out _).mono ?_
  rintro e w1 ⟨⟨b1, c1, rfl, hc1⟩, g1⟩
  have HC1 := Lib.hid hc1; clear hc1
  go_wp2_with fail
  refine (tone_any _).mono ?_
  rintro e w2 ⟨rfl, hb2⟩
  have g2 := g1.trans (hb2.mono g1.size)
  go_wp2_with fail
  refine (HM.out _ (HT.out.below g2 (Nat.le_refl _))).mono ?_
  rintro e w3 ⟨rfl, hb3⟩
  have g3 := g2.trans (hb3.mono g2.size)
  have HC3 := Lib.hid ((HC1.out.below hb2 (Nat.le_refl _)).below hb3 (Nat.le_refl _)); clear HC1 hb2 hb3
  go_wp2_with fail
  refine (HP.out _).mono ?_
  rintro e w4 ⟨⟨b4, c4, rfl, hc4⟩, hb4⟩
  have g4 := g3.trans (hb4.mono g3.size)
  have HC4 := Lib.hid (HC3.out.below hb4 (Nat.le_refl _))
  have HP4 := Lib.hid hc4; clear hc4 HC3 hb4
  go_wp2_with fail
  refine (tone_any _).mono ?_
  rintro e w5 ⟨rfl, hb5⟩
  have g5 := g4.trans (hb5.mono g4.size)
  have HC5 := Lib.hid (HC4.out.below hb5 (Nat.le_refl _))
  have HP5 := Lib.hid (HP4.out.below hb5 (Nat.le_refl _))
  clear HC4 HP4 hb5
  go_wp2_with fail
  have l6 := cells_lit w5 ([0, 127, 0, -127, 0].map (Value.int .i64)) 3
  have B6 := (Below.refl w5.heap.size w5).alloc (Nat.le_refl _) (.cells ([0, 127, 0, -127, 0].map (Value.int .i64)).toArray 3)
  have HC6 := Lib.hid (HC5.out.below B6 (Nat.le_refl _))
  have HP6 := Lib.hid (HP5.out.below B6 (Nat.le_refl _))
  have g6 := g5.trans (B6.mono g5.size)
  clear HC5 HP5 B6
  refine (show _ from HF.out _ 5 _ l6).mono ?_
  rintro e w7 ⟨⟨b7, c7, rfl, hc7⟩, hb7⟩
  have g7 := g6.trans (hb7.mono g6.size)
  have HC7 := Lib.hid (HC6.out.below hb7 (Nat.le_refl _))
  have HP7 := Lib.hid (HP6.out.below hb7 (Nat.le_refl _))
  have HF7 := Lib.hid hc7
  clear HC6 HP6 hb7 hc7 l6
  go_wp2_with fail
  refine (tone_any _).mono ?_
  rintro e w8 ⟨rfl, hb8⟩
  have g8 := g7.trans (hb8.mono g7.size)
  have HC8 := Lib.hid (HC7.out.below hb8 (Nat.le_refl _))
  have HP8 := Lib.hid (HP7.out.below hb8 (Nat.le_refl _))
  have HF8 := Lib.hid (HF7.out.below hb8 (Nat.le_refl _))
  clear HC7 HP7 HF7 hb8
  go_wp2_with fail
  have l9 := cells_lit w8 ([0, 127, 0, 127].map (Value.int .i64)) 3
  have B9 := (Below.refl w8.heap.size w8).alloc (Nat.le_refl _) (.cells ([0, 127, 0, 127].map (Value.int .i64)).toArray 3)
  have HC9 := Lib.hid (HC8.out.below B9 (Nat.le_refl _))
  have HP9 := Lib.hid (HP8.out.below B9 (Nat.le_refl _))
  have HF9 := Lib.hid (HF8.out.below B9 (Nat.le_refl _))
  have g9 := g8.trans (B9.mono g8.size)
  clear HC8 HP8 HF8 B9
  refine (show _ from HS.out _ 4 _ (HT.out.below g9 (Nat.le_refl _)) l9).mono ?_
  rintro e wa ⟨rfl, hba⟩
  have ga := g9.trans (hba.mono g9.size)
  have HCa := Lib.hid (HC9.out.below hba (Nat.le_refl _))
  have HPa := Lib.hid (HP9.out.below hba (Nat.le_refl _))
  have HFa := Lib.hid (HF9.out.below hba (Nat.le_refl _))
  clear HC9 HP9 HF9 hba l9
  go_wp2_with fail
  have lb := cells_lit wa ([0, 90, 127, 90].map (Value.int .i64)) 3
  have Bb := (Below.refl wa.heap.size wa).alloc (Nat.le_refl _) (.cells ([0, 90, 127, 90].map (Value.int .i64)).toArray 3)
  have HCb := Lib.hid (HCa.out.below Bb (Nat.le_refl _))
  have HPb := Lib.hid (HPa.out.below Bb (Nat.le_refl _))
  have HFb := Lib.hid (HFa.out.below Bb (Nat.le_refl _))
  have gb := ga.trans (Bb.mono ga.size)
  clear HCa HPa HFa Bb
  refine (show _ from same_ints_eq b1 _ c1 4 _ [0, 90, 127, 90] 4 rfl (by decide) HCb.out lb).mono ?_
  rintro e wc ⟨rfl, hbc⟩
  have gc := gb.trans (hbc.mono gb.size)
  have HPc := Lib.hid (HPb.out.below hbc (Nat.le_refl _))
  have HFc := Lib.hid (HFb.out.below hbc (Nat.le_refl _))
  clear HCb HPb HFb hbc lb
  go_wp2_with fail
  have ld := cells_lit wc (prs [(31, 0), (33, 0)]) 23
  have Bd := (Below.refl wc.heap.size wc).alloc (Nat.le_refl _) (.cells (prs [(31, 0), (33, 0)]).toArray 23)
  have HPd := Lib.hid (HPc.out.below Bd (Nat.le_refl _))
  have HFd := Lib.hid (HFc.out.below Bd (Nat.le_refl _))
  have gd := gc.trans (Bd.mono gc.size)
  clear HPc HFc Bd
  refine (show _ from sameChirps_any b4 _ [(31, 0), (33, 0)] [(31, 0), (33, 0)] c4 2 _ HPd.out ld (by decide) (by decide)).mono ?_
  rintro e we ⟨rfl, hbe⟩
  have ge := gd.trans (hbe.mono gd.size)
  have HFe := Lib.hid (HFd.out.below hbe (Nat.le_refl _))
  clear HPd HFd hbe ld
  rw [decide_eq_true (show [((31 : Int), (0 : Int)), (33, 0)] = [(31, 0), (33, 0)] from rfl)]
  go_wp2_with fail
  have lf := cells_lit we ([32258, 0].map (Value.int .i64)) 3
  have Bf := (Below.refl we.heap.size we).alloc (Nat.le_refl _) (.cells ([32258, 0].map (Value.int .i64)).toArray 3)
  have HFf := Lib.hid (HFe.out.below Bf (Nat.le_refl _))
  have gf := ge.trans (Bf.mono ge.size)
  clear HFe Bf
  refine (show _ from same_ints_eq b7 _ c7 2 _ [32258, 0] 2 rfl (by decide) HFf.out lf).mono ?_
  rintro e wg ⟨rfl, hbg⟩
  have gg := gf.trans (hbg.mono gf.size)
  clear HFf hbg lf
  go_wp2
  go_ret
  exact ⟨rfl, gg⟩
end Go.Proofs.YtbjhjbjjfbmoeaaGreatDoor

/- BankLinear: plain laws of sums of outputs. -/
namespace Go.Proofs.YtbjhjbjjfbmoeaaGreatDoor
open Go.RowKit

/-- two lists added, element by element -/
def addL (us vs : List Int) : List Int := List.zipWith (fun a b => IntKind.i64.wrap (a + b)) us vs
theorem addL_length (us vs : List Int) (h : us.length = vs.length) : (addL us vs).length = us.length := by simp [addL, h]
theorem addL_getD {us vs : List Int} (h : us.length = vs.length) (h1 : ∀ x ∈ us, -32768 ≤ x ∧ x ≤ 32768) (h2 : ∀ x ∈ vs, -32768 ≤ x ∧ x ≤ 32768) (i : Nat) :
    (addL us vs).getD i 0 = us.getD i 0 + vs.getD i 0 := by
  simp only [addL, List.getD_eq_getElem?_getD, List.getElem?_zipWith]
  cases ha : us[i]? with
  | none =>
    have hb : vs[i]? = none := by rw [List.getElem?_eq_none_iff] at ha ⊢; omega
    simp [hb]
  | some x =>
    have hi := (List.getElem?_eq_some_iff.1 ha).1
    obtain ⟨y, hy⟩ := get_of_lt (show i < vs.length by omega)
    have m1 := h1 x (List.mem_of_getElem? ha)
    have m2 := h2 y (List.mem_of_getElem? hy)
    simp only [hy, Option.getD_some]
    exact IntWalk.i64_in _ (by omega)
theorem dotTo_add {xs us vs cs : List Int} (h : ∀ i, cs.getD i 0 = us.getD i 0 + vs.getD i 0) (t a n : Nat) : dotTo xs cs t a n = dotTo xs us t a n + dotTo xs vs t a n := by
  induction n with
  | zero => simp [dotTo]
  | succ n ih => simp only [dotTo, ih, h, Int.mul_add]; omega

theorem outs_getD (xs ds : List Int) (L n k : Nat) (h : k < n) : (outs xs ds L n).getD k 0 = dotTo xs ds k 0 L := by
  simp [outs, List.getD_eq_getElem?_getD, h]

/-- what BankLinear asks of the three lists of outputs -/
theorem linear_get (L p q : Int) (us vs : List Int) (hl : us.length = vs.length) (e1 : filE L p q us = 0) (e2 : filE L p q vs = 0) (e3 : filE L p q (addL us vs) = 0) :
    (filR L p q us).length = nOut L.toNat us.length ∧ (filR L p q vs).length = nOut L.toNat us.length ∧ (filR L p q (addL us vs)).length = nOut L.toNat us.length ∧
    ∀ k, k < nOut L.toNat us.length → (filR L p q us).getD k 0 + (filR L p q vs).getD k 0 = (filR L p q (addL us vs)).getD k 0 ∧
      -(266338304 : Int) ≤ (filR L p q us).getD k 0 ∧ (filR L p q us).getD k 0 ≤ 266338304 ∧ -(266338304 : Int) ≤ (filR L p q vs).getD k 0 ∧ (filR L p q vs).getD k 0 ≤ 266338304 := by
  have ok : ∀ ds, filE L p q ds = 0 → waveOK L p q = true ∧ dataOK ds = true := by
    intro ds h
    simp only [filE] at h
    cases hw : waveOK L p q <;> cases hd : dataOK ds <;> simp [hw, hd] at h ⊢
  have hw := waveOK_true (ok us e1).1
  have da := dataOK_true (ok us e1).2
  have db := dataOK_true (ok vs e2).2
  have hla := addL_length us vs hl
  have ra : filR L p q us = outs (wav L p q) us L.toNat (nOut L.toNat us.length) := by simp [filR, e1]
  have rb : filR L p q vs = outs (wav L p q) vs L.toNat (nOut L.toNat us.length) := by simp [filR, e2, hl]
  have rc : filR L p q (addL us vs) = outs (wav L p q) (addL us vs) L.toNat (nOut L.toNat us.length) := by simp [filR, e3, hla]
  rw [ra, rb, rc]
  refine ⟨outs_length _ _ _ _, outs_length _ _ _ _, outs_length _ _ _ _, fun k hk => ?_⟩
  rw [outs_getD _ _ _ _ _ hk, outs_getD _ _ _ _ _ hk, outs_getD _ _ _ _ _ hk, dotTo_add (addL_getD hl da.2 db.2)]
  have b1 := dotTo_bd (wav_bd L p q) da.2 k 0 L.toNat
  have b2 := dotTo_bd (wav_bd L p q) db.2 k 0 L.toNat
  refine ⟨rfl, ?_, ?_, ?_, ?_⟩ <;> omega
end Go.Proofs.YtbjhjbjjfbmoeaaGreatDoor

/- BankLinear: the walk. -/
namespace Go.Proofs.YtbjhjbjjfbmoeaaGreatDoor
open Go.RowKit

theorem addL_get {us vs : List Int} {k : Nat} {x y : Int} (h1 : us[k]? = some x) (h2 : vs[k]? = some y) : (addL us vs)[k]? = some (IntKind.i64.wrap (x + y)) := by
  simp [addL, List.getElem?_zipWith, h1, h2]

theorem cells_take {w : World} {a : Option Addr} {xs : List Int} (h : Cells w a (xs.map (Value.int .i64))) (k : Nat) : Cells w a ((xs.take k).map (Value.int .i64)) := by
  rcases h with h | ⟨b, off, h1, h2⟩
  · have : xs = [] := by simpa using h
    exact .inl (by rw [this]; simp)
  · refine .inr ⟨b, off, h1, fun j u hu => h2 j u ?_⟩
    rw [List.map_take, List.getElem?_take] at hu
    split at hu
    · exact hu
    · cases hu

set_option maxRecDepth 100000 in
set_option maxHeartbeats 4000000 in
theorem linear_any (L p q : Int) (aa : Option Addr) (xa : List Int) (ca : Nat) (ab : Option Addr) (xb : List Int) (cb : Nat) (w : World) (ht : Tab w) (ha : Cells w aa (xa.map (Value.int .i64))) (hla : xa.length ≤ 17592186044415) (hb : Cells w ab (xb.map (Value.int .i64))) (_hlb : xb.length ≤ 17592186044415) (hca : xa.length ≤ ca) (hcb : xb.length ≤ cb) :
    Calls Tryz.prog 3 #[.int .i64 L, .agg #[.int .i64 p, .int .i64 q], .agg #[.slice aa xa.length ca, .slice ab xb.length cb]] w fun e w' => e = .returned (.bool true) ∧ Below w.heap.size w w' := by
  obtain ⟨K, hK⟩ : ∃ K, K = min xa.length xb.length := ⟨_, rfl⟩
  have hm1 : min (xa.length : Int) (xb.length : Int) = (K : Int) := by omega
  obtain ⟨W0, hW0⟩ : ∃ W0, (w.alloc (.cells #[.int .i64 p, .int .i64 q] 23)).alloc (.cells #[.slice aa xa.length ca, .slice ab xb.length cb] 25) = W0 := ⟨_, rfl⟩
  have hB0 : Below w.heap.size w W0 := by rw [← hW0]; exact ((Below.refl _ w).alloc (Nat.le_refl _) _).alloc (by simp) _
  have hs0 : W0.heap.size = w.heap.size + 2 := by rw [← hW0]; simp
  have b0 : W0.heap[w.heap.size]? = some (.cells #[.int .i64 p, .int .i64 q] 23 (0, 0)) := by rw [← hW0]; exact heap_alloc2_old w _ _
  have b1 : W0.heap[w.heap.size + 1]? = some (.cells #[.slice aa xa.length ca, .slice ab xb.length cb] 25 (0, 0)) := by rw [← hW0]; exact heap_alloc2_new w _ _
  have a0 := (cell_of_row W0 _ 0 _ _ _ b1).trans rfl
  have a1 := (cell_of_row W0 _ 1 _ _ _ b1).trans rfl
  have HA := Lib.hid (ha.below hB0 (Nat.le_refl _)); have HB := Lib.hid (hb.below hB0 (Nat.le_refl _)); have HT := Lib.hid (ht.below hB0 (Nat.le_refl _))
  have HB0 := Lib.hid b0; have HS0 := Lib.hid hs0; have HW0 := Lib.hid hW0
  clear b0 b1 hs0 hW0 ha hb ht
  have hk1 : K ≤ ca := by omega
  have hk2 : K ≤ cb := by omega
  have hk3 : K ≤ xa.length := by omega
  have hk4 : K ≤ xb.length := by omega
  have hk5 : K ≤ 17592186044415 := by omega
  have HK := Lib.hid hK; clear hK
  go_enter Tryz.func3, Tryz.ntmps3
  go_wp2
  rw [HW0.out]
  go_quiet (fail)
  have hB1 := bel_drewN hB0 nq
  have HA1 : Hid (Cells (W0.drewN nq) aa (xa.map (Value.int .i64))) := HA
  have HB1 : Hid (Cells (W0.drewN nq) ab (xb.map (Value.int .i64))) := HB
  have HT1 : Hid (Tab (W0.drewN nq)) := HT
  have HQ1 : Hid ((W0.drewN nq).heap[w.heap.size]? = some (.cells #[.int .i64 p, .int .i64 q] 23 (0, 0))) := HB0
  have HS1 : Hid ((W0.drewN nq).heap.size = w.heap.size + 2) := HS0
  clear HA HB HT HB0 HS0 hB0 a0 a1 HW0
  generalize W0.drewN nq = W1 at *
  obtain ⟨us, hus⟩ : ∃ us, us = xa.take K := ⟨_, rfl⟩
  obtain ⟨vs, hvs⟩ : ∃ vs, vs = xb.take K := ⟨_, rfl⟩
  have hul : us.length = K := by rw [hus, List.length_take]; omega
  have hvl : vs.length = K := by rw [hvs, List.length_take]; omega
  have hCU : Cells W1 aa (us.map (Value.int .i64)) := by rw [hus]; exact cells_take HA1.out K
  have hCV : Cells W1 ab (vs.map (Value.int .i64)) := by rw [hvs]; exact cells_take HB1.out K
  have HCU := Lib.hid hCU; have HCV := Lib.hid hCV; have HUL := Lib.hid hul; have HVL := Lib.hid hvl
  clear HA1 HB1 hCU hCV hus hvs hul hvl hm1
  obtain ⟨i0, hi, hz0, hz1, hz2⟩ := info_parts Tryz.infoInt
  go_wp2
  go_loopw [10, 11] (fun v i wr => ∃ k : Nat, k ≤ K ∧ i = .int .i64 (k : Int) ∧ wr.ownsRow W1.heap.size 3 1 v k (((addL us vs).take k).map (Value.int .i64)) ∧ Below W1.heap.size W1 wr) (fun _ i _ => K - (intOf i).toNat)
  case atStart => exact ⟨0, Nat.zero_le _, rfl, World.ownsRow_nil _ _ _ _, Below.refl _ _⟩
  case round =>
    obtain ⟨k, hk, rfl, hown, hb⟩ := hrel
    by_cases hlt : k < K
    · obtain ⟨x, hx⟩ := get_of_lt (show k < us.length by rw [HUL.out]; exact hlt)
      obtain ⟨y, hy⟩ := get_of_lt (show k < vs.length by rw [HVL.out]; exact hlt)
      obtain ⟨b1, o1, rfl⟩ := HCU.out.addr (by intro h; have : us = [] := by simpa using h
                                               rw [this] at hx; simp at hx)
      obtain ⟨b2, o2, rfl⟩ := HCV.out.addr (by intro h; have : vs = [] := by simpa using h
                                               rw [this] at hy; simp at hy)
      have c1 := cell_keep (HCU.out.int hx) hb (Nat.le_refl _)
      have c2 := cell_keep (HCV.out.int hy) hb (Nat.le_refl _)
      have hn1 := World.block_lt_of_cell? W1 _ (HCU.out.int hx)
      have hn2 := World.block_lt_of_cell? W1 _ (HCV.out.int hy)
      have e1 : ((addL us vs).take (k + 1)).map (Value.int .i64) = ((addL us vs).take k).map (Value.int .i64) ++ [.int .i64 (IntKind.i64.wrap (x + y))] := by
        rw [take_get (addL_get hx hy), List.map_append]; rfl
      have E1 := Lib.hid e1; clear e1 hx hy
      have hsz := hb.size
      have HOB : Hid (∀ j, u10.ownBlock = some j → W1.heap.size ≤ j) := fun j e => (hown.lt j e).1
      have hne1 : ¬ some b1 = u10.ownBlock := fun e => by have := (hown.lt _ e.symm).1; simp at hn1; omega
      have hne2 : ¬ some b2 = u10.ownBlock := fun e => by have := (hown.lt _ e.symm).1; simp at hn2; omega
      have hlt1 : b1 < wr.heap.size := by simp at hn1; omega
      have hlt2 : b2 < wr.heap.size := by simp at hn2; omega
      have HOQ := Lib.hid hown
      obtain ⟨wq, rfl⟩ : ∃ wq : World, wq = wr := ⟨_, rfl⟩
      have hbq := hb
      clear hb hown hn1 hn2
      generalize hz : IntKind.i64.wrap (x + y) = z at *
      have i1 : (k : Int) < K := by omega
      have i2 : (0 : Int) ≤ k := by omega
      go_wp2_with fail
      go_region_held3 (fun w' => w'.cell? ⟨b1, o1 + k, none⟩ = some (.int .i64 x) ∧ w'.cell? ⟨b2, o2 + k, none⟩ = some (.int .i64 y))
        (first | go_keep | exact ⟨c1, c2⟩ | (rw [hgrow.cell_far _ (by simp; omega) hne1, hgrow.cell_far _ (by simp; omega) hne2]; go_keep))
        (first | (refine step_append_lies _ (by rfl) _ _ _ (by rfl) W1.heap.size 3 i0 _ 1 8 Tryz.underlying24 hi hz0 hz1 hz2 rfl (by omega) u10 k (((addL us vs).take k).map (Value.int .i64)) (by rfl) ((HOQ.out.alloc _).drew) ⟨wq.heap.size, 0, none⟩ 1 1 [.int .i64 z] (by rfl) (by rfl) (World.news_of_block (cs := #[.int .i64 z]) (t := 3) (fr := (0, 0)) (heap_alloc_new wq _)) (by simp [Value.oneCell']) (by omega) (by unfold maxLen; omega) (by omega) (by simp; omega) (wq.heap.size + 1) (by simp) ?_; intro gg cp wz hown1 hgrow hat hlt1))
      have hfin := hown1
      rw [← E1.out] at hfin
      have hbz := (bel_drewN (hbq.alloc hsz (.cells #[.int .i64 z] 3)) 1).grown hgrow (by simp; omega) HOB.out
      clear hown1 hgrow hz
      have HFIN := Lib.hid hfin; clear hfin
      go_wp2
      go_roundw
      case rel => exact ⟨k + 1, by omega, by go_num, HFIN.out, hbz⟩
      case measure => simp [intOf]; omega
    · obtain rfl : k = K := by omega
      have hal : (addL us vs).length = k := by rw [addL_length _ _ (by rw [HUL.out, HVL.out]), HUL.out]
      rw [List.take_of_length_le (by omega)] at hown
      obtain ⟨gb, cb', rfl, hcs⟩ := own_cells hown
      have g1 : Below w.heap.size w wr := hB1.trans (hb.mono (by have := HS1.out; omega))
      have HCS := Lib.hid hcs
      have hq : wr.heap[w.heap.size]? = some (.cells #[.int .i64 p, .int .i64 q] 23 (0, 0)) := (hb.block _ (by have := HS1.out; omega)).trans HQ1.out
      have hk512 : k ≤ 9223372036854775807 := by omega
      have hfa := fun wx hc => filter_any L p q aa us ca wx hc (by rw [HUL.out]; exact hk512)
      have hfb := fun wx hc => filter_any L p q ab vs cb wx hc (by rw [HVL.out]; exact hk512)
      have hfc := fun wx hc => filter_any L p q gb (addL us vs) cb' wx hc (by rw [hal]; exact hk512)
      rw [HUL.out] at hfa
      rw [HVL.out] at hfb
      rw [hal] at hfc
      have hlin := linear_get L p q us vs (by rw [HUL.out, HVL.out])
      rw [HUL.out] at hlin
      have hnl : filE L p q us = 0 → 4 ≤ L ∧ L ≤ 64 ∧ max 0 ((k : Int) - L + 1) = ((nOut L.toNat k : Nat) : Int) := by
        intro h
        have hw : waveOK L p q = true := by
          unfold filE at h
          cases hw : waveOK L p q
          · simp [hw] at h
          · rfl
        have := waveOK_true hw
        unfold nOut; omega
      have hn0 : nOut L.toNat k ≤ 17592186044415 + 1 := by unfold nOut; omega
      clear hcs hown hal
      generalize filE L p q us = e1 at *
      generalize filE L p q vs = e2 at *
      generalize filE L p q (addL us vs) = e3 at *
      generalize filR L p q us = r1 at *
      generalize filR L p q vs = r2 at *
      generalize filR L p q (addL us vs) = r3 at *
      have HFA := Lib.hid hfa; have HFB := Lib.hid hfb; have HFC := Lib.hid hfc; have HLIN := Lib.hid hlin; have HNL := Lib.hid hnl
      clear hfa hfb hfc hlin hnl
      have hq0 := (cell_of_row wr _ 0 _ _ _ hq).trans rfl
      have hq1 := (cell_of_row wr _ 1 _ _ _ hq).trans rfl
      have HQR := Lib.hid hq; clear hq
      have hU := Lib.hid (HCU.out.below hb (Nat.le_refl _)); have hV := Lib.hid (HCV.out.below hb (Nat.le_refl _)); have hT := Lib.hid (HT1.out.below hb (Nat.le_refl _))
      clear HCU HCV HT1 hb hB1 HQ1
      have hlw : w.heap.size < wr.heap.size := (Array.getElem?_eq_some_iff.1 HQR.out).1
      go_wp2_with fail
      refine (HFA.out _ hU.out).mono ?_
      rintro e w2 ⟨⟨b2, c2, rfl, hc2⟩, hb2⟩
      have g2 := g1.trans (hb2.mono g1.size)
      have hQ2 := (hb2.block _ hlw).trans HQR.out
      have hq0 := (cell_of_row w2 _ 0 _ _ _ hQ2).trans rfl
      have hq1 := (cell_of_row w2 _ 1 _ _ _ hQ2).trans rfl
      have HQ2 := Lib.hid hQ2; have HR1 := Lib.hid hc2
      have hlw2 : w.heap.size < w2.heap.size := (Array.getElem?_eq_some_iff.1 HQ2.out).1
      clear hQ2 hc2
      go_wp2_with fail
      refine (HFB.out _ (hV.out.below hb2 (Nat.le_refl _))).mono ?_
      rintro e w3 ⟨⟨b3, c3, rfl, hc3⟩, hb3⟩
      have g3 := g2.trans (hb3.mono g2.size)
      have hQ3 := (hb3.block _ hlw2).trans HQ2.out
      have hq0 := (cell_of_row w3 _ 0 _ _ _ hQ3).trans rfl
      have hq1 := (cell_of_row w3 _ 1 _ _ _ hQ3).trans rfl
      have HR12 := Lib.hid (HR1.out.below hb3 (Nat.le_refl _)); have HR2 := Lib.hid hc3
      clear hQ3 hc3 HR1
      go_wp2_with fail
      refine (HFC.out _ ((HCS.out.below hb2 (Nat.le_refl _)).below hb3 (Nat.le_refl _))).mono ?_
      rintro e w4 ⟨⟨b4, c4, rfl, hc4⟩, hb4⟩
      have g4 := g3.trans (hb4.mono g3.size)
      have C1 := Lib.hid (HR12.out.below hb4 (Nat.le_refl _)); have C2 := Lib.hid (HR2.out.below hb4 (Nat.le_refl _)); have C3 := Lib.hid hc4
      have hT4 := Lib.hid (((hT.out.below hb2 (Nat.le_refl _)).below hb3 (Nat.le_refl _)).below hb4 (Nat.le_refl _))
      clear hc4 HR12 HR2 HQ2 HQR hb2 hb3 hb4 hT hU hV HCS hq0 hq1 hlw hlw2
      by_cases hall : e1 = 0 ∧ e2 = 0 ∧ e3 = 0
      · obtain ⟨rfl, rfl, rfl⟩ := hall
        obtain ⟨l1, l2, l3, hpt⟩ := HLIN.out rfl rfl rfl
        obtain ⟨hL1, hL2, hmx⟩ := HNL.out rfl
        clear HLIN HNL HFA HFB HFC
        generalize nOut L.toNat k = M at *
        have HPT := Lib.hid hpt; clear hpt
        rw [l1, l2, l3]
        have L1 := Lib.hid l1; have L2 := Lib.hid l2; have L3 := Lib.hid l3
        clear l1 l2 l3
        go_wp2
        clear hmx
        go_loopw [18] (fun i wr => ∃ j : Nat, j ≤ M ∧ i = .int .i64 (j : Int) ∧ Below w4.heap.size w4 wr) (fun i _ => M - (intOf i).toNat)
        case atStart => exact ⟨0, Nat.zero_le _, rfl, Below.refl _ _⟩
        case round =>
          obtain ⟨j, hj, rfl, hb⟩ := hrel
          by_cases hlt : j < M
          · obtain ⟨x, hx⟩ := get_of_lt (show j < r1.length by rw [L1.out]; exact hlt)
            obtain ⟨y, hy⟩ := get_of_lt (show j < r2.length by rw [L2.out]; exact hlt)
            obtain ⟨z, hz⟩ := get_of_lt (show j < r3.length by rw [L3.out]; exact hlt)
            obtain ⟨m1, m2, m3, m4, m5⟩ := HPT.out j hlt
            rw [List.getD_eq_getElem?_getD, hx, Option.getD_some] at m1 m2 m3
            rw [List.getD_eq_getElem?_getD, hy, Option.getD_some] at m1 m4 m5
            rw [List.getD_eq_getElem?_getD, hz, Option.getD_some] at m1
            subst m1
            obtain ⟨d1, o1, rfl⟩ := C1.out.addr (by intro h; rw [List.map_eq_nil_iff] at h; rw [h] at hx; simp at hx)
            obtain ⟨d2, o2, rfl⟩ := C2.out.addr (by intro h; rw [List.map_eq_nil_iff] at h; rw [h] at hy; simp at hy)
            obtain ⟨d3, o3, rfl⟩ := C3.out.addr (by intro h; rw [List.map_eq_nil_iff] at h; rw [h] at hz; simp at hz)
            have c1 := cell_keep (C1.out.int hx) hb (Nat.le_refl _)
            have c2 := cell_keep (C2.out.int hy) hb (Nat.le_refl _)
            have c3 := cell_keep (C3.out.int hz) hb (Nat.le_refl _)
            clear hx hy hz
            have i1 : (j : Int) < M := by omega
            have i2 : (0 : Int) ≤ j := by omega
            have q1 : IntKind.i64.wrap (x + y) = x + y := IntWalk.i64_in _ (by omega)
            go_wp2
            go_quiet (fail)
            clear q1
            go_wp2
            go_roundw
            case rel => exact ⟨j + 1, by omega, by go_num, bel_drewN hb _⟩
            case measure => simp [intOf]; omega
          · obtain rfl : j = M := by omega
            have g5 := g4.trans (hb.mono g4.size)
            go_wp2_with (go_at_call 15; refine (bworks_any _ (hT4.out.below hb (Nat.le_refl _))).mono ?_; rintro e w5 ⟨rfl, hb5⟩)
            go_ret
            exact ⟨rfl, g5.trans (hb5.mono g5.size)⟩
      · clear HLIN HNL HFA HFB HFC
        have hor : (e1 != 0) = true ∨ ((e1 != 0) = false ∧ (e2 != 0) = true) ∨ ((e1 != 0) = false ∧ (e2 != 0) = false ∧ (e3 != 0) = true) := by
          by_cases h1 : e1 = 0
          · by_cases h2 : e2 = 0
            · right; right; exact ⟨by simp [h1], by simp [h2], by simp; exact fun h3 => hall ⟨h1, h2, h3⟩⟩
            · right; left; exact ⟨by simp [h1], by simp [h2]⟩
          · left; simp [h1]
        clear hall
        rcases hor with h1 | ⟨h1, h2⟩ | ⟨h1, h2, h3⟩
        all_goals
          go_wp2_with (go_at_call 15; refine (bworks_any _ hT4.out).mono ?_; rintro e w5 ⟨rfl, hb5⟩)
          go_ret
          exact ⟨rfl, g4.trans (hb5.mono g4.size)⟩
end Go.Proofs.YtbjhjbjjfbmoeaaGreatDoor
