/- Parts of a proof, in build order: Cp, Cr, Cs, Si, Ct, V1, E0, V4. -/
import Derived.Test.YtbjhjbjjfbmoeaaGreatDoorKf9
import Derived.ProofKit
import Derived.OpenShut
import Derived.ReadAgain
import Derived.Deep.Slices
import Derived.Deep.SlicePairs
import Derived.Lib.SmallJoins
import Derived.Below
import Derived.ChangeSame
import Derived.Test.YtbjhjbjjfbmoeaaGreatDoorShelf

/- The bank: Misfit. -/
namespace Go.Proofs.YtbjhjbjjfbmoeaaGreatDoor
open Go.RowKit

set_option maxRecDepth 100000 in
set_option maxHeartbeats 4000000 in
theorem misfit_wave (L p q : Int) (ao : Option Addr) (ds : List Int) (cap : Nat) (t n : Int) (w : World) (hc : Cells w ao (ds.map (Value.int .i64))) (hl : ds.length ≤ 9223372036854775807) (h1 : waveOK L p q = false) :
    Calls Tryz.prog 28 #[.int .i64 L, .agg #[.int .i64 p, .int .i64 q], .slice ao ds.length cap, .int .i64 t, .int .i64 n] w fun e w' => e = .returned (.tuple #[.string ⟨#[]⟩, .int .i64 70]) ∧ Below w.heap.size w w' := by
  obtain ⟨Z, hZ⟩ : ∃ Z, Z = shp 0 (smp 0 0 0) := ⟨_, rfl⟩
  have z : Tryz.zeroCells101 = Z := by rw [hZ]; exact zero101
  have hZs : Z.size = 65 := by rw [hZ, shp_size, smp_length]
  have hw1 := fun w => wave_any L p q w
  have hst := store_shape (waveV L p q) Z (waveV_size L p q) hZs (waveV_one L p q)
  have hVs := waveV_size L p q
  have hsi := fun (h : waveOK L p q = true) w => silent_any L (wav L p q) w (wav_length _ _ _)
  have hVe : waveOK L p q = true → waveV L p q = shp L (wav L p q) := fun h => by simp [waveV, h]
  have hda := fun wx hcx => dataOK_any ao ds cap wx hcx hl
  rw [h1] at hw1
  clear hsi hVe
  generalize waveV L p q = V at *
  have hne : ¬ V = #[] := by intro h; rw [h] at hVs; simp at hVs
  have hi : (Tryz.prog.info? 101).map (·.size) = some V.size := by rw [hVs]; kernel_rfl
  have HI := Lib.hid hi; clear hi
  have HW := Lib.hid hw1; clear hw1
  have HDA := Lib.hid hda; clear hda
  have HC := Lib.hid hc; clear hc
  clear hZ
  obtain ⟨W0, hW0⟩ : ∃ W0, ((w.alloc (.cells #[.int .i64 p, .int .i64 q] 23)).alloc (.cells #[.slice ao ds.length cap] 24)).alloc (.cells #[.int .i64 t] 3) = W0 := ⟨_, rfl⟩
  have hB0 : Below w.heap.size w W0 := by rw [← hW0]; exact (((Below.refl _ w).alloc (Nat.le_refl _) _).alloc (by simp) _).alloc (by simp; omega) _
  have hs0 : W0.heap.size = w.heap.size + 3 := by rw [← hW0]; simp
  have b0 : W0.heap[w.heap.size]? = some (.cells #[.int .i64 p, .int .i64 q] 23 (0, 0)) := by rw [← hW0, hold_old _ _ _ (by simp; omega)]; exact heap_alloc2_old w _ _
  have b1 : W0.heap[w.heap.size + 1]? = some (.cells #[.slice ao ds.length cap] 24 (0, 0)) := by rw [← hW0, hold_old _ _ _ (by simp)]; exact heap_alloc2_new w _ _
  have b2 : W0.heap[w.heap.size + 1 + 1]? = some (.cells #[.int .i64 t] 3 (0, 0)) := by
    have hsz : ((w.alloc (.cells #[.int .i64 p, .int .i64 q] 23)).alloc (.cells #[.slice ao ds.length cap] 24)).heap.size = w.heap.size + 1 + 1 := by simp
    rw [← hW0, ← hsz]; exact heap_alloc_new _ _
  have a0 := (cell_of_row W0 _ 0 _ _ _ b0).trans rfl
  have a1 := (cell_of_row W0 _ 1 _ _ _ b0).trans rfl
  have B1 := Lib.hid b1; have B2 := Lib.hid b2; clear b0 b1 b2
  have HS0 := Lib.hid hs0; clear hs0
  have HW0 := Lib.hid hW0; clear hW0
  go_enter Tryz.func28, Tryz.ntmps28
  go_wp2_with fail
  rw [HW0.out]
  refine (HW.out _).mono ?_
  rintro e w1 ⟨rfl, hb1⟩
  have g1 : Below w.heap.size w w1 := hB0.trans (hb1.mono (by have := hB0.size; omega))
  have g1a : Below w.heap.size w (w1.alloc (.cells V 101)) := g1.alloc g1.size _
  go_wp2
  go_ret2
  exact ⟨rfl, g1a⟩

set_option maxRecDepth 100000 in
set_option maxHeartbeats 4000000 in
theorem misfit_silent (L p q : Int) (ao : Option Addr) (ds : List Int) (cap : Nat) (t n : Int) (w : World) (hc : Cells w ao (ds.map (Value.int .i64))) (hl : ds.length ≤ 9223372036854775807) (h1 : waveOK L p q = true) (h2 : silentB (wav L p q) = true) :
    Calls Tryz.prog 28 #[.int .i64 L, .agg #[.int .i64 p, .int .i64 q], .slice ao ds.length cap, .int .i64 t, .int .i64 n] w fun e w' => e = .returned (.tuple #[.string ⟨#[]⟩, .int .i64 4]) ∧ Below w.heap.size w w' := by
  obtain ⟨Z, hZ⟩ : ∃ Z, Z = shp 0 (smp 0 0 0) := ⟨_, rfl⟩
  have z : Tryz.zeroCells101 = Z := by rw [hZ]; exact zero101
  have hZs : Z.size = 65 := by rw [hZ, shp_size, smp_length]
  have hw1 := fun w => wave_any L p q w
  have hst := store_shape (waveV L p q) Z (waveV_size L p q) hZs (waveV_one L p q)
  have hVs := waveV_size L p q
  have hsi := fun (h : waveOK L p q = true) w => silent_any L (wav L p q) w (wav_length _ _ _)
  have hVe : waveOK L p q = true → waveV L p q = shp L (wav L p q) := fun h => by simp [waveV, h]
  have hda := fun wx hcx => dataOK_any ao ds cap wx hcx hl
  rw [h1] at hw1
  replace hsi := hsi h1
  replace hVe := hVe h1
  rw [← hVe] at hsi
  rw [h2] at hsi
  clear hVe
  generalize waveV L p q = V at *
  have hne : ¬ V = #[] := by intro h; rw [h] at hVs; simp at hVs
  have hi : (Tryz.prog.info? 101).map (·.size) = some V.size := by rw [hVs]; kernel_rfl
  have HI := Lib.hid hi; clear hi
  have HW := Lib.hid hw1; clear hw1
  have HDA := Lib.hid hda; clear hda
  have HC := Lib.hid hc; clear hc
  clear hZ
  have HSI := Lib.hid hsi; clear hsi
  obtain ⟨W0, hW0⟩ : ∃ W0, ((w.alloc (.cells #[.int .i64 p, .int .i64 q] 23)).alloc (.cells #[.slice ao ds.length cap] 24)).alloc (.cells #[.int .i64 t] 3) = W0 := ⟨_, rfl⟩
  have hB0 : Below w.heap.size w W0 := by rw [← hW0]; exact (((Below.refl _ w).alloc (Nat.le_refl _) _).alloc (by simp) _).alloc (by simp; omega) _
  have hs0 : W0.heap.size = w.heap.size + 3 := by rw [← hW0]; simp
  have b0 : W0.heap[w.heap.size]? = some (.cells #[.int .i64 p, .int .i64 q] 23 (0, 0)) := by rw [← hW0, hold_old _ _ _ (by simp; omega)]; exact heap_alloc2_old w _ _
  have b1 : W0.heap[w.heap.size + 1]? = some (.cells #[.slice ao ds.length cap] 24 (0, 0)) := by rw [← hW0, hold_old _ _ _ (by simp)]; exact heap_alloc2_new w _ _
  have b2 : W0.heap[w.heap.size + 1 + 1]? = some (.cells #[.int .i64 t] 3 (0, 0)) := by
    have hsz : ((w.alloc (.cells #[.int .i64 p, .int .i64 q] 23)).alloc (.cells #[.slice ao ds.length cap] 24)).heap.size = w.heap.size + 1 + 1 := by simp
    rw [← hW0, ← hsz]; exact heap_alloc_new _ _
  have a0 := (cell_of_row W0 _ 0 _ _ _ b0).trans rfl
  have a1 := (cell_of_row W0 _ 1 _ _ _ b0).trans rfl
  have B1 := Lib.hid b1; have B2 := Lib.hid b2; clear b0 b1 b2
  have HS0 := Lib.hid hs0; clear hs0
  have HW0 := Lib.hid hW0; clear hW0
  go_enter Tryz.func28, Tryz.ntmps28
  go_wp2_with fail
  rw [HW0.out]
  refine (HW.out _).mono ?_
  rintro e w1 ⟨rfl, hb1⟩
  have g1 : Below w.heap.size w w1 := hB0.trans (hb1.mono (by have := hB0.size; omega))
  have g1a : Below w.heap.size w (w1.alloc (.cells V 101)) := g1.alloc g1.size _
  have hs1 := hb1.size
  have hs1a : (w1.alloc (.cells V 101)).heap.size = w1.heap.size + 1 := by simp
  have FK : ∀ wx, Below (w1.heap.size + 1) (w1.alloc (.cells V 101)) wx → wx.heap[w1.heap.size]? = some (.cells V 101 (0, 0)) ∧ wx.cell? ⟨w.heap.size + 1, 0, none⟩ = some (.slice ao ds.length cap) ∧ wx.cell? ⟨w.heap.size + 1 + 1, 0, none⟩ = some (.int .i64 t) ∧ Cells wx ao (ds.map (Value.int .i64)) ∧ Below w.heap.size w wx := by
    intro wx hb
    have h0 := HS0.out
    have e1 : wx.heap[w.heap.size + 1]? = _ := (hb.block _ (by omega)).trans ((hold_old w1 _ _ (by omega)).trans ((hb1.block _ (by omega)).trans B1.out))
    have e2 : wx.heap[w.heap.size + 1 + 1]? = _ := (hb.block _ (by omega)).trans ((hold_old w1 _ _ (by omega)).trans ((hb1.block _ (by omega)).trans B2.out))
    have e3 : Below w.heap.size w wx := g1a.trans (hb.mono (by omega))
    exact ⟨(hb.block _ (by omega)).trans (heap_alloc_new _ _), (cell_of_row wx _ 0 _ _ _ e1).trans rfl, (cell_of_row wx _ 0 _ _ _ e2).trans rfl, HC.out.below e3 (Nat.le_refl _), e3⟩
  have HFK := Lib.hid FK; clear FK
  have HS1 := Lib.hid hs1; have HS1A := Lib.hid hs1a; clear hs1 hs1a
  go_wp2_with (first
    | (refine wpList_load_row (by rfl) 101 _ (by rfl) w1.heap.size (by rfl) _ V _ _ (HFK.out _ (Below.refl _ _)).1 Tryz.underlying101 (by rfl) HI.out ?_)
    | (go_at_call 72; refine (HSI.out _).mono ?_; rintro e w2 ⟨rfl, hb2⟩; have hb2 := hb2.mono (Nat.le_of_eq HS1A.out.symm); obtain ⟨_, q7, _, hcc, _⟩ := HFK.out w2 hb2; have HCC := Lib.hid hcc; clear hcc; refine Hid.out ?_))
  refine Lib.hid ?_
  clear q7 HCC
  go_wp2
  go_ret2
  exact ⟨rfl, (HFK.out w2 hb2).2.2.2.2⟩

set_option maxRecDepth 100000 in
set_option maxHeartbeats 4000000 in
theorem misfit_data (L p q : Int) (ao : Option Addr) (ds : List Int) (cap : Nat) (t n : Int) (w : World) (hc : Cells w ao (ds.map (Value.int .i64))) (hl : ds.length ≤ 9223372036854775807) (h1 : waveOK L p q = true) (h2 : silentB (wav L p q) = false) (h3 : dataOK ds = false) :
    Calls Tryz.prog 28 #[.int .i64 L, .agg #[.int .i64 p, .int .i64 q], .slice ao ds.length cap, .int .i64 t, .int .i64 n] w fun e w' => e = .returned (.tuple #[.string ⟨#[]⟩, .int .i64 73]) ∧ Below w.heap.size w w' := by
  obtain ⟨Z, hZ⟩ : ∃ Z, Z = shp 0 (smp 0 0 0) := ⟨_, rfl⟩
  have z : Tryz.zeroCells101 = Z := by rw [hZ]; exact zero101
  have hZs : Z.size = 65 := by rw [hZ, shp_size, smp_length]
  have hw1 := fun w => wave_any L p q w
  have hst := store_shape (waveV L p q) Z (waveV_size L p q) hZs (waveV_one L p q)
  have hVs := waveV_size L p q
  have hsi := fun (h : waveOK L p q = true) w => silent_any L (wav L p q) w (wav_length _ _ _)
  have hVe : waveOK L p q = true → waveV L p q = shp L (wav L p q) := fun h => by simp [waveV, h]
  have hda := fun wx hcx => dataOK_any ao ds cap wx hcx hl
  rw [h1] at hw1
  replace hsi := hsi h1
  replace hVe := hVe h1
  rw [← hVe] at hsi
  rw [h2] at hsi
  clear hVe
  rw [h3] at hda
  generalize waveV L p q = V at *
  have hne : ¬ V = #[] := by intro h; rw [h] at hVs; simp at hVs
  have hi : (Tryz.prog.info? 101).map (·.size) = some V.size := by rw [hVs]; kernel_rfl
  have HI := Lib.hid hi; clear hi
  have HW := Lib.hid hw1; clear hw1
  have HDA := Lib.hid hda; clear hda
  have HC := Lib.hid hc; clear hc
  clear hZ
  have HSI := Lib.hid hsi; clear hsi
  obtain ⟨W0, hW0⟩ : ∃ W0, ((w.alloc (.cells #[.int .i64 p, .int .i64 q] 23)).alloc (.cells #[.slice ao ds.length cap] 24)).alloc (.cells #[.int .i64 t] 3) = W0 := ⟨_, rfl⟩
  have hB0 : Below w.heap.size w W0 := by rw [← hW0]; exact (((Below.refl _ w).alloc (Nat.le_refl _) _).alloc (by simp) _).alloc (by simp; omega) _
  have hs0 : W0.heap.size = w.heap.size + 3 := by rw [← hW0]; simp
  have b0 : W0.heap[w.heap.size]? = some (.cells #[.int .i64 p, .int .i64 q] 23 (0, 0)) := by rw [← hW0, hold_old _ _ _ (by simp; omega)]; exact heap_alloc2_old w _ _
  have b1 : W0.heap[w.heap.size + 1]? = some (.cells #[.slice ao ds.length cap] 24 (0, 0)) := by rw [← hW0, hold_old _ _ _ (by simp)]; exact heap_alloc2_new w _ _
  have b2 : W0.heap[w.heap.size + 1 + 1]? = some (.cells #[.int .i64 t] 3 (0, 0)) := by
    have hsz : ((w.alloc (.cells #[.int .i64 p, .int .i64 q] 23)).alloc (.cells #[.slice ao ds.length cap] 24)).heap.size = w.heap.size + 1 + 1 := by simp
    rw [← hW0, ← hsz]; exact heap_alloc_new _ _
  have a0 := (cell_of_row W0 _ 0 _ _ _ b0).trans rfl
  have a1 := (cell_of_row W0 _ 1 _ _ _ b0).trans rfl
  have B1 := Lib.hid b1; have B2 := Lib.hid b2; clear b0 b1 b2
  have HS0 := Lib.hid hs0; clear hs0
  have HW0 := Lib.hid hW0; clear hW0
  go_enter Tryz.func28, Tryz.ntmps28
  go_wp2_with fail
  rw [HW0.out]
  refine (HW.out _).mono ?_
  rintro e w1 ⟨rfl, hb1⟩
  have g1 : Below w.heap.size w w1 := hB0.trans (hb1.mono (by have := hB0.size; omega))
  have g1a : Below w.heap.size w (w1.alloc (.cells V 101)) := g1.alloc g1.size _
  have hs1 := hb1.size
  have hs1a : (w1.alloc (.cells V 101)).heap.size = w1.heap.size + 1 := by simp
  have FK : ∀ wx, Below (w1.heap.size + 1) (w1.alloc (.cells V 101)) wx → wx.heap[w1.heap.size]? = some (.cells V 101 (0, 0)) ∧ wx.cell? ⟨w.heap.size + 1, 0, none⟩ = some (.slice ao ds.length cap) ∧ wx.cell? ⟨w.heap.size + 1 + 1, 0, none⟩ = some (.int .i64 t) ∧ Cells wx ao (ds.map (Value.int .i64)) ∧ Below w.heap.size w wx := by
    intro wx hb
    have h0 := HS0.out
    have e1 : wx.heap[w.heap.size + 1]? = _ := (hb.block _ (by omega)).trans ((hold_old w1 _ _ (by omega)).trans ((hb1.block _ (by omega)).trans B1.out))
    have e2 : wx.heap[w.heap.size + 1 + 1]? = _ := (hb.block _ (by omega)).trans ((hold_old w1 _ _ (by omega)).trans ((hb1.block _ (by omega)).trans B2.out))
    have e3 : Below w.heap.size w wx := g1a.trans (hb.mono (by omega))
    exact ⟨(hb.block _ (by omega)).trans (heap_alloc_new _ _), (cell_of_row wx _ 0 _ _ _ e1).trans rfl, (cell_of_row wx _ 0 _ _ _ e2).trans rfl, HC.out.below e3 (Nat.le_refl _), e3⟩
  have HFK := Lib.hid FK; clear FK
  have HS1 := Lib.hid hs1; have HS1A := Lib.hid hs1a; clear hs1 hs1a
  go_wp2_with (first
    | (refine wpList_load_row (by rfl) 101 _ (by rfl) w1.heap.size (by rfl) _ V _ _ (HFK.out _ (Below.refl _ _)).1 Tryz.underlying101 (by rfl) HI.out ?_)
    | (go_at_call 72; refine (HSI.out _).mono ?_; rintro e w2 ⟨rfl, hb2⟩; have hb2 := hb2.mono (Nat.le_of_eq HS1A.out.symm); obtain ⟨_, q7, _, hcc, _⟩ := HFK.out w2 hb2; have HCC := Lib.hid hcc; clear hcc; refine Hid.out ?_))
  refine Lib.hid ?_
  have hs2 := hb2.size
  go_wp2_with (go_at_call 61; refine (HDA.out _ HCC.out).mono ?_; rintro e w3 ⟨rfl, hb3⟩; refine Hid.out ?_)
  have hb3 : Below (w1.heap.size + 1) (w1.alloc (.cells V 101)) w3 := hb2.trans (hb3.mono (by have := HS1A.out; omega))
  clear q7 HCC hb2 hs2
  obtain ⟨_, q7, q8, hcc, g3⟩ := HFK.out w3 hb3
  have HCC := Lib.hid hcc; clear hcc
  refine Lib.hid ?_
  clear q7 q8 HCC
  go_wp2
  go_ret2
  exact ⟨rfl, g3⟩

set_option maxRecDepth 100000 in
set_option maxHeartbeats 4000000 in
theorem misfit_before (L p q : Int) (ao : Option Addr) (ds : List Int) (cap : Nat) (t n : Int) (w : World) (hc : Cells w ao (ds.map (Value.int .i64))) (hl : ds.length ≤ 9223372036854775807) (h1 : waveOK L p q = true) (h2 : silentB (wav L p q) = false) (h3 : dataOK ds = true) (h4 : t < 0) :
    Calls Tryz.prog 28 #[.int .i64 L, .agg #[.int .i64 p, .int .i64 q], .slice ao ds.length cap, .int .i64 t, .int .i64 n] w fun e w' => e = .returned (.tuple #[.string ⟨#[]⟩, .int .i64 8]) ∧ Below w.heap.size w w' := by
  obtain ⟨Z, hZ⟩ : ∃ Z, Z = shp 0 (smp 0 0 0) := ⟨_, rfl⟩
  have z : Tryz.zeroCells101 = Z := by rw [hZ]; exact zero101
  have hZs : Z.size = 65 := by rw [hZ, shp_size, smp_length]
  have hw1 := fun w => wave_any L p q w
  have hst := store_shape (waveV L p q) Z (waveV_size L p q) hZs (waveV_one L p q)
  have hVs := waveV_size L p q
  have hsi := fun (h : waveOK L p q = true) w => silent_any L (wav L p q) w (wav_length _ _ _)
  have hVe : waveOK L p q = true → waveV L p q = shp L (wav L p q) := fun h => by simp [waveV, h]
  have hda := fun wx hcx => dataOK_any ao ds cap wx hcx hl
  rw [h1] at hw1
  replace hsi := hsi h1
  replace hVe := hVe h1
  rw [← hVe] at hsi
  rw [h2] at hsi
  clear hVe
  rw [h3] at hda
  have hdl := (dataOK_true h3).1
  have hwt := waveOK_true h1
  obtain ⟨k1, k2, _, _, _, _⟩ := hwt
  generalize waveV L p q = V at *
  have hne : ¬ V = #[] := by intro h; rw [h] at hVs; simp at hVs
  have hi : (Tryz.prog.info? 101).map (·.size) = some V.size := by rw [hVs]; kernel_rfl
  have HI := Lib.hid hi; clear hi
  have HW := Lib.hid hw1; clear hw1
  have HDA := Lib.hid hda; clear hda
  have HC := Lib.hid hc; clear hc
  clear hZ
  have HSI := Lib.hid hsi; clear hsi
  obtain ⟨W0, hW0⟩ : ∃ W0, ((w.alloc (.cells #[.int .i64 p, .int .i64 q] 23)).alloc (.cells #[.slice ao ds.length cap] 24)).alloc (.cells #[.int .i64 t] 3) = W0 := ⟨_, rfl⟩
  have hB0 : Below w.heap.size w W0 := by rw [← hW0]; exact (((Below.refl _ w).alloc (Nat.le_refl _) _).alloc (by simp) _).alloc (by simp; omega) _
  have hs0 : W0.heap.size = w.heap.size + 3 := by rw [← hW0]; simp
  have b0 : W0.heap[w.heap.size]? = some (.cells #[.int .i64 p, .int .i64 q] 23 (0, 0)) := by rw [← hW0, hold_old _ _ _ (by simp; omega)]; exact heap_alloc2_old w _ _
  have b1 : W0.heap[w.heap.size + 1]? = some (.cells #[.slice ao ds.length cap] 24 (0, 0)) := by rw [← hW0, hold_old _ _ _ (by simp)]; exact heap_alloc2_new w _ _
  have b2 : W0.heap[w.heap.size + 1 + 1]? = some (.cells #[.int .i64 t] 3 (0, 0)) := by
    have hsz : ((w.alloc (.cells #[.int .i64 p, .int .i64 q] 23)).alloc (.cells #[.slice ao ds.length cap] 24)).heap.size = w.heap.size + 1 + 1 := by simp
    rw [← hW0, ← hsz]; exact heap_alloc_new _ _
  have a0 := (cell_of_row W0 _ 0 _ _ _ b0).trans rfl
  have a1 := (cell_of_row W0 _ 1 _ _ _ b0).trans rfl
  have B1 := Lib.hid b1; have B2 := Lib.hid b2; clear b0 b1 b2
  have HS0 := Lib.hid hs0; clear hs0
  have HW0 := Lib.hid hW0; clear hW0
  go_enter Tryz.func28, Tryz.ntmps28
  go_wp2_with fail
  rw [HW0.out]
  refine (HW.out _).mono ?_
  rintro e w1 ⟨rfl, hb1⟩
  have g1 : Below w.heap.size w w1 := hB0.trans (hb1.mono (by have := hB0.size; omega))
  have g1a : Below w.heap.size w (w1.alloc (.cells V 101)) := g1.alloc g1.size _
  have hs1 := hb1.size
  have hs1a : (w1.alloc (.cells V 101)).heap.size = w1.heap.size + 1 := by simp
  have FK : ∀ wx, Below (w1.heap.size + 1) (w1.alloc (.cells V 101)) wx → wx.heap[w1.heap.size]? = some (.cells V 101 (0, 0)) ∧ wx.cell? ⟨w.heap.size + 1, 0, none⟩ = some (.slice ao ds.length cap) ∧ wx.cell? ⟨w.heap.size + 1 + 1, 0, none⟩ = some (.int .i64 t) ∧ Cells wx ao (ds.map (Value.int .i64)) ∧ Below w.heap.size w wx := by
    intro wx hb
    have h0 := HS0.out
    have e1 : wx.heap[w.heap.size + 1]? = _ := (hb.block _ (by omega)).trans ((hold_old w1 _ _ (by omega)).trans ((hb1.block _ (by omega)).trans B1.out))
    have e2 : wx.heap[w.heap.size + 1 + 1]? = _ := (hb.block _ (by omega)).trans ((hold_old w1 _ _ (by omega)).trans ((hb1.block _ (by omega)).trans B2.out))
    have e3 : Below w.heap.size w wx := g1a.trans (hb.mono (by omega))
    exact ⟨(hb.block _ (by omega)).trans (heap_alloc_new _ _), (cell_of_row wx _ 0 _ _ _ e1).trans rfl, (cell_of_row wx _ 0 _ _ _ e2).trans rfl, HC.out.below e3 (Nat.le_refl _), e3⟩
  have HFK := Lib.hid FK; clear FK
  have HS1 := Lib.hid hs1; have HS1A := Lib.hid hs1a; clear hs1 hs1a
  go_wp2_with (first
    | (refine wpList_load_row (by rfl) 101 _ (by rfl) w1.heap.size (by rfl) _ V _ _ (HFK.out _ (Below.refl _ _)).1 Tryz.underlying101 (by rfl) HI.out ?_)
    | (go_at_call 72; refine (HSI.out _).mono ?_; rintro e w2 ⟨rfl, hb2⟩; have hb2 := hb2.mono (Nat.le_of_eq HS1A.out.symm); obtain ⟨_, q7, _, hcc, _⟩ := HFK.out w2 hb2; have HCC := Lib.hid hcc; clear hcc; refine Hid.out ?_))
  refine Lib.hid ?_
  have hs2 := hb2.size
  go_wp2_with (go_at_call 61; refine (HDA.out _ HCC.out).mono ?_; rintro e w3 ⟨rfl, hb3⟩; refine Hid.out ?_)
  have hb3 : Below (w1.heap.size + 1) (w1.alloc (.cells V 101)) w3 := hb2.trans (hb3.mono (by have := HS1A.out; omega))
  clear q7 HCC hb2 hs2
  obtain ⟨_, q7, q8, hcc, g3⟩ := HFK.out w3 hb3
  have HCC := Lib.hid hcc; clear hcc
  refine Lib.hid ?_
  go_wp2
  go_ret2
  exact ⟨rfl, g3⟩

set_option maxRecDepth 100000 in
set_option maxHeartbeats 4000000 in
theorem misfit_behind (L p q : Int) (ao : Option Addr) (ds : List Int) (cap : Nat) (t n : Int) (w : World) (hc : Cells w ao (ds.map (Value.int .i64))) (hl : ds.length ≤ 9223372036854775807) (h1 : waveOK L p q = true) (h2 : silentB (wav L p q) = false) (h3 : dataOK ds = true) (h4 : 0 ≤ t) (h5 : (ds.length : Int) - L < t) :
    Calls Tryz.prog 28 #[.int .i64 L, .agg #[.int .i64 p, .int .i64 q], .slice ao ds.length cap, .int .i64 t, .int .i64 n] w fun e w' => e = .returned (.tuple #[.string ⟨#[]⟩, .int .i64 8]) ∧ Below w.heap.size w w' := by
  obtain ⟨Z, hZ⟩ : ∃ Z, Z = shp 0 (smp 0 0 0) := ⟨_, rfl⟩
  have z : Tryz.zeroCells101 = Z := by rw [hZ]; exact zero101
  have hZs : Z.size = 65 := by rw [hZ, shp_size, smp_length]
  have hw1 := fun w => wave_any L p q w
  have hst := store_shape (waveV L p q) Z (waveV_size L p q) hZs (waveV_one L p q)
  have hVs := waveV_size L p q
  have hsi := fun (h : waveOK L p q = true) w => silent_any L (wav L p q) w (wav_length _ _ _)
  have hVe : waveOK L p q = true → waveV L p q = shp L (wav L p q) := fun h => by simp [waveV, h]
  have hda := fun wx hcx => dataOK_any ao ds cap wx hcx hl
  rw [h1] at hw1
  replace hsi := hsi h1
  replace hVe := hVe h1
  rw [← hVe] at hsi
  rw [h2] at hsi
  clear hVe
  rw [h3] at hda
  have hdl := (dataOK_true h3).1
  have hwt := waveOK_true h1
  obtain ⟨k1, k2, _, _, _, _⟩ := hwt
  generalize waveV L p q = V at *
  have hne : ¬ V = #[] := by intro h; rw [h] at hVs; simp at hVs
  have hi : (Tryz.prog.info? 101).map (·.size) = some V.size := by rw [hVs]; kernel_rfl
  have HI := Lib.hid hi; clear hi
  have HW := Lib.hid hw1; clear hw1
  have HDA := Lib.hid hda; clear hda
  have HC := Lib.hid hc; clear hc
  clear hZ
  have HSI := Lib.hid hsi; clear hsi
  obtain ⟨W0, hW0⟩ : ∃ W0, ((w.alloc (.cells #[.int .i64 p, .int .i64 q] 23)).alloc (.cells #[.slice ao ds.length cap] 24)).alloc (.cells #[.int .i64 t] 3) = W0 := ⟨_, rfl⟩
  have hB0 : Below w.heap.size w W0 := by rw [← hW0]; exact (((Below.refl _ w).alloc (Nat.le_refl _) _).alloc (by simp) _).alloc (by simp; omega) _
  have hs0 : W0.heap.size = w.heap.size + 3 := by rw [← hW0]; simp
  have b0 : W0.heap[w.heap.size]? = some (.cells #[.int .i64 p, .int .i64 q] 23 (0, 0)) := by rw [← hW0, hold_old _ _ _ (by simp; omega)]; exact heap_alloc2_old w _ _
  have b1 : W0.heap[w.heap.size + 1]? = some (.cells #[.slice ao ds.length cap] 24 (0, 0)) := by rw [← hW0, hold_old _ _ _ (by simp)]; exact heap_alloc2_new w _ _
  have b2 : W0.heap[w.heap.size + 1 + 1]? = some (.cells #[.int .i64 t] 3 (0, 0)) := by
    have hsz : ((w.alloc (.cells #[.int .i64 p, .int .i64 q] 23)).alloc (.cells #[.slice ao ds.length cap] 24)).heap.size = w.heap.size + 1 + 1 := by simp
    rw [← hW0, ← hsz]; exact heap_alloc_new _ _
  have a0 := (cell_of_row W0 _ 0 _ _ _ b0).trans rfl
  have a1 := (cell_of_row W0 _ 1 _ _ _ b0).trans rfl
  have B1 := Lib.hid b1; have B2 := Lib.hid b2; clear b0 b1 b2
  have HS0 := Lib.hid hs0; clear hs0
  have HW0 := Lib.hid hW0; clear hW0
  go_enter Tryz.func28, Tryz.ntmps28
  go_wp2_with fail
  rw [HW0.out]
  refine (HW.out _).mono ?_
  rintro e w1 ⟨rfl, hb1⟩
  have g1 : Below w.heap.size w w1 := hB0.trans (hb1.mono (by have := hB0.size; omega))
  have g1a : Below w.heap.size w (w1.alloc (.cells V 101)) := g1.alloc g1.size _
  have hs1 := hb1.size
  have hs1a : (w1.alloc (.cells V 101)).heap.size = w1.heap.size + 1 := by simp
  have FK : ∀ wx, Below (w1.heap.size + 1) (w1.alloc (.cells V 101)) wx → wx.heap[w1.heap.size]? = some (.cells V 101 (0, 0)) ∧ wx.cell? ⟨w.heap.size + 1, 0, none⟩ = some (.slice ao ds.length cap) ∧ wx.cell? ⟨w.heap.size + 1 + 1, 0, none⟩ = some (.int .i64 t) ∧ Cells wx ao (ds.map (Value.int .i64)) ∧ Below w.heap.size w wx := by
    intro wx hb
    have h0 := HS0.out
    have e1 : wx.heap[w.heap.size + 1]? = _ := (hb.block _ (by omega)).trans ((hold_old w1 _ _ (by omega)).trans ((hb1.block _ (by omega)).trans B1.out))
    have e2 : wx.heap[w.heap.size + 1 + 1]? = _ := (hb.block _ (by omega)).trans ((hold_old w1 _ _ (by omega)).trans ((hb1.block _ (by omega)).trans B2.out))
    have e3 : Below w.heap.size w wx := g1a.trans (hb.mono (by omega))
    exact ⟨(hb.block _ (by omega)).trans (heap_alloc_new _ _), (cell_of_row wx _ 0 _ _ _ e1).trans rfl, (cell_of_row wx _ 0 _ _ _ e2).trans rfl, HC.out.below e3 (Nat.le_refl _), e3⟩
  have HFK := Lib.hid FK; clear FK
  have HS1 := Lib.hid hs1; have HS1A := Lib.hid hs1a; clear hs1 hs1a
  go_wp2_with (first
    | (refine wpList_load_row (by rfl) 101 _ (by rfl) w1.heap.size (by rfl) _ V _ _ (HFK.out _ (Below.refl _ _)).1 Tryz.underlying101 (by rfl) HI.out ?_)
    | (go_at_call 72; refine (HSI.out _).mono ?_; rintro e w2 ⟨rfl, hb2⟩; have hb2 := hb2.mono (Nat.le_of_eq HS1A.out.symm); obtain ⟨_, q7, _, hcc, _⟩ := HFK.out w2 hb2; have HCC := Lib.hid hcc; clear hcc; refine Hid.out ?_))
  refine Lib.hid ?_
  have hs2 := hb2.size
  go_wp2_with (go_at_call 61; refine (HDA.out _ HCC.out).mono ?_; rintro e w3 ⟨rfl, hb3⟩; refine Hid.out ?_)
  have hb3 : Below (w1.heap.size + 1) (w1.alloc (.cells V 101)) w3 := hb2.trans (hb3.mono (by have := HS1A.out; omega))
  clear q7 HCC hb2 hs2
  obtain ⟨_, q7, q8, hcc, g3⟩ := HFK.out w3 hb3
  have HCC := Lib.hid hcc; clear hcc
  refine Lib.hid ?_
  go_wp2
  go_ret2
  exact ⟨rfl, g3⟩

set_option maxRecDepth 100000 in
set_option maxHeartbeats 4000000 in
theorem misfit_parts (L p q : Int) (ao : Option Addr) (ds : List Int) (cap : Nat) (t n : Int) (w : World) (hc : Cells w ao (ds.map (Value.int .i64))) (hl : ds.length ≤ 9223372036854775807) (h1 : waveOK L p q = true) (h2 : silentB (wav L p q) = false) (h3 : dataOK ds = true) (h4 : 0 ≤ t) (h5 : ¬ (ds.length : Int) - L < t) (h6 : inB 1 n 8 = false) :
    Calls Tryz.prog 28 #[.int .i64 L, .agg #[.int .i64 p, .int .i64 q], .slice ao ds.length cap, .int .i64 t, .int .i64 n] w fun e w' => e = .returned (.tuple #[.string ⟨#[]⟩, .int .i64 2]) ∧ Below w.heap.size w w' := by
  obtain ⟨Z, hZ⟩ : ∃ Z, Z = shp 0 (smp 0 0 0) := ⟨_, rfl⟩
  have z : Tryz.zeroCells101 = Z := by rw [hZ]; exact zero101
  have hZs : Z.size = 65 := by rw [hZ, shp_size, smp_length]
  have hw1 := fun w => wave_any L p q w
  have hst := store_shape (waveV L p q) Z (waveV_size L p q) hZs (waveV_one L p q)
  have hVs := waveV_size L p q
  have hsi := fun (h : waveOK L p q = true) w => silent_any L (wav L p q) w (wav_length _ _ _)
  have hVe : waveOK L p q = true → waveV L p q = shp L (wav L p q) := fun h => by simp [waveV, h]
  have hda := fun wx hcx => dataOK_any ao ds cap wx hcx hl
  rw [h1] at hw1
  replace hsi := hsi h1
  replace hVe := hVe h1
  rw [← hVe] at hsi
  rw [h2] at hsi
  clear hVe
  rw [h3] at hda
  have hdl := (dataOK_true h3).1
  have hwt := waveOK_true h1
  obtain ⟨k1, k2, _, _, _, _⟩ := hwt
  generalize waveV L p q = V at *
  have hne : ¬ V = #[] := by intro h; rw [h] at hVs; simp at hVs
  have hi : (Tryz.prog.info? 101).map (·.size) = some V.size := by rw [hVs]; kernel_rfl
  have HI := Lib.hid hi; clear hi
  have HW := Lib.hid hw1; clear hw1
  have HDA := Lib.hid hda; clear hda
  have HC := Lib.hid hc; clear hc
  clear hZ
  have HSI := Lib.hid hsi; clear hsi
  obtain ⟨W0, hW0⟩ : ∃ W0, ((w.alloc (.cells #[.int .i64 p, .int .i64 q] 23)).alloc (.cells #[.slice ao ds.length cap] 24)).alloc (.cells #[.int .i64 t] 3) = W0 := ⟨_, rfl⟩
  have hB0 : Below w.heap.size w W0 := by rw [← hW0]; exact (((Below.refl _ w).alloc (Nat.le_refl _) _).alloc (by simp) _).alloc (by simp; omega) _
  have hs0 : W0.heap.size = w.heap.size + 3 := by rw [← hW0]; simp
  have b0 : W0.heap[w.heap.size]? = some (.cells #[.int .i64 p, .int .i64 q] 23 (0, 0)) := by rw [← hW0, hold_old _ _ _ (by simp; omega)]; exact heap_alloc2_old w _ _
  have b1 : W0.heap[w.heap.size + 1]? = some (.cells #[.slice ao ds.length cap] 24 (0, 0)) := by rw [← hW0, hold_old _ _ _ (by simp)]; exact heap_alloc2_new w _ _
  have b2 : W0.heap[w.heap.size + 1 + 1]? = some (.cells #[.int .i64 t] 3 (0, 0)) := by
    have hsz : ((w.alloc (.cells #[.int .i64 p, .int .i64 q] 23)).alloc (.cells #[.slice ao ds.length cap] 24)).heap.size = w.heap.size + 1 + 1 := by simp
    rw [← hW0, ← hsz]; exact heap_alloc_new _ _
  have a0 := (cell_of_row W0 _ 0 _ _ _ b0).trans rfl
  have a1 := (cell_of_row W0 _ 1 _ _ _ b0).trans rfl
  have B1 := Lib.hid b1; have B2 := Lib.hid b2; clear b0 b1 b2
  have HS0 := Lib.hid hs0; clear hs0
  have HW0 := Lib.hid hW0; clear hW0
  go_enter Tryz.func28, Tryz.ntmps28
  go_wp2_with fail
  rw [HW0.out]
  refine (HW.out _).mono ?_
  rintro e w1 ⟨rfl, hb1⟩
  have g1 : Below w.heap.size w w1 := hB0.trans (hb1.mono (by have := hB0.size; omega))
  have g1a : Below w.heap.size w (w1.alloc (.cells V 101)) := g1.alloc g1.size _
  have hs1 := hb1.size
  have hs1a : (w1.alloc (.cells V 101)).heap.size = w1.heap.size + 1 := by simp
  have FK : ∀ wx, Below (w1.heap.size + 1) (w1.alloc (.cells V 101)) wx → wx.heap[w1.heap.size]? = some (.cells V 101 (0, 0)) ∧ wx.cell? ⟨w.heap.size + 1, 0, none⟩ = some (.slice ao ds.length cap) ∧ wx.cell? ⟨w.heap.size + 1 + 1, 0, none⟩ = some (.int .i64 t) ∧ Cells wx ao (ds.map (Value.int .i64)) ∧ Below w.heap.size w wx := by
    intro wx hb
    have h0 := HS0.out
    have e1 : wx.heap[w.heap.size + 1]? = _ := (hb.block _ (by omega)).trans ((hold_old w1 _ _ (by omega)).trans ((hb1.block _ (by omega)).trans B1.out))
    have e2 : wx.heap[w.heap.size + 1 + 1]? = _ := (hb.block _ (by omega)).trans ((hold_old w1 _ _ (by omega)).trans ((hb1.block _ (by omega)).trans B2.out))
    have e3 : Below w.heap.size w wx := g1a.trans (hb.mono (by omega))
    exact ⟨(hb.block _ (by omega)).trans (heap_alloc_new _ _), (cell_of_row wx _ 0 _ _ _ e1).trans rfl, (cell_of_row wx _ 0 _ _ _ e2).trans rfl, HC.out.below e3 (Nat.le_refl _), e3⟩
  have HFK := Lib.hid FK; clear FK
  have HS1 := Lib.hid hs1; have HS1A := Lib.hid hs1a; clear hs1 hs1a
  go_wp2_with (first
    | (refine wpList_load_row (by rfl) 101 _ (by rfl) w1.heap.size (by rfl) _ V _ _ (HFK.out _ (Below.refl _ _)).1 Tryz.underlying101 (by rfl) HI.out ?_)
    | (go_at_call 72; refine (HSI.out _).mono ?_; rintro e w2 ⟨rfl, hb2⟩; have hb2 := hb2.mono (Nat.le_of_eq HS1A.out.symm); obtain ⟨_, q7, _, hcc, _⟩ := HFK.out w2 hb2; have HCC := Lib.hid hcc; clear hcc; refine Hid.out ?_))
  refine Lib.hid ?_
  have hs2 := hb2.size
  go_wp2_with (go_at_call 61; refine (HDA.out _ HCC.out).mono ?_; rintro e w3 ⟨rfl, hb3⟩; refine Hid.out ?_)
  have hb3 : Below (w1.heap.size + 1) (w1.alloc (.cells V 101)) w3 := hb2.trans (hb3.mono (by have := HS1A.out; omega))
  clear q7 HCC hb2 hs2
  obtain ⟨_, q7, q8, hcc, g3⟩ := HFK.out w3 hb3
  have HCC := Lib.hid hcc; clear hcc
  refine Lib.hid ?_
  go_wp2_with (go_at_call 68; refine (bwithin_any _ _ _ _).mono ?_; rintro e w' ⟨rfl, rfl⟩)
  go_ret2
  exact ⟨rfl, g3⟩

set_option maxRecDepth 100000 in
set_option maxHeartbeats 4000000 in
theorem misfit_rest (L p q : Int) (ao : Option Addr) (ds : List Int) (cap : Nat) (t n : Int) (w : World) (hc : Cells w ao (ds.map (Value.int .i64))) (hl : ds.length ≤ 9223372036854775807) (h1 : waveOK L p q = true) (h2 : silentB (wav L p q) = false) (h3 : dataOK ds = true) (h4 : 0 ≤ t) (h5 : ¬ (ds.length : Int) - L < t) (h6 : inB 1 n 8 = true) (h7 : ¬ L % n = 0) (h8 : 1 ≤ n) (h9 : n ≤ 8) :
    Calls Tryz.prog 28 #[.int .i64 L, .agg #[.int .i64 p, .int .i64 q], .slice ao ds.length cap, .int .i64 t, .int .i64 n] w fun e w' => e = .returned (.tuple #[.string ⟨#[]⟩, .int .i64 2]) ∧ Below w.heap.size w w' := by
  obtain ⟨Z, hZ⟩ : ∃ Z, Z = shp 0 (smp 0 0 0) := ⟨_, rfl⟩
  have z : Tryz.zeroCells101 = Z := by rw [hZ]; exact zero101
  have hZs : Z.size = 65 := by rw [hZ, shp_size, smp_length]
  have hw1 := fun w => wave_any L p q w
  have hst := store_shape (waveV L p q) Z (waveV_size L p q) hZs (waveV_one L p q)
  have hVs := waveV_size L p q
  have hsi := fun (h : waveOK L p q = true) w => silent_any L (wav L p q) w (wav_length _ _ _)
  have hVe : waveOK L p q = true → waveV L p q = shp L (wav L p q) := fun h => by simp [waveV, h]
  have hda := fun wx hcx => dataOK_any ao ds cap wx hcx hl
  rw [h1] at hw1
  replace hsi := hsi h1
  replace hVe := hVe h1
  rw [← hVe] at hsi
  rw [h2] at hsi
  clear hVe
  rw [h3] at hda
  have hdl := (dataOK_true h3).1
  have hwt := waveOK_true h1
  obtain ⟨k1, k2, _, _, _, _⟩ := hwt
  generalize waveV L p q = V at *
  have hne : ¬ V = #[] := by intro h; rw [h] at hVs; simp at hVs
  have hi : (Tryz.prog.info? 101).map (·.size) = some V.size := by rw [hVs]; kernel_rfl
  have HI := Lib.hid hi; clear hi
  have HW := Lib.hid hw1; clear hw1
  have HDA := Lib.hid hda; clear hda
  have HC := Lib.hid hc; clear hc
  clear hZ
  have HSI := Lib.hid hsi; clear hsi
  obtain ⟨W0, hW0⟩ : ∃ W0, ((w.alloc (.cells #[.int .i64 p, .int .i64 q] 23)).alloc (.cells #[.slice ao ds.length cap] 24)).alloc (.cells #[.int .i64 t] 3) = W0 := ⟨_, rfl⟩
  have hB0 : Below w.heap.size w W0 := by rw [← hW0]; exact (((Below.refl _ w).alloc (Nat.le_refl _) _).alloc (by simp) _).alloc (by simp; omega) _
  have hs0 : W0.heap.size = w.heap.size + 3 := by rw [← hW0]; simp
  have b0 : W0.heap[w.heap.size]? = some (.cells #[.int .i64 p, .int .i64 q] 23 (0, 0)) := by rw [← hW0, hold_old _ _ _ (by simp; omega)]; exact heap_alloc2_old w _ _
  have b1 : W0.heap[w.heap.size + 1]? = some (.cells #[.slice ao ds.length cap] 24 (0, 0)) := by rw [← hW0, hold_old _ _ _ (by simp)]; exact heap_alloc2_new w _ _
  have b2 : W0.heap[w.heap.size + 1 + 1]? = some (.cells #[.int .i64 t] 3 (0, 0)) := by
    have hsz : ((w.alloc (.cells #[.int .i64 p, .int .i64 q] 23)).alloc (.cells #[.slice ao ds.length cap] 24)).heap.size = w.heap.size + 1 + 1 := by simp
    rw [← hW0, ← hsz]; exact heap_alloc_new _ _
  have a0 := (cell_of_row W0 _ 0 _ _ _ b0).trans rfl
  have a1 := (cell_of_row W0 _ 1 _ _ _ b0).trans rfl
  have B1 := Lib.hid b1; have B2 := Lib.hid b2; clear b0 b1 b2
  have HS0 := Lib.hid hs0; clear hs0
  have HW0 := Lib.hid hW0; clear hW0
  go_enter Tryz.func28, Tryz.ntmps28
  go_wp2_with fail
  rw [HW0.out]
  refine (HW.out _).mono ?_
  rintro e w1 ⟨rfl, hb1⟩
  have g1 : Below w.heap.size w w1 := hB0.trans (hb1.mono (by have := hB0.size; omega))
  have g1a : Below w.heap.size w (w1.alloc (.cells V 101)) := g1.alloc g1.size _
  have hs1 := hb1.size
  have hs1a : (w1.alloc (.cells V 101)).heap.size = w1.heap.size + 1 := by simp
  have FK : ∀ wx, Below (w1.heap.size + 1) (w1.alloc (.cells V 101)) wx → wx.heap[w1.heap.size]? = some (.cells V 101 (0, 0)) ∧ wx.cell? ⟨w.heap.size + 1, 0, none⟩ = some (.slice ao ds.length cap) ∧ wx.cell? ⟨w.heap.size + 1 + 1, 0, none⟩ = some (.int .i64 t) ∧ Cells wx ao (ds.map (Value.int .i64)) ∧ Below w.heap.size w wx := by
    intro wx hb
    have h0 := HS0.out
    have e1 : wx.heap[w.heap.size + 1]? = _ := (hb.block _ (by omega)).trans ((hold_old w1 _ _ (by omega)).trans ((hb1.block _ (by omega)).trans B1.out))
    have e2 : wx.heap[w.heap.size + 1 + 1]? = _ := (hb.block _ (by omega)).trans ((hold_old w1 _ _ (by omega)).trans ((hb1.block _ (by omega)).trans B2.out))
    have e3 : Below w.heap.size w wx := g1a.trans (hb.mono (by omega))
    exact ⟨(hb.block _ (by omega)).trans (heap_alloc_new _ _), (cell_of_row wx _ 0 _ _ _ e1).trans rfl, (cell_of_row wx _ 0 _ _ _ e2).trans rfl, HC.out.below e3 (Nat.le_refl _), e3⟩
  have HFK := Lib.hid FK; clear FK
  have HS1 := Lib.hid hs1; have HS1A := Lib.hid hs1a; clear hs1 hs1a
  go_wp2_with (first
    | (refine wpList_load_row (by rfl) 101 _ (by rfl) w1.heap.size (by rfl) _ V _ _ (HFK.out _ (Below.refl _ _)).1 Tryz.underlying101 (by rfl) HI.out ?_)
    | (go_at_call 72; refine (HSI.out _).mono ?_; rintro e w2 ⟨rfl, hb2⟩; have hb2 := hb2.mono (Nat.le_of_eq HS1A.out.symm); obtain ⟨_, q7, _, hcc, _⟩ := HFK.out w2 hb2; have HCC := Lib.hid hcc; clear hcc; refine Hid.out ?_))
  refine Lib.hid ?_
  have hs2 := hb2.size
  go_wp2_with (go_at_call 61; refine (HDA.out _ HCC.out).mono ?_; rintro e w3 ⟨rfl, hb3⟩; refine Hid.out ?_)
  have hb3 : Below (w1.heap.size + 1) (w1.alloc (.cells V 101)) w3 := hb2.trans (hb3.mono (by have := HS1A.out; omega))
  clear q7 HCC hb2 hs2
  obtain ⟨_, q7, q8, hcc, g3⟩ := HFK.out w3 hb3
  have HCC := Lib.hid hcc; clear hcc
  refine Lib.hid ?_
  go_wp2_with (go_at_call 68; refine (bwithin_any _ _ _ _).mono ?_; rintro e w' ⟨rfl, rfl⟩)
  go_ret2
  exact ⟨rfl, g3⟩

end Go.Proofs.YtbjhjbjjfbmoeaaGreatDoor

/- The bank: Misfit of what is in order; Misfit in general. -/
namespace Go.Proofs.YtbjhjbjjfbmoeaaGreatDoor
open Go.RowKit

theorem Tryz.infoNum : (Tryz.prog.info? 39).map (fun i => (i.zero, i.size, i.bytes)) = some (some (.string ⟨#[]⟩), 1, 16) := by kernel_rfl
theorem own_one (w : World) (u : Value) (T : TypeId) (b : Nat) (hb : b ≤ w.heap.size) : (w.alloc (.cells #[u] T)).ownsRow b T 1 (.slice (some ⟨w.heap.size, 0, none⟩) 1 1) 1 [u] :=
  ⟨by simp, .inr ⟨w.heap.size, 1, #[u], rfl, hb, World.alloc_heap_new w _, Nat.le_refl _, by unfold maxLen; omega, by simp, by simp⟩⟩
/-- the texts of fractions -/
def frT (l : List (Int × Nat)) : List Value := l.map fun u => Value.string (ofT u.1 u.2)
theorem frT_snoc (l : List (Int × Nat)) (u : Int × Nat) : frT (l ++ [u]) = frT l ++ [.string (ofT u.1 u.2)] := by simp [frT]
theorem frT_strings (l : List (Int × Nat)) : frT l = (l.map fun u => ofT u.1 u.2).map Value.string := by simp [frT]

set_option maxRecDepth 100000 in
set_option maxHeartbeats 4000000 in
theorem misfit_ok (L p q : Int) (ao : Option Addr) (ds : List Int) (cap : Nat) (t n : Int) (w : World) (hc : Cells w ao (ds.map (Value.int .i64))) (hl : ds.length ≤ 9223372036854775807) (h1 : waveOK L p q = true) (h2 : silentB (wav L p q) = false) (h3 : dataOK ds = true) (h4 : 0 ≤ t) (h5 : t + L ≤ ds.length) (h6 : 1 ≤ n) (h7 : n ≤ 8) (h8 : L % n = 0) (ht : Tab w) :
    Calls Tryz.prog 28 #[.int .i64 L, .agg #[.int .i64 p, .int .i64 q], .slice ao ds.length cap, .int .i64 t, .int .i64 n] w fun e w' => e = .returned (.tuple #[.string (ofT (misQ L p q ds t n).1 (misQ L p q ds t n).2), .int .i64 0]) ∧ Below w.heap.size w w' := by
  have hwt := waveOK_true h1
  have hdt := dataOK_true h3
  obtain ⟨k1, k2, _, _, _, _⟩ := hwt
  obtain ⟨N, hN⟩ : ∃ N : Nat, n = (N : Int) := ⟨n.toNat, by omega⟩
  obtain ⟨T, hT⟩ : ∃ T : Nat, t = (T : Int) := ⟨t.toNat, by omega⟩
  obtain ⟨M, hM⟩ : ∃ M : Nat, L = (M : Int) := ⟨L.toNat, by omega⟩
  obtain ⟨k, hk⟩ : ∃ k : Nat, k = M / N := ⟨_, rfl⟩
  have hkn : k * N = M := by
    rw [hk]
    refine Nat.div_mul_cancel (Nat.dvd_of_mod_eq_zero ?_)
    rw [hM, hN] at h8
    omega
  have hQ : misQ L p q ds t n = frSum (misL (wav L p q) ds T M k N) := by
    unfold misQ
    rw [hM, hN, hT, Int.toNat_natCast, Int.toNat_natCast, Int.toNat_natCast, hk]
  have hra := fun (a b : Nat) (sg : Int) (bv bd bt : Nat) wx hTx hab (hbM : b ≤ M) hb => ratio_any L (wav L p q) ds ao cap T a b sg bv bd bt wx hTx (wav_length _ _ _) hab (show b ≤ 64 by omega) (show T + b ≤ ds.length by omega) hdt.1 hb (wav_bd _ _ _) hdt.2
  have hmb : ∀ j, j ≤ N → ∀ u ∈ misL (wav L p q) ds T M k j, u.2 ≠ 0 ∧ u.1.natAbs < 10 ^ 21 ∧ u.2 < 10 ^ 21 := fun j hj => misL_bd (wav_bd _ _ _) hdt.2 T M k j (by omega) (Nat.le_trans (Nat.mul_le_mul_right k hj) (by rw [Nat.mul_comm]; omega))
  have hq1 : Int.tdiv L n = (k : Int) := by rw [hM, hN, hk]; rfl
  have hq2 : L / n = (k : Int) := by rw [hM, hN, hk]; rfl
  have hq3 : Int.tmod L n = 0 := by rw [Int.tmod_eq_emod_of_nonneg (by omega)]; exact h8
  have hkp : 1 ≤ k := by
    rcases Nat.eq_zero_or_pos k with h | h
    · rw [h] at hkn; omega
    · exact h
  have hNs : 1 ≤ N ∧ N ≤ 8 := by omega
  have hM1 : M ≤ 64 := by omega
  have hk64 : k ≤ 64 := by rw [hk]; exact Nat.le_trans (Nat.div_le_self _ _) hM1
  have i6 : inB 1 n 8 = true := by simp [inB]; omega
  have H5 : ¬ (ds.length : Int) - L < t := by omega
  obtain ⟨Z, hZ⟩ : ∃ Z, Z = shp 0 (smp 0 0 0) := ⟨_, rfl⟩
  have z : Tryz.zeroCells101 = Z := by rw [hZ]; exact zero101
  have hZs : Z.size = 65 := by rw [hZ, shp_size, smp_length]
  have hw1 := fun w => wave_any L p q w
  have hst := store_shape (waveV L p q) Z (waveV_size L p q) hZs (waveV_one L p q)
  have hVs := waveV_size L p q
  have hsi := fun (h : waveOK L p q = true) w => silent_any L (wav L p q) w (wav_length _ _ _)
  have hVe : waveOK L p q = true → waveV L p q = shp L (wav L p q) := fun h => by simp [waveV, h]
  have hda := fun wx hcx => dataOK_any ao ds cap wx hcx hl
  rw [h1] at hw1
  replace hsi := hsi h1
  replace hVe := hVe h1
  rw [← hVe] at hsi
  rw [h2] at hsi
  rw [h3] at hda
  rw [← hVe] at hra
  rw [← hT] at hra
  clear hVe
  have HQ := Lib.hid hQ; clear hQ
  have HMB := Lib.hid hmb; clear hmb
  have HRA := Lib.hid hra; clear hra
  generalize misQ L p q ds t n = RQ at *
  generalize wav L p q = xs at *
  have HMM := Lib.hid (And.intro hM (And.intro hN hkn)); clear hM hN hT hk hkn
  generalize waveV L p q = V at *
  have hne : ¬ V = #[] := by intro h; rw [h] at hVs; simp at hVs
  have hi : (Tryz.prog.info? 101).map (·.size) = some V.size := by rw [hVs]; kernel_rfl
  have HI := Lib.hid hi; clear hi
  have HW := Lib.hid hw1; clear hw1
  have HDA := Lib.hid hda; clear hda
  have HC := Lib.hid hc; clear hc
  clear hZ
  have HSI := Lib.hid hsi; clear hsi
  have HT := Lib.hid ht; clear ht
  have hdl := hdt.1
  clear hdt h3 h2 h1 h5
  obtain ⟨W0, hW0⟩ : ∃ W0, ((w.alloc (.cells #[.int .i64 p, .int .i64 q] 23)).alloc (.cells #[.slice ao ds.length cap] 24)).alloc (.cells #[.int .i64 t] 3) = W0 := ⟨_, rfl⟩
  have hB0 : Below w.heap.size w W0 := by rw [← hW0]; exact (((Below.refl _ w).alloc (Nat.le_refl _) _).alloc (by simp) _).alloc (by simp; omega) _
  have hs0 : W0.heap.size = w.heap.size + 3 := by rw [← hW0]; simp
  have b0 : W0.heap[w.heap.size]? = some (.cells #[.int .i64 p, .int .i64 q] 23 (0, 0)) := by rw [← hW0, hold_old _ _ _ (by simp; omega)]; exact heap_alloc2_old w _ _
  have b1 : W0.heap[w.heap.size + 1]? = some (.cells #[.slice ao ds.length cap] 24 (0, 0)) := by rw [← hW0, hold_old _ _ _ (by simp)]; exact heap_alloc2_new w _ _
  have b2 : W0.heap[w.heap.size + 1 + 1]? = some (.cells #[.int .i64 t] 3 (0, 0)) := by
    have hsz : ((w.alloc (.cells #[.int .i64 p, .int .i64 q] 23)).alloc (.cells #[.slice ao ds.length cap] 24)).heap.size = w.heap.size + 1 + 1 := by simp
    rw [← hW0, ← hsz]; exact heap_alloc_new _ _
  have a0 := (cell_of_row W0 _ 0 _ _ _ b0).trans rfl
  have a1 := (cell_of_row W0 _ 1 _ _ _ b0).trans rfl
  have B1 := Lib.hid b1; have B2 := Lib.hid b2; clear b0 b1 b2
  have HS0 := Lib.hid hs0; clear hs0
  have HW0 := Lib.hid hW0; clear hW0
  go_enter Tryz.func28, Tryz.ntmps28
  go_wp2_with fail
  rw [HW0.out]
  refine (HW.out _).mono ?_
  rintro e w1 ⟨rfl, hb1⟩
  have g1 : Below w.heap.size w w1 := hB0.trans (hb1.mono (by have := hB0.size; omega))
  have g1a : Below w.heap.size w (w1.alloc (.cells V 101)) := g1.alloc g1.size _
  have hs1 := hb1.size
  have hs1a : (w1.alloc (.cells V 101)).heap.size = w1.heap.size + 1 := by simp
  have FK : ∀ wx, Below (w1.heap.size + 1) (w1.alloc (.cells V 101)) wx → wx.heap[w1.heap.size]? = some (.cells V 101 (0, 0)) ∧ wx.cell? ⟨w.heap.size + 1, 0, none⟩ = some (.slice ao ds.length cap) ∧ wx.cell? ⟨w.heap.size + 1 + 1, 0, none⟩ = some (.int .i64 t) ∧ Cells wx ao (ds.map (Value.int .i64)) ∧ Below w.heap.size w wx := by
    intro wx hb
    have h0 := HS0.out
    have e1 : wx.heap[w.heap.size + 1]? = _ := (hb.block _ (by omega)).trans ((hold_old w1 _ _ (by omega)).trans ((hb1.block _ (by omega)).trans B1.out))
    have e2 : wx.heap[w.heap.size + 1 + 1]? = _ := (hb.block _ (by omega)).trans ((hold_old w1 _ _ (by omega)).trans ((hb1.block _ (by omega)).trans B2.out))
    have e3 : Below w.heap.size w wx := g1a.trans (hb.mono (by omega))
    exact ⟨(hb.block _ (by omega)).trans (heap_alloc_new _ _), (cell_of_row wx _ 0 _ _ _ e1).trans rfl, (cell_of_row wx _ 0 _ _ _ e2).trans rfl, HC.out.below e3 (Nat.le_refl _), e3⟩
  have HFK := Lib.hid FK; clear FK
  have HS1 := Lib.hid hs1; have HS1A := Lib.hid hs1a; clear hs1 hs1a
  go_wp2_with (first
    | (refine wpList_load_row (by rfl) 101 _ (by rfl) w1.heap.size (by rfl) _ V _ _ (HFK.out _ (Below.refl _ _)).1 Tryz.underlying101 (by rfl) HI.out ?_)
    | (go_at_call 72; refine (HSI.out _).mono ?_; rintro e w2 ⟨rfl, hb2⟩; have hb2 := hb2.mono (Nat.le_of_eq HS1A.out.symm); obtain ⟨_, q7, _, hcc, _⟩ := HFK.out w2 hb2; have HCC := Lib.hid hcc; clear hcc; refine Hid.out ?_))
  refine Lib.hid ?_
  have hs2 := hb2.size
  go_wp2_with (go_at_call 61; refine (HDA.out _ HCC.out).mono ?_; rintro e w3 ⟨rfl, hb3⟩; refine Hid.out ?_)
  have hb3 : Below (w1.heap.size + 1) (w1.alloc (.cells V 101)) w3 := hb2.trans (hb3.mono (by have := HS1A.out; omega))
  clear q7 HCC hb2 hs2
  obtain ⟨_, q7, q8, hcc, g3⟩ := HFK.out w3 hb3
  have HCC := Lib.hid hcc; clear hcc
  refine Lib.hid ?_
  have ht3 := HT.out.below g3 (Nat.le_refl _)
  have HT3 := Lib.hid ht3; clear ht3
  go_wp2_with (first
    | (go_at_call 68; refine (bwithin_any _ _ _ _).mono ?_; rintro e w' ⟨rfl, rfl⟩; rw [i6])
    | (go_at_call 80; refine Hid.out ?_))
  refine Lib.hid ?_
  have f3 := HFK.out w3 hb3
  have hr0 := HRA.out 0 M (-1) w1.heap.size (w.heap.size + 1) (w.heap.size + 1 + 1) w3 HT3.out (by have := HMM.out.1; omega) (Nat.le_refl _) (.inr rfl) f3.1 f3.2.1 f3.2.2.1 f3.2.2.2.1
  rw [← HMM.out.1] at hr0
  clear f3
  refine (show _ from hr0).mono ?_
  rintro e w4 ⟨rfl, hb4⟩
  rw [partT_prt]
  clear hr0 q7 q8 HCC
  have hb4' : Below (w1.heap.size + 1) (w1.alloc (.cells V 101)) w4 := hb3.trans (hb4.mono (by have := hb3.size; have := HS1A.out; omega))
  have hs4 := hb4'.size
  rw [HS1A.out] at hs4
  have ho := own_one w4 (.string (ofT (prt xs ds T 0 M (-1)).1 (prt xs ds T 0 M (-1)).2)) 39 (w1.heap.size + 1) hs4
  have ho0 : (w4.alloc (.cells #[.string (ofT (prt xs ds T 0 M (-1)).1 (prt xs ds T 0 M (-1)).2)] 39)).ownsRow (w1.heap.size + 1) 39 1 (.slice (some ⟨w4.heap.size, 0, none⟩) 1 1) (0 + 1) (frT (misL xs ds T M k 0)) := by simpa [misL, frT] using ho
  have HO0 := Lib.hid ho0; clear ho0 ho
  generalize ofT (prt xs ds T 0 M (-1)).1 (prt xs ds T 0 M (-1)).2 = T0 at *
  obtain ⟨i0, hi, hz0, hz1, hz2⟩ := info_parts Tryz.infoNum
  have hB4 : Below (w1.heap.size + 1) (w1.alloc (.cells V 101)) (w4.alloc (.cells #[.string T0] 39)) := hb4'.alloc hs4 _
  clear hb4 hb4' hb3 g3
  have HN := Lib.hid HMM.out.2.1
  go_wp2
  clear hq1 hq2 hq3
  go_loopw [13, 16, 71] (fun ok v i wr => ∃ j : Nat, j ≤ N ∧ i = .int .i64 (j : Int) ∧ ok = .bool true ∧ wr.ownsRow (w1.heap.size + 1) 39 1 v (j + 1) (frT (misL xs ds T M k j)) ∧ Below (w1.heap.size + 1) (w1.alloc (.cells V 101)) wr) (fun _ _ i _ => N - (intOf i).toNat)
  case atStart => exact ⟨0, Nat.zero_le _, rfl, rfl, HO0.out, hB4⟩
  case round =>
    obtain ⟨j, hj, rfl, rfl, hown, hbe⟩ := hrel
    clear HO0 hB4
    have hsr := hbe.size
    rw [HS1A.out] at hsr
    by_cases hlt : j < N
    · have hlt2 : (j : Int) < n := by rw [HN.out]; omega
      obtain ⟨A, hA⟩ : ∃ A : Nat, A = j * k := ⟨_, rfl⟩
      obtain ⟨C, hC⟩ : ∃ C : Nat, C = (j + 1) * k := ⟨_, rfl⟩
      have hAC : C = A + k := by rw [hA, hC, Nat.add_mul, Nat.one_mul]
      have hCM : C ≤ M := by rw [hC, ← HMM.out.2.2, Nat.mul_comm k N]; exact Nat.mul_le_mul_right k (by omega)
      have f3 := HFK.out wr hbe
      have hr0 := HRA.out A C 1 w1.heap.size (w.heap.size + 1) (w.heap.size + 1 + 1) wr (HT.out.below f3.2.2.2.2 (Nat.le_refl _)) (by omega) hCM (.inl rfl) f3.1 f3.2.1 f3.2.2.1 f3.2.2.2.1
      rw [partT_prt] at hr0
      have e1 : frT (misL xs ds T M k (j + 1)) = frT (misL xs ds T M k j) ++ [.string (ofT (prt xs ds T A C 1).1 (prt xs ds T A C 1).2)] := by rw [misL_succ, frT_snoc, ← hA, ← hC]
      have E1 := Lib.hid e1; clear e1
      have q1 : IntKind.i64.wrap ((j : Int) * k) = (A : Int) := by
        rw [hA, Int.natCast_mul]; exact IntWalk.i64_in _ (by rw [← Int.natCast_mul, ← hA]; omega)
      have q2 : IntKind.i64.wrap (((j : Int) + 1) * k) = (C : Int) := by
        rw [hC, Int.natCast_mul, Int.natCast_add, Int.natCast_one]
        refine IntWalk.i64_in _ ?_
        rw [show ((j : Int) + 1) * k = ((j + 1) * k : Nat) by push_cast; rfl, ← hC]; omega
      have HR0 := Lib.hid hr0; clear hr0 f3 hA hC hAC
      generalize ofT (prt xs ds T A C 1).1 (prt xs ds T A C 1).2 = T1 at *
      have HOB : Hid (∀ b, u16.ownBlock = some b → w1.heap.size + 1 ≤ b) := fun b e => (hown.lt b e).1
      go_wp2_with (first
        | (go_at_call 80; refine (HR0.out).mono ?_; rintro e w5 ⟨rfl, hb5⟩)
        | (at_builtin; refine wpList_append_own _ rfl _ _ 60 rfl (w1.heap.size + 1) 39 i0 (.string ⟨#[]⟩) 1 16 Tryz.underlying60 hi hz0 hz1 hz2 rfl (by decide) _ _ _ rfl ((own_belowK hown hb5 (Nat.le_refl _)).alloc _) ⟨w5.heap.size, 0, none⟩ 1 1 [.string T1] rfl rfl (news1 _ _ _) (by simp [Value.oneCell']) (by unfold maxLen; omega) (by omega) (by have := hb5.size; simp; omega) ?_; intro v1 wz hown1 hgrow _))
      have hfin := hown1
      rw [← E1.out] at hfin
      have hs5 := hb5.size
      have hbz := ((hbe.trans (hb5.mono hsr)).alloc (by omega) (.cells #[.string T1] 39)).grown hgrow (by simp; omega) HOB.out
      clear hown1 hgrow hown
      have HFIN := Lib.hid hfin; clear hfin
      go_roundw
      case rel => exact ⟨j + 1, by omega, by go_num, rfl, HFIN.out, hbz⟩
      case measure => simp [intOf]; omega
    · obtain rfl : j = N := by omega
      have hlt2 : ¬ (j : Int) < n := by rw [HN.out]; omega
      obtain ⟨ag, cg, rfl, hcs⟩ := own_cells hown
      rw [frT_strings] at hcs
      have f3 := HFK.out wr hbe
      have hln : ((misL xs ds T M k j).map fun u => ofT u.1 u.2).length = j + 1 := by rw [List.length_map, misL_length]
      have hsum := sum_any ag ((misL xs ds T M k j).map fun u => ofT u.1 u.2) cg wr (HT.out.below f3.2.2.2.2 (Nat.le_refl _)) hcs (by omega) (fun s hs => by
        obtain ⟨u, hu, rfl⟩ := List.mem_map.1 hs
        obtain ⟨_, m2, m3⟩ := HMB.out j (Nat.le_refl _) u hu
        exact ofT_size m2 m3)
      have hsum2 := hsum.mono fun e w' h => sum_of _ (HMB.out j (Nat.le_refl _)) (by rw [misL_length]; omega) h
      rw [hln, ← HQ.out] at hsum2
      have g5 := f3.2.2.2.2
      have HSUM := Lib.hid hsum2; clear hsum2 hsum hcs hown f3 hln
      go_wp2_with (go_at_call 82; refine (HSUM.out).mono ?_; rintro e w6 ⟨rfl, hb6⟩)
      go_ret2
      exact ⟨rfl, g5.trans (hb6.mono g5.size)⟩

theorem misfit_any (L p q : Int) (ao : Option Addr) (ds : List Int) (cap : Nat) (t n : Int) (w : World) (ht : Tab w) (hc : Cells w ao (ds.map (Value.int .i64))) (hl : ds.length ≤ 9223372036854775807) :
    Calls Tryz.prog 28 #[.int .i64 L, .agg #[.int .i64 p, .int .i64 q], .slice ao ds.length cap, .int .i64 t, .int .i64 n] w fun e w' => e = .returned (.tuple #[.string (misT L p q ds t n), .int .i64 (misE L p q ds t n)]) ∧ Below w.heap.size w w' := by
  have bad : ∀ x : Int, x ≠ 0 → misE L p q ds t n = x → misT L p q ds t n = ⟨#[]⟩ := fun x hx h => by unfold misT; rw [h, if_neg hx]
  cases h1 : waveOK L p q
  · have he : misE L p q ds t n = 70 := by simp [misE, h1]
    rw [bad _ (by decide) he, he]; exact misfit_wave L p q ao ds cap t n w hc hl h1
  rcases Bool.eq_false_or_eq_true (silentB (wav L p q)) with h2 | h2
  · have he : misE L p q ds t n = 4 := by simp [misE, h1, h2]
    rw [bad _ (by decide) he, he]; exact misfit_silent L p q ao ds cap t n w hc hl h1 h2
  cases h3 : dataOK ds
  · have he : misE L p q ds t n = 73 := by simp [misE, h1, h2, h3]
    rw [bad _ (by decide) he, he]; exact misfit_data L p q ao ds cap t n w hc hl h1 h2 h3
  by_cases h4 : t < 0
  · have he : misE L p q ds t n = 8 := by simp [misE, h1, h2, h3, h4]
    rw [bad _ (by decide) he, he]; exact misfit_before L p q ao ds cap t n w hc hl h1 h2 h3 h4
  by_cases h5 : (ds.length : Int) - L < t
  · have he : misE L p q ds t n = 8 := by simp [misE, h1, h2, h3, h5]
    rw [bad _ (by decide) he, he]; exact misfit_behind L p q ao ds cap t n w hc hl h1 h2 h3 (by omega) h5
  cases h6 : inB 1 n 8
  · have he : misE L p q ds t n = 2 := by simp [misE, h1, h2, h3, h4, h5, h6]
    rw [bad _ (by decide) he, he]; exact misfit_parts L p q ao ds cap t n w hc hl h1 h2 h3 (by omega) h5 h6
  have h6' : 1 ≤ n ∧ n ≤ 8 := by simpa [inB] using h6
  by_cases h7 : L % n = 0
  · have he : misE L p q ds t n = 0 := by simp [misE, h1, h2, h3, h4, h5, h6, h7]
    have hT : misT L p q ds t n = ofT (misQ L p q ds t n).1 (misQ L p q ds t n).2 := by unfold misT; rw [he, if_pos rfl]
    rw [hT, he]; exact misfit_ok L p q ao ds cap t n w hc hl h1 h2 h3 (by omega) (by omega) h6'.1 h6'.2 h7 ht
  · have he : misE L p q ds t n = 2 := by simp [misE, h1, h2, h3, h4, h5, h6, h7]
    rw [bad _ (by decide) he, he]; exact misfit_rest L p q ao ds cap t n w hc hl h1 h2 h3 (by omega) h5 h6 h7 h6'.1 h6'.2
end Go.Proofs.YtbjhjbjjfbmoeaaGreatDoor

/- The bank's examples: closed facts. -/
namespace Go.Proofs.YtbjhjbjjfbmoeaaGreatDoor
open Go.RowKit

theorem ex_wave : wavR 4 8 0 = [0, 90, 127, 90] ∧ wavE 4 8 0 = 0 := by decide +kernel
theorem ex_match : matT 4 16 0 48 0 = ⟨#[49, 47, 52]⟩ ∧ matE 4 16 0 48 0 = 0 := by decide +kernel
theorem ex_points : ptsR 4 31 33 0 0 = [(31, 0), (33, 0)] ∧ ptsE 4 31 33 0 0 = 0 := by decide +kernel
theorem ex_filter : filR 4 16 0 [0, 127, 0, -127, 0] = [32258, 0] ∧ filE 4 16 0 [0, 127, 0, -127, 0] = 0 := by decide +kernel
theorem ex_misfit : misT 4 16 0 [0, 127, 0, 127] 0 2 = ⟨#[51, 50, 50, 53, 56]⟩ ∧ misE 4 16 0 [0, 127, 0, 127] 0 2 = 0 := by decide +kernel
end Go.Proofs.YtbjhjbjjfbmoeaaGreatDoor

/- SameInts. -/
namespace Go.Proofs.YtbjhjbjjfbmoeaaGreatDoor
open Go.RowKit


/-- SameInts: are two lists of numbers the same? -/
theorem sameInts_any (aa ab : Option Addr) (xs ys : List Int) (ca cb : Nat) (w : World) (ha : Cells w aa (xs.map (Value.int .i64))) (hb : Cells w ab (ys.map (Value.int .i64))) (hl : xs.length ≤ 9223372036854775807) (hl' : ys.length ≤ 9223372036854775807) :
    Calls Tryz.prog 20 #[.slice aa xs.length ca, .slice ab ys.length cb] w fun e w' => e = .returned (.bool (decide (xs = ys))) ∧ Below w.heap.size w w' := by
  by_cases hlen : xs.length = ys.length
  · have h1 : ((xs.length : Int) != ys.length) = false := by simp [hlen]
    have hlt : (ys.length : Int) ≤ xs.length := by omega
    have HL := Lib.hid hlen; clear hlen
    have HA := Lib.hid ha; have HB := Lib.hid hb; clear ha hb
    go_enter Tryz.func20, Tryz.ntmps20
    go_wp2
    go_loopw [5] (fun i wr => ∃ k : Nat, k ≤ xs.length ∧ i = .int .i64 k ∧ xs.take k = ys.take k ∧ Below w.heap.size w wr) (fun i _ => xs.length - (intOf i).toNat)
    case atStart => exact ⟨0, Nat.zero_le _, rfl, rfl, Below.refl _ _⟩
    case round =>
      obtain ⟨k, hk, rfl, heq, hbe⟩ := hrel
      have HQ := Lib.hid heq; clear heq
      by_cases hlt : k < xs.length
      · have hlt2 : k < ys.length := by have := HL.out; omega
        obtain ⟨x, hx⟩ := get_of_lt hlt
        obtain ⟨y, hy⟩ := get_of_lt hlt2
        obtain ⟨b, off, rfl⟩ := HA.out.addr (by simpa using List.ne_nil_of_length_pos (by omega))
        obtain ⟨b2, off2, rfl⟩ := HB.out.addr (by simpa using List.ne_nil_of_length_pos (by omega))
        have c1 := cell_keep (HA.out.int hx) hbe (Nat.le_refl _)
        have c2 := cell_keep (HB.out.int hy) hbe (Nat.le_refl _)
        have i1 : (k : Int) < xs.length := by omega
        have i2 : (k : Int) < ys.length := by omega
        have i3 : (0 : Int) ≤ k := by omega
        by_cases hxy : x = y
        · obtain rfl := hxy
          have ht : xs.take (k + 1) = ys.take (k + 1) := by rw [take_get hx, take_get hy, HQ.out]
          have HT := Lib.hid ht; clear ht hx hy
          go_wp2
          go_quiet (fail)
          go_wp2
          go_roundw
          case rel => exact ⟨k + 1, by omega, by go_num, HT.out, bel_drewN hbe _⟩
          case measure => simp [intOf]; omega
        · have hne : decide (xs = ys) = false := by
            rw [decide_eq_false_iff_not]; rintro rfl
            rw [hx] at hy; simp at hy; exact hxy hy
          have HNE := Lib.hid hne; clear hne hx hy
          have hb1 : (x == y) = false := by simpa using hxy
          have hb2 : (x != y) = true := by simpa using hxy
          go_wp2
          go_quiet (fail)
          go_wp2
          go_ret
          exact ⟨ret_bool HNE.out.symm, bel_drewN hbe _⟩
      · obtain rfl : k = xs.length := by omega
        have he : decide (xs = ys) = true := by
          rw [decide_eq_true_iff]
          have := HQ.out
          rw [List.take_length, HL.out, List.take_length] at this; exact this
        have HE := Lib.hid he; clear he
        go_wp2
        go_ret
        exact ⟨ret_bool HE.out.symm, hbe⟩
  · have h1 : ((xs.length : Int) != ys.length) = true := by simp; omega
    have he : decide (xs = ys) = false := by
      rw [decide_eq_false_iff_not]; rintro rfl; exact hlen rfl
    have HE := Lib.hid he; clear he
    go_enter Tryz.func20, Tryz.ntmps20
    go_wp2
    go_ret
    exact ⟨ret_bool HE.out.symm, Below.refl _ _⟩
theorem same_ints_eq (aa ab : Option Addr) (ca cb : Nat) (w : World) (xs : List Int) (n : Nat) (hn : n = xs.length) (hl : xs.length ≤ 9223372036854775807) (ha : Cells w aa (xs.map (Value.int .i64))) (hb : Cells w ab (xs.map (Value.int .i64))) :
    Calls Tryz.prog 20 #[.slice aa n ca, .slice ab n cb] w fun e w' => e = .returned (.bool true) ∧ Below w.heap.size w w' := by
  subst hn
  have h := sameInts_any aa ab xs xs ca cb w ha hb hl hl
  simpa using h
end Go.Proofs.YtbjhjbjjfbmoeaaGreatDoor

/- The bank's examples: works. -/
namespace Go.Proofs.YtbjhjbjjfbmoeaaGreatDoor
open Go.RowKit

theorem cells_lit (w : World) (cs : List Value) (T : TypeId) : Cells (w.alloc (.cells cs.toArray T)) (some ⟨w.heap.size, 0, none⟩) cs :=
  .inr ⟨w.heap.size, 0, rfl, fun j u hu => by
    rw [cell_of_row _ _ _ _ _ _ (heap_alloc_new _ _), Nat.zero_add]; simpa using hu⟩

set_option maxRecDepth 100000 in
set_option maxHeartbeats 4000000 in
theorem bworks_any (w : World) (ht : Tab w) :
    Calls Tryz.prog 15 #[] w fun e w' => e = .returned (.bool true) ∧ Below w.heap.size w w' := by
  have hw := fun w => Wave_any 4 8 0 w
  have hm := fun w ht => match_any 4 16 0 48 0 w ht
  have hp := fun w => Points_any 4 31 33 0 0 w
  have hf := fun ao cap w hc => filter_any 4 16 0 ao [0, 127, 0, -127, 0] cap w hc (by decide)
  have hs := fun ao cap w ht hc => misfit_any 4 16 0 ao [0, 127, 0, 127] cap 0 2 w ht hc (by decide)
  rw [ex_wave.1, ex_wave.2] at hw
  rw [ex_match.1, ex_match.2] at hm
  rw [ex_points.1, ex_points.2] at hp
  rw [ex_filter.1, ex_filter.2] at hf
  rw [ex_misfit.1, ex_misfit.2] at hs
  simp only [List.length_cons, List.length_nil, Nat.reduceAdd] at hw hp hf hs
  have HW := Lib.hid hw; have HM := Lib.hid hm; have HP := Lib.hid hp; have HF := Lib.hid hf; have HS := Lib.hid hs; have HT := Lib.hid ht
  clear hw hm hp hf hs ht
  go_enter Tryz.func15, Tryz.ntmps15
  go_wp2_with fail
  refine (HW.out _).mono ?_
  rintro e w1 ⟨⟨b1, c1, rfl, hc1⟩, g1⟩
  have HC1 := Lib.hid hc1; clear hc1
  go_wp2_with fail
  refine (tone_any _).mono ?_
  rintro e w2 ⟨rfl, hb2⟩
  have g2 := g1.trans (hb2.mono g1.size)
  go_wp2_with fail
  refine (HM.out _ (HT.out.below g2 (Nat.le_refl _))).mono ?_
  rintro e w3 ⟨rfl, hb3⟩
  have g3 := g2.trans (hb3.mono g2.size)
  have HC3 := Lib.hid ((HC1.out.below hb2 (Nat.le_refl _)).below hb3 (Nat.le_refl _)); clear HC1 hb2 hb3
  go_wp2_with fail
  refine (HP.out _).mono ?_
  rintro e w4 ⟨⟨b4, c4, rfl, hc4⟩, hb4⟩
  have g4 := g3.trans (hb4.mono g3.size)
  have HC4 := Lib.hid (HC3.out.below hb4 (Nat.le_refl _))
  have HP4 := Lib.hid hc4; clear hc4 HC3 hb4
  go_wp2_with fail
  refine (tone_any _).mono ?_
  rintro e w5 ⟨rfl, hb5⟩
  have g5 := g4.trans (hb5.mono g4.size)
  have HC5 := Lib.hid (HC4.out.below hb5 (Nat.le_refl _))
  have HP5 := Lib.hid (HP4.out.below hb5 (Nat.le_refl _))
  clear HC4 HP4 hb5
  go_wp2_with fail
  have l6 := cells_lit w5 ([0, 127, 0, -127, 0].map (Value.int .i64)) 3
  have B6 := (Below.refl w5.heap.size w5).alloc (Nat.le_refl _) (.cells ([0, 127, 0, -127, 0].map (Value.int .i64)).toArray 3)
  have HC6 := Lib.hid (HC5.out.below B6 (Nat.le_refl _))
  have HP6 := Lib.hid (HP5.out.below B6 (Nat.le_refl _))
  have g6 := g5.trans (B6.mono g5.size)
  clear HC5 HP5 B6
  refine (show _ from HF.out _ 5 _ l6).mono ?_
  rintro e w7 ⟨⟨b7, c7, rfl, hc7⟩, hb7⟩
  have g7 := g6.trans (hb7.mono g6.size)
  have HC7 := Lib.hid (HC6.out.below hb7 (Nat.le_refl _))
  have HP7 := Lib.hid (HP6.out.below hb7 (Nat.le_refl _))
  have HF7 := Lib.hid hc7
  clear HC6 HP6 hb7 hc7 l6
  go_wp2_with fail
  refine (tone_any _).mono ?_
  rintro e w8 ⟨rfl, hb8⟩
  have g8 := g7.trans (hb8.mono g7.size)
  have HC8 := Lib.hid (HC7.out.below hb8 (Nat.le_refl _))
  have HP8 := Lib.hid (HP7.out.below hb8 (Nat.le_refl _))
  have HF8 := Lib.hid (HF7.out.below hb8 (Nat.le_refl _))
  clear HC7 HP7 HF7 hb8
  go_wp2_with fail
  have l9 := cells_lit w8 ([0, 127, 0, 127].map (Value.int .i64)) 3
  have B9 := (Below.refl w8.heap.size w8).alloc (Nat.le_refl _) (.cells ([0, 127, 0, 127].map (Value.int .i64)).toArray 3)
  have HC9 := Lib.hid (HC8.out.below B9 (Nat.le_refl _))
  have HP9 := Lib.hid (HP8.out.below B9 (Nat.le_refl _))
  have HF9 := Lib.hid (HF8.out.below B9 (Nat.le_refl _))
  have g9 := g8.trans (B9.mono g8.size)
  clear HC8 HP8 HF8 B9
  refine (show _ from HS.out _ 4 _ (HT.out.below g9 (Nat.le_refl _)) l9).mono ?_
  rintro e wa ⟨rfl, hba⟩
  have ga := g9.trans (hba.mono g9.size)
  have HCa := Lib.hid (HC9.out.below hba (Nat.le_refl _))
  have HPa := Lib.hid (HP9.out.below hba (Nat.le_refl _))
  have HFa := Lib.hid (HF9.out.below hba (Nat.le_refl _))
  clear HC9 HP9 HF9 hba l9
  go_wp2_with fail
  have lb := cells_lit wa ([0, 90, 127, 90].map (Value.int .i64)) 3
  have Bb := (Below.refl wa.heap.size wa).alloc (Nat.le_refl _) (.cells ([0, 90, 127, 90].map (Value.int .i64)).toArray 3)
  have HCb := Lib.hid (HCa.out.below Bb (Nat.le_refl _))
  have HPb := Lib.hid (HPa.out.below Bb (Nat.le_refl _))
  have HFb := Lib.hid (HFa.out.below Bb (Nat.le_refl _))
  have gb := ga.trans (Bb.mono ga.size)
  clear HCa HPa HFa Bb
  refine (show _ from same_ints_eq b1 _ c1 4 _ [0, 90, 127, 90] 4 rfl (by decide) HCb.out lb).mono ?_
  rintro e wc ⟨rfl, hbc⟩
  have gc := gb.trans (hbc.mono gb.size)
  have HPc := Lib.hid (HPb.out.below hbc (Nat.le_refl _))
  have HFc := Lib.hid (HFb.out.below hbc (Nat.le_refl _))
  clear HCb HPb HFb hbc lb
  go_wp2_with fail
  have ld := cells_lit wc (prs [(31, 0), (33, 0)]) 23
  have Bd := (Below.refl wc.heap.size wc).alloc (Nat.le_refl _) (.cells (prs [(31, 0), (33, 0)]).toArray 23)
  have HPd := Lib.hid (HPc.out.below Bd (Nat.le_refl _))
  have HFd := Lib.hid (HFc.out.below Bd (Nat.le_refl _))
  have gd := gc.trans (Bd.mono gc.size)
  clear HPc HFc Bd
  refine (show _ from sameChirps_any b4 _ [(31, 0), (33, 0)] [(31, 0), (33, 0)] c4 2 _ HPd.out ld (by decide) (by decide)).mono ?_
  rintro e we ⟨rfl, hbe⟩
  have ge := gd.trans (hbe.mono gd.size)
  have HFe := Lib.hid (HFd.out.below hbe (Nat.le_refl _))
  clear HPd HFd hbe ld
  rw [decide_eq_true (show [((31 : Int), (0 : Int)), (33, 0)] = [(31, 0), (33, 0)] from rfl)]
  go_wp2_with fail
  have lf := cells_lit we ([32258, 0].map (Value.int .i64)) 3
  have Bf := (Below.refl we.heap.size we).alloc (Nat.le_refl _) (.cells ([32258, 0].map (Value.int .i64)).toArray 3)
  have HFf := Lib.hid (HFe.out.below Bf (Nat.le_refl _))
  have gf := ge.trans (Bf.mono ge.size)
  clear HFe Bf
  refine (show _ from same_ints_eq b7 _ c7 2 _ [32258, 0] 2 rfl (by decide) HFf.out lf).mono ?_
  rintro e wg ⟨rfl, hbg⟩
  have gg := gf.trans (hbg.mono gf.size)
  clear HFf hbg lf
  go_wp2
  go_ret
  exact ⟨rfl, gg⟩
end Go.Proofs.YtbjhjbjjfbmoeaaGreatDoor

/- Arguments read as data, over this program: what their cells hold; and that they read the same behind a call that writes nothing old. -/
namespace Go.Proofs.YtbjhjbjjfbmoeaaGreatDoor
open Go.RowKit Go.WideShapes Go.ChangeShapes Go.Deep Go.Joins

section
variable {H : Type} {enc : TypeId × Value → H} {P : Program}
theorem sameAt_below {W W' : World} (hb : Below W.heap.size W W') {p : MemPlace} (hp : p.block < W.heap.size) : W.sameAt W' p := by
  cases p with
  | cell b off => exact hb.cell (p := ⟨b, off, none⟩) hp
  | map b => exact hb.block b hp
theorem trodAll_carry {W W' : World} {base : Nat} {sp : Nat → Bool} {held : Bool} : ∀ {ts : List TypeId} {vs : List Value} {ds : List (DataW H)} {ps : List MemPlace}, DataW.TrodAll enc P W base sp held ts vs ds ps → (∀ p ∈ ps, W.sameAt W' p) → DataW.TrodAll enc P W' base sp held ts vs ds ps
  | [], [], [], _, h, _ => h
  | _ :: _, _ :: _, _ :: _, _, ⟨p, q, ⟨n, h1⟩, h2, e⟩, hs => ⟨p, q, ⟨n, DataW.trod_carry n _ _ _ h1 fun x hx => hs x (by rw [e]; exact List.mem_append_left _ hx)⟩, trodAll_carry h2 fun x hx => hs x (by rw [e]; exact List.mem_append_right _ hx), e⟩

/-- behind a call that leaves all old blocks alone and answers true, of a law whose data read again as they did -/
theorem law_post {f : Func} {s : ChangeSpec} {W W' : World} {args : Array Value} {ds : List (DataW H)} {before : List MemPlace} (K : Kids P (· < P.types.size))
    (full : ∀ t e, t < P.types.size → P.underlying t = some (.slice e) → 0 < P.cellsOf e) (hT : ∀ t ∈ f.params.toList, t < P.types.size) (hv : s.vars = [])
    (hW : DataW.Whole enc P f.params.toList s.vars false W args.toList ds [] before) (hA : DataW.TrodAll enc P W 0 (fun _ => true) true f.params.toList args.toList ds before)
    (hfn : s.fn H (ds ++ []) = { results := [.lit (.bool true)], args := ds }) (hr : f.resultTypes = #[4]) (hu : P.underlying 4 = some .bool) (hb : Below W.heap.size W W') :
    s.post enc P f false true false false W args (.bool true) W' := by
  have hlt : ∀ p ∈ before, p.block < W.heap.size := fun p hp => hW.lt p hp
  have hold : ∀ p ∈ before, (fun b => decide (b < W.heap.size)) p.block = true := fun p hp => by simpa using hlt p hp
  have hargs : ∀ sp : Nat → Bool, (∀ p ∈ before, sp p.block = true) → DataW.TrodAll enc P W' 0 sp true f.params.toList args.toList (s.fn H (ds ++ [])).args before := by
    intro sp hsp
    rw [hfn]
    exact trodAll_carry (DataW.TrodAll.respare K full hT hA hsp) fun p hp => sameAt_below hb (hlt p hp)
  have hres : ∀ (b : Nat) (sp : Nat → Bool) (hd : Bool), DataW.TrodAll enc P W' b sp hd f.resultTypes.toList ((Value.bool true).resultList f.resultTypes.size) (s.fn H (ds ++ [])).results [] := by
    intro b sp hd
    rw [hfn, hr]
    exact trodAll_cons_mk (shut_bool hu _) trodAll_mk0
  have hvars : ∀ sp : Nat → Bool, DataW.TrodVars enc P W' sp s.vars (s.fn H (ds ++ [])).vars [] := by
    intro sp
    rw [hfn, hv]
    rfl
  refine ⟨ds, [], before, [], before, [], hW, hres _ _ _, hargs _ hold, hvars _, World.keptBut_mono (fun p hp => ⟨hp, Or.inr (Or.inl hp)⟩) (hb.frame (· ∈ before)), fun _ => ?_⟩
  obtain ⟨_, _, _, _, _, hz, hn⟩ := hW
  refine ⟨?_, _, _, ([] ++ before) ++ [], ⟨[] ++ before, [], trodAll_append (hargs _ (fun _ _ => rfl)) (hres _ _ _), hvars _, rfl, ?_, ?_⟩, ?_⟩
  · exact ok_one hr rfl (okWide_bool_mk hu _)
  · intro b off hp
    have hin : MemPlace.cell b off ∈ before := by simpa using hp
    rw [hb.frozen (hlt _ hin)]
    exact hz b off hin
  · intro ha
    have := hn ha
    simpa using this
  · intro p hp _
    simpa using hp

/-- a slice of numbers, as read -/
theorem rd_ints {W : World} {base : Nat} {sp : Nat → Bool} {held : Bool} {t e : TypeId} {fuel : Nat} {cs : List Value} {x : DataW H × List MemPlace} (ht : P.underlying t = some (.slice e)) (he : P.underlying e = some (.int .i64)) (hc : P.cellsOf e = 1)
    (h : DataW.trod enc P W base sp held fuel t cs = some x) :
    ∃ (ao : Option Addr) (xs : List Int) (cap : Nat), cs = [.slice ao xs.length cap] ∧ Cells W ao (xs.map (Value.int .i64)) ∧ xs.length ≤ cap ∧ cap ≤ 9223372036854775807 ∧ ∀ x ∈ xs, (Lit.int .i64 x).wf = true := by
  rcases open_ints ht he hc h with ⟨rfl, _⟩ | ⟨a, len, cap, zs, rfl, _, hl, hm, hz, _, hcell, hwf⟩
  · exact ⟨none, [], 0, rfl, .inl rfl, Nat.le_refl _, by decide, by simp⟩
  · have hzl : len ≤ zs.length := by rw [hz]; split <;> omega
    have htl : (zs.take len).length = len := by simp; omega
    refine ⟨some a, zs.take len, cap, by rw [htl], ?_, by omega, by unfold maxLen at hm; omega, fun x hx => hwf x (List.mem_of_mem_take hx)⟩
    rcases Nat.eq_zero_or_pos len with h0 | h0
    · subst h0; exact .inl (by simp)
    · have hsp := World.cell?_spot (hcell 0 (by omega))
      simp only [Addr.add] at hsp
      obtain ⟨b, off, spot⟩ := a
      simp at hsp
      subst hsp
      refine .inr ⟨b, off, rfl, fun j u hu => ?_⟩
      rw [List.getElem?_map] at hu
      obtain ⟨y, hy, rfl⟩ := Option.map_eq_some_iff.1 hu
      have hj : j < len := by have := (List.getElem?_eq_some_iff.1 hy).1; omega
      have := hcell j (by omega)
      rw [Addr.add_lit] at this
      rw [this]
      have hg : zs.getD j 0 = y := by
        rw [List.getElem?_take] at hy
        rw [if_pos hj] at hy
        rw [List.getD_eq_getElem?_getD, hy]; rfl
      rw [hg]

/-- a slice of pairs of numbers, as read -/
theorem rd_pairs {W : World} {base : Nat} {sp : Nat → Bool} {held : Bool} {t e : TypeId} {f0 f1 : Field} {fuel : Nat} {cs : List Value} {x : DataW H × List MemPlace} (ht : P.underlying t = some (.slice e)) (he : P.underlying e = some (.struct #[f0, f1]))
    (ce : P.cellsOf e = 2) (o0 : f0.offset = 0) (o1 : f1.offset = 1) (c0 : P.cellsOf f0.type = 1) (c1 : P.cellsOf f1.type = 1) (k0 : P.underlying f0.type = some (.int .i64)) (k1 : P.underlying f1.type = some (.int .i64))
    (h : DataW.trod enc P W base sp held fuel t cs = some x) :
    ∃ (ao : Option Addr) (xs : List (Int × Int)) (cap : Nat), cs = [.slice ao xs.length cap] ∧ Cells W ao (prs xs) ∧ xs.length ≤ cap ∧ cap ≤ 9223372036854775807 ∧ ∀ t ∈ xs, (Lit.int .i64 t.1).wf = true ∧ (Lit.int .i64 t.2).wf = true := by
  rcases open_slice_pairs ht he ce o0 o1 c0 c1 h with ⟨rfl, _⟩ | ⟨a, len, cap, m, n, V0, V1, D0, D1, P0, P1, rfl, _, hl, hm, hmm, _, hcell⟩
  · exact ⟨none, [], 0, rfl, .inl rfl, Nat.le_refl _, by decide, by simp⟩
  · have hlm : len ≤ m := by rw [hmm]; split <;> omega
    have each : ∀ i, i < len → ∃ q : Int × Int, W.cell? (a.add (i * 2)) = some (.int .i64 q.1) ∧ W.cell? (a.add (i * 2 + 1)) = some (.int .i64 q.2) ∧ (Lit.int .i64 q.1).wf = true ∧ (Lit.int .i64 q.2).wf = true := by
      intro i hi
      obtain ⟨h1, h2, h3, h4⟩ := hcell i (by omega)
      obtain ⟨z0, e0, _, w0⟩ := DataW.trod_int k0 h3
      obtain ⟨z1, e1, _, w1⟩ := DataW.trod_int k1 h4
      simp only [List.cons.injEq, and_true] at e0 e1
      rw [e0] at h1; rw [e1] at h2
      exact ⟨(z0, z1), h1, h2, w0, w1⟩
    let F : Nat → Int × Int := fun i => if hi : i < len then (each i hi).choose else (0, 0)
    have hF : ∀ i, i < len → W.cell? (a.add (i * 2)) = some (.int .i64 (F i).1) ∧ W.cell? (a.add (i * 2 + 1)) = some (.int .i64 (F i).2) ∧ (Lit.int .i64 (F i).1).wf = true ∧ (Lit.int .i64 (F i).2).wf = true := by
      intro i hi
      have := (each i hi).choose_spec
      simp only [F, dif_pos hi]
      exact this
    have htl : ((List.range len).map F).length = len := by simp
    refine ⟨some a, (List.range len).map F, cap, by rw [htl], ?_, by omega, by unfold maxLen at hm; omega, ?_⟩
    · rcases Nat.eq_zero_or_pos len with h0 | h0
      · subst h0; exact .inl (by simp [prs])
      · have hsp := World.cell?_spot (hF 0 h0).1
        simp only [Addr.add] at hsp
        obtain ⟨b, off, spot⟩ := a
        simp at hsp
        subst hsp
        refine .inr ⟨b, off, rfl, fun j u hu => ?_⟩
        have hj : j < len * 2 := by
          have := (List.getElem?_eq_some_iff.1 hu).1
          rw [prs_length, htl] at this; exact this
        have hg : ((List.range len).map F)[j / 2]? = some (F (j / 2)) := by
          rw [List.getElem?_map, List.getElem?_range (by omega)]; rfl
        have h1 := prs_fst hg
        have h2 := prs_snd hg
        obtain ⟨g1, g2, _⟩ := hF (j / 2) (by omega)
        rw [Addr.add_lit] at g1 g2
        rcases Nat.mod_two_eq_zero_or_one j with hm | hm
        · have e : j / 2 * 2 = j := by omega
          rw [e] at h1 g1
          rw [h1] at hu; rw [g1]; exact hu
        · have e : j / 2 * 2 + 1 = j := by omega
          rw [e] at h2 g2
          rw [h2] at hu; rw [g2]; exact hu
    · intro t ht2
      obtain ⟨i, hi, rfl⟩ := List.mem_map.1 ht2
      have := hF i (List.mem_range.1 hi)
      exact ⟨this.2.2.1, this.2.2.2⟩
end
end Go.Proofs.YtbjhjbjjfbmoeaaGreatDoor

/- Codes: check, folded, residues. -/
namespace Go.Proofs.YtbjhjbjjfbmoeaaGreatDoor
open Go.RowKit

/-- bytes, cell by cell -/
def bys (l : List Nat) : List Value := l.map fun d => Value.int .u8 (d : Nat)
theorem bys_length (l : List Nat) : (bys l).length = l.length := by simp [bys]
theorem bys_append (a b : List Nat) : bys (a ++ b) = bys a ++ bys b := by simp [bys]
theorem bys_get {l : List Nat} {i d : Nat} (h : l[i]? = some d) : (bys l)[i]? = some (.int .u8 (d : Nat)) := by simp [bys, h]
theorem bys_ne {l : List Nat} (h : 0 < l.length) : bys l ≠ [] := by
  intro e; have := bys_length l; rw [e] at this; simp at this; omega

def chkL (l : List Nat) : Nat := l.foldl (fun n b => (n * 257 + b + 1) % 16777213) 0
theorem chkL_snoc (l : List Nat) (b : Nat) : chkL (l ++ [b]) = (chkL l * 257 + b + 1) % 16777213 := by simp [chkL]
theorem chkL_lt (l : List Nat) : chkL l < 16777213 := by
  rcases List.eq_nil_or_concat l with rfl | ⟨l', b, rfl⟩
  · decide
  · rw [List.concat_eq_append, chkL_snoc]; exact Nat.mod_lt _ (by decide)


def foldU (r : Int) : Int := if r < 0 then -2 * r - 1 else 2 * r

/-- the differences of neighbours -/
def diffs (xs : List Int) : List Int := (List.range xs.length).map fun i => if i = 0 then xs.getD 0 0 else xs.getD i 0 - xs.getD (i - 1) 0
def resid (xs : List Int) : Nat → List Int
  | 0 => xs
  | o + 1 => diffs (resid xs o)
theorem diffs_length (xs : List Int) : (diffs xs).length = xs.length := by simp [diffs]
theorem resid_length (xs : List Int) (o : Nat) : (resid xs o).length = xs.length := by
  induction o with
  | zero => rfl
  | succ o ih => simp [resid, diffs_length, ih]
theorem diffs_get {xs : List Int} {i : Nat} (h : i < xs.length) : (diffs xs)[i]? = some (if i = 0 then xs.getD 0 0 else xs.getD i 0 - xs.getD (i - 1) 0) := by
  simp [diffs, h]

/-- a round of the differences, from the end -/
theorem diff_step {xs : List Int} {k : Nat} (h0 : 0 < k) (hk : k < xs.length) :
    (xs.take (k + 1) ++ (diffs xs).drop (k + 1)).set k (xs.getD k 0 - xs.getD (k - 1) 0) = xs.take k ++ (diffs xs).drop k := by
  rw [List.take_add_one, List.getElem?_eq_getElem hk, Option.toList_some, List.append_assoc, List.set_append_right _ _ (by rw [List.length_take]; omega)]
  have hl : (xs.take k).length = k := by rw [List.length_take]; omega
  rw [hl, Nat.sub_self]
  have hd : k < (diffs xs).length := by rw [diffs_length]; exact hk
  have := diffs_get hk
  rw [if_neg (by omega)] at this
  rw [List.drop_eq_getElem_cons hd, (List.getElem?_eq_some_iff.1 this).2]
  simp
theorem diff_end {xs : List Int} (h : 0 < xs.length) : xs.take 1 ++ (diffs xs).drop 1 = diffs xs := by
  have hd : 0 < (diffs xs).length := by rw [diffs_length]; exact h
  have := diffs_get h
  rw [if_pos rfl] at this
  have e : (diffs xs) = (diffs xs)[0] :: (diffs xs).drop 1 := by
    have := List.drop_eq_getElem_cons hd
    rwa [List.drop_zero] at this
  have e2 : (diffs xs)[0] = xs.getD 0 0 := (List.getElem?_eq_some_iff.1 this).2
  rw [e2] at e
  conv => rhs; rw [e]
  rw [show xs.take 1 = [xs.getD 0 0] from by
    match xs, h with
    | x :: t, _ => simp]
  rfl

theorem diffs_bd {xs : List Int} {M : Int} (hM : 0 ≤ M) (h : ∀ x ∈ xs, -M ≤ x ∧ x ≤ M) : ∀ x ∈ diffs xs, -(2 * M) ≤ x ∧ x ≤ 2 * M := by
  have hg : ∀ i, -M ≤ xs.getD i 0 ∧ xs.getD i 0 ≤ M := by
    intro i
    rw [List.getD_eq_getElem?_getD]
    cases hx : xs[i]? with
    | none => simp; omega
    | some x => exact h x (List.mem_of_getElem? hx)
  intro x hx
  simp only [diffs, List.mem_map, List.mem_range] at hx
  obtain ⟨i, _, rfl⟩ := hx
  have h1 := hg 0; have h2 := hg i; have h3 := hg (i - 1)
  split <;> omega
theorem resid_bd {xs : List Int} (h : ∀ x ∈ xs, -8388608 ≤ x ∧ x ≤ 8388608) (o : Nat) (ho : o ≤ 3) : ∀ x ∈ resid xs o, -67108864 ≤ x ∧ x ≤ 67108864 := by
  match o, ho with
  | 0, _ => intro x hx; have := h x hx; omega
  | 1, _ => intro x hx; have := diffs_bd (M := 8388608) (by omega) h x hx; omega
  | 2, _ => intro x hx; have := diffs_bd (M := 16777216) (by omega) (diffs_bd (M := 8388608) (by omega) h) x hx; omega
  | 3, _ => intro x hx; have := diffs_bd (M := 33554432) (by omega) (diffs_bd (M := 16777216) (by omega) (diffs_bd (M := 8388608) (by omega) h)) x hx; omega

theorem clone_any (ao : Option Addr) (xs : List Int) (cap : Nat) (w : World) (hc : Cells w ao (xs.map (Value.int .i64))) (hl : xs.length * 8 ≤ 140737488355328) :
    Calls Tryz.prog 124 #[.slice ao xs.length cap] w fun e w' => (∃ v, e = .returned v ∧ w'.ownsRow w.heap.size 3 1 v xs.length (xs.map (Value.int .i64))) ∧ Below w.heap.size w w' := by
  by_cases h0 : xs = []
  · subst h0
    cases ao with
    | none =>
      refine (Tryz.slices_Clone_int_nil 0 cap w).mono ?_
      rintro e w' ⟨rfl, rfl⟩
      exact ⟨⟨_, rfl, World.ownsRow_nil _ _ _ _⟩, Below.refl _ _⟩
    | some a =>
      refine (Tryz.slices_Clone_int_zero a cap w).mono ?_
      rintro e w' ⟨v, rfl, ho, _, hb⟩
      exact ⟨⟨_, rfl, ho⟩, hb⟩
  · obtain ⟨b, off, rfl⟩ := hc.addr (by simpa using h0)
    refine (Tryz.slices_Clone_int b off xs.length cap xs w (Nat.le_refl _) hl (fun j hj => ?_)).mono ?_
    · obtain ⟨x, hx⟩ := get_of_lt hj
      rw [List.getD_eq_getElem?_getD, hx]
      exact hc.int hx
    · rintro e w' ⟨v, rfl, ho, _, hb⟩
      rw [List.take_length] at ho
      exact ⟨⟨_, rfl, ho⟩, hb⟩
end Go.Proofs.YtbjhjbjjfbmoeaaGreatDoor

/- Bytes as arguments: what their cells hold, and how many they are. -/
namespace Go.Proofs.YtbjhjbjjfbmoeaaGreatDoor
open Go.RowKit Go.WideShapes Go.ChangeShapes Go.Deep Go.Joins

section
variable {H : Type} {enc : TypeId × Value → H} {P : Program}
/-- how many elements a reading has -/
def dlen : DataW H → Nat
  | .slice elems _ => elems.length
  | _ => 0
theorem rd_bytes {W : World} {base : Nat} {sp : Nat → Bool} {held : Bool} {t e : TypeId} {fuel : Nat} {cs : List Value} {x : DataW H × List MemPlace} (ht : P.underlying t = some (.slice e)) (he : P.underlying e = some (.int .u8)) (hc : P.cellsOf e = 1)
    (h : DataW.trod enc P W base sp held fuel t cs = some x) :
    ∃ (ao : Option Addr) (l : List Nat) (cap : Nat), cs = [.slice ao l.length cap] ∧ Cells W ao (bys l) ∧ l.length ≤ cap ∧ cap ≤ 9223372036854775807 ∧ (∀ d ∈ l, d < 256) ∧ l.length ≤ dlen x.1 := by
  rcases open_ints ht he hc h with ⟨rfl, _⟩ | ⟨a, len, cap, zs, rfl, _, hl, hm, hz, hx, hcell, hwf⟩
  · exact ⟨none, [], 0, rfl, .inl rfl, Nat.le_refl _, by decide, by simp, Nat.zero_le _⟩
  · have hzl : len ≤ zs.length := by rw [hz]; split <;> omega
    have htl : ((zs.take len).map Int.toNat).length = len := by simp; omega
    have hbd : ∀ n ∈ zs, 0 ≤ n ∧ n < 256 := fun n hn => by
      have := hwf n hn
      simp only [Lit.wf, Bool.and_eq_true, IntKind.min, IntKind.max, IntKind.signed, IntKind.bits] at this
      simp at this
      omega
    refine ⟨some a, (zs.take len).map Int.toNat, cap, by rw [htl], ?_, by omega, by unfold maxLen at hm; omega, fun d hd => ?_, ?_⟩
    · rcases Nat.eq_zero_or_pos len with h0 | h0
      · subst h0; exact .inl (by simp [bys])
      · have hsp := World.cell?_spot (hcell 0 (by omega))
        simp only [Addr.add] at hsp
        obtain ⟨b, off, spot⟩ := a
        simp at hsp
        subst hsp
        refine .inr ⟨b, off, rfl, fun j u hu => ?_⟩
        rw [bys, List.getElem?_map, List.getElem?_map] at hu
        obtain ⟨y, hy, rfl⟩ := Option.map_eq_some_iff.1 hu
        obtain ⟨z, hz2, rfl⟩ := Option.map_eq_some_iff.1 hy
        have hj : j < len := by have := (List.getElem?_eq_some_iff.1 hz2).1; simp at this; omega
        have h3 := hcell j (by omega)
        rw [Addr.add_lit] at h3
        rw [h3]
        have hg : zs.getD j 0 = z := by
          rw [List.getElem?_take] at hz2
          rw [if_pos hj] at hz2
          rw [List.getD_eq_getElem?_getD, hz2]; rfl
        have := hbd z (List.mem_of_mem_take (List.mem_of_getElem? hz2))
        rw [hg]
        congr 2
        omega
    · obtain ⟨z, hz2, rfl⟩ := List.mem_map.1 hd
      have := hbd z (List.mem_of_mem_take hz2)
      omega
    · rw [htl, hx]
      simp [dlen, lits]
      omega
end
end Go.Proofs.YtbjhjbjjfbmoeaaGreatDoor
