/- Parts of a proof, in build order: Cp, Cr, Cs, Si. -/
import Derived.Test.YtdpjdifoonfcdaaGreatDoorKh6

namespace Go.Proofs.YtdpjdifoonfcdaaGreatDoor
open Go.RowKit
set_option maxRecDepth 100000 in
set_option maxHeartbeats 4000000 in
theorem misfit_wave (L p q : Int) (ao : Option Addr) (ds : List Int) (cap : Nat) (t n : Int) (w : World) (hc : Cells w ao (ds.map (Value.int .i64))) (hl : ds.length <= 9223372036854775807) (h1 : waveOK L p q = false) :
 Calls Tryz.prog 17 #[.int .i64 L, .agg #[.int .i64 p, .int .i64 q], .slice ao ds.length cap, .int .i64 t, .int .i64 n] w fun e w' => e = .returned (.tuple #[.string ⟨#[]⟩, .int .i64 70]) /\ Below w.heap.size w w' := by
 obtain ⟨Z, hZ⟩ : ∃ Z, Z = shp 0 (smp 0 0 0) := ⟨_, rfl⟩
 have z : Tryz.zeroCells129 = Z := by rw [hZ]; exact zero101
 have hZs : Z.size = 65 := by rw [hZ, shp_size, smp_length]
 have hw1 := fun w => wave_any L p q w
 have hst := store_shape (waveV L p q) Z (waveV_size L p q) hZs (waveV_one L p q)
 have hVs := waveV_size L p q
 have hsi := fun (h : waveOK L p q = true) w => silent_any L (wav L p q) w (wav_length _ _ _)
 have hVe : waveOK L p q = true -> waveV L p q = shp L (wav L p q) := fun h => by simp [waveV, h]
 have hda := fun wx hcx => dataOK_any ao ds cap wx hcx hl
 rw [h1] at hw1
 clear hsi hVe
 generalize waveV L p q = V at *
 have hne : ¬ V = #[] := by intro h; rw [h] at hVs; simp at hVs
 have hi : (Tryz.prog.info? 129).map (·.size) = some V.size := by rw [hVs]; kernel_rfl
 have HI := Lib.hid hi; clear hi
 have HW := Lib.hid hw1; clear hw1
 have HDA := Lib.hid hda; clear hda
 have HC := Lib.hid hc; clear hc
 clear hZ
 obtain ⟨W0, hW0⟩ : ∃ W0, ((w.alloc (.cells #[.int .i64 p, .int .i64 q] 23)).alloc (.cells #[.slice ao ds.length cap] 24)).alloc (.cells #[.int .i64 t] 3) = W0 := ⟨_, rfl⟩
 have hB0 : Below w.heap.size w W0 := by rw [<- hW0]; exact (((Below.refl _ w).alloc (Nat.le_refl _) _).alloc (by simp) _).alloc (by simp; omega) _
 have hs0 : W0.heap.size = w.heap.size + 3 := by rw [<- hW0]; simp
 have b0 : W0.heap[w.heap.size]? = some (.cells #[.int .i64 p, .int .i64 q] 23 (0, 0)) := by rw [<- hW0, hold_old _ _ _ (by simp; omega)]; exact heap_alloc2_old w _ _
 have b1 : W0.heap[w.heap.size + 1]? = some (.cells #[.slice ao ds.length cap] 24 (0, 0)) := by rw [<- hW0, hold_old _ _ _ (by simp)]; exact heap_alloc2_new w _ _
 have b2 : W0.heap[w.heap.size + 1 + 1]? = some (.cells #[.int .i64 t] 3 (0, 0)) := by
  have hsz : ((w.alloc (.cells #[.int .i64 p, .int .i64 q] 23)).alloc (.cells #[.slice ao ds.length cap] 24)).heap.size = w.heap.size + 1 + 1 := by simp
  rw [<- hW0, <- hsz]; exact heap_alloc_new _ _
 have a0 := (cell_of_row W0 _ 0 _ _ _ b0).trans rfl
 have a1 := (cell_of_row W0 _ 1 _ _ _ b0).trans rfl
 have B1 := Lib.hid b1; have B2 := Lib.hid b2; clear b0 b1 b2
 have HS0 := Lib.hid hs0; clear hs0
 have HW0 := Lib.hid hW0; clear hW0
 go_enter Tryz.func17, Tryz.ntmps17
 go_wp2_with fail
 rw [HW0.out]
 refine (HW.out _).mono ?_
 rintro e w1 ⟨rfl, hb1⟩
 have g1 : Below w.heap.size w w1 := hB0.trans (hb1.mono (by have := hB0.size; omega))
 have g1a : Below w.heap.size w (w1.alloc (.cells V 129)) := g1.alloc g1.size _
 go_wp2
 go_ret2
 exact ⟨rfl, g1a⟩
set_option maxRecDepth 100000 in
set_option maxHeartbeats 4000000 in
theorem misfit_silent (L p q : Int) (ao : Option Addr) (ds : List Int) (cap : Nat) (t n : Int) (w : World) (hc : Cells w ao (ds.map (Value.int .i64))) (hl : ds.length <= 9223372036854775807) (h1 : waveOK L p q = true) (h2 : silentB (wav L p q) = true) :
 Calls Tryz.prog 17 #[.int .i64 L, .agg #[.int .i64 p, .int .i64 q], .slice ao ds.length cap, .int .i64 t, .int .i64 n] w fun e w' => e = .returned (.tuple #[.string ⟨#[]⟩, .int .i64 4]) /\ Below w.heap.size w w' := by
 obtain ⟨Z, hZ⟩ : ∃ Z, Z = shp 0 (smp 0 0 0) := ⟨_, rfl⟩
 have z : Tryz.zeroCells129 = Z := by rw [hZ]; exact zero101
 have hZs : Z.size = 65 := by rw [hZ, shp_size, smp_length]
 have hw1 := fun w => wave_any L p q w
 have hst := store_shape (waveV L p q) Z (waveV_size L p q) hZs (waveV_one L p q)
 have hVs := waveV_size L p q
 have hsi := fun (h : waveOK L p q = true) w => silent_any L (wav L p q) w (wav_length _ _ _)
 have hVe : waveOK L p q = true -> waveV L p q = shp L (wav L p q) := fun h => by simp [waveV, h]
 have hda := fun wx hcx => dataOK_any ao ds cap wx hcx hl
 rw [h1] at hw1
 replace hsi := hsi h1
 replace hVe := hVe h1
 rw [<- hVe] at hsi
 rw [h2] at hsi
 clear hVe
 generalize waveV L p q = V at *
 have hne : ¬ V = #[] := by intro h; rw [h] at hVs; simp at hVs
 have hi : (Tryz.prog.info? 129).map (·.size) = some V.size := by rw [hVs]; kernel_rfl
 have HI := Lib.hid hi; clear hi
 have HW := Lib.hid hw1; clear hw1
 have HDA := Lib.hid hda; clear hda
 have HC := Lib.hid hc; clear hc
 clear hZ
 have HSI := Lib.hid hsi; clear hsi
 obtain ⟨W0, hW0⟩ : ∃ W0, ((w.alloc (.cells #[.int .i64 p, .int .i64 q] 23)).alloc (.cells #[.slice ao ds.length cap] 24)).alloc (.cells #[.int .i64 t] 3) = W0 := ⟨_, rfl⟩
 have hB0 : Below w.heap.size w W0 := by rw [<- hW0]; exact (((Below.refl _ w).alloc (Nat.le_refl _) _).alloc (by simp) _).alloc (by simp; omega) _
 have hs0 : W0.heap.size = w.heap.size + 3 := by rw [<- hW0]; simp
 have b0 : W0.heap[w.heap.size]? = some (.cells #[.int .i64 p, .int .i64 q] 23 (0, 0)) := by rw [<- hW0, hold_old _ _ _ (by simp; omega)]; exact heap_alloc2_old w _ _
 have b1 : W0.heap[w.heap.size + 1]? = some (.cells #[.slice ao ds.length cap] 24 (0, 0)) := by rw [<- hW0, hold_old _ _ _ (by simp)]; exact heap_alloc2_new w _ _
 have b2 : W0.heap[w.heap.size + 1 + 1]? = some (.cells #[.int .i64 t] 3 (0, 0)) := by
  have hsz : ((w.alloc (.cells #[.int .i64 p, .int .i64 q] 23)).alloc (.cells #[.slice ao ds.length cap] 24)).heap.size = w.heap.size + 1 + 1 := by simp
  rw [<- hW0, <- hsz]; exact heap_alloc_new _ _
 have a0 := (cell_of_row W0 _ 0 _ _ _ b0).trans rfl
 have a1 := (cell_of_row W0 _ 1 _ _ _ b0).trans rfl
 have B1 := Lib.hid b1; have B2 := Lib.hid b2; clear b0 b1 b2
 have HS0 := Lib.hid hs0; clear hs0
 have HW0 := Lib.hid hW0; clear hW0
 go_enter Tryz.func17, Tryz.ntmps17
 go_wp2_with fail
 rw [HW0.out]
 refine (HW.out _).mono ?_
 rintro e w1 ⟨rfl, hb1⟩
 have g1 : Below w.heap.size w w1 := hB0.trans (hb1.mono (by have := hB0.size; omega))
 have g1a : Below w.heap.size w (w1.alloc (.cells V 129)) := g1.alloc g1.size _
 have hs1 := hb1.size
 have hs1a : (w1.alloc (.cells V 129)).heap.size = w1.heap.size + 1 := by simp
 have FK : ∀ wx, Below (w1.heap.size + 1) (w1.alloc (.cells V 129)) wx -> wx.heap[w1.heap.size]? = some (.cells V 129 (0, 0)) /\ wx.cell? ⟨w.heap.size + 1, 0, none⟩ = some (.slice ao ds.length cap) /\ wx.cell? ⟨w.heap.size + 1 + 1, 0, none⟩ = some (.int .i64 t) /\ Cells wx ao (ds.map (Value.int .i64)) /\ Below w.heap.size w wx := by
  intro wx hb
  have h0 := HS0.out
  have e1 : wx.heap[w.heap.size + 1]? = _ := (hb.block _ (by omega)).trans ((hold_old w1 _ _ (by omega)).trans ((hb1.block _ (by omega)).trans B1.out))
  have e2 : wx.heap[w.heap.size + 1 + 1]? = _ := (hb.block _ (by omega)).trans ((hold_old w1 _ _ (by omega)).trans ((hb1.block _ (by omega)).trans B2.out))
  have e3 : Below w.heap.size w wx := g1a.trans (hb.mono (by omega))
  exact ⟨(hb.block _ (by omega)).trans (heap_alloc_new _ _), (cell_of_row wx _ 0 _ _ _ e1).trans rfl, (cell_of_row wx _ 0 _ _ _ e2).trans rfl, HC.out.below e3 (Nat.le_refl _), e3⟩
 have HFK := Lib.hid FK; clear FK
 have HS1 := Lib.hid hs1; have HS1A := Lib.hid hs1a; clear hs1 hs1a
 go_wp2_with (first
  | (refine wpList_load_row (by rfl) 129 _ (by rfl) w1.heap.size (by rfl) _ V _ _ (HFK.out _ (Below.refl _ _)).1 Tryz.underlying129 (by rfl) HI.out ?_)
  | (go_at_call 64; refine (HSI.out _).mono ?_; rintro e w2 ⟨rfl, hb2⟩; have hb2 := hb2.mono (Nat.le_of_eq HS1A.out.symm); obtain ⟨_, q7, _, hcc, _⟩ := HFK.out w2 hb2; have HCC := Lib.hid hcc; clear hcc; refine Hid.out ?_))
 refine Lib.hid ?_
 clear q7 HCC
 go_wp2
 go_ret2
 exact ⟨rfl, (HFK.out w2 hb2).2.2.2.2⟩
set_option maxRecDepth 100000 in
set_option maxHeartbeats 4000000 in
theorem misfit_data (L p q : Int) (ao : Option Addr) (ds : List Int) (cap : Nat) (t n : Int) (w : World) (hc : Cells w ao (ds.map (Value.int .i64))) (hl : ds.length <= 9223372036854775807) (h1 : waveOK L p q = true) (h2 : silentB (wav L p q) = false) (h3 : dataOK ds = false) :
 Calls Tryz.prog 17 #[.int .i64 L, .agg #[.int .i64 p, .int .i64 q], .slice ao ds.length cap, .int .i64 t, .int .i64 n] w fun e w' => e = .returned (.tuple #[.string ⟨#[]⟩, .int .i64 73]) /\ Below w.heap.size w w' := by
 obtain ⟨Z, hZ⟩ : ∃ Z, Z = shp 0 (smp 0 0 0) := ⟨_, rfl⟩
 have z : Tryz.zeroCells129 = Z := by rw [hZ]; exact zero101
 have hZs : Z.size = 65 := by rw [hZ, shp_size, smp_length]
 have hw1 := fun w => wave_any L p q w
 have hst := store_shape (waveV L p q) Z (waveV_size L p q) hZs (waveV_one L p q)
 have hVs := waveV_size L p q
 have hsi := fun (h : waveOK L p q = true) w => silent_any L (wav L p q) w (wav_length _ _ _)
 have hVe : waveOK L p q = true -> waveV L p q = shp L (wav L p q) := fun h => by simp [waveV, h]
 have hda := fun wx hcx => dataOK_any ao ds cap wx hcx hl
 rw [h1] at hw1
 replace hsi := hsi h1
 replace hVe := hVe h1
 rw [<- hVe] at hsi
 rw [h2] at hsi
 clear hVe
 rw [h3] at hda
 generalize waveV L p q = V at *
 have hne : ¬ V = #[] := by intro h; rw [h] at hVs; simp at hVs
 have hi : (Tryz.prog.info? 129).map (·.size) = some V.size := by rw [hVs]; kernel_rfl
 have HI := Lib.hid hi; clear hi
 have HW := Lib.hid hw1; clear hw1
 have HDA := Lib.hid hda; clear hda
 have HC := Lib.hid hc; clear hc
 clear hZ
 have HSI := Lib.hid hsi; clear hsi
 obtain ⟨W0, hW0⟩ : ∃ W0, ((w.alloc (.cells #[.int .i64 p, .int .i64 q] 23)).alloc (.cells #[.slice ao ds.length cap] 24)).alloc (.cells #[.int .i64 t] 3) = W0 := ⟨_, rfl⟩
 have hB0 : Below w.heap.size w W0 := by rw [<- hW0]; exact (((Below.refl _ w).alloc (Nat.le_refl _) _).alloc (by simp) _).alloc (by simp; omega) _
 have hs0 : W0.heap.size = w.heap.size + 3 := by rw [<- hW0]; simp
 have b0 : W0.heap[w.heap.size]? = some (.cells #[.int .i64 p, .int .i64 q] 23 (0, 0)) := by rw [<- hW0, hold_old _ _ _ (by simp; omega)]; exact heap_alloc2_old w _ _
 have b1 : W0.heap[w.heap.size + 1]? = some (.cells #[.slice ao ds.length cap] 24 (0, 0)) := by rw [<- hW0, hold_old _ _ _ (by simp)]; exact heap_alloc2_new w _ _
 have b2 : W0.heap[w.heap.size + 1 + 1]? = some (.cells #[.int .i64 t] 3 (0, 0)) := by
  have hsz : ((w.alloc (.cells #[.int .i64 p, .int .i64 q] 23)).alloc (.cells #[.slice ao ds.length cap] 24)).heap.size = w.heap.size + 1 + 1 := by simp
  rw [<- hW0, <- hsz]; exact heap_alloc_new _ _
 have a0 := (cell_of_row W0 _ 0 _ _ _ b0).trans rfl
 have a1 := (cell_of_row W0 _ 1 _ _ _ b0).trans rfl
 have B1 := Lib.hid b1; have B2 := Lib.hid b2; clear b0 b1 b2
 have HS0 := Lib.hid hs0; clear hs0
 have HW0 := Lib.hid hW0; clear hW0
 go_enter Tryz.func17, Tryz.ntmps17
 go_wp2_with fail
 rw [HW0.out]
 refine (HW.out _).mono ?_
 rintro e w1 ⟨rfl, hb1⟩
 have g1 : Below w.heap.size w w1 := hB0.trans (hb1.mono (by have := hB0.size; omega))
 have g1a : Below w.heap.size w (w1.alloc (.cells V 129)) := g1.alloc g1.size _
 have hs1 := hb1.size
 have hs1a : (w1.alloc (.cells V 129)).heap.size = w1.heap.size + 1 := by simp
 have FK : ∀ wx, Below (w1.heap.size + 1) (w1.alloc (.cells V 129)) wx -> wx.heap[w1.heap.size]? = some (.cells V 129 (0, 0)) /\ wx.cell? ⟨w.heap.size + 1, 0, none⟩ = some (.slice ao ds.length cap) /\ wx.cell? ⟨w.heap.size + 1 + 1, 0, none⟩ = some (.int .i64 t) /\ Cells wx ao (ds.map (Value.int .i64)) /\ Below w.heap.size w wx := by
  intro wx hb
  have h0 := HS0.out
  have e1 : wx.heap[w.heap.size + 1]? = _ := (hb.block _ (by omega)).trans ((hold_old w1 _ _ (by omega)).trans ((hb1.block _ (by omega)).trans B1.out))
  have e2 : wx.heap[w.heap.size + 1 + 1]? = _ := (hb.block _ (by omega)).trans ((hold_old w1 _ _ (by omega)).trans ((hb1.block _ (by omega)).trans B2.out))
  have e3 : Below w.heap.size w wx := g1a.trans (hb.mono (by omega))
  exact ⟨(hb.block _ (by omega)).trans (heap_alloc_new _ _), (cell_of_row wx _ 0 _ _ _ e1).trans rfl, (cell_of_row wx _ 0 _ _ _ e2).trans rfl, HC.out.below e3 (Nat.le_refl _), e3⟩
 have HFK := Lib.hid FK; clear FK
 have HS1 := Lib.hid hs1; have HS1A := Lib.hid hs1a; clear hs1 hs1a
 go_wp2_with (first
  | (refine wpList_load_row (by rfl) 129 _ (by rfl) w1.heap.size (by rfl) _ V _ _ (HFK.out _ (Below.refl _ _)).1 Tryz.underlying129 (by rfl) HI.out ?_)
  | (go_at_call 64; refine (HSI.out _).mono ?_; rintro e w2 ⟨rfl, hb2⟩; have hb2 := hb2.mono (Nat.le_of_eq HS1A.out.symm); obtain ⟨_, q7, _, hcc, _⟩ := HFK.out w2 hb2; have HCC := Lib.hid hcc; clear hcc; refine Hid.out ?_))
 refine Lib.hid ?_
 have hs2 := hb2.size
 go_wp2_with (go_at_call 65; refine (HDA.out _ HCC.out).mono ?_; rintro e w3 ⟨rfl, hb3⟩; refine Hid.out ?_)
 have hb3 : Below (w1.heap.size + 1) (w1.alloc (.cells V 129)) w3 := hb2.trans (hb3.mono (by have := HS1A.out; omega))
 clear q7 HCC hb2 hs2
 obtain ⟨_, q7, q8, hcc, g3⟩ := HFK.out w3 hb3
 have HCC := Lib.hid hcc; clear hcc
 refine Lib.hid ?_
 clear q7 q8 HCC
 go_wp2
 go_ret2
 exact ⟨rfl, g3⟩
set_option maxRecDepth 100000 in
set_option maxHeartbeats 4000000 in
theorem misfit_before (L p q : Int) (ao : Option Addr) (ds : List Int) (cap : Nat) (t n : Int) (w : World) (hc : Cells w ao (ds.map (Value.int .i64))) (hl : ds.length <= 9223372036854775807) (h1 : waveOK L p q = true) (h2 : silentB (wav L p q) = false) (h3 : dataOK ds = true) (h4 : t < 0) :
 Calls Tryz.prog 17 #[.int .i64 L, .agg #[.int .i64 p, .int .i64 q], .slice ao ds.length cap, .int .i64 t, .int .i64 n] w fun e w' => e = .returned (.tuple #[.string ⟨#[]⟩, .int .i64 8]) /\ Below w.heap.size w w' := by
 obtain ⟨Z, hZ⟩ : ∃ Z, Z = shp 0 (smp 0 0 0) := ⟨_, rfl⟩
 have z : Tryz.zeroCells129 = Z := by rw [hZ]; exact zero101
 have hZs : Z.size = 65 := by rw [hZ, shp_size, smp_length]
 have hw1 := fun w => wave_any L p q w
 have hst := store_shape (waveV L p q) Z (waveV_size L p q) hZs (waveV_one L p q)
 have hVs := waveV_size L p q
 have hsi := fun (h : waveOK L p q = true) w => silent_any L (wav L p q) w (wav_length _ _ _)
 have hVe : waveOK L p q = true -> waveV L p q = shp L (wav L p q) := fun h => by simp [waveV, h]
 have hda := fun wx hcx => dataOK_any ao ds cap wx hcx hl
 rw [h1] at hw1
 replace hsi := hsi h1
 replace hVe := hVe h1
 rw [<- hVe] at hsi
 rw [h2] at hsi
 clear hVe
 rw [h3] at hda
 have hdl := (dataOK_true h3).1
 have hwt := waveOK_true h1
 obtain ⟨k1, k2, _, _, _, _⟩ := hwt
 generalize waveV L p q = V at *
 have hne : ¬ V = #[] := by intro h; rw [h] at hVs; simp at hVs
 have hi : (Tryz.prog.info? 129).map (·.size) = some V.size := by rw [hVs]; kernel_rfl
 have HI := Lib.hid hi; clear hi
 have HW := Lib.hid hw1; clear hw1
 have HDA := Lib.hid hda; clear hda
 have HC := Lib.hid hc; clear hc
 clear hZ
 have HSI := Lib.hid hsi; clear hsi
 obtain ⟨W0, hW0⟩ : ∃ W0, ((w.alloc (.cells #[.int .i64 p, .int .i64 q] 23)).alloc (.cells #[.slice ao ds.length cap] 24)).alloc (.cells #[.int .i64 t] 3) = W0 := ⟨_, rfl⟩
 have hB0 : Below w.heap.size w W0 := by rw [<- hW0]; exact (((Below.refl _ w).alloc (Nat.le_refl _) _).alloc (by simp) _).alloc (by simp; omega) _
 have hs0 : W0.heap.size = w.heap.size + 3 := by rw [<- hW0]; simp
 have b0 : W0.heap[w.heap.size]? = some (.cells #[.int .i64 p, .int .i64 q] 23 (0, 0)) := by rw [<- hW0, hold_old _ _ _ (by simp; omega)]; exact heap_alloc2_old w _ _
 have b1 : W0.heap[w.heap.size + 1]? = some (.cells #[.slice ao ds.length cap] 24 (0, 0)) := by rw [<- hW0, hold_old _ _ _ (by simp)]; exact heap_alloc2_new w _ _
 have b2 : W0.heap[w.heap.size + 1 + 1]? = some (.cells #[.int .i64 t] 3 (0, 0)) := by
  have hsz : ((w.alloc (.cells #[.int .i64 p, .int .i64 q] 23)).alloc (.cells #[.slice ao ds.length cap] 24)).heap.size = w.heap.size + 1 + 1 := by simp
  rw [<- hW0, <- hsz]; exact heap_alloc_new _ _
 have a0 := (cell_of_row W0 _ 0 _ _ _ b0).trans rfl
 have a1 := (cell_of_row W0 _ 1 _ _ _ b0).trans rfl
 have B1 := Lib.hid b1; have B2 := Lib.hid b2; clear b0 b1 b2
 have HS0 := Lib.hid hs0; clear hs0
 have HW0 := Lib.hid hW0; clear hW0
 go_enter Tryz.func17, Tryz.ntmps17
 go_wp2_with fail
 rw [HW0.out]
 refine (HW.out _).mono ?_
 rintro e w1 ⟨rfl, hb1⟩
 have g1 : Below w.heap.size w w1 := hB0.trans (hb1.mono (by have := hB0.size; omega))
 have g1a : Below w.heap.size w (w1.alloc (.cells V 129)) := g1.alloc g1.size _
 have hs1 := hb1.size
 have hs1a : (w1.alloc (.cells V 129)).heap.size = w1.heap.size + 1 := by simp
 have FK : ∀ wx, Below (w1.heap.size + 1) (w1.alloc (.cells V 129)) wx -> wx.heap[w1.heap.size]? = some (.cells V 129 (0, 0)) /\ wx.cell? ⟨w.heap.size + 1, 0, none⟩ = some (.slice ao ds.length cap) /\ wx.cell? ⟨w.heap.size + 1 + 1, 0, none⟩ = some (.int .i64 t) /\ Cells wx ao (ds.map (Value.int .i64)) /\ Below w.heap.size w wx := by
  intro wx hb
  have h0 := HS0.out
  have e1 : wx.heap[w.heap.size + 1]? = _ := (hb.block _ (by omega)).trans ((hold_old w1 _ _ (by omega)).trans ((hb1.block _ (by omega)).trans B1.out))
  have e2 : wx.heap[w.heap.size + 1 + 1]? = _ := (hb.block _ (by omega)).trans ((hold_old w1 _ _ (by omega)).trans ((hb1.block _ (by omega)).trans B2.out))
  have e3 : Below w.heap.size w wx := g1a.trans (hb.mono (by omega))
  exact ⟨(hb.block _ (by omega)).trans (heap_alloc_new _ _), (cell_of_row wx _ 0 _ _ _ e1).trans rfl, (cell_of_row wx _ 0 _ _ _ e2).trans rfl, HC.out.below e3 (Nat.le_refl _), e3⟩
 have HFK := Lib.hid FK; clear FK
 have HS1 := Lib.hid hs1; have HS1A := Lib.hid hs1a; clear hs1 hs1a
 go_wp2_with (first
  | (refine wpList_load_row (by rfl) 129 _ (by rfl) w1.heap.size (by rfl) _ V _ _ (HFK.out _ (Below.refl _ _)).1 Tryz.underlying129 (by rfl) HI.out ?_)
  | (go_at_call 64; refine (HSI.out _).mono ?_; rintro e w2 ⟨rfl, hb2⟩; have hb2 := hb2.mono (Nat.le_of_eq HS1A.out.symm); obtain ⟨_, q7, _, hcc, _⟩ := HFK.out w2 hb2; have HCC := Lib.hid hcc; clear hcc; refine Hid.out ?_))
 refine Lib.hid ?_
 have hs2 := hb2.size
 go_wp2_with (go_at_call 65; refine (HDA.out _ HCC.out).mono ?_; rintro e w3 ⟨rfl, hb3⟩; refine Hid.out ?_)
 have hb3 : Below (w1.heap.size + 1) (w1.alloc (.cells V 129)) w3 := hb2.trans (hb3.mono (by have := HS1A.out; omega))
 clear q7 HCC hb2 hs2
 obtain ⟨_, q7, q8, hcc, g3⟩ := HFK.out w3 hb3
 have HCC := Lib.hid hcc; clear hcc
 refine Lib.hid ?_
 go_wp2
 go_ret2
 exact ⟨rfl, g3⟩
set_option maxRecDepth 100000 in
set_option maxHeartbeats 4000000 in
theorem misfit_behind (L p q : Int) (ao : Option Addr) (ds : List Int) (cap : Nat) (t n : Int) (w : World) (hc : Cells w ao (ds.map (Value.int .i64))) (hl : ds.length <= 9223372036854775807) (h1 : waveOK L p q = true) (h2 : silentB (wav L p q) = false) (h3 : dataOK ds = true) (h4 : 0 <= t) (h5 : (ds.length : Int) - L < t) :
 Calls Tryz.prog 17 #[.int .i64 L, .agg #[.int .i64 p, .int .i64 q], .slice ao ds.length cap, .int .i64 t, .int .i64 n] w fun e w' => e = .returned (.tuple #[.string ⟨#[]⟩, .int .i64 8]) /\ Below w.heap.size w w' := by
 obtain ⟨Z, hZ⟩ : ∃ Z, Z = shp 0 (smp 0 0 0) := ⟨_, rfl⟩
 have z : Tryz.zeroCells129 = Z := by rw [hZ]; exact zero101
 have hZs : Z.size = 65 := by rw [hZ, shp_size, smp_length]
 have hw1 := fun w => wave_any L p q w
 have hst := store_shape (waveV L p q) Z (waveV_size L p q) hZs (waveV_one L p q)
 have hVs := waveV_size L p q
 have hsi := fun (h : waveOK L p q = true) w => silent_any L (wav L p q) w (wav_length _ _ _)
 have hVe : waveOK L p q = true -> waveV L p q = shp L (wav L p q) := fun h => by simp [waveV, h]
 have hda := fun wx hcx => dataOK_any ao ds cap wx hcx hl
 rw [h1] at hw1
 replace hsi := hsi h1
 replace hVe := hVe h1
 rw [<- hVe] at hsi
 rw [h2] at hsi
 clear hVe
 rw [h3] at hda
 have hdl := (dataOK_true h3).1
 have hwt := waveOK_true h1
 obtain ⟨k1, k2, _, _, _, _⟩ := hwt
 generalize waveV L p q = V at *
 have hne : ¬ V = #[] := by intro h; rw [h] at hVs; simp at hVs
 have hi : (Tryz.prog.info? 129).map (·.size) = some V.size := by rw [hVs]; kernel_rfl
 have HI := Lib.hid hi; clear hi
 have HW := Lib.hid hw1; clear hw1
 have HDA := Lib.hid hda; clear hda
 have HC := Lib.hid hc; clear hc
 clear hZ
 have HSI := Lib.hid hsi; clear hsi
 obtain ⟨W0, hW0⟩ : ∃ W0, ((w.alloc (.cells #[.int .i64 p, .int .i64 q] 23)).alloc (.cells #[.slice ao ds.length cap] 24)).alloc (.cells #[.int .i64 t] 3) = W0 := ⟨_, rfl⟩
 have hB0 : Below w.heap.size w W0 := by rw [<- hW0]; exact (((Below.refl _ w).alloc (Nat.le_refl _) _).alloc (by simp) _).alloc (by simp; omega) _
 have hs0 : W0.heap.size = w.heap.size + 3 := by rw [<- hW0]; simp
 have b0 : W0.heap[w.heap.size]? = some (.cells #[.int .i64 p, .int .i64 q] 23 (0, 0)) := by rw [<- hW0, hold_old _ _ _ (by simp; omega)]; exact heap_alloc2_old w _ _
 have b1 : W0.heap[w.heap.size + 1]? = some (.cells #[.slice ao ds.length cap] 24 (0, 0)) := by rw [<- hW0, hold_old _ _ _ (by simp)]; exact heap_alloc2_new w _ _
 have b2 : W0.heap[w.heap.size + 1 + 1]? = some (.cells #[.int .i64 t] 3 (0, 0)) := by
  have hsz : ((w.alloc (.cells #[.int .i64 p, .int .i64 q] 23)).alloc (.cells #[.slice ao ds.length cap] 24)).heap.size = w.heap.size + 1 + 1 := by simp
  rw [<- hW0, <- hsz]; exact heap_alloc_new _ _
 have a0 := (cell_of_row W0 _ 0 _ _ _ b0).trans rfl
 have a1 := (cell_of_row W0 _ 1 _ _ _ b0).trans rfl
 have B1 := Lib.hid b1; have B2 := Lib.hid b2; clear b0 b1 b2
 have HS0 := Lib.hid hs0; clear hs0
 have HW0 := Lib.hid hW0; clear hW0
 go_enter Tryz.func17, Tryz.ntmps17
 go_wp2_with fail
 rw [HW0.out]
 refine (HW.out _).mono ?_
 rintro e w1 ⟨rfl, hb1⟩
 have g1 : Below w.heap.size w w1 := hB0.trans (hb1.mono (by have := hB0.size; omega))
 have g1a : Below w.heap.size w (w1.alloc (.cells V 129)) := g1.alloc g1.size _
 have hs1 := hb1.size
 have hs1a : (w1.alloc (.cells V 129)).heap.size = w1.heap.size + 1 := by simp
 have FK : ∀ wx, Below (w1.heap.size + 1) (w1.alloc (.cells V 129)) wx -> wx.heap[w1.heap.size]? = some (.cells V 129 (0, 0)) /\ wx.cell? ⟨w.heap.size + 1, 0, none⟩ = some (.slice ao ds.length cap) /\ wx.cell? ⟨w.heap.size + 1 + 1, 0, none⟩ = some (.int .i64 t) /\ Cells wx ao (ds.map (Value.int .i64)) /\ Below w.heap.size w wx := by
  intro wx hb
  have h0 := HS0.out
  have e1 : wx.heap[w.heap.size + 1]? = _ := (hb.block _ (by omega)).trans ((hold_old w1 _ _ (by omega)).trans ((hb1.block _ (by omega)).trans B1.out))
  have e2 : wx.heap[w.heap.size + 1 + 1]? = _ := (hb.block _ (by omega)).trans ((hold_old w1 _ _ (by omega)).trans ((hb1.block _ (by omega)).trans B2.out))
  have e3 : Below w.heap.size w wx := g1a.trans (hb.mono (by omega))
  exact ⟨(hb.block _ (by omega)).trans (heap_alloc_new _ _), (cell_of_row wx _ 0 _ _ _ e1).trans rfl, (cell_of_row wx _ 0 _ _ _ e2).trans rfl, HC.out.below e3 (Nat.le_refl _), e3⟩
 have HFK := Lib.hid FK; clear FK
 have HS1 := Lib.hid hs1; have HS1A := Lib.hid hs1a; clear hs1 hs1a
 go_wp2_with (first
  | (refine wpList_load_row (by rfl) 129 _ (by rfl) w1.heap.size (by rfl) _ V _ _ (HFK.out _ (Below.refl _ _)).1 Tryz.underlying129 (by rfl) HI.out ?_)
  | (go_at_call 64; refine (HSI.out _).mono ?_; rintro e w2 ⟨rfl, hb2⟩; have hb2 := hb2.mono (Nat.le_of_eq HS1A.out.symm); obtain ⟨_, q7, _, hcc, _⟩ := HFK.out w2 hb2; have HCC := Lib.hid hcc; clear hcc; refine Hid.out ?_))
 refine Lib.hid ?_
 have hs2 := hb2.size
 go_wp2_with (go_at_call 65; refine (HDA.out _ HCC.out).mono ?_; rintro e w3 ⟨rfl, hb3⟩; refine Hid.out ?_)
 have hb3 : Below (w1.heap.size + 1) (w1.alloc (.cells V 129)) w3 := hb2.trans (hb3.mono (by have := HS1A.out; omega))
 clear q7 HCC hb2 hs2
 obtain ⟨_, q7, q8, hcc, g3⟩ := HFK.out w3 hb3
 have HCC := Lib.hid hcc; clear hcc
 refine Lib.hid ?_
 go_wp2
 go_ret2
 exact ⟨rfl, g3⟩
set_option maxRecDepth 100000 in
set_option maxHeartbeats 4000000 in
theorem misfit_parts (L p q : Int) (ao : Option Addr) (ds : List Int) (cap : Nat) (t n : Int) (w : World) (hc : Cells w ao (ds.map (Value.int .i64))) (hl : ds.length <= 9223372036854775807) (h1 : waveOK L p q = true) (h2 : silentB (wav L p q) = false) (h3 : dataOK ds = true) (h4 : 0 <= t) (h5 : ¬ (ds.length : Int) - L < t) (h6 : inB 1 n 8 = false) :
 Calls Tryz.prog 17 #[.int .i64 L, .agg #[.int .i64 p, .int .i64 q], .slice ao ds.length cap, .int .i64 t, .int .i64 n] w fun e w' => e = .returned (.tuple #[.string ⟨#[]⟩, .int .i64 2]) /\ Below w.heap.size w w' := by
 obtain ⟨Z, hZ⟩ : ∃ Z, Z = shp 0 (smp 0 0 0) := ⟨_, rfl⟩
 have z : Tryz.zeroCells129 = Z := by rw [hZ]; exact zero101
 have hZs : Z.size = 65 := by rw [hZ, shp_size, smp_length]
 have hw1 := fun w => wave_any L p q w
 have hst := store_shape (waveV L p q) Z (waveV_size L p q) hZs (waveV_one L p q)
 have hVs := waveV_size L p q
 have hsi := fun (h : waveOK L p q = true) w => silent_any L (wav L p q) w (wav_length _ _ _)
 have hVe : waveOK L p q = true -> waveV L p q = shp L (wav L p q) := fun h => by simp [waveV, h]
 have hda := fun wx hcx => dataOK_any ao ds cap wx hcx hl
 rw [h1] at hw1
 replace hsi := hsi h1
 replace hVe := hVe h1
 rw [<- hVe] at hsi
 rw [h2] at hsi
 clear hVe
 rw [h3] at hda
 have hdl := (dataOK_true h3).1
 have hwt := waveOK_true h1
 obtain ⟨k1, k2, _, _, _, _⟩ := hwt
 generalize waveV L p q = V at *
 have hne : ¬ V = #[] := by intro h; rw [h] at hVs; simp at hVs
 have hi : (Tryz.prog.info? 129).map (·.size) = some V.size := by rw [hVs]; kernel_rfl
 have HI := Lib.hid hi; clear hi
 have HW := Lib.hid hw1; clear hw1
 have HDA := Lib.hid hda; clear hda
 have HC := Lib.hid hc; clear hc
 clear hZ
 have HSI := Lib.hid hsi; clear hsi
 obtain ⟨W0, hW0⟩ : ∃ W0, ((w.alloc (.cells #[.int .i64 p, .int .i64 q] 23)).alloc (.cells #[.slice ao ds.length cap] 24)).alloc (.cells #[.int .i64 t] 3) = W0 := ⟨_, rfl⟩
 have hB0 : Below w.heap.size w W0 := by rw [<- hW0]; exact (((Below.refl _ w).alloc (Nat.le_refl _) _).alloc (by simp) _).alloc (by simp; omega) _
 have hs0 : W0.heap.size = w.heap.size + 3 := by rw [<- hW0]; simp
 have b0 : W0.heap[w.heap.size]? = some (.cells #[.int .i64 p, .int .i64 q] 23 (0, 0)) := by rw [<- hW0, hold_old _ _ _ (by simp; omega)]; exact heap_alloc2_old w _ _
 have b1 : W0.heap[w.heap.size + 1]? = some (.cells #[.slice ao ds.length cap] 24 (0, 0)) := by rw [<- hW0, hold_old _ _ _ (by simp)]; exact heap_alloc2_new w _ _
 have b2 : W0.heap[w.heap.size + 1 + 1]? = some (.cells #[.int .i64 t] 3 (0, 0)) := by
  have hsz : ((w.alloc (.cells #[.int .i64 p, .int .i64 q] 23)).alloc (.cells #[.slice ao ds.length cap] 24)).heap.size = w.heap.size + 1 + 1 := by simp
  rw [<- hW0, <- hsz]; exact heap_alloc_new _ _
 have a0 := (cell_of_row W0 _ 0 _ _ _ b0).trans rfl
 have a1 := (cell_of_row W0 _ 1 _ _ _ b0).trans rfl
 have B1 := Lib.hid b1; have B2 := Lib.hid b2; clear b0 b1 b2
 have HS0 := Lib.hid hs0; clear hs0
 have HW0 := Lib.hid hW0; clear hW0
 go_enter Tryz.func17, Tryz.ntmps17
 go_wp2_with fail
 rw [HW0.out]
 refine (HW.out _).mono ?_
 rintro e w1 ⟨rfl, hb1⟩
 have g1 : Below w.heap.size w w1 := hB0.trans (hb1.mono (by have := hB0.size; omega))
 have g1a : Below w.heap.size w (w1.alloc (.cells V 129)) := g1.alloc g1.size _
 have hs1 := hb1.size
 have hs1a : (w1.alloc (.cells V 129)).heap.size = w1.heap.size + 1 := by simp
 have FK : ∀ wx, Below (w1.heap.size + 1) (w1.alloc (.cells V 129)) wx -> wx.heap[w1.heap.size]? = some (.cells V 129 (0, 0)) /\ wx.cell? ⟨w.heap.size + 1, 0, none⟩ = some (.slice ao ds.length cap) /\ wx.cell? ⟨w.heap.size + 1 + 1, 0, none⟩ = some (.int .i64 t) /\ Cells wx ao (ds.map (Value.int .i64)) /\ Below w.heap.size w wx := by
  intro wx hb
  have h0 := HS0.out
  have e1 : wx.heap[w.heap.size + 1]? = _ := (hb.block _ (by omega)).trans ((hold_old w1 _ _ (by omega)).trans ((hb1.block _ (by omega)).trans B1.out))
  have e2 : wx.heap[w.heap.size + 1 + 1]? = _ := (hb.block _ (by omega)).trans ((hold_old w1 _ _ (by omega)).trans ((hb1.block _ (by omega)).trans B2.out))
  have e3 : Below w.heap.size w wx := g1a.trans (hb.mono (by omega))
  exact ⟨(hb.block _ (by omega)).trans (heap_alloc_new _ _), (cell_of_row wx _ 0 _ _ _ e1).trans rfl, (cell_of_row wx _ 0 _ _ _ e2).trans rfl, HC.out.below e3 (Nat.le_refl _), e3⟩
 have HFK := Lib.hid FK; clear FK
 have HS1 := Lib.hid hs1; have HS1A := Lib.hid hs1a; clear hs1 hs1a
 go_wp2_with (first
  | (refine wpList_load_row (by rfl) 129 _ (by rfl) w1.heap.size (by rfl) _ V _ _ (HFK.out _ (Below.refl _ _)).1 Tryz.underlying129 (by rfl) HI.out ?_)
  | (go_at_call 64; refine (HSI.out _).mono ?_; rintro e w2 ⟨rfl, hb2⟩; have hb2 := hb2.mono (Nat.le_of_eq HS1A.out.symm); obtain ⟨_, q7, _, hcc, _⟩ := HFK.out w2 hb2; have HCC := Lib.hid hcc; clear hcc; refine Hid.out ?_))
 refine Lib.hid ?_
 have hs2 := hb2.size
 go_wp2_with (go_at_call 65; refine (HDA.out _ HCC.out).mono ?_; rintro e w3 ⟨rfl, hb3⟩; refine Hid.out ?_)
 have hb3 : Below (w1.heap.size + 1) (w1.alloc (.cells V 129)) w3 := hb2.trans (hb3.mono (by have := HS1A.out; omega))
 clear q7 HCC hb2 hs2
 obtain ⟨_, q7, q8, hcc, g3⟩ := HFK.out w3 hb3
 have HCC := Lib.hid hcc; clear hcc
 refine Lib.hid ?_
 go_wp2_with (go_at_call 66; refine (bwithin_any _ _ _ _).mono ?_; rintro e w' ⟨rfl, rfl⟩)
 go_ret2
 exact ⟨rfl, g3⟩
set_option maxRecDepth 100000 in
set_option maxHeartbeats 4000000 in
theorem misfit_rest (L p q : Int) (ao : Option Addr) (ds : List Int) (cap : Nat) (t n : Int) (w : World) (hc : Cells w ao (ds.map (Value.int .i64))) (hl : ds.length <= 9223372036854775807) (h1 : waveOK L p q = true) (h2 : silentB (wav L p q) = false) (h3 : dataOK ds = true) (h4 : 0 <= t) (h5 : ¬ (ds.length : Int) - L < t) (h6 : inB 1 n 8 = true) (h7 : ¬ L % n = 0) (h8 : 1 <= n) (h9 : n <= 8) :
 Calls Tryz.prog 17 #[.int .i64 L, .agg #[.int .i64 p, .int .i64 q], .slice ao ds.length cap, .int .i64 t, .int .i64 n] w fun e w' => e = .returned (.tuple #[.string ⟨#[]⟩, .int .i64 2]) /\ Below w.heap.size w w' := by
 obtain ⟨Z, hZ⟩ : ∃ Z, Z = shp 0 (smp 0 0 0) := ⟨_, rfl⟩
 have z : Tryz.zeroCells129 = Z := by rw [hZ]; exact zero101
 have hZs : Z.size = 65 := by rw [hZ, shp_size, smp_length]
 have hw1 := fun w => wave_any L p q w
 have hst := store_shape (waveV L p q) Z (waveV_size L p q) hZs (waveV_one L p q)
 have hVs := waveV_size L p q
 have hsi := fun (h : waveOK L p q = true) w => silent_any L (wav L p q) w (wav_length _ _ _)
 have hVe : waveOK L p q = true -> waveV L p q = shp L (wav L p q) := fun h => by simp [waveV, h]
 have hda := fun wx hcx => dataOK_any ao ds cap wx hcx hl
 rw [h1] at hw1
 replace hsi := hsi h1
 replace hVe := hVe h1
 rw [<- hVe] at hsi
 rw [h2] at hsi
 clear hVe
 rw [h3] at hda
 have hdl := (dataOK_true h3).1
 have hwt := waveOK_true h1
 obtain ⟨k1, k2, _, _, _, _⟩ := hwt
 generalize waveV L p q = V at *
 have hne : ¬ V = #[] := by intro h; rw [h] at hVs; simp at hVs
 have hi : (Tryz.prog.info? 129).map (·.size) = some V.size := by rw [hVs]; kernel_rfl
 have HI := Lib.hid hi; clear hi
 have HW := Lib.hid hw1; clear hw1
 have HDA := Lib.hid hda; clear hda
 have HC := Lib.hid hc; clear hc
 clear hZ
 have HSI := Lib.hid hsi; clear hsi
 obtain ⟨W0, hW0⟩ : ∃ W0, ((w.alloc (.cells #[.int .i64 p, .int .i64 q] 23)).alloc (.cells #[.slice ao ds.length cap] 24)).alloc (.cells #[.int .i64 t] 3) = W0 := ⟨_, rfl⟩
 have hB0 : Below w.heap.size w W0 := by rw [<- hW0]; exact (((Below.refl _ w).alloc (Nat.le_refl _) _).alloc (by simp) _).alloc (by simp; omega) _
 have hs0 : W0.heap.size = w.heap.size + 3 := by rw [<- hW0]; simp
 have b0 : W0.heap[w.heap.size]? = some (.cells #[.int .i64 p, .int .i64 q] 23 (0, 0)) := by rw [<- hW0, hold_old _ _ _ (by simp; omega)]; exact heap_alloc2_old w _ _
 have b1 : W0.heap[w.heap.size + 1]? = some (.cells #[.slice ao ds.length cap] 24 (0, 0)) := by rw [<- hW0, hold_old _ _ _ (by simp)]; exact heap_alloc2_new w _ _
 have b2 : W0.heap[w.heap.size + 1 + 1]? = some (.cells #[.int .i64 t] 3 (0, 0)) := by
  have hsz : ((w.alloc (.cells #[.int .i64 p, .int .i64 q] 23)).alloc (.cells #[.slice ao ds.length cap] 24)).heap.size = w.heap.size + 1 + 1 := by simp
  rw [<- hW0, <- hsz]; exact heap_alloc_new _ _
 have a0 := (cell_of_row W0 _ 0 _ _ _ b0).trans rfl
 have a1 := (cell_of_row W0 _ 1 _ _ _ b0).trans rfl
 have B1 := Lib.hid b1; have B2 := Lib.hid b2; clear b0 b1 b2
 have HS0 := Lib.hid hs0; clear hs0
 have HW0 := Lib.hid hW0; clear hW0
 go_enter Tryz.func17, Tryz.ntmps17
 go_wp2_with fail
 rw [HW0.out]
 refine (HW.out _).mono ?_
 rintro e w1 ⟨rfl, hb1⟩
 have g1 : Below w.heap.size w w1 := hB0.trans (hb1.mono (by have := hB0.size; omega))
 have g1a : Below w.heap.size w (w1.alloc (.cells V 129)) := g1.alloc g1.size _
 have hs1 := hb1.size
 have hs1a : (w1.alloc (.cells V 129)).heap.size = w1.heap.size + 1 := by simp
 have FK : ∀ wx, Below (w1.heap.size + 1) (w1.alloc (.cells V 129)) wx -> wx.heap[w1.heap.size]? = some (.cells V 129 (0, 0)) /\ wx.cell? ⟨w.heap.size + 1, 0, none⟩ = some (.slice ao ds.length cap) /\ wx.cell? ⟨w.heap.size + 1 + 1, 0, none⟩ = some (.int .i64 t) /\ Cells wx ao (ds.map (Value.int .i64)) /\ Below w.heap.size w wx := by
  intro wx hb
  have h0 := HS0.out
  have e1 : wx.heap[w.heap.size + 1]? = _ := (hb.block _ (by omega)).trans ((hold_old w1 _ _ (by omega)).trans ((hb1.block _ (by omega)).trans B1.out))
  have e2 : wx.heap[w.heap.size + 1 + 1]? = _ := (hb.block _ (by omega)).trans ((hold_old w1 _ _ (by omega)).trans ((hb1.block _ (by omega)).trans B2.out))
  have e3 : Below w.heap.size w wx := g1a.trans (hb.mono (by omega))
  exact ⟨(hb.block _ (by omega)).trans (heap_alloc_new _ _), (cell_of_row wx _ 0 _ _ _ e1).trans rfl, (cell_of_row wx _ 0 _ _ _ e2).trans rfl, HC.out.below e3 (Nat.le_refl _), e3⟩
 have HFK := Lib.hid FK; clear FK
 have HS1 := Lib.hid hs1; have HS1A := Lib.hid hs1a; clear hs1 hs1a
 go_wp2_with (first
  | (refine wpList_load_row (by rfl) 129 _ (by rfl) w1.heap.size (by rfl) _ V _ _ (HFK.out _ (Below.refl _ _)).1 Tryz.underlying129 (by rfl) HI.out ?_)
  | (go_at_call 64; refine (HSI.out _).mono ?_; rintro e w2 ⟨rfl, hb2⟩; have hb2 := hb2.mono (Nat.le_of_eq HS1A.out.symm); obtain ⟨_, q7, _, hcc, _⟩ := HFK.out w2 hb2; have HCC := Lib.hid hcc; clear hcc; refine Hid.out ?_))
 refine Lib.hid ?_
 have hs2 := hb2.size
 go_wp2_with (go_at_call 65; refine (HDA.out _ HCC.out).mono ?_; rintro e w3 ⟨rfl, hb3⟩; refine Hid.out ?_)
 have hb3 : Below (w1.heap.size + 1) (w1.alloc (.cells V 129)) w3 := hb2.trans (hb3.mono (by have := HS1A.out; omega))
 clear q7 HCC hb2 hs2
 obtain ⟨_, q7, q8, hcc, g3⟩ := HFK.out w3 hb3
 have HCC := Lib.hid hcc; clear hcc
 refine Lib.hid ?_
 go_wp2_with (go_at_call 66; refine (bwithin_any _ _ _ _).mono ?_; rintro e w' ⟨rfl, rfl⟩)
 go_ret2
 exact ⟨rfl, g3⟩
end Go.Proofs.YtdpjdifoonfcdaaGreatDoor

namespace Go.Proofs.YtdpjdifoonfcdaaGreatDoor
open Go.RowKit
theorem Tryz.infoNum : (Tryz.prog.info? 34).map (fun i => (i.zero, i.size, i.bytes)) = some (some (.string ⟨#[]⟩), 1, 16) := by kernel_rfl
theorem own_one (w : World) (u : Value) (T : TypeId) (b : Nat) (hb : b <= w.heap.size) : (w.alloc (.cells #[u] T)).ownsRow b T 1 (.slice (some ⟨w.heap.size, 0, none⟩) 1 1) 1 [u] :=
 ⟨by simp, .inr ⟨w.heap.size, 1, #[u], rfl, hb, World.alloc_heap_new w _, Nat.le_refl _, by unfold maxLen; omega, by simp, by simp⟩⟩
def frT (l : List (Int × Nat)) : List Value := l.map fun u => Value.string (ofT u.1 u.2)
theorem frT_snoc (l : List (Int × Nat)) (u : Int × Nat) : frT (l ++ [u]) = frT l ++ [.string (ofT u.1 u.2)] := by simp [frT]
theorem frT_strings (l : List (Int × Nat)) : frT l = (l.map fun u => ofT u.1 u.2).map Value.string := by simp [frT]
set_option maxRecDepth 100000 in
set_option maxHeartbeats 4000000 in
theorem misfit_ok (L p q : Int) (ao : Option Addr) (ds : List Int) (cap : Nat) (t n : Int) (w : World) (hc : Cells w ao (ds.map (Value.int .i64))) (hl : ds.length <= 9223372036854775807) (h1 : waveOK L p q = true) (h2 : silentB (wav L p q) = false) (h3 : dataOK ds = true) (h4 : 0 <= t) (h5 : t + L <= ds.length) (h6 : 1 <= n) (h7 : n <= 8) (h8 : L % n = 0) (ht : Tab w) :
 Calls Tryz.prog 17 #[.int .i64 L, .agg #[.int .i64 p, .int .i64 q], .slice ao ds.length cap, .int .i64 t, .int .i64 n] w fun e w' => e = .returned (.tuple #[.string (ofT (misQ L p q ds t n).1 (misQ L p q ds t n).2), .int .i64 0]) /\ Below w.heap.size w w' := by
 have hwt := waveOK_true h1
 have hdt := dataOK_true h3
 obtain ⟨k1, k2, _, _, _, _⟩ := hwt
 obtain ⟨N, hN⟩ : ∃ N : Nat, n = (N : Int) := ⟨n.toNat, by omega⟩
 obtain ⟨T, hT⟩ : ∃ T : Nat, t = (T : Int) := ⟨t.toNat, by omega⟩
 obtain ⟨M, hM⟩ : ∃ M : Nat, L = (M : Int) := ⟨L.toNat, by omega⟩
 obtain ⟨k, hk⟩ : ∃ k : Nat, k = M / N := ⟨_, rfl⟩
 have hkn : k * N = M := by
  rw [hk]
  refine Nat.div_mul_cancel (Nat.dvd_of_mod_eq_zero ?_)
  rw [hM, hN] at h8
  omega
 have hQ : misQ L p q ds t n = frSum (misL (wav L p q) ds T M k N) := by
  unfold misQ
  rw [hM, hN, hT, Int.toNat_natCast, Int.toNat_natCast, Int.toNat_natCast, hk]
 have hra := fun (a b : Nat) (sg : Int) (bv bd bt : Nat) wx hTx hab (hbM : b <= M) hb => ratio_any L (wav L p q) ds ao cap T a b sg bv bd bt wx hTx (wav_length _ _ _) hab (show b <= 64 by omega) (show T + b <= ds.length by omega) hdt.1 hb (wav_bd _ _ _) hdt.2
 have hmb : ∀ j, j <= N -> ∀ u ∈ misL (wav L p q) ds T M k j, u.2 ≠ 0 /\ u.1.natAbs < 10 ^ 21 /\ u.2 < 10 ^ 21 := fun j hj => misL_bd (wav_bd _ _ _) hdt.2 T M k j (by omega) (Nat.le_trans (Nat.mul_le_mul_right k hj) (by rw [Nat.mul_comm]; omega))
 have hq1 : Int.tdiv L n = (k : Int) := by rw [hM, hN, hk]; rfl
 have hq2 : L / n = (k : Int) := by rw [hM, hN, hk]; rfl
 have hq3 : Int.tmod L n = 0 := by rw [Int.tmod_eq_emod_of_nonneg (by omega)]; exact h8
 have hkp : 1 <= k := by
  rcases Nat.eq_zero_or_pos k with h | h
  · rw [h] at hkn; omega
  · exact h
 have hNs : 1 <= N /\ N <= 8 := by omega
 have hM1 : M <= 64 := by omega
 have hk64 : k <= 64 := by rw [hk]; exact Nat.le_trans (Nat.div_le_self _ _) hM1
 have i6 : inB 1 n 8 = true := by simp [inB]; omega
 have H5 : ¬ (ds.length : Int) - L < t := by omega
 obtain ⟨Z, hZ⟩ : ∃ Z, Z = shp 0 (smp 0 0 0) := ⟨_, rfl⟩
 have z : Tryz.zeroCells129 = Z := by rw [hZ]; exact zero101
 have hZs : Z.size = 65 := by rw [hZ, shp_size, smp_length]
 have hw1 := fun w => wave_any L p q w
 have hst := store_shape (waveV L p q) Z (waveV_size L p q) hZs (waveV_one L p q)
 have hVs := waveV_size L p q
 have hsi := fun (h : waveOK L p q = true) w => silent_any L (wav L p q) w (wav_length _ _ _)
 have hVe : waveOK L p q = true -> waveV L p q = shp L (wav L p q) := fun h => by simp [waveV, h]
 have hda := fun wx hcx => dataOK_any ao ds cap wx hcx hl
 rw [h1] at hw1
 replace hsi := hsi h1
 replace hVe := hVe h1
 rw [<- hVe] at hsi
 rw [h2] at hsi
 rw [h3] at hda
 rw [<- hVe] at hra
 rw [<- hT] at hra
 clear hVe
 have HQ := Lib.hid hQ; clear hQ
 have HMB := Lib.hid hmb; clear hmb
 have HRA := Lib.hid hra; clear hra
 generalize misQ L p q ds t n = RQ at *
 generalize wav L p q = xs at *
 have HMM := Lib.hid (And.intro hM (And.intro hN hkn)); clear hM hN hT hk hkn
 generalize waveV L p q = V at *
 have hne : ¬ V = #[] := by intro h; rw [h] at hVs; simp at hVs
 have hi : (Tryz.prog.info? 129).map (·.size) = some V.size := by rw [hVs]; kernel_rfl
 have HI := Lib.hid hi; clear hi
 have HW := Lib.hid hw1; clear hw1
 have HDA := Lib.hid hda; clear hda
 have HC := Lib.hid hc; clear hc
 clear hZ
 have HSI := Lib.hid hsi; clear hsi
 have HT := Lib.hid ht; clear ht
 have hdl := hdt.1
 clear hdt h3 h2 h1 h5
 obtain ⟨W0, hW0⟩ : ∃ W0, ((w.alloc (.cells #[.int .i64 p, .int .i64 q] 23)).alloc (.cells #[.slice ao ds.length cap] 24)).alloc (.cells #[.int .i64 t] 3) = W0 := ⟨_, rfl⟩
 have hB0 : Below w.heap.size w W0 := by rw [<- hW0]; exact (((Below.refl _ w).alloc (Nat.le_refl _) _).alloc (by simp) _).alloc (by simp; omega) _
 have hs0 : W0.heap.size = w.heap.size + 3 := by rw [<- hW0]; simp
 have b0 : W0.heap[w.heap.size]? = some (.cells #[.int .i64 p, .int .i64 q] 23 (0, 0)) := by rw [<- hW0, hold_old _ _ _ (by simp; omega)]; exact heap_alloc2_old w _ _
 have b1 : W0.heap[w.heap.size + 1]? = some (.cells #[.slice ao ds.length cap] 24 (0, 0)) := by rw [<- hW0, hold_old _ _ _ (by simp)]; exact heap_alloc2_new w _ _
 have b2 : W0.heap[w.heap.size + 1 + 1]? = some (.cells #[.int .i64 t] 3 (0, 0)) := by
  have hsz : ((w.alloc (.cells #[.int .i64 p, .int .i64 q] 23)).alloc (.cells #[.slice ao ds.length cap] 24)).heap.size = w.heap.size + 1 + 1 := by simp
  rw [<- hW0, <- hsz]; exact heap_alloc_new _ _
 have a0 := (cell_of_row W0 _ 0 _ _ _ b0).trans rfl
 have a1 := (cell_of_row W0 _ 1 _ _ _ b0).trans rfl
 have B1 := Lib.hid b1; have B2 := Lib.hid b2; clear b0 b1 b2
 have HS0 := Lib.hid hs0; clear hs0
 have HW0 := Lib.hid hW0; clear hW0
 go_enter Tryz.func17, Tryz.ntmps17
 go_wp2_with fail
 rw [HW0.out]
 refine (HW.out _).mono ?_
 rintro e w1 ⟨rfl, hb1⟩
 have g1 : Below w.heap.size w w1 := hB0.trans (hb1.mono (by have := hB0.size; omega))
 have g1a : Below w.heap.size w (w1.alloc (.cells V 129)) := g1.alloc g1.size _
 have hs1 := hb1.size
 have hs1a : (w1.alloc (.cells V 129)).heap.size = w1.heap.size + 1 := by simp
 have FK : ∀ wx, Below (w1.heap.size + 1) (w1.alloc (.cells V 129)) wx -> wx.heap[w1.heap.size]? = some (.cells V 129 (0, 0)) /\ wx.cell? ⟨w.heap.size + 1, 0, none⟩ = some (.slice ao ds.length cap) /\ wx.cell? ⟨w.heap.size + 1 + 1, 0, none⟩ = some (.int .i64 t) /\ Cells wx ao (ds.map (Value.int .i64)) /\ Below w.heap.size w wx := by
  intro wx hb
  have h0 := HS0.out
  have e1 : wx.heap[w.heap.size + 1]? = _ := (hb.block _ (by omega)).trans ((hold_old w1 _ _ (by omega)).trans ((hb1.block _ (by omega)).trans B1.out))
  have e2 : wx.heap[w.heap.size + 1 + 1]? = _ := (hb.block _ (by omega)).trans ((hold_old w1 _ _ (by omega)).trans ((hb1.block _ (by omega)).trans B2.out))
  have e3 : Below w.heap.size w wx := g1a.trans (hb.mono (by omega))
  exact ⟨(hb.block _ (by omega)).trans (heap_alloc_new _ _), (cell_of_row wx _ 0 _ _ _ e1).trans rfl, (cell_of_row wx _ 0 _ _ _ e2).trans rfl, HC.out.below e3 (Nat.le_refl _), e3⟩
 have HFK := Lib.hid FK; clear FK
 have HS1 := Lib.hid hs1; have HS1A := Lib.hid hs1a; clear hs1 hs1a
 go_wp2_with (first
  | (refine wpList_load_row (by rfl) 129 _ (by rfl) w1.heap.size (by rfl) _ V _ _ (HFK.out _ (Below.refl _ _)).1 Tryz.underlying129 (by rfl) HI.out ?_)
  | (go_at_call 64; refine (HSI.out _).mono ?_; rintro e w2 ⟨rfl, hb2⟩; have hb2 := hb2.mono (Nat.le_of_eq HS1A.out.symm); obtain ⟨_, q7, _, hcc, _⟩ := HFK.out w2 hb2; have HCC := Lib.hid hcc; clear hcc; refine Hid.out ?_))
 refine Lib.hid ?_
 have hs2 := hb2.size
 go_wp2_with (go_at_call 65; refine (HDA.out _ HCC.out).mono ?_; rintro e w3 ⟨rfl, hb3⟩; refine Hid.out ?_)
 have hb3 : Below (w1.heap.size + 1) (w1.alloc (.cells V 129)) w3 := hb2.trans (hb3.mono (by have := HS1A.out; omega))
 clear q7 HCC hb2 hs2
 obtain ⟨_, q7, q8, hcc, g3⟩ := HFK.out w3 hb3
 have HCC := Lib.hid hcc; clear hcc
 refine Lib.hid ?_
 have ht3 := HT.out.below g3 (Nat.le_refl _)
 have HT3 := Lib.hid ht3; clear ht3
 go_wp2_with (first
  | (go_at_call 66; refine (bwithin_any _ _ _ _).mono ?_; rintro e w' ⟨rfl, rfl⟩; rw [i6])
  | (go_at_call 67; refine Hid.out ?_))
 refine Lib.hid ?_
 have f3 := HFK.out w3 hb3
 have hr0 := HRA.out 0 M (-1) w1.heap.size (w.heap.size + 1) (w.heap.size + 1 + 1) w3 HT3.out (by have := HMM.out.1; omega) (Nat.le_refl _) (.inr rfl) f3.1 f3.2.1 f3.2.2.1 f3.2.2.2.1
 rw [<- HMM.out.1] at hr0
 clear f3
 refine (show _ from hr0).mono ?_
 rintro e w4 ⟨rfl, hb4⟩
 rw [partT_prt]
 clear hr0 q7 q8 HCC
 have hb4' : Below (w1.heap.size + 1) (w1.alloc (.cells V 129)) w4 := hb3.trans (hb4.mono (by have := hb3.size; have := HS1A.out; omega))
 have hs4 := hb4'.size
 rw [HS1A.out] at hs4
 have ho := own_one w4 (.string (ofT (prt xs ds T 0 M (-1)).1 (prt xs ds T 0 M (-1)).2)) 34 (w1.heap.size + 1) hs4
 have ho0 : (w4.alloc (.cells #[.string (ofT (prt xs ds T 0 M (-1)).1 (prt xs ds T 0 M (-1)).2)] 34)).ownsRow (w1.heap.size + 1) 34 1 (.slice (some ⟨w4.heap.size, 0, none⟩) 1 1) (0 + 1) (frT (misL xs ds T M k 0)) := by simpa [misL, frT] using ho
 have HO0 := Lib.hid ho0; clear ho0 ho
 generalize ofT (prt xs ds T 0 M (-1)).1 (prt xs ds T 0 M (-1)).2 = T0 at *
 obtain ⟨i0, hi, hz0, hz1, hz2⟩ := info_parts Tryz.infoNum
 have hB4 : Below (w1.heap.size + 1) (w1.alloc (.cells V 129)) (w4.alloc (.cells #[.string T0] 34)) := hb4'.alloc hs4 _
 clear hb4 hb4' hb3 g3
 have HN := Lib.hid HMM.out.2.1
 go_wp2
 clear hq1 hq2 hq3
 go_loopw [13, 16, 71] (fun ok v i wr => ∃ j : Nat, j <= N /\ i = .int .i64 (j : Int) /\ ok = .bool true /\ wr.ownsRow (w1.heap.size + 1) 34 1 v (j + 1) (frT (misL xs ds T M k j)) /\ Below (w1.heap.size + 1) (w1.alloc (.cells V 129)) wr) (fun _ _ i _ => N - (intOf i).toNat)
 case atStart => exact ⟨0, Nat.zero_le _, rfl, rfl, HO0.out, hB4⟩
 case round =>
  obtain ⟨j, hj, rfl, rfl, hown, hbe⟩ := hrel
  clear HO0 hB4
  have hsr := hbe.size
  rw [HS1A.out] at hsr
  by_cases hlt : j < N
  · have hlt2 : (j : Int) < n := by rw [HN.out]; omega
    obtain ⟨A, hA⟩ : ∃ A : Nat, A = j * k := ⟨_, rfl⟩
    obtain ⟨C, hC⟩ : ∃ C : Nat, C = (j + 1) * k := ⟨_, rfl⟩
    have hAC : C = A + k := by rw [hA, hC, Nat.add_mul, Nat.one_mul]
    have hCM : C <= M := by rw [hC, <- HMM.out.2.2, Nat.mul_comm k N]; exact Nat.mul_le_mul_right k (by omega)
    have f3 := HFK.out wr hbe
    have hr0 := HRA.out A C 1 w1.heap.size (w.heap.size + 1) (w.heap.size + 1 + 1) wr (HT.out.below f3.2.2.2.2 (Nat.le_refl _)) (by omega) hCM (.inl rfl) f3.1 f3.2.1 f3.2.2.1 f3.2.2.2.1
    rw [partT_prt] at hr0
    have e1 : frT (misL xs ds T M k (j + 1)) = frT (misL xs ds T M k j) ++ [.string (ofT (prt xs ds T A C 1).1 (prt xs ds T A C 1).2)] := by rw [misL_succ, frT_snoc, <- hA, <- hC]
    have E1 := Lib.hid e1; clear e1
    have q1 : IntKind.i64.wrap ((j : Int) * k) = (A : Int) := by
     rw [hA, Int.natCast_mul]; exact IntWalk.i64_in _ (by rw [<- Int.natCast_mul, <- hA]; omega)
    have q2 : IntKind.i64.wrap (((j : Int) + 1) * k) = (C : Int) := by
     rw [hC, Int.natCast_mul, Int.natCast_add, Int.natCast_one]
     refine IntWalk.i64_in _ ?_
     rw [show ((j : Int) + 1) * k = ((j + 1) * k : Nat) by push_cast; rfl, <- hC]; omega
    have HR0 := Lib.hid hr0; clear hr0 f3 hA hC hAC
    generalize ofT (prt xs ds T A C 1).1 (prt xs ds T A C 1).2 = T1 at *
    have HOB : Hid (∀ b, u16.ownBlock = some b -> w1.heap.size + 1 <= b) := fun b e => (hown.lt b e).1
    go_wp2_with (first
     | (go_at_call 67; refine (HR0.out).mono ?_; rintro e w5 ⟨rfl, hb5⟩)
     | (at_builtin; refine wpList_append_own _ rfl _ _ 33 rfl (w1.heap.size + 1) 34 i0 (.string ⟨#[]⟩) 1 16 Tryz.underlying33 hi hz0 hz1 hz2 rfl (by decide) _ _ _ rfl ((own_belowK hown hb5 (Nat.le_refl _)).alloc _) ⟨w5.heap.size, 0, none⟩ 1 1 [.string T1] rfl rfl (news1 _ _ _) (by simp [Value.oneCell']) (by unfold maxLen; omega) (by omega) (by have := hb5.size; simp; omega) ?_; intro v1 wz hown1 hgrow _))
    have hfin := hown1
    rw [<- E1.out] at hfin
    have hs5 := hb5.size
    have hbz := ((hbe.trans (hb5.mono hsr)).alloc (by omega) (.cells #[.string T1] 34)).grown hgrow (by simp; omega) HOB.out
    clear hown1 hgrow hown
    have HFIN := Lib.hid hfin; clear hfin
    go_roundw
    case rel => exact ⟨j + 1, by omega, by go_num, rfl, HFIN.out, hbz⟩
    case measure => simp [intOf]; omega
  · obtain rfl : j = N := by omega
    have hlt2 : ¬ (j : Int) < n := by rw [HN.out]; omega
    obtain ⟨ag, cg, rfl, hcs⟩ := own_cells hown
    rw [frT_strings] at hcs
    have f3 := HFK.out wr hbe
    have hln : ((misL xs ds T M k j).map fun u => ofT u.1 u.2).length = j + 1 := by rw [List.length_map, misL_length]
    have hsum := sum_any ag ((misL xs ds T M k j).map fun u => ofT u.1 u.2) cg wr (HT.out.below f3.2.2.2.2 (Nat.le_refl _)) hcs (by omega) (fun s hs => by
     obtain ⟨u, hu, rfl⟩ := List.mem_map.1 hs
     obtain ⟨_, m2, m3⟩ := HMB.out j (Nat.le_refl _) u hu
     exact ofT_size m2 m3)
    have hsum2 := hsum.mono fun e w' h => sum_of _ (HMB.out j (Nat.le_refl _)) (by rw [misL_length]; omega) h
    rw [hln, <- HQ.out] at hsum2
    have g5 := f3.2.2.2.2
    have HSUM := Lib.hid hsum2; clear hsum2 hsum hcs hown f3 hln
    go_wp2_with (go_at_call 69; refine (HSUM.out).mono ?_; rintro e w6 ⟨rfl, hb6⟩)
    go_ret2
    exact ⟨rfl, g5.trans (hb6.mono g5.size)⟩
theorem misfit_any (L p q : Int) (ao : Option Addr) (ds : List Int) (cap : Nat) (t n : Int) (w : World) (ht : Tab w) (hc : Cells w ao (ds.map (Value.int .i64))) (hl : ds.length <= 9223372036854775807) :
 Calls Tryz.prog 17 #[.int .i64 L, .agg #[.int .i64 p, .int .i64 q], .slice ao ds.length cap, .int .i64 t, .int .i64 n] w fun e w' => e = .returned (.tuple #[.string (misT L p q ds t n), .int .i64 (misE L p q ds t n)]) /\ Below w.heap.size w w' := by
 have bad : ∀ x : Int, x ≠ 0 -> misE L p q ds t n = x -> misT L p q ds t n = ⟨#[]⟩ := fun x hx h => by unfold misT; rw [h, if_neg hx]
 cases h1 : waveOK L p q
 · have he : misE L p q ds t n = 70 := by simp [misE, h1]
   rw [bad _ (by decide) he, he]; exact misfit_wave L p q ao ds cap t n w hc hl h1
 rcases Bool.eq_false_or_eq_true (silentB (wav L p q)) with h2 | h2
 · have he : misE L p q ds t n = 4 := by simp [misE, h1, h2]
   rw [bad _ (by decide) he, he]; exact misfit_silent L p q ao ds cap t n w hc hl h1 h2
 cases h3 : dataOK ds
 · have he : misE L p q ds t n = 73 := by simp [misE, h1, h2, h3]
   rw [bad _ (by decide) he, he]; exact misfit_data L p q ao ds cap t n w hc hl h1 h2 h3
 by_cases h4 : t < 0
 · have he : misE L p q ds t n = 8 := by simp [misE, h1, h2, h3, h4]
   rw [bad _ (by decide) he, he]; exact misfit_before L p q ao ds cap t n w hc hl h1 h2 h3 h4
 by_cases h5 : (ds.length : Int) - L < t
 · have he : misE L p q ds t n = 8 := by simp [misE, h1, h2, h3, h5]
   rw [bad _ (by decide) he, he]; exact misfit_behind L p q ao ds cap t n w hc hl h1 h2 h3 (by omega) h5
 cases h6 : inB 1 n 8
 · have he : misE L p q ds t n = 2 := by simp [misE, h1, h2, h3, h4, h5, h6]
   rw [bad _ (by decide) he, he]; exact misfit_parts L p q ao ds cap t n w hc hl h1 h2 h3 (by omega) h5 h6
 have h6' : 1 <= n /\ n <= 8 := by simpa [inB] using h6
 by_cases h7 : L % n = 0
 · have he : misE L p q ds t n = 0 := by simp [misE, h1, h2, h3, h4, h5, h6, h7]
   have hT : misT L p q ds t n = ofT (misQ L p q ds t n).1 (misQ L p q ds t n).2 := by unfold misT; rw [he, if_pos rfl]
   rw [hT, he]; exact misfit_ok L p q ao ds cap t n w hc hl h1 h2 h3 (by omega) (by omega) h6'.1 h6'.2 h7 ht
 · have he : misE L p q ds t n = 2 := by simp [misE, h1, h2, h3, h4, h5, h6, h7]
   rw [bad _ (by decide) he, he]; exact misfit_rest L p q ao ds cap t n w hc hl h1 h2 h3 (by omega) h5 h6 h7 h6'.1 h6'.2
end Go.Proofs.YtdpjdifoonfcdaaGreatDoor

namespace Go.Proofs.YtdpjdifoonfcdaaGreatDoor
open Go.RowKit
theorem ex_misfit : misT 4 16 0 [0, 127, 0, 127] 0 2 = ⟨#[51, 50, 50, 53, 56]⟩ /\ misE 4 16 0 [0, 127, 0, 127] 0 2 = 0 := by decide +kernel
end Go.Proofs.YtdpjdifoonfcdaaGreatDoor

namespace Go.Proofs.YtdpjdifoonfcdaaGreatDoor
open Go.RowKit
theorem sameInts_any (aa ab : Option Addr) (xs ys : List Int) (ca cb : Nat) (w : World) (ha : Cells w aa (xs.map (Value.int .i64))) (hb : Cells w ab (ys.map (Value.int .i64))) (hl : xs.length <= 9223372036854775807) (hl' : ys.length <= 9223372036854775807) :
 Calls Tryz.prog 37 #[.slice aa xs.length ca, .slice ab ys.length cb] w fun e w' => e = .returned (.bool (decide (xs = ys))) /\ Below w.heap.size w w' := by
 by_cases hlen : xs.length = ys.length
 · have h1 : ((xs.length : Int) != ys.length) = false := by simp [hlen]
   have hlt : (ys.length : Int) <= xs.length := by omega
   have HL := Lib.hid hlen; clear hlen
   have HA := Lib.hid ha; have HB := Lib.hid hb; clear ha hb
   go_enter Tryz.func37, Tryz.ntmps37
   go_wp2
   go_loopw [5] (fun i wr => ∃ k : Nat, k <= xs.length /\ i = .int .i64 k /\ xs.take k = ys.take k /\ Below w.heap.size w wr) (fun i _ => xs.length - (intOf i).toNat)
   case atStart => exact ⟨0, Nat.zero_le _, rfl, rfl, Below.refl _ _⟩
   case round =>
    obtain ⟨k, hk, rfl, heq, hbe⟩ := hrel
    have HQ := Lib.hid heq; clear heq
    by_cases hlt : k < xs.length
    · have hlt2 : k < ys.length := by have := HL.out; omega
      obtain ⟨x, hx⟩ := get_of_lt hlt
      obtain ⟨y, hy⟩ := get_of_lt hlt2
      obtain ⟨b, off, rfl⟩ := HA.out.addr (by simpa using List.ne_nil_of_length_pos (by omega))
      obtain ⟨b2, off2, rfl⟩ := HB.out.addr (by simpa using List.ne_nil_of_length_pos (by omega))
      have c1 := cell_keep (HA.out.int hx) hbe (Nat.le_refl _)
      have c2 := cell_keep (HB.out.int hy) hbe (Nat.le_refl _)
      have i1 : (k : Int) < xs.length := by omega
      have i2 : (k : Int) < ys.length := by omega
      have i3 : (0 : Int) <= k := by omega
      by_cases hxy : x = y
      · obtain rfl := hxy
        have ht : xs.take (k + 1) = ys.take (k + 1) := by rw [take_get hx, take_get hy, HQ.out]
        have HT := Lib.hid ht; clear ht hx hy
        go_wp2
        go_quiet (fail)
        go_wp2
        go_roundw
        case rel => exact ⟨k + 1, by omega, by go_num, HT.out, bel_drewN hbe _⟩
        case measure => simp [intOf]; omega
      · have hne : decide (xs = ys) = false := by
         rw [decide_eq_false_iff_not]; rintro rfl
         rw [hx] at hy; simp at hy; exact hxy hy
        have HNE := Lib.hid hne; clear hne hx hy
        have hb1 : (x == y) = false := by simpa using hxy
        have hb2 : (x != y) = true := by simpa using hxy
        go_wp2
        go_quiet (fail)
        go_wp2
        go_ret
        exact ⟨ret_bool HNE.out.symm, bel_drewN hbe _⟩
    · obtain rfl : k = xs.length := by omega
      have he : decide (xs = ys) = true := by
       rw [decide_eq_true_iff]
       have := HQ.out
       rw [List.take_length, HL.out, List.take_length] at this; exact this
      have HE := Lib.hid he; clear he
      go_wp2
      go_ret
      exact ⟨ret_bool HE.out.symm, hbe⟩
 · have h1 : ((xs.length : Int) != ys.length) = true := by simp; omega
   have he : decide (xs = ys) = false := by
    rw [decide_eq_false_iff_not]; rintro rfl; exact hlen rfl
   have HE := Lib.hid he; clear he
   go_enter Tryz.func37, Tryz.ntmps37
   go_wp2
   go_ret
   exact ⟨ret_bool HE.out.symm, Below.refl _ _⟩
end Go.Proofs.YtdpjdifoonfcdaaGreatDoor
