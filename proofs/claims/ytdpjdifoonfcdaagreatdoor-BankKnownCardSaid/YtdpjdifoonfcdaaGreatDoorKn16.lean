/- Parts of a proof, in build order: P3, P8, XK. -/
import Derived.Test.YtdpjdifoonfcdaaGreatDoorKn15

namespace Go.Proofs.YtdpjdifoonfcdaaGreatDoor
open Go.RowKit
theorem wav_zero (L p q : Int) (i : Nat) (h : L.toNat <= i) : (wav L p q).getD i 0 = 0 := by
 unfold wav
 rw [List.getD_eq_getElem?_getD]
 by_cases hi : i < 64
 · rw [smp_at _ _ _ _ hi, if_neg (by omega)]; rfl
 · rw [List.getElem?_eq_none (by rw [smp_length]; omega)]; rfl
theorem abS_zero {xs : List Int} {M : Nat} (h : ∀ i, M <= i -> xs.getD i 0 = 0) (n : Nat) : abS xs (M + n) = abS xs M := by
 induction n with
 | zero => rfl
 | succ n ih => rw [<- Nat.add_assoc]; simp only [abS, ih, h (M + n) (by omega)]; simp
set_option maxRecDepth 100000 in
set_option maxHeartbeats 4000000 in
theorem found_any (M : Nat) (xs : List Int) (a ns va fl : Int) (bv bn br bf ba : Nat) (w : World) (hx : xs.length = 64) (hM1 : 1 <= M) (hM : M <= 64) (h1 : ∀ x ∈ xs, -127 <= x /\ x <= 127)
 (a1 : 0 <= a) (a2 : a <= 1048576) (n1 : 0 <= ns) (n2 : ns <= 32768) (v1 : 1 <= va) (v2 : va <= 1048576) (f1 : 0 <= fl) (f2 : fl <= 65536)
 (hv : w.heap[bv]? = some (.cells (shp M xs) 129 (0, 0))) (c1 : w.cell? ⟨bn, 0, none⟩ = some (.int .i64 ns)) (c2 : w.cell? ⟨br, 0, none⟩ = some (.int .i64 (abS xs M))) (c3 : w.cell? ⟨bf, 0, none⟩ = some (.int .i64 fl)) (c4 : w.cell? ⟨ba, 0, none⟩ = some (.int .i64 va)) :
 Calls Tryz.prog 95 #[.int .i64 a, .pointer (some ⟨bv, 0, none⟩), .pointer (some ⟨bn, 0, none⟩), .pointer (some ⟨br, 0, none⟩), .pointer (some ⟨bf, 0, none⟩), .pointer (some ⟨ba, 0, none⟩)] w fun e w' => e = .returned (.bool (enoB xs M a ns (fl * va * sqTo xs 0 M))) /\ Below w.heap.size w w' := by
 have ho := fun w => norm_any M xs w hx (by omega) (by omega) h1
 rw [ovl_sqTo] at ho
 have hi : (Tryz.prog.info? 129).map (·.size) = some (shp M xs).size := by rw [shp_size, hx]; kernel_rfl
 have hlt := (Array.getElem?_eq_some_iff.1 hv).1
 have hsb := sqTo_bd h1 0 M
 have hab := abS_bd h1 M
 have eB : enoB xs M a ns (fl * va * sqTo xs 0 M) = (decide (0 < a * sqTo xs 0 M - ns * abS xs M) && decide (fl * va * sqTo xs 0 M <= (a * sqTo xs 0 M - ns * abS xs M) * (a * sqTo xs 0 M - ns * abS xs M))) := rfl
 rw [eB]
 clear eB
 generalize sqTo xs 0 M = S at *
 generalize abS xs M = R at *
 generalize shp M xs = V at ho hi hv
 have HI := Lib.hid hi; have HO := Lib.hid ho; have HV := Lib.hid hv
 clear hi ho hv h1 hx
 have pa := mul_bd (A := 1048577) (X := 1032256) (show -1048577 <= a by omega) (by omega) (show -1032256 <= S by omega) (by omega)
 have pb := mul_bd (A := 32768) (X := 8128) (show -32768 <= ns by omega) n2 (show -8128 <= R by omega) (by omega)
 have q1 : IntKind.i64.wrap (a * S) = a * S := IntWalk.i64_in _ (by omega)
 have q2 : IntKind.i64.wrap (ns * R) = ns * R := IntWalk.i64_in _ (by omega)
 obtain ⟨N, hN⟩ : ∃ N, N = a * S - ns * R := ⟨_, rfl⟩
 have q3 : IntKind.i64.wrap (a * S - ns * R) = N := by rw [hN]; exact IntWalk.i64_in _ (by omega)
 rw [<- hN]
 have hNb : -2000000000000 <= N /\ N <= 2000000000000 := by omega
 have p1 := Int.mul_le_mul f2 v2 (by omega) (by omega)
 have p2 := Int.mul_nonneg f1 (show 0 <= va by omega)
 have p3 := Int.mul_le_mul p1 (show S <= 1032256 by omega) (by omega) (by omega)
 have p4 := Int.mul_nonneg p2 (show 0 <= S by omega)
 have q5 : IntKind.i64.wrap (fl * va) = fl * va := IntWalk.i64_in _ (by omega)
 have q6 : IntKind.i64.wrap (fl * va * S) = fl * va * S := IntWalk.i64_in _ (by omega)
 have HN := Lib.hid hN
 clear pa pb hN hsb hab
 go_enter Tryz.func95, Tryz.ntmps95
 go_wp2_with fail
 refine wp_region_quiet (C := fun w' => Below w.heap.size w w') (by kernel_rfl) (by kernel_rfl) (Below.refl _ w).drew ?_
 simp only
 repeat
  (refine wpQuiet_step (fun K hK => ?_)
   first
    | (refine quiet_load_row (by rfl) 129 _ (by with_reducible rfl) bv (by rfl) 129 V (0, 0) _ (fun w' hw' => (hw'.block _ hlt).trans HV.out) Tryz.underlying129 (by rfl) HI.out ?_; refine hK _ ?_; clear hK K; simp only [Act.put, List.setIfInBounds_toArray, List.set_cons_succ, List.set_cons_zero])
    | (go_simp
       first
        | (refine hK _ ?_; clear hK K)
        | (apply Exists.intro
           refine ⟨fun w' hw' => ?_, hK _ ?_⟩
           (first
            | rfl
            | (have z1 := cell_keep c1 hw' (Nat.le_refl _); go_simp; rfl)
            | (have z2 := cell_keep c2 hw' (Nat.le_refl _); go_simp; rfl)
            | (with_reducible refine Calls.mono (HO.out w') ?_; exact fun e w'' ⟨he, hb⟩ => ⟨he, hw'.trans (hb.mono hw'.size)⟩))
           clear hK K)))
 refine wpQuiet_nil ?_
 intro w1 hb1
 have hlt1 : bv < w1.heap.size := Nat.lt_of_lt_of_le hlt hb1.size
 have hV1 := Lib.hid ((hb1.block _ hlt).trans HV.out)
 have d3 := cell_keep c3 hb1 (Nat.le_refl _)
 have d4 := cell_keep c4 hb1 (Nat.le_refl _)
 clear q1 q2 q3 c1 c2 c3 c4
 by_cases hp : 0 < N
 · have d1 : decide (0 < N) = true := decide_eq_true hp
   by_cases hg : 1073741824 <= N
   · have e1 : decide (1073741824 <= N) = true := decide_eq_true hg
     have hfin : (decide (0 < N) && decide (fl * va * S <= N * N)) = true := by
      have := Int.mul_le_mul hg hg (by omega) (by omega)
      rw [d1, Bool.true_and, decide_eq_true_iff]; omega
     have HF := Lib.hid hfin
     clear hfin p1 p2 p3 p4 q5 q6 hNb d3 d4 a1 a2 n1 n2 v1 v2 f1 f2
     go_wp2_with fail
     go_quiet (fail)
     go_wp2
     go_ret
     exact ⟨by rw [HF.out]; rfl, bel_drewN hb1 _⟩
   · have e1 : decide (1073741824 <= N) = false := decide_eq_false hg
     have hNN := Int.mul_le_mul (show N <= 1073741824 by omega) (show N <= 1073741824 by omega) (by omega) (by omega)
     have hN0 := Int.mul_nonneg (show 0 <= N by omega) (show 0 <= N by omega)
     have q4 : IntKind.i64.wrap (N * N) = N * N := IntWalk.i64_in _ (by omega)
     have HD1 := Lib.hid d1
     clear hNN hN0 p1 p2 p3 p4 hNb a1 a2 n1 n2 v1 v2 f1 f2
     go_wp2_with fail
     refine wp_region_quiet (C := fun w' => Below w1.heap.size w1 w') (by kernel_rfl) (by kernel_rfl) (Below.refl _ w1).drew ?_
     simp only
     repeat
      (refine wpQuiet_step (fun K hK => ?_)
       first
        | (refine quiet_load_row (by rfl) 129 _ (by with_reducible rfl) bv (by rfl) 129 V (0, 0) _ (fun w' hw' => (hw'.block _ hlt1).trans hV1.out) Tryz.underlying129 (by rfl) HI.out ?_; refine hK _ ?_; clear hK K; simp only [Act.put, List.setIfInBounds_toArray, List.set_cons_succ, List.set_cons_zero])
        | (go_simp
           first
            | (refine hK _ ?_; clear hK K)
            | (apply Exists.intro
               refine ⟨fun w' hw' => ?_, hK _ ?_⟩
               (first
                | rfl
                | (have z1 := cell_keep d3 hw' (Nat.le_refl _); go_simp; rfl)
                | (have z2 := cell_keep d4 hw' (Nat.le_refl _); go_simp; rfl)
                | (with_reducible refine Calls.mono (HO.out w') ?_; exact fun e w'' ⟨he, hb⟩ => ⟨he, hw'.trans (hb.mono hw'.size)⟩))
               clear hK K)))
     refine wpQuiet_nil ?_
     intro w2 hb2
     go_wp2
     go_ret
     exact ⟨by rw [HD1.out]; rfl, hb1.trans (hb2.mono hb1.size)⟩
 · have d1 : decide (0 < N) = false := decide_eq_false hp
   have HD1 := Lib.hid d1
   clear p1 p2 p3 p4 q5 q6 hNb d3 d4 a1 a2 n1 n2 v1 v2 f1 f2
   go_wp2_with fail
   go_quiet (fail)
   go_wp2
   go_ret
   exact ⟨by rw [HD1.out]; rfl, bel_drewN hb1 _⟩
end Go.Proofs.YtdpjdifoonfcdaaGreatDoor

namespace Go.Proofs.YtdpjdifoonfcdaaGreatDoor
open Go.RowKit
theorem sure_box (p q ns va fl : Int) (w : World) :
 ∃ W0, (((w.alloc (.cells #[.int .i64 p, .int .i64 q] 23)).alloc (.cells #[.int .i64 ns] 3)).alloc (.cells #[.int .i64 va] 3)).alloc (.cells #[.int .i64 fl] 3) = W0 /\ W0.heap.size = w.heap.size + 4 /\ ∀ wx, Below W0.heap.size W0 wx ->
   (wx.cell? ⟨w.heap.size, 0, none⟩ = some (.int .i64 p) /\ wx.cell? ⟨w.heap.size, 1, none⟩ = some (.int .i64 q)) /\ wx.cell? ⟨w.heap.size + 1, 0, none⟩ = some (.int .i64 ns) /\ wx.cell? ⟨w.heap.size + 1 + 1, 0, none⟩ = some (.int .i64 va) /\ wx.cell? ⟨w.heap.size + 1 + 1 + 1, 0, none⟩ = some (.int .i64 fl) /\ Below w.heap.size w wx := by
 refine ⟨_, rfl, by simp, ?_⟩
 obtain ⟨W2, hW2⟩ : ∃ W2, W2 = (w.alloc (.cells #[.int .i64 p, .int .i64 q] 23)).alloc (.cells #[.int .i64 ns] 3) := ⟨_, rfl⟩
 have hs2 : W2.heap.size = w.heap.size + 1 + 1 := by rw [hW2]; simp
 have r0 : W2.heap[w.heap.size]? = some (.cells #[.int .i64 p, .int .i64 q] 23 (0, 0)) := by rw [hW2]; exact heap_alloc2_old w _ _
 have r1 : W2.heap[w.heap.size + 1]? = some (.cells #[.int .i64 ns] 3 (0, 0)) := by rw [hW2]; exact heap_alloc2_new w _ _
 have hB2 : Below w.heap.size w W2 := by rw [hW2]; exact ((Below.refl _ w).alloc (Nat.le_refl _) _).alloc (by simp) _
 rw [<- hW2]
 clear hW2
 have s0 : ((W2.alloc (.cells #[.int .i64 va] 3)).alloc (.cells #[.int .i64 fl] 3)).heap[w.heap.size]? = _ := (hold_old _ _ _ (by simp; omega)).trans ((hold_old _ _ _ (by omega)).trans r0)
 have s1 : ((W2.alloc (.cells #[.int .i64 va] 3)).alloc (.cells #[.int .i64 fl] 3)).heap[w.heap.size + 1]? = _ := (hold_old _ _ _ (by simp; omega)).trans ((hold_old _ _ _ (by omega)).trans r1)
 have s2 : ((W2.alloc (.cells #[.int .i64 va] 3)).alloc (.cells #[.int .i64 fl] 3)).heap[w.heap.size + 1 + 1]? = some (.cells #[.int .i64 va] 3 (0, 0)) := by rw [<- hs2]; exact heap_alloc2_old W2 _ _
 have s3 : ((W2.alloc (.cells #[.int .i64 va] 3)).alloc (.cells #[.int .i64 fl] 3)).heap[w.heap.size + 1 + 1 + 1]? = some (.cells #[.int .i64 fl] 3 (0, 0)) := by rw [<- hs2]; exact heap_alloc2_new W2 _ _
 have hB0 : Below w.heap.size w ((W2.alloc (.cells #[.int .i64 va] 3)).alloc (.cells #[.int .i64 fl] 3)) := (hB2.alloc (by omega) _).alloc (by simp; omega) _
 have hs0 : ((W2.alloc (.cells #[.int .i64 va] 3)).alloc (.cells #[.int .i64 fl] 3)).heap.size = w.heap.size + 4 := by simp; omega
 generalize (W2.alloc (.cells #[.int .i64 va] 3)).alloc (.cells #[.int .i64 fl] 3) = W0 at *
 intro wx hb
 have e0 := (hb.block _ (by omega)).trans s0
 have e1 := (hb.block _ (by omega)).trans s1
 have e2 := (hb.block _ (by omega)).trans s2
 have e3 := (hb.block _ (by omega)).trans s3
 exact ⟨⟨(cell_of_row wx _ 0 _ _ _ e0).trans rfl, (cell_of_row wx _ 1 _ _ _ e0).trans rfl⟩, (cell_of_row wx _ 0 _ _ _ e1).trans rfl, (cell_of_row wx _ 0 _ _ _ e2).trans rfl, (cell_of_row wx _ 0 _ _ _ e3).trans rfl, hB0.trans (hb.mono (by omega))⟩
def V_at (V : Array Value) (j : Nat) (v : Value) : Prop := V[1 + j]? = some v
set_option maxRecDepth 100000 in
set_option maxHeartbeats 8000000 in
theorem sure_any (L p q ns va fl : Int) (w : World) :
 Calls Tryz.prog 38 #[.int .i64 L, .agg #[.int .i64 p, .int .i64 q], .int .i64 ns, .int .i64 va, .int .i64 fl] w fun e w' => (∃ v x, e = .returned (.tuple #[.int .i64 v, .int .i64 x]) /\ SurT L p q ns va fl v x) /\ Below w.heap.size w w' := by
 obtain ⟨Z, hZ⟩ : ∃ Z, Z = shp 0 (smp 0 0 0) := ⟨_, rfl⟩
 have z : Tryz.zeroCells129 = Z := by rw [hZ]; exact zero101
 have hZs : Z.size = 65 := by rw [hZ, shp_size, smp_length]
 have hw1 := fun w => wave_any L p q w
 have hst := store_shape (waveV L p q) Z (waveV_size L p q) hZs (waveV_one L p q)
 have hVs := waveV_size L p q
 clear hZ
 obtain ⟨W0, hW0, hs0, hFK⟩ := sure_box p q ns va fl w
 cases h : waveOK L p q
 · have hT : SurT L p q ns va fl 0 70 := by unfold SurT; rw [if_pos h]; exact ⟨rfl, rfl⟩
   rw [h] at hw1
   generalize waveV L p q = V at *
   have hne : ¬ V = #[] := by intro h; rw [h] at hVs; simp at hVs
   have HW := Lib.hid hw1; have HT := Lib.hid hT; have HFK := Lib.hid hFK; have HW0 := Lib.hid hW0; have HS0 := Lib.hid hs0
   clear hw1 hT h hFK hW0 hs0
   obtain ⟨⟨y0, y1⟩, -, -, -, -⟩ := HFK.out W0 (Below.refl _ _)
   go_enter Tryz.func38, Tryz.ntmps38
   go_wp2_with fail
   rw [HW0.out]
   refine (HW.out _).mono ?_
   rintro e w1 ⟨rfl, hb1⟩
   obtain ⟨-, -, -, -, g1⟩ := HFK.out w1 hb1
   go_wp2
   go_ret2
   exact ⟨⟨_, _, rfl, HT.out⟩, g1.alloc g1.size _⟩
 · have hL := waveOK_true h
   obtain ⟨M, hM⟩ : ∃ M : Nat, L = (M : Int) := ⟨L.toNat, by omega⟩
   have hVe : waveV L p q = shp L (wav L p q) := by simp [waveV, h]
   have hsi := fun w => silent_any L (wav L p q) w (wav_length _ _ _)
   rw [<- hVe] at hsi
   have hT : ∀ v e, (if silentB (wav L p q) = true then v = 0 /\ e = 4 else if (inB 0 ns 32768 && inB 1 va 1048576 && inB 0 fl 65536) = false then v = 0 /\ e = 8 else Sur (fun a => enoB (wav L p q) M a ns (fl * va * sqTo (wav L p q) 0 M)) v e) -> SurT L p q ns va fl v e := by
    intro v e hh; unfold SurT; rw [if_neg (by rw [h]; decide), show L.toNat = M by omega]; exact hh
   have hfd := fun a bv bn br bf ba W a1 a2 n1 n2 v1 v2 f1 f2 hv c1 c2 c3 c4 => found_any M (wav L p q) a ns va fl bv bn br bf ba W (wav_length _ _ _) (by omega) (by omega) (wav_bd _ _ _) a1 a2 n1 n2 v1 v2 f1 f2 hv c1 c2 c3 c4
   rw [<- hM, <- hVe] at hfd
   have hmo := fun a b bd h1 h2 => enoB_mono (us := wav L p q) (L := M) (a := a) (b := b) (ns := ns) (bd := bd) h1 h2
   have hze := fun bd h1 => enoB_zero (us := wav L p q) (wav_bd _ _ _) M (ns := ns) (bd := bd) h1
   have ha64 : abS (wav L p q) 64 = abS (wav L p q) M := by
    have := abS_zero (xs := wav L p q) (M := M) (fun i hi => wav_zero L p q i (by omega)) (64 - M)
    rwa [show M + (64 - M) = 64 by omega] at this
   have hcl : ∀ j v, ((wav L p q).map (Value.int .i64))[j]? = some v -> V_at (waveV L p q) j v := by
    intro j v hj
    rw [List.getElem?_map, Option.map_eq_some_iff] at hj
    obtain ⟨x, hx, rfl⟩ := hj
    unfold V_at
    rw [hVe]
    exact shp_succ L _ _ _ hx
   have hbs := abS_bd (wav_bd L p q)
   have hbw := wav_bd L p q
   have hln := wav_length L p q
   rw [h] at hw1
   generalize silentB (wav L p q) = SB at *
   generalize sqTo (wav L p q) 0 M = S at *
   generalize enoB (wav L p q) M = F at *
   generalize wav L p q = xs at *
   generalize waveV L p q = V at *
   have hne : ¬ V = #[] := by intro h; rw [h] at hVs; simp at hVs
   have hi : (Tryz.prog.info? 129).map (·.size) = some V.size := by rw [hVs]; kernel_rfl
   have hi2 : (Tryz.prog.info? 127).map (·.size) = some (xs.map (Value.int .i64)).length := by rw [List.length_map, hln]; kernel_rfl
   have HI := Lib.hid hi; have HIA := Lib.hid hi2; have HW := Lib.hid hw1; have HFK := Lib.hid hFK; have HW0 := Lib.hid hW0; have HS0 := Lib.hid hs0
   have HSI := Lib.hid hsi; have HT := Lib.hid hT; have HFD := Lib.hid hfd; have HMO := Lib.hid hmo; have HZE := Lib.hid hze; have HA64 := Lib.hid ha64; have HCL := Lib.hid hcl; have HBS := Lib.hid hbs; have HBW := Lib.hid hbw; have HLN := Lib.hid hln; have HM := Lib.hid hM
   clear hi hi2 hw1 hFK hW0 hs0 hsi hT hfd hmo hze ha64 hcl hbs hbw hln hVe h hM
   obtain ⟨⟨y0, y1⟩, -, -, -, -⟩ := HFK.out W0 (Below.refl _ _)
   go_enter Tryz.func38, Tryz.ntmps38
   go_wp2_with fail
   rw [HW0.out]
   refine (HW.out _).mono ?_
   rintro e w1 ⟨rfl, hb1⟩
   clear y0 y1
   have hs1 := hb1.size
   have FK : ∀ wx, Below (w1.heap.size + 1) (w1.alloc (.cells V 129)) wx -> wx.heap[w1.heap.size]? = some (.cells V 129 (0, 0)) /\ wx.cell? ⟨w.heap.size + 1, 0, none⟩ = some (.int .i64 ns) /\ wx.cell? ⟨w.heap.size + 1 + 1, 0, none⟩ = some (.int .i64 va) /\ wx.cell? ⟨w.heap.size + 1 + 1 + 1, 0, none⟩ = some (.int .i64 fl) /\ Below w.heap.size w wx := by
    intro wx hb
    have g1 : Below W0.heap.size W0 wx := (hb1.alloc hs1 (.cells V 129)).trans (hb.mono (by omega))
    obtain ⟨-, h1, h2, h3, h4⟩ := HFK.out wx g1
    exact ⟨(hb.block _ (by omega)).trans (heap_alloc_new _ _), h1, h2, h3, h4⟩
   have HFK1 := Lib.hid FK
   clear FK
   have hsz1 : (w1.alloc (.cells V 129)).heap.size = w1.heap.size + 1 := by simp
   have HSZ1 := Lib.hid hsz1
   clear hsz1
   go_wp2_with (first
    | (refine wpList_load_row (by rfl) 129 _ (by rfl) w1.heap.size (by rfl) _ V _ _ (HFK1.out _ (Below.refl _ _)).1 Tryz.underlying129 (by rfl) HI.out ?_)
    | (go_at_call 64; refine (HSI.out _).mono ?_; rintro e w2 ⟨rfl, hb2⟩; have hb2 := hb2.mono (Nat.le_of_eq HSZ1.out.symm); refine Hid.out ?_))
   refine Lib.hid ?_
   obtain ⟨_, y1, y2, y3, g2⟩ := HFK1.out w2 hb2
   cases SB
   · have hin1 := fun w => bwithin_any ns 0 32768 w
     have hin2 := fun w => bwithin_any va 1 1048576 w
     have hin3 := fun w => bwithin_any fl 0 65536 w
     by_cases hr : (inB 0 ns 32768 && inB 1 va 1048576 && inB 0 fl 65536) = true
     · obtain ⟨hr12, hr3⟩ := Bool.and_eq_true_iff.1 hr
       obtain ⟨hr1, hr2⟩ := Bool.and_eq_true_iff.1 hr12
       have n1 : 0 <= ns /\ ns <= 32768 := by simpa [inB] using hr1
       have n2 : 1 <= va /\ va <= 1048576 := by simpa [inB] using hr2
       have n3 : 0 <= fl /\ fl <= 65536 := by simpa [inB] using hr3
       have hTS : ∀ v e, Sur (fun a => F a ns (fl * va * S)) v e -> SurT L p q ns va fl v e := by
        intro v e hs
        refine HT.out v e ?_
        rw [if_neg (by decide), if_neg (by rw [hr]; decide)]
        exact hs
       rw [hr1] at hin1
       rw [hr2] at hin2
       rw [hr3] at hin3
       have hfd := fun a bv bn br bf ba W a1 a2 hv c1 c2 c3 c4 => HFD.out a bv bn br bf ba W a1 a2 n1.1 n1.2 n2.1 n2.2 n3.1 n3.2 hv c1 c2 c3 c4
       have hmo := fun a b h1 h2 => HMO.out a b (fl * va * S) h1 h2
       have hze := HZE.out (fl * va * S) n1.1
       have HI1 := Lib.hid hin1; have HI2 := Lib.hid hin2; have HI3 := Lib.hid hin3; have HTS := Lib.hid hTS; have HE := Lib.hid hfd; have HMN := Lib.hid hmo; have HZ := Lib.hid hze
       clear hin1 hin2 hin3 hTS hfd hmo hze hr hr1 hr2 hr3 hr12 n1 n2 n3
       generalize fl * va * S = BD at *
       have hR0 : (w2.alloc (.cells #[.int .i64 0] 3)).heap[w2.heap.size]? = some (.cells #[.int .i64 0] 3 (0, 0)) := heap_alloc_new _ _
       have hal := (Below.refl w2.heap.size w2).alloc (Nat.le_refl _) (.cells #[.int .i64 0] 3)
       have hs2 := hb2.size
       rw [HSZ1.out] at hs2
       have hb3 := hb2.trans (hal.mono hs2)
       have hcl2 : ∀ j v, (xs.map (Value.int .i64))[j]? = some v -> (w2.alloc (.cells #[.int .i64 0] 3)).cell? ((⟨w1.heap.size, 1, none⟩ : Addr).add j) = some v := by
        intro j v hj
        rw [Addr.add_lit]
        exact (cell_of_row _ _ _ _ _ _ (HFK1.out _ hb3).1).trans (HCL.out j v hj)
       have HCL2 := Lib.hid hcl2
       clear hcl2
       have hRc : Blk (w2.alloc (.cells #[.int .i64 0] 3)) w2.heap.size 3 #[.int .i64 0] := hR0
       have HRC := Lib.hid hRc
       clear hR0 hRc
       go_wp2_with (first
        | (go_at_call 66; (with_reducible refine Calls.mono (HI1.out _) ?_); rintro e w' ⟨rfl, rfl⟩)
        | (go_at_call 66; (with_reducible refine Calls.mono (HI2.out _) ?_); rintro e w' ⟨rfl, rfl⟩)
        | (go_at_call 66; (with_reducible refine Calls.mono (HI3.out _) ?_); rintro e w' ⟨rfl, rfl⟩)
        | (refine wpList_load_list (by rfl) 127 _ (by with_reducible rfl) ⟨w1.heap.size, 1, none⟩ (by rfl) (xs.map (Value.int .i64)) _ HCL2.out Tryz.underlying127 (by rfl) HIA.out ?_))
       clear y1 y2 y3
       generalize hA : (xs.map (Value.int .i64)).toArray = A at *
       have hAs : A.size = 64 := by rw [<- hA, List.size_toArray, List.length_map]; exact HLN.out
       have hAx : ∀ (k : Nat) (x : Int), xs[k]? = some x -> A[k]? = some (Value.int .i64 x) := fun k x hx => by rw [<- hA, List.getElem?_toArray, List.getElem?_map, hx]; rfl
       have HAX := Lib.hid hAx
       clear hA hAx HCL2 HCL
       have HB3 := Lib.hid hb3
       have HG2 := Lib.hid g2
       clear hb3 g2 hal
       generalize hW3 : w2.alloc (.cells #[.int .i64 0] 3) = W3 at *
       have hz3 : W3.heap.size = w2.heap.size + 1 := by rw [<- hW3]; simp
       have HZ3 := Lib.hid hz3
       clear hW3 hz3
       go_loopw [49] (fun i wr => ∃ k : Nat, k <= 64 /\ i = .int .i64 (k : Int) /\ Blk wr w2.heap.size 3 #[.int .i64 (abS xs k)] /\ Below w2.heap.size W3 wr) (fun i _ => 64 - (intOf i).toNat)
       case atStart => exact ⟨0, Nat.zero_le _, rfl, HRC.out, Below.refl _ _⟩
       case round =>
        obtain ⟨k, hk, rfl, hbk, hb⟩ := hrel
        by_cases hlt : k < 64
        · obtain ⟨x, hx⟩ := get_of_lt (show k < xs.length by rw [HLN.out]; exact hlt)
          have m1 := HBW.out x (List.mem_of_getElem? hx)
          have bs := HBS.out k
          have ax := HAX.out k x hx
          have hvx : ∀ w, (Instr.index 127 (.agg A) (.int .i64 (k : Int))).run Tryz.prog w = .ok (.int .i64 x) w := fun w => run_index_val 127 3 64 _ .i64 k _ Tryz.underlying127 (Tryz.sizeOf3 w) (Tryz.isAgg3 w) (by omega) ax
          clear ax
          have e1 : abS xs (k + 1) = abS xs k + max x (-x) := by simp [abS, hx]; omega
          have c0 := hbk.c0
          have f0 := hbk.free 0
          have hlb := hbk.lt
          have E1 := Lib.hid e1; have HBK := Lib.hid hbk
          clear e1 hx hbk
          have q1 : IntKind.i64.wrap (-x) = -x := IntWalk.i64_in _ (by omega)
          have q2 : IntKind.i64.wrap (abS xs k + max x (-x)) = abS xs k + max x (-x) := IntWalk.i64_in _ (by omega)
          have i1 : (k : Int) < 64 := by omega
          have i2 : (0 : Int) <= k := by omega
          go_wp2
          go_roundw
          case rel => exact ⟨k + 1, by omega, by go_num, by rw [E1.out]; exact HBK.out.set0 _, hb.setCell (Nat.le_refl _) _⟩
          case measure => simp [intOf]; omega
        · have hk64 : k = 64 := by omega
          have hkn : ¬ (k : Int) < 64 := by omega
          rw [hk64, HA64.out] at hbk
          clear hk64
          obtain ⟨w3, rfl⟩ : ∃ w3, w3 = wr := ⟨_, rfl⟩
          have hs1c : w1.heap.size + 1 <= w2.heap.size := hs2
          have hb4 : Below (w1.heap.size + 1) (w1.alloc (.cells V 129)) w3 := HB3.out.trans (hb.mono hs1c)
          have hlt3 := hbk.lt
          have FKK : ∀ W, Below w3.heap.size w3 W -> W.heap[w1.heap.size]? = some (.cells V 129 (0, 0)) /\ W.cell? ⟨w.heap.size + 1, 0, none⟩ = some (.int .i64 ns) /\ W.cell? ⟨w.heap.size + 1 + 1, 0, none⟩ = some (.int .i64 va) /\ W.cell? ⟨w.heap.size + 1 + 1 + 1, 0, none⟩ = some (.int .i64 fl) /\ W.cell? ⟨w2.heap.size, 0, none⟩ = some (.int .i64 (abS xs M)) /\ Below w.heap.size w W := by
           intro W hbW
           have h5 := hb4.trans (hbW.mono (by omega))
           obtain ⟨t1, t2, t3, t4, t5⟩ := HFK1.out W h5
           exact ⟨t1, t2, t3, t4, (hbk.below hbW hlt3).c0, t5⟩
          have HFKK := Lib.hid FKK
          clear FKK hbk hb4 hb hlt hk
          go_wp2
          go_loopw [18, 19] (fun lo hi wr => ∃ l h : Int, lo = .int .i64 l /\ hi = .int .i64 h /\ 1 <= l /\ l <= h /\ h <= 1048576 /\ (∀ a, 0 <= a -> a < l -> F a ns BD = false) /\ (h = 1048576 ∨ F h ns BD = true) /\ Below w3.heap.size w3 wr) (fun lo hi _ => (intOf hi - intOf lo).toNat)
          case atStart => exact ⟨1, 1048576, rfl, rfl, by omega, by omega, by omega, fun a h1 h2 => by rw [show a = 0 by omega]; exact HZ.out, .inl rfl, Below.refl _ _⟩
          case round =>
           obtain ⟨l, h, rfl, rfl, b0, b1, b2, hf, hh, hb⟩ := hrel
           obtain ⟨t1, t2, t3, t4, t5, g5⟩ := HFKK.out wr hb
           by_cases hd : l < h
           · obtain ⟨m, hm⟩ : ∃ m, m = (l + h) / 2 := ⟨_, rfl⟩
             have hmt : Int.tdiv (l + h) 2 = m := by rw [Int.tdiv_eq_ediv_of_nonneg (by omega)]; exact hm.symm
             have hm' : (l + h) / 2 = m := hm.symm
             have hm1 : l <= m /\ m < h := by omega
             have he := HE.out m _ _ _ _ _ wr (by omega) (by omega) t1 t2 t5 t4 t3
             cases hfm : F m ns BD
             · rw [hfm] at he
               have hnew : ∀ a, 0 <= a -> a < m + 1 -> F a ns BD = false := by
                intro a h1 h2
                cases hfa : F a ns BD
                · rfl
                · have := HMN.out a m hfa (by omega)
                  rw [hfm] at this; simp at this
               have HEE := Lib.hid he; have HNEW := Lib.hid hnew
               clear he hnew hfm hm t1 t2 t3 t4 t5
               go_wp2_with (go_at_call 95; refine HEE.out.mono ?_; rintro e w5 ⟨rfl, hb5⟩)
               go_roundw
               case rel => exact ⟨m + 1, h, rfl, rfl, by omega, by omega, by omega, HNEW.out, hh, hb.trans (hb5.mono hb.size)⟩
               case measure => simp [intOf]; omega
             · rw [hfm] at he
               have HEE := Lib.hid he; have HFM := Lib.hid hfm
               clear he hfm hm t1 t2 t3 t4 t5
               go_wp2_with (go_at_call 95; refine HEE.out.mono ?_; rintro e w5 ⟨rfl, hb5⟩)
               go_roundw
               case rel => exact ⟨l, m, rfl, rfl, by omega, by omega, by omega, hf, .inr HFM.out, hb.trans (hb5.mono hb.size)⟩
               case measure => simp [intOf]; omega
           · obtain rfl : l = h := by omega
             have he := HE.out l _ _ _ _ _ wr (by omega) (by omega) t1 t2 t5 t4 t3
             cases hfm : F l ns BD
             · have hl : l = 1048576 := hh.resolve_right (by rw [hfm]; simp)
               have hs : Sur (fun a => F a ns BD) 0 4 := .inr ⟨rfl, rfl, fun a h1 h2 => by
                rcases Int.lt_or_eq_of_le (show a <= l by omega) with h3 | h3
                · exact hf a h1 h3
                · rw [h3]; exact hfm⟩
               have HS := Lib.hid (HTS.out _ _ hs)
               rw [hfm] at he
               have HEE := Lib.hid he
               clear hs he hfm hl hf hh t1 t2 t3 t4 t5
               go_wp2_with (go_at_call 95; refine HEE.out.mono ?_; rintro e w5 ⟨rfl, hb5⟩)
               go_ret2
               exact ⟨⟨_, _, rfl, HS.out⟩, g5.trans (hb5.mono g5.size)⟩
             · have hs : Sur (fun a => F a ns BD) l 0 := .inl ⟨rfl, by omega, by omega, hfm, hf⟩
               have HS := Lib.hid (HTS.out _ _ hs)
               rw [hfm] at he
               have HEE := Lib.hid he
               clear hs he hfm hf hh t1 t2 t3 t4 t5
               go_wp2_with (go_at_call 95; refine HEE.out.mono ?_; rintro e w5 ⟨rfl, hb5⟩)
               go_ret2
               exact ⟨⟨_, _, rfl, HS.out⟩, g5.trans (hb5.mono g5.size)⟩
     · have hr' : (inB 0 ns 32768 && inB 1 va 1048576 && inB 0 fl 65536) = false := by simpa using hr
       have hT8 : SurT L p q ns va fl 0 8 := HT.out 0 8 (by rw [if_neg (by decide), if_pos hr']; exact ⟨rfl, rfl⟩)
       have HT8 := Lib.hid hT8
       clear hT8 hr
       cases hr1 : inB 0 ns 32768
       · rw [hr1] at hin1
         have HI1 := Lib.hid hin1
         clear hin1 hin2 hin3 hr' hr1
         go_wp2_with (go_at_call 66; (with_reducible refine Calls.mono (HI1.out _) ?_); rintro e w' ⟨rfl, rfl⟩)
         go_ret2
         exact ⟨⟨_, _, rfl, HT8.out⟩, g2⟩
       · cases hr2 : inB 1 va 1048576
         · rw [hr1] at hin1
           rw [hr2] at hin2
           have HI1 := Lib.hid hin1; have HI2 := Lib.hid hin2
           clear hin1 hin2 hin3 hr' hr1 hr2
           go_wp2_with (first
            | (go_at_call 66; (with_reducible refine Calls.mono (HI1.out _) ?_); rintro e w' ⟨rfl, rfl⟩)
            | (go_at_call 66; (with_reducible refine Calls.mono (HI2.out _) ?_); rintro e w' ⟨rfl, rfl⟩))
           go_ret2
           exact ⟨⟨_, _, rfl, HT8.out⟩, g2⟩
         · have hr3 : inB 0 fl 65536 = false := by rw [hr1, hr2] at hr'; simpa using hr'
           rw [hr1] at hin1
           rw [hr2] at hin2
           rw [hr3] at hin3
           have HI1 := Lib.hid hin1; have HI2 := Lib.hid hin2; have HI3 := Lib.hid hin3
           clear hin1 hin2 hin3 hr' hr1 hr2 hr3
           go_wp2_with (first
            | (go_at_call 66; (with_reducible refine Calls.mono (HI1.out _) ?_); rintro e w' ⟨rfl, rfl⟩)
            | (go_at_call 66; (with_reducible refine Calls.mono (HI2.out _) ?_); rintro e w' ⟨rfl, rfl⟩)
            | (go_at_call 66; (with_reducible refine Calls.mono (HI3.out _) ?_); rintro e w' ⟨rfl, rfl⟩))
           go_ret2
           exact ⟨⟨_, _, rfl, HT8.out⟩, g2⟩
   · have hT4 : SurT L p q ns va fl 0 4 := HT.out 0 4 (by rw [if_pos rfl]; exact ⟨rfl, rfl⟩)
     have HT4 := Lib.hid hT4
     clear hT4
     go_wp2
     go_ret2
     exact ⟨⟨_, _, rfl, HT4.out⟩, g2⟩
end Go.Proofs.YtdpjdifoonfcdaaGreatDoor

namespace Go.Proofs.YtdpjdifoonfcdaaGreatDoor
open Go.RowKit Go.Shelf
theorem kn_wave : wavR 4 16 0 = [0, 127, 0, -127] /\ wavE 4 16 0 = 0 /\ nrmV 4 16 0 = 32258 := by decide +kernel
theorem kn_over : ovrV 4 16 0 16 0 1 = 0 /\ ovrE 4 16 0 16 0 1 = 0 /\ ovrV 4 16 0 16 0 2 = -16129 /\ ovrE 4 16 0 16 0 2 = 0 := by decide +kernel
theorem kn_match : matT 4 32 0 16 0 = ⟨#[]⟩ /\ matE 4 32 0 16 0 = 4 := by decide +kernel
theorem kn_misfit : misT 4 16 0 [0, 127, 0, -127] 0 2 = ⟨#[48]⟩ /\ misE 4 16 0 [0, 127, 0, -127] 0 2 = 0 /\ misT 4 16 0 [0, 127, 0, -127] 0 3 = ⟨#[]⟩ /\ misE 4 16 0 [0, 127, 0, -127] 0 3 = 2 := by decide +kernel
theorem kn_misses : covE 4 0 0 0 0 [] ⟨#[50]⟩ = 74 := by decide +kernel
theorem kn_build : buiR 4 31 33 0 0 ⟨#[49]⟩ = [(31, 0), (33, 0)] /\ buiE 4 31 33 0 0 ⟨#[49]⟩ = 0 := by decide +kernel
theorem kn_points : ptsE 3 0 0 0 0 = 71 /\ ptsE 4 0 40 0 9 = 71 := by decide +kernel
theorem kn_worst : worX 4 0 0 0 0 [] = 4 := by decide +kernel
theorem kn_check : chkB 4 [(32, 0)] = 72 /\ chkB 4 [(16, 0), (16, 0)] = 72 := by decide +kernel
theorem kn_sure : SurT 4 16 0 10 100 25 1 0 := by
 unfold SurT
 rw [if_neg (by decide +kernel), if_neg (by decide +kernel), if_neg (by decide +kernel)]
 refine .inl ⟨rfl, by decide, by decide, by decide +kernel, fun a h1 h2 => ?_⟩
 obtain rfl : a = 0 := by omega
 decide +kernel
set_option maxRecDepth 1000000 in
set_option maxHeartbeats 8000000 in
theorem known_law (w : World) (ht : Tab w) :
 Calls Tryz.prog 7 #[] w fun e w' => e = .returned (.bool true) /\ Below w.heap.size w w' := by
 have hw := fun w => Wave_any 4 16 0 w
 have hn := fun w => Norm_any 4 16 0 w
 have hv1 := fun w => Overlap_any 4 16 0 16 0 1 w
 have hv2 := fun w => Overlap_any 4 16 0 16 0 2 w
 have hm := fun w ht => match_any 4 32 0 16 0 w ht
 have hf1 := fun ao cap w ht hc => misfit_any 4 16 0 ao [0, 127, 0, -127] cap 0 2 w ht hc (by decide)
 have hf2 := fun ao cap w ht hc => misfit_any 4 16 0 ao [0, 127, 0, -127] cap 0 3 w ht hc (by decide)
 have hsu := fun w => (sure_any 4 16 0 10 100 25 w).mono (R' := fun e w' => e = .returned (.tuple #[.int .i64 1, .int .i64 0]) /\ Below w.heap.size w w') (fun e w' h => by
  obtain ⟨⟨v, x, he, hs⟩, hb⟩ := h
  obtain ⟨rfl, rfl⟩ := SurT.one hs kn_sure
  exact ⟨he, hb⟩)
 have hmi := fun w ht => Misses_any 4 0 0 0 0 [] none 0 ⟨#[50]⟩ w ht (by decide) (Cells.nil _ _) (by decide) (by decide) (by decide)
 have hbu := fun w ht => Build_any 4 31 33 0 0 ⟨#[49]⟩ w ht (by decide)
 have hp1 := fun w => Points_any 3 0 0 0 0 w
 have hp2 := fun w => Points_any 4 0 40 0 9 w
 have hwo := fun w ht => Worst_any 4 0 0 0 0 [] none 0 w ht (Cells.nil _ _) (by decide) (by decide) (by decide)
 have hc1 := fun ao w hc => checkBank_any 4 [(32, 0)] ao 1 w hc (by decide) (by decide) (by decide)
 have hc2 := fun ao w hc => checkBank_any 4 [(16, 0), (16, 0)] ao 2 w hc (by decide) (by decide) (by decide)
 rw [kn_wave.1, kn_wave.2.1] at hw
 rw [kn_wave.2.1, kn_wave.2.2] at hn
 rw [kn_over.1, kn_over.2.1] at hv1
 rw [kn_over.2.2.1, kn_over.2.2.2] at hv2
 rw [kn_match.1, kn_match.2] at hm
 rw [kn_misfit.1, kn_misfit.2.1] at hf1
 rw [kn_misfit.2.2.1, kn_misfit.2.2.2] at hf2
 rw [(misR_no (by rw [kn_misses]; decide)).1, kn_misses] at hmi
 rw [kn_build.1, kn_build.2] at hbu
 rw [kn_points.1] at hp1
 rw [kn_points.2] at hp2
 rw [kn_worst] at hwo
 rw [kn_check.1] at hc1
 rw [kn_check.2] at hc2
 simp only [List.length_cons, List.length_nil, Nat.reduceAdd] at hw hf1 hf2 hmi hbu hwo hc1 hc2
 have HW := Lib.hid hw; have HN := Lib.hid hn; have HV1 := Lib.hid hv1; have HV2 := Lib.hid hv2; have HM := Lib.hid hm; have HF1 := Lib.hid hf1; have HF2 := Lib.hid hf2; have HSU := Lib.hid hsu; have HMI := Lib.hid hmi; have HBU := Lib.hid hbu; have HP1 := Lib.hid hp1; have HP2 := Lib.hid hp2; have HWO := Lib.hid hwo; have HC1 := Lib.hid hc1; have HC2 := Lib.hid hc2
 have HT : Hid (∀ W, Below w.heap.size w W -> Tab W) := Lib.hid (fun W h => ht.below h (Nat.le_refl _))
 clear hw hn hv1 hv2 hm hf1 hf2 hsu hmi hbu hp1 hp2 hwo hc1 hc2 ht
 go_enter Tryz.func7, Tryz.ntmps7
 go_wp2_with fail
 refine (tone_any _).mono ?_
 rintro e w1 ⟨rfl, hb1⟩
 have g1 := Lib.hid ((Below.refl w.heap.size w).trans (hb1.mono (Below.refl w.heap.size w).size))
 clear hb1
 go_wp2_with fail
 refine (HW.out _).mono ?_
 rintro e w2 ⟨⟨b1, c1, rfl, hcw⟩, hb2⟩
 have g2 := Lib.hid (g1.out.trans (hb2.mono g1.out.size))
 have HCW := Lib.hid hcw
 clear hcw
 clear hb2
 go_wp2_with fail
 refine (tone_any _).mono ?_
 rintro e w3 ⟨rfl, hb3⟩
 have g3 := Lib.hid (g2.out.trans (hb3.mono g2.out.size))
 have C3w := Lib.hid (HCW.out.below hb3 (Nat.le_refl _))
 clear HCW
 clear hb3
 go_wp2_with fail
 refine (HN.out _).mono ?_
 rintro e w4 ⟨rfl, hb4⟩
 have g4 := Lib.hid (g3.out.trans (hb4.mono g3.out.size))
 have C4w := Lib.hid (C3w.out.below hb4 (Nat.le_refl _))
 clear C3w
 clear hb4
 go_wp2_with fail
 refine (tone_any _).mono ?_
 rintro e w5 ⟨rfl, hb5⟩
 have g5 := Lib.hid (g4.out.trans (hb5.mono g4.out.size))
 have C5w := Lib.hid (C4w.out.below hb5 (Nat.le_refl _))
 clear C4w
 clear hb5
 go_wp2_with fail
 refine (tone_any _).mono ?_
 rintro e w6 ⟨rfl, hb6⟩
 have g6 := Lib.hid (g5.out.trans (hb6.mono g5.out.size))
 have C6w := Lib.hid (C5w.out.below hb6 (Nat.le_refl _))
 clear C5w
 clear hb6
 go_wp2_with fail
 refine (HV1.out _).mono ?_
 rintro e w7 ⟨rfl, hb7⟩
 have g7 := Lib.hid (g6.out.trans (hb7.mono g6.out.size))
 have C7w := Lib.hid (C6w.out.below hb7 (Nat.le_refl _))
 clear C6w
 clear hb7
 go_wp2_with fail
 refine (tone_any _).mono ?_
 rintro e w8 ⟨rfl, hb8⟩
 have g8 := Lib.hid (g7.out.trans (hb8.mono g7.out.size))
 have C8w := Lib.hid (C7w.out.below hb8 (Nat.le_refl _))
 clear C7w
 clear hb8
 go_wp2_with fail
 refine (tone_any _).mono ?_
 rintro e w9 ⟨rfl, hb9⟩
 have g9 := Lib.hid (g8.out.trans (hb9.mono g8.out.size))
 have C9w := Lib.hid (C8w.out.below hb9 (Nat.le_refl _))
 clear C8w
 clear hb9
 go_wp2_with fail
 refine (HV2.out _).mono ?_
 rintro e w10 ⟨rfl, hb10⟩
 have g10 := Lib.hid (g9.out.trans (hb10.mono g9.out.size))
 have C10w := Lib.hid (C9w.out.below hb10 (Nat.le_refl _))
 clear C9w
 clear hb10
 go_wp2_with fail
 refine (tone_any _).mono ?_
 rintro e w11 ⟨rfl, hb11⟩
 have g11 := Lib.hid (g10.out.trans (hb11.mono g10.out.size))
 have C11w := Lib.hid (C10w.out.below hb11 (Nat.le_refl _))
 clear C10w
 clear hb11
 go_wp2_with fail
 refine (HM.out _ (HT.out _ g11.out)).mono ?_
 rintro e w12 ⟨rfl, hb12⟩
 have g12 := Lib.hid (g11.out.trans (hb12.mono g11.out.size))
 have C12w := Lib.hid (C11w.out.below hb12 (Nat.le_refl _))
 clear C11w
 clear hb12
 go_wp2_with fail
 have l13 := cells_lit w12 ([0, 127, 0, -127].map (Value.int .i64)) 3
 have B13 := (Below.refl w12.heap.size w12).alloc (Nat.le_refl _) (.cells ([0, 127, 0, -127].map (Value.int .i64)).toArray 3)
 have g13 := Lib.hid (g12.out.trans (B13.mono g12.out.size))
 have C13w := Lib.hid (C12w.out.below B13 (Nat.le_refl _))
 clear C12w
 refine (show _ from same_ints_eq b1 _ c1 4 _ [0, 127, 0, -127] 4 rfl (by decide) C13w.out l13).mono ?_
 rintro e w14 ⟨rfl, hb14⟩
 have g14 := Lib.hid (g13.out.trans (hb14.mono g13.out.size))
 clear B13 l13 hb14
 clear C13w
 go_wp2_with fail
 refine (tone_any _).mono ?_
 rintro e w15 ⟨rfl, hb15⟩
 have g15 := Lib.hid (g14.out.trans (hb15.mono g14.out.size))
 clear hb15
 go_wp2_with fail
 have l16 := cells_lit w15 ([0, 127, 0, -127].map (Value.int .i64)) 3
 have B16 := (Below.refl w15.heap.size w15).alloc (Nat.le_refl _) (.cells ([0, 127, 0, -127].map (Value.int .i64)).toArray 3)
 have g16 := Lib.hid (g15.out.trans (B16.mono g15.out.size))
 refine (show _ from HF1.out _ 4 _ (HT.out _ g16.out) l16).mono ?_
 rintro e w17 ⟨rfl, hb17⟩
 have g17 := Lib.hid (g16.out.trans (hb17.mono g16.out.size))
 clear B16 l16 hb17
 go_wp2_with fail
 refine (tone_any _).mono ?_
 rintro e w18 ⟨rfl, hb18⟩
 have g18 := Lib.hid (g17.out.trans (hb18.mono g17.out.size))
 clear hb18
 go_wp2_with fail
 refine (HSU.out _).mono ?_
 rintro e w19 ⟨rfl, hb19⟩
 have g19 := Lib.hid (g18.out.trans (hb19.mono g18.out.size))
 clear hb19
 go_wp2_with fail
 refine (tone_any _).mono ?_
 rintro e w20 ⟨rfl, hb20⟩
 have g20 := Lib.hid (g19.out.trans (hb20.mono g19.out.size))
 clear hb20
 go_wp2_with fail
 have l21 := cells_lit w20 ([0, 127, 0, -127].map (Value.int .i64)) 3
 have B21 := (Below.refl w20.heap.size w20).alloc (Nat.le_refl _) (.cells ([0, 127, 0, -127].map (Value.int .i64)).toArray 3)
 have g21 := Lib.hid (g20.out.trans (B21.mono g20.out.size))
 refine (show _ from HF2.out _ 4 _ (HT.out _ g21.out) l21).mono ?_
 rintro e w22 ⟨rfl, hb22⟩
 have g22 := Lib.hid (g21.out.trans (hb22.mono g21.out.size))
 clear B21 l21 hb22
 go_wp2_with fail
 refine (HMI.out _ (HT.out _ g22.out)).mono ?_
 rintro e w23 ⟨⟨m1, cm, rfl, -⟩, hb23⟩
 have g23 := Lib.hid (g22.out.trans (hb23.mono g22.out.size))
 clear hb23
 go_wp2_with fail
 refine (HBU.out _ (HT.out _ g23.out)).mono ?_
 rintro e w24 ⟨⟨ao, co, rfl, -, -, -⟩, hb24⟩
 have g24 := Lib.hid (g23.out.trans (hb24.mono g23.out.size))
 clear hb24
 go_wp2_with fail
 refine (HP1.out _).mono ?_
 rintro e w25 ⟨⟨b2, c2, rfl, -⟩, hb25⟩
 have g25 := Lib.hid (g24.out.trans (hb25.mono g24.out.size))
 clear hb25
 go_wp2_with fail
 refine (HWO.out _ (HT.out _ g25.out)).mono ?_
 rintro e w26 ⟨rfl, hb26⟩
 have g26 := Lib.hid (g25.out.trans (hb26.mono g25.out.size))
 clear hb26
 go_wp2_with fail
 refine (HP2.out _).mono ?_
 rintro e w27 ⟨⟨b3, c3, rfl, -⟩, hb27⟩
 have g27 := Lib.hid (g26.out.trans (hb27.mono g26.out.size))
 clear hb27
 go_wp2_with fail
 have l28 := cells_lit w27 (prs [(32, 0)]) 23
 have B28 := (Below.refl w27.heap.size w27).alloc (Nat.le_refl _) (.cells (prs [(32, 0)]).toArray 23)
 have g28 := Lib.hid (g27.out.trans (B28.mono g27.out.size))
 refine (show _ from HC1.out _ _ l28).mono ?_
 rintro e w29 ⟨rfl, hb29⟩
 have g29 := Lib.hid (g28.out.trans (hb29.mono g28.out.size))
 clear B28 l28 hb29
 go_wp2_with fail
 refine (tone_any _).mono ?_
 rintro e w30 ⟨rfl, hb30⟩
 have g30 := Lib.hid (g29.out.trans (hb30.mono g29.out.size))
 clear hb30
 go_wp2_with fail
 refine (tone_any _).mono ?_
 rintro e w31 ⟨rfl, hb31⟩
 have g31 := Lib.hid (g30.out.trans (hb31.mono g30.out.size))
 clear hb31
 go_wp2_with fail
 have l32 := cells_lit w31 (prs [(16, 0), (16, 0)]) 23
 have B32 := (Below.refl w31.heap.size w31).alloc (Nat.le_refl _) (.cells (prs [(16, 0), (16, 0)]).toArray 23)
 have g32 := Lib.hid (g31.out.trans (B32.mono g31.out.size))
 refine (show _ from HC2.out _ _ l32).mono ?_
 rintro e w33 ⟨rfl, hb33⟩
 have g33 := Lib.hid (g32.out.trans (hb33.mono g32.out.size))
 clear B32 l32 hb33
 go_wp2_with fail
 refine (bworks_any _ (HT.out _ g33.out)).mono ?_
 rintro e w34 ⟨rfl, hb34⟩
 have g34 := Lib.hid (g33.out.trans (hb34.mono g33.out.size))
 clear hb34
 go_wp2_with fail
 go_ret
 exact ⟨rfl, g34.out⟩
end Go.Proofs.YtdpjdifoonfcdaaGreatDoor
