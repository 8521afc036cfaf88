/- Parts of a proof, in build order: P8, JI, XS, XT. -/
import Derived.Test.YtdpjdifoonfcdaaGreatDoorKr9
import Derived.Test.YtdpjdifoonfcdaaGreatDoorKr20
import Derived.ArgAppend

namespace Go.Proofs.YtdpjdifoonfcdaaGreatDoor
open Go.RowKit
theorem sure_box (p q ns va fl : Int) (w : World) :
 ∃ W0, (((w.alloc (.cells #[.int .i64 p, .int .i64 q] 23)).alloc (.cells #[.int .i64 ns] 3)).alloc (.cells #[.int .i64 va] 3)).alloc (.cells #[.int .i64 fl] 3) = W0 /\ W0.heap.size = w.heap.size + 4 /\ ∀ wx, Below W0.heap.size W0 wx ->
   (wx.cell? ⟨w.heap.size, 0, none⟩ = some (.int .i64 p) /\ wx.cell? ⟨w.heap.size, 1, none⟩ = some (.int .i64 q)) /\ wx.cell? ⟨w.heap.size + 1, 0, none⟩ = some (.int .i64 ns) /\ wx.cell? ⟨w.heap.size + 1 + 1, 0, none⟩ = some (.int .i64 va) /\ wx.cell? ⟨w.heap.size + 1 + 1 + 1, 0, none⟩ = some (.int .i64 fl) /\ Below w.heap.size w wx := by
 refine ⟨_, rfl, by simp, ?_⟩
 obtain ⟨W2, hW2⟩ : ∃ W2, W2 = (w.alloc (.cells #[.int .i64 p, .int .i64 q] 23)).alloc (.cells #[.int .i64 ns] 3) := ⟨_, rfl⟩
 have hs2 : W2.heap.size = w.heap.size + 1 + 1 := by rw [hW2]; simp
 have r0 : W2.heap[w.heap.size]? = some (.cells #[.int .i64 p, .int .i64 q] 23 (0, 0)) := by rw [hW2]; exact heap_alloc2_old w _ _
 have r1 : W2.heap[w.heap.size + 1]? = some (.cells #[.int .i64 ns] 3 (0, 0)) := by rw [hW2]; exact heap_alloc2_new w _ _
 have hB2 : Below w.heap.size w W2 := by rw [hW2]; exact ((Below.refl _ w).alloc (Nat.le_refl _) _).alloc (by simp) _
 rw [<- hW2]
 clear hW2
 have s0 : ((W2.alloc (.cells #[.int .i64 va] 3)).alloc (.cells #[.int .i64 fl] 3)).heap[w.heap.size]? = _ := (hold_old _ _ _ (by simp; omega)).trans ((hold_old _ _ _ (by omega)).trans r0)
 have s1 : ((W2.alloc (.cells #[.int .i64 va] 3)).alloc (.cells #[.int .i64 fl] 3)).heap[w.heap.size + 1]? = _ := (hold_old _ _ _ (by simp; omega)).trans ((hold_old _ _ _ (by omega)).trans r1)
 have s2 : ((W2.alloc (.cells #[.int .i64 va] 3)).alloc (.cells #[.int .i64 fl] 3)).heap[w.heap.size + 1 + 1]? = some (.cells #[.int .i64 va] 3 (0, 0)) := by rw [<- hs2]; exact heap_alloc2_old W2 _ _
 have s3 : ((W2.alloc (.cells #[.int .i64 va] 3)).alloc (.cells #[.int .i64 fl] 3)).heap[w.heap.size + 1 + 1 + 1]? = some (.cells #[.int .i64 fl] 3 (0, 0)) := by rw [<- hs2]; exact heap_alloc2_new W2 _ _
 have hB0 : Below w.heap.size w ((W2.alloc (.cells #[.int .i64 va] 3)).alloc (.cells #[.int .i64 fl] 3)) := (hB2.alloc (by omega) _).alloc (by simp; omega) _
 have hs0 : ((W2.alloc (.cells #[.int .i64 va] 3)).alloc (.cells #[.int .i64 fl] 3)).heap.size = w.heap.size + 4 := by simp; omega
 generalize (W2.alloc (.cells #[.int .i64 va] 3)).alloc (.cells #[.int .i64 fl] 3) = W0 at *
 intro wx hb
 have e0 := (hb.block _ (by omega)).trans s0
 have e1 := (hb.block _ (by omega)).trans s1
 have e2 := (hb.block _ (by omega)).trans s2
 have e3 := (hb.block _ (by omega)).trans s3
 exact ⟨⟨(cell_of_row wx _ 0 _ _ _ e0).trans rfl, (cell_of_row wx _ 1 _ _ _ e0).trans rfl⟩, (cell_of_row wx _ 0 _ _ _ e1).trans rfl, (cell_of_row wx _ 0 _ _ _ e2).trans rfl, (cell_of_row wx _ 0 _ _ _ e3).trans rfl, hB0.trans (hb.mono (by omega))⟩
def V_at (V : Array Value) (j : Nat) (v : Value) : Prop := V[1 + j]? = some v
set_option maxRecDepth 100000 in
set_option maxHeartbeats 8000000 in
theorem sure_any (L p q ns va fl : Int) (w : World) :
 Calls Tryz.prog 38 #[.int .i64 L, .agg #[.int .i64 p, .int .i64 q], .int .i64 ns, .int .i64 va, .int .i64 fl] w fun e w' => (∃ v x, e = .returned (.tuple #[.int .i64 v, .int .i64 x]) /\ SurT L p q ns va fl v x) /\ Below w.heap.size w w' := by
 obtain ⟨Z, hZ⟩ : ∃ Z, Z = shp 0 (smp 0 0 0) := ⟨_, rfl⟩
 have z : Tryz.zeroCells129 = Z := by rw [hZ]; exact zero101
 have hZs : Z.size = 65 := by rw [hZ, shp_size, smp_length]
 have hw1 := fun w => wave_any L p q w
 have hst := store_shape (waveV L p q) Z (waveV_size L p q) hZs (waveV_one L p q)
 have hVs := waveV_size L p q
 clear hZ
 obtain ⟨W0, hW0, hs0, hFK⟩ := sure_box p q ns va fl w
 cases h : waveOK L p q
 · have hT : SurT L p q ns va fl 0 70 := by unfold SurT; rw [if_pos h]; exact ⟨rfl, rfl⟩
   rw [h] at hw1
   generalize waveV L p q = V at *
   have hne : ¬ V = #[] := by intro h; rw [h] at hVs; simp at hVs
   have HW := Lib.hid hw1; have HT := Lib.hid hT; have HFK := Lib.hid hFK; have HW0 := Lib.hid hW0; have HS0 := Lib.hid hs0
   clear hw1 hT h hFK hW0 hs0
   obtain ⟨⟨y0, y1⟩, -, -, -, -⟩ := HFK.out W0 (Below.refl _ _)
   go_enter Tryz.func38, Tryz.ntmps38
   go_wp2_with fail
   rw [HW0.out]
   refine (HW.out _).mono ?_
   rintro e w1 ⟨rfl, hb1⟩
   obtain ⟨-, -, -, -, g1⟩ := HFK.out w1 hb1
   go_wp2
   go_ret2
   exact ⟨⟨_, _, rfl, HT.out⟩, g1.alloc g1.size _⟩
 · have hL := waveOK_true h
   obtain ⟨M, hM⟩ : ∃ M : Nat, L = (M : Int) := ⟨L.toNat, by omega⟩
   have hVe : waveV L p q = shp L (wav L p q) := by simp [waveV, h]
   have hsi := fun w => silent_any L (wav L p q) w (wav_length _ _ _)
   rw [<- hVe] at hsi
   have hT : ∀ v e, (if silentB (wav L p q) = true then v = 0 /\ e = 4 else if (inB 0 ns 32768 && inB 1 va 1048576 && inB 0 fl 65536) = false then v = 0 /\ e = 8 else Sur (fun a => enoB (wav L p q) M a ns (fl * va * sqTo (wav L p q) 0 M)) v e) -> SurT L p q ns va fl v e := by
    intro v e hh; unfold SurT; rw [if_neg (by rw [h]; decide), show L.toNat = M by omega]; exact hh
   have hfd := fun a bv bn br bf ba W a1 a2 n1 n2 v1 v2 f1 f2 hv c1 c2 c3 c4 => found_any M (wav L p q) a ns va fl bv bn br bf ba W (wav_length _ _ _) (by omega) (by omega) (wav_bd _ _ _) a1 a2 n1 n2 v1 v2 f1 f2 hv c1 c2 c3 c4
   rw [<- hM, <- hVe] at hfd
   have hmo := fun a b bd h1 h2 => enoB_mono (us := wav L p q) (L := M) (a := a) (b := b) (ns := ns) (bd := bd) h1 h2
   have hze := fun bd h1 => enoB_zero (us := wav L p q) (wav_bd _ _ _) M (ns := ns) (bd := bd) h1
   have ha64 : abS (wav L p q) 64 = abS (wav L p q) M := by
    have := abS_zero (xs := wav L p q) (M := M) (fun i hi => wav_zero L p q i (by omega)) (64 - M)
    rwa [show M + (64 - M) = 64 by omega] at this
   have hcl : ∀ j v, ((wav L p q).map (Value.int .i64))[j]? = some v -> V_at (waveV L p q) j v := by
    intro j v hj
    rw [List.getElem?_map, Option.map_eq_some_iff] at hj
    obtain ⟨x, hx, rfl⟩ := hj
    unfold V_at
    rw [hVe]
    exact shp_succ L _ _ _ hx
   have hbs := abS_bd (wav_bd L p q)
   have hbw := wav_bd L p q
   have hln := wav_length L p q
   rw [h] at hw1
   generalize silentB (wav L p q) = SB at *
   generalize sqTo (wav L p q) 0 M = S at *
   generalize enoB (wav L p q) M = F at *
   generalize wav L p q = xs at *
   generalize waveV L p q = V at *
   have hne : ¬ V = #[] := by intro h; rw [h] at hVs; simp at hVs
   have hi : (Tryz.prog.info? 129).map (·.size) = some V.size := by rw [hVs]; kernel_rfl
   have hi2 : (Tryz.prog.info? 127).map (·.size) = some (xs.map (Value.int .i64)).length := by rw [List.length_map, hln]; kernel_rfl
   have HI := Lib.hid hi; have HIA := Lib.hid hi2; have HW := Lib.hid hw1; have HFK := Lib.hid hFK; have HW0 := Lib.hid hW0; have HS0 := Lib.hid hs0
   have HSI := Lib.hid hsi; have HT := Lib.hid hT; have HFD := Lib.hid hfd; have HMO := Lib.hid hmo; have HZE := Lib.hid hze; have HA64 := Lib.hid ha64; have HCL := Lib.hid hcl; have HBS := Lib.hid hbs; have HBW := Lib.hid hbw; have HLN := Lib.hid hln; have HM := Lib.hid hM
   clear hi hi2 hw1 hFK hW0 hs0 hsi hT hfd hmo hze ha64 hcl hbs hbw hln hVe h hM
   obtain ⟨⟨y0, y1⟩, -, -, -, -⟩ := HFK.out W0 (Below.refl _ _)
   go_enter Tryz.func38, Tryz.ntmps38
   go_wp2_with fail
   rw [HW0.out]
   refine (HW.out _).mono ?_
   rintro e w1 ⟨rfl, hb1⟩
   clear y0 y1
   have hs1 := hb1.size
   have FK : ∀ wx, Below (w1.heap.size + 1) (w1.alloc (.cells V 129)) wx -> wx.heap[w1.heap.size]? = some (.cells V 129 (0, 0)) /\ wx.cell? ⟨w.heap.size + 1, 0, none⟩ = some (.int .i64 ns) /\ wx.cell? ⟨w.heap.size + 1 + 1, 0, none⟩ = some (.int .i64 va) /\ wx.cell? ⟨w.heap.size + 1 + 1 + 1, 0, none⟩ = some (.int .i64 fl) /\ Below w.heap.size w wx := by
    intro wx hb
    have g1 : Below W0.heap.size W0 wx := (hb1.alloc hs1 (.cells V 129)).trans (hb.mono (by omega))
    obtain ⟨-, h1, h2, h3, h4⟩ := HFK.out wx g1
    exact ⟨(hb.block _ (by omega)).trans (heap_alloc_new _ _), h1, h2, h3, h4⟩
   have HFK1 := Lib.hid FK
   clear FK
   have hsz1 : (w1.alloc (.cells V 129)).heap.size = w1.heap.size + 1 := by simp
   have HSZ1 := Lib.hid hsz1
   clear hsz1
   go_wp2_with (first
    | (refine wpList_load_row (by rfl) 129 _ (by rfl) w1.heap.size (by rfl) _ V _ _ (HFK1.out _ (Below.refl _ _)).1 Tryz.underlying129 (by rfl) HI.out ?_)
    | (go_at_call 64; refine (HSI.out _).mono ?_; rintro e w2 ⟨rfl, hb2⟩; have hb2 := hb2.mono (Nat.le_of_eq HSZ1.out.symm); refine Hid.out ?_))
   refine Lib.hid ?_
   obtain ⟨_, y1, y2, y3, g2⟩ := HFK1.out w2 hb2
   cases SB
   · have hin1 := fun w => bwithin_any ns 0 32768 w
     have hin2 := fun w => bwithin_any va 1 1048576 w
     have hin3 := fun w => bwithin_any fl 0 65536 w
     by_cases hr : (inB 0 ns 32768 && inB 1 va 1048576 && inB 0 fl 65536) = true
     · obtain ⟨hr12, hr3⟩ := Bool.and_eq_true_iff.1 hr
       obtain ⟨hr1, hr2⟩ := Bool.and_eq_true_iff.1 hr12
       have n1 : 0 <= ns /\ ns <= 32768 := by simpa [inB] using hr1
       have n2 : 1 <= va /\ va <= 1048576 := by simpa [inB] using hr2
       have n3 : 0 <= fl /\ fl <= 65536 := by simpa [inB] using hr3
       have hTS : ∀ v e, Sur (fun a => F a ns (fl * va * S)) v e -> SurT L p q ns va fl v e := by
        intro v e hs
        refine HT.out v e ?_
        rw [if_neg (by decide), if_neg (by rw [hr]; decide)]
        exact hs
       rw [hr1] at hin1
       rw [hr2] at hin2
       rw [hr3] at hin3
       have hfd := fun a bv bn br bf ba W a1 a2 hv c1 c2 c3 c4 => HFD.out a bv bn br bf ba W a1 a2 n1.1 n1.2 n2.1 n2.2 n3.1 n3.2 hv c1 c2 c3 c4
       have hmo := fun a b h1 h2 => HMO.out a b (fl * va * S) h1 h2
       have hze := HZE.out (fl * va * S) n1.1
       have HI1 := Lib.hid hin1; have HI2 := Lib.hid hin2; have HI3 := Lib.hid hin3; have HTS := Lib.hid hTS; have HE := Lib.hid hfd; have HMN := Lib.hid hmo; have HZ := Lib.hid hze
       clear hin1 hin2 hin3 hTS hfd hmo hze hr hr1 hr2 hr3 hr12 n1 n2 n3
       generalize fl * va * S = BD at *
       have hR0 : (w2.alloc (.cells #[.int .i64 0] 3)).heap[w2.heap.size]? = some (.cells #[.int .i64 0] 3 (0, 0)) := heap_alloc_new _ _
       have hal := (Below.refl w2.heap.size w2).alloc (Nat.le_refl _) (.cells #[.int .i64 0] 3)
       have hs2 := hb2.size
       rw [HSZ1.out] at hs2
       have hb3 := hb2.trans (hal.mono hs2)
       have hcl2 : ∀ j v, (xs.map (Value.int .i64))[j]? = some v -> (w2.alloc (.cells #[.int .i64 0] 3)).cell? ((⟨w1.heap.size, 1, none⟩ : Addr).add j) = some v := by
        intro j v hj
        rw [Addr.add_lit]
        exact (cell_of_row _ _ _ _ _ _ (HFK1.out _ hb3).1).trans (HCL.out j v hj)
       have HCL2 := Lib.hid hcl2
       clear hcl2
       have hRc : Blk (w2.alloc (.cells #[.int .i64 0] 3)) w2.heap.size 3 #[.int .i64 0] := hR0
       have HRC := Lib.hid hRc
       clear hR0 hRc
       go_wp2_with (first
        | (go_at_call 66; (with_reducible refine Calls.mono (HI1.out _) ?_); rintro e w' ⟨rfl, rfl⟩)
        | (go_at_call 66; (with_reducible refine Calls.mono (HI2.out _) ?_); rintro e w' ⟨rfl, rfl⟩)
        | (go_at_call 66; (with_reducible refine Calls.mono (HI3.out _) ?_); rintro e w' ⟨rfl, rfl⟩)
        | (refine wpList_load_list (by rfl) 127 _ (by with_reducible rfl) ⟨w1.heap.size, 1, none⟩ (by rfl) (xs.map (Value.int .i64)) _ HCL2.out Tryz.underlying127 (by rfl) HIA.out ?_))
       clear y1 y2 y3
       generalize hA : (xs.map (Value.int .i64)).toArray = A at *
       have hAs : A.size = 64 := by rw [<- hA, List.size_toArray, List.length_map]; exact HLN.out
       have hAx : ∀ (k : Nat) (x : Int), xs[k]? = some x -> A[k]? = some (Value.int .i64 x) := fun k x hx => by rw [<- hA, List.getElem?_toArray, List.getElem?_map, hx]; rfl
       have HAX := Lib.hid hAx
       clear hA hAx HCL2 HCL
       have HB3 := Lib.hid hb3
       have HG2 := Lib.hid g2
       clear hb3 g2 hal
       generalize hW3 : w2.alloc (.cells #[.int .i64 0] 3) = W3 at *
       have hz3 : W3.heap.size = w2.heap.size + 1 := by rw [<- hW3]; simp
       have HZ3 := Lib.hid hz3
       clear hW3 hz3
       go_loopw [49] (fun i wr => ∃ k : Nat, k <= 64 /\ i = .int .i64 (k : Int) /\ Blk wr w2.heap.size 3 #[.int .i64 (abS xs k)] /\ Below w2.heap.size W3 wr) (fun i _ => 64 - (intOf i).toNat)
       case atStart => exact ⟨0, Nat.zero_le _, rfl, HRC.out, Below.refl _ _⟩
       case round =>
        obtain ⟨k, hk, rfl, hbk, hb⟩ := hrel
        by_cases hlt : k < 64
        · obtain ⟨x, hx⟩ := get_of_lt (show k < xs.length by rw [HLN.out]; exact hlt)
          have m1 := HBW.out x (List.mem_of_getElem? hx)
          have bs := HBS.out k
          have ax := HAX.out k x hx
          have hvx : ∀ w, (Instr.index 127 (.agg A) (.int .i64 (k : Int))).run Tryz.prog w = .ok (.int .i64 x) w := fun w => run_index_val 127 3 64 _ .i64 k _ Tryz.underlying127 (Tryz.sizeOf3 w) (Tryz.isAgg3 w) (by omega) ax
          clear ax
          have e1 : abS xs (k + 1) = abS xs k + max x (-x) := by simp [abS, hx]; omega
          have c0 := hbk.c0
          have f0 := hbk.free 0
          have hlb := hbk.lt
          have E1 := Lib.hid e1; have HBK := Lib.hid hbk
          clear e1 hx hbk
          have q1 : IntKind.i64.wrap (-x) = -x := IntWalk.i64_in _ (by omega)
          have q2 : IntKind.i64.wrap (abS xs k + max x (-x)) = abS xs k + max x (-x) := IntWalk.i64_in _ (by omega)
          have i1 : (k : Int) < 64 := by omega
          have i2 : (0 : Int) <= k := by omega
          go_wp2
          go_roundw
          case rel => exact ⟨k + 1, by omega, by go_num, by rw [E1.out]; exact HBK.out.set0 _, hb.setCell (Nat.le_refl _) _⟩
          case measure => simp [intOf]; omega
        · have hk64 : k = 64 := by omega
          have hkn : ¬ (k : Int) < 64 := by omega
          rw [hk64, HA64.out] at hbk
          clear hk64
          obtain ⟨w3, rfl⟩ : ∃ w3, w3 = wr := ⟨_, rfl⟩
          have hs1c : w1.heap.size + 1 <= w2.heap.size := hs2
          have hb4 : Below (w1.heap.size + 1) (w1.alloc (.cells V 129)) w3 := HB3.out.trans (hb.mono hs1c)
          have hlt3 := hbk.lt
          have FKK : ∀ W, Below w3.heap.size w3 W -> W.heap[w1.heap.size]? = some (.cells V 129 (0, 0)) /\ W.cell? ⟨w.heap.size + 1, 0, none⟩ = some (.int .i64 ns) /\ W.cell? ⟨w.heap.size + 1 + 1, 0, none⟩ = some (.int .i64 va) /\ W.cell? ⟨w.heap.size + 1 + 1 + 1, 0, none⟩ = some (.int .i64 fl) /\ W.cell? ⟨w2.heap.size, 0, none⟩ = some (.int .i64 (abS xs M)) /\ Below w.heap.size w W := by
           intro W hbW
           have h5 := hb4.trans (hbW.mono (by omega))
           obtain ⟨t1, t2, t3, t4, t5⟩ := HFK1.out W h5
           exact ⟨t1, t2, t3, t4, (hbk.below hbW hlt3).c0, t5⟩
          have HFKK := Lib.hid FKK
          clear FKK hbk hb4 hb hlt hk
          go_wp2
          go_loopw [18, 19] (fun lo hi wr => ∃ l h : Int, lo = .int .i64 l /\ hi = .int .i64 h /\ 1 <= l /\ l <= h /\ h <= 1048576 /\ (∀ a, 0 <= a -> a < l -> F a ns BD = false) /\ (h = 1048576 ∨ F h ns BD = true) /\ Below w3.heap.size w3 wr) (fun lo hi _ => (intOf hi - intOf lo).toNat)
          case atStart => exact ⟨1, 1048576, rfl, rfl, by omega, by omega, by omega, fun a h1 h2 => by rw [show a = 0 by omega]; exact HZ.out, .inl rfl, Below.refl _ _⟩
          case round =>
           obtain ⟨l, h, rfl, rfl, b0, b1, b2, hf, hh, hb⟩ := hrel
           obtain ⟨t1, t2, t3, t4, t5, g5⟩ := HFKK.out wr hb
           by_cases hd : l < h
           · obtain ⟨m, hm⟩ : ∃ m, m = (l + h) / 2 := ⟨_, rfl⟩
             have hmt : Int.tdiv (l + h) 2 = m := by rw [Int.tdiv_eq_ediv_of_nonneg (by omega)]; exact hm.symm
             have hm' : (l + h) / 2 = m := hm.symm
             have hm1 : l <= m /\ m < h := by omega
             have he := HE.out m _ _ _ _ _ wr (by omega) (by omega) t1 t2 t5 t4 t3
             cases hfm : F m ns BD
             · rw [hfm] at he
               have hnew : ∀ a, 0 <= a -> a < m + 1 -> F a ns BD = false := by
                intro a h1 h2
                cases hfa : F a ns BD
                · rfl
                · have := HMN.out a m hfa (by omega)
                  rw [hfm] at this; simp at this
               have HEE := Lib.hid he; have HNEW := Lib.hid hnew
               clear he hnew hfm hm t1 t2 t3 t4 t5
               go_wp2_with (go_at_call 95; refine HEE.out.mono ?_; rintro e w5 ⟨rfl, hb5⟩)
               go_roundw
               case rel => exact ⟨m + 1, h, rfl, rfl, by omega, by omega, by omega, HNEW.out, hh, hb.trans (hb5.mono hb.size)⟩
               case measure => simp [intOf]; omega
             · rw [hfm] at he
               have HEE := Lib.hid he; have HFM := Lib.hid hfm
               clear he hfm hm t1 t2 t3 t4 t5
               go_wp2_with (go_at_call 95; refine HEE.out.mono ?_; rintro e w5 ⟨rfl, hb5⟩)
               go_roundw
               case rel => exact ⟨l, m, rfl, rfl, by omega, by omega, by omega, hf, .inr HFM.out, hb.trans (hb5.mono hb.size)⟩
               case measure => simp [intOf]; omega
           · obtain rfl : l = h := by omega
             have he := HE.out l _ _ _ _ _ wr (by omega) (by omega) t1 t2 t5 t4 t3
             cases hfm : F l ns BD
             · have hl : l = 1048576 := hh.resolve_right (by rw [hfm]; simp)
               have hs : Sur (fun a => F a ns BD) 0 4 := .inr ⟨rfl, rfl, fun a h1 h2 => by
                rcases Int.lt_or_eq_of_le (show a <= l by omega) with h3 | h3
                · exact hf a h1 h3
                · rw [h3]; exact hfm⟩
               have HS := Lib.hid (HTS.out _ _ hs)
               rw [hfm] at he
               have HEE := Lib.hid he
               clear hs he hfm hl hf hh t1 t2 t3 t4 t5
               go_wp2_with (go_at_call 95; refine HEE.out.mono ?_; rintro e w5 ⟨rfl, hb5⟩)
               go_ret2
               exact ⟨⟨_, _, rfl, HS.out⟩, g5.trans (hb5.mono g5.size)⟩
             · have hs : Sur (fun a => F a ns BD) l 0 := .inl ⟨rfl, by omega, by omega, hfm, hf⟩
               have HS := Lib.hid (HTS.out _ _ hs)
               rw [hfm] at he
               have HEE := Lib.hid he
               clear hs he hfm hf hh t1 t2 t3 t4 t5
               go_wp2_with (go_at_call 95; refine HEE.out.mono ?_; rintro e w5 ⟨rfl, hb5⟩)
               go_ret2
               exact ⟨⟨_, _, rfl, HS.out⟩, g5.trans (hb5.mono g5.size)⟩
     · have hr' : (inB 0 ns 32768 && inB 1 va 1048576 && inB 0 fl 65536) = false := by simpa using hr
       have hT8 : SurT L p q ns va fl 0 8 := HT.out 0 8 (by rw [if_neg (by decide), if_pos hr']; exact ⟨rfl, rfl⟩)
       have HT8 := Lib.hid hT8
       clear hT8 hr
       cases hr1 : inB 0 ns 32768
       · rw [hr1] at hin1
         have HI1 := Lib.hid hin1
         clear hin1 hin2 hin3 hr' hr1
         go_wp2_with (go_at_call 66; (with_reducible refine Calls.mono (HI1.out _) ?_); rintro e w' ⟨rfl, rfl⟩)
         go_ret2
         exact ⟨⟨_, _, rfl, HT8.out⟩, g2⟩
       · cases hr2 : inB 1 va 1048576
         · rw [hr1] at hin1
           rw [hr2] at hin2
           have HI1 := Lib.hid hin1; have HI2 := Lib.hid hin2
           clear hin1 hin2 hin3 hr' hr1 hr2
           go_wp2_with (first
            | (go_at_call 66; (with_reducible refine Calls.mono (HI1.out _) ?_); rintro e w' ⟨rfl, rfl⟩)
            | (go_at_call 66; (with_reducible refine Calls.mono (HI2.out _) ?_); rintro e w' ⟨rfl, rfl⟩))
           go_ret2
           exact ⟨⟨_, _, rfl, HT8.out⟩, g2⟩
         · have hr3 : inB 0 fl 65536 = false := by rw [hr1, hr2] at hr'; simpa using hr'
           rw [hr1] at hin1
           rw [hr2] at hin2
           rw [hr3] at hin3
           have HI1 := Lib.hid hin1; have HI2 := Lib.hid hin2; have HI3 := Lib.hid hin3
           clear hin1 hin2 hin3 hr' hr1 hr2 hr3
           go_wp2_with (first
            | (go_at_call 66; (with_reducible refine Calls.mono (HI1.out _) ?_); rintro e w' ⟨rfl, rfl⟩)
            | (go_at_call 66; (with_reducible refine Calls.mono (HI2.out _) ?_); rintro e w' ⟨rfl, rfl⟩)
            | (go_at_call 66; (with_reducible refine Calls.mono (HI3.out _) ?_); rintro e w' ⟨rfl, rfl⟩))
           go_ret2
           exact ⟨⟨_, _, rfl, HT8.out⟩, g2⟩
   · have hT4 : SurT L p q ns va fl 0 4 := HT.out 0 4 (by rw [if_pos rfl]; exact ⟨rfl, rfl⟩)
     have HT4 := Lib.hid hT4
     clear hT4
     go_wp2
     go_ret2
     exact ⟨⟨_, _, rfl, HT4.out⟩, g2⟩
end Go.Proofs.YtdpjdifoonfcdaaGreatDoor

namespace Go.Proofs.YtdpjdifoonfcdaaGreatDoor
open Go.RowKit
theorem sig_box (L wh mo ti B va fl : Int) (al : Option Addr) (cs : List (Int × Int)) (cap : Nat) (na : Option Addr) (ns : List Int) (nc : Nat) (w : World) (ht : Tab w) (hcs : Cells w al (prs cs)) (hn : Cells w na (ns.map (Value.int .i64))) :
 ∃ W0, w.alloc (.cells #[.int .i64 L, .slice al cs.length cap, .int .i64 wh, .int .i64 mo, .int .i64 ti, .slice na ns.length nc, .int .i64 B, .int .i64 va, .int .i64 fl] 101) = W0 /\ ∀ wx, Below W0.heap.size W0 wx ->
   (wx.cell? ⟨w.heap.size, 0, none⟩ = some (.int .i64 L) /\ wx.cell? ⟨w.heap.size, 1, none⟩ = some (.slice al cs.length cap) /\ wx.cell? ⟨w.heap.size, 2, none⟩ = some (.int .i64 wh) /\ wx.cell? ⟨w.heap.size, 3, none⟩ = some (.int .i64 mo) /\ wx.cell? ⟨w.heap.size, 4, none⟩ = some (.int .i64 ti) /\ wx.cell? ⟨w.heap.size, 5, none⟩ = some (.slice na ns.length nc) /\ wx.cell? ⟨w.heap.size, 6, none⟩ = some (.int .i64 B) /\ wx.cell? ⟨w.heap.size, 7, none⟩ = some (.int .i64 va) /\ wx.cell? ⟨w.heap.size, 8, none⟩ = some (.int .i64 fl)) /\
   Blk wx w.heap.size 101 (sigV L al cs.length cap wh mo ti na ns.length nc B va fl) /\ Tab wx /\ Cells wx al (prs cs) /\ Cells wx na (ns.map (Value.int .i64)) /\ Below w.heap.size w wx := by
 refine ⟨_, rfl, fun wx hb => ?_⟩
 have hB0 : Below w.heap.size w (w.alloc (.cells (sigV L al cs.length cap wh mo ti na ns.length nc B va fl) 101)) := (Below.refl _ w).alloc (Nat.le_refl _) _
 have h2 := hB0.trans (hb.mono hB0.size)
 have hq := (Blk.new w 101 (sigV L al cs.length cap wh mo ti na ns.length nc B va fl)).below hb (by simp)
 exact ⟨⟨hq.cell 0, hq.cell 1, hq.cell 2, hq.cell 3, hq.cell 4, hq.cell 5, hq.cell 6, hq.cell 7, hq.cell 8⟩, hq, ht.below h2 (Nat.le_refl _), hcs.below h2 (Nat.le_refl _), hn.below h2 (Nat.le_refl _), h2⟩
end Go.Proofs.YtdpjdifoonfcdaaGreatDoor

namespace Go.Proofs.YtdpjdifoonfcdaaGreatDoor
open Go.RowKit
def padT (n : Nat) (L : Int) : Nat := (max n (L + 16).toNat + 15) / 16 * 16
theorem padT_ge (n : Nat) (L : Int) : n <= padT n L /\ L + 16 <= (padT n L : Int) /\ padT n L % 16 = 0 /\ padT n L <= max n (L + 16).toNat + 15 := by
 unfold padT
 omega
theorem noise_snoc (ns : List Int) (k : Nat) : (ns ++ List.replicate (k + 1) 0).map (Value.int .i64) = (ns ++ List.replicate k 0).map (Value.int .i64) ++ [.int .i64 0] := by
 rw [List.replicate_succ', <- List.append_assoc, List.map_append]; rfl
def nzl (w : World) (b : Nat) : Nat := match w.cell? ⟨b, 5, none⟩ with | some (.slice _ n _) => n | _ => 0
theorem nzl_of {w : World} {b n c : Nat} {a : Option Addr} (h : w.cell? ⟨b, 5, none⟩ = some (.slice a n c)) : nzl w b = n := by unfold nzl; rw [h]
theorem cells_holds {w : World} {a : Option Addr} {cs : List Value} (h : Cells w a cs) : ∀ b, a = some b -> ∀ j u, cs[j]? = some u -> w.cell? (b.add j) = some u := by
 intro b hb j u hj
 obtain ⟨bb, off, he⟩ := h.addr (by intro h2; rw [h2] at hj; simp at hj)
 rw [hb] at he
 obtain rfl := Option.some.inj he
 rw [Addr.add_lit]
 exact h.at' (by rw [hb]) hj
theorem rec_two {w : World} {b off : Nat} {u v : Value} (h1 : w.cell? ⟨b, off, none⟩ = some u) (h2 : w.cell? ⟨b, off + 1, none⟩ = some v) : ∀ j x, (#[u, v] : Array Value)[j]? = some x -> w.cell? ((⟨b, off, none⟩ : Addr).add j) = some x := by
 intro j x hj
 rw [Addr.add_lit]
 match j, hj with
 | 0, hj => simp at hj; subst hj; exact h1
 | 1, hj => simp at hj; subst hj; exact h2
theorem rec_wave {L : Int} {cs : List (Int × Int)} {i : Nat} {p q : Int} (h : bankOK L cs = true) (hi : cs[i]? = some (p, q)) : waveOK L p q = true := by
 simp only [bankOK, Bool.and_eq_true, decide_eq_true_eq, List.all_eq_true] at h
 have h3 := h.1.2 _ (List.mem_of_getElem? hi)
 simp only [chOK, Bool.and_eq_true] at h3
 exact h3.1
def FB (w : World) (db dof dc : Nat) (l : List Frm) : Prop := ∀ (i : Nat) (f : Frm), l[i]? = some f -> f.c = 1 /\ ∃ b, f.a = some ⟨b, 0, none⟩ /\ Blk w b 24 #[.slice (some ⟨db, dof + 16 * i, none⟩) 16 (dc - 16 * i)]
theorem FB.keep {w w' : World} {db dof dc : Nat} {l : List Frm} (h : FB w db dof dc l) (hk : ∀ b cs, Blk w b 24 cs -> Blk w' b 24 cs) : FB w' db dof dc l := fun i f hf => by
 obtain ⟨h1, b, h2, h3⟩ := h i f hf
 exact ⟨h1, b, h2, hk _ _ h3⟩
theorem FB.snoc {w : World} {db dof dc : Nat} {l : List Frm} {k b : Nat} {st : Int} {xss : List (List Int)} (h : FB w db dof dc l) (hl : l.length = k) (hb : Blk w b 24 #[.slice (some ⟨db, dof + 16 * k, none⟩) 16 (dc - 16 * k)]) : FB w db dof dc (l ++ [⟨st, some ⟨b, 0, none⟩, 1, xss⟩]) := fun i f hf => by
 by_cases hi : i < l.length
 · rw [List.getElem?_append_left hi] at hf
   exact h i f hf
 · rw [List.getElem?_append_right (by omega)] at hf
   have h0 : i - l.length = 0 := by
    rcases Nat.eq_zero_or_pos (i - l.length) with h | h
    · exact h
    · rw [List.getElem?_eq_none (by rw [List.length_singleton]; omega)] at hf; cases hf
   obtain rfl : i = k := by omega
   rw [h0] at hf
   obtain rfl := Option.some.inj hf
   exact ⟨rfl, b, rfl, hb⟩
theorem FB.recIn {w : World} {db dof dc n : Nat} {l : List Frm} {ds : List Int} {a : Option Addr} (h : FB w db dof dc l) (hc : Cells w a (frs l)) (hr : l.map frm = recR ds n) (hl : ds.length = 16 * n) (hd : Cells w (some ⟨db, dof, none⟩) (ds.map (Value.int .i64))) (hn : n <= 64) : RecIn w a l := by
 have hlen := recR_length hr
 refine ⟨hc, by omega, fun f hf => ?_⟩
 obtain ⟨i, hi, hfi⟩ := List.mem_iff_getElem.1 hf
 have hg : l[i]? = some f := by rw [List.getElem?_eq_getElem hi, hfi]
 obtain ⟨h1, h2, h3⟩ := recR_at hr hg
 obtain ⟨h4, b, h5, h6⟩ := h i f hg
 have hrl : ((ds.drop (16 * i)).take 16).length = 16 := by rw [List.length_take, List.length_drop]; omega
 refine ⟨by rw [h3]; exact (by decide : (1 : Nat) <= 9223372036854775807), [.slice (some ⟨db, dof + 16 * i, none⟩) 16 (dc - 16 * i)], ?_, ?_⟩
 · rw [h5]
   refine .inr ⟨b, 0, rfl, fun j u hu => ?_⟩
   match j, hu with
   | 0, hu => simp at hu; subst hu; exact Blk.c0 (l := []) h6
 · rw [h3]
   refine ⟨rfl, fun j v xs hv hx => ?_⟩
   match j, hv, hx with
   | 0, hv, hx =>
     simp at hv hx
     subst hv hx
     refine ⟨some ⟨db, dof + 16 * i, none⟩, dc - 16 * i, by rw [hrl], .inr ⟨db, dof + 16 * i, rfl, fun j u hu => ?_⟩, by rw [hrl]; decide⟩
     rw [Nat.add_assoc]
     refine hd.at ?_
     rw [List.map_take, List.map_drop, List.getElem?_take] at hu
     split at hu
     · rw [<- hu, List.getElem?_drop]
     · cases hu
set_option maxRecDepth 1000000 in
set_option maxHeartbeats 8000000 in
theorem recL_good (L wh mo ti B va fl : Int) (al : Option Addr) (cs : List (Int × Int)) (cap : Nat) (na : Option Addr) (ns : List Int) (nc : Nat) (w : World) (ht : Tab w) (hcs : Cells w al (prs cs)) (hl : cs.length <= cap) (hcap : cap <= 9223372036854775807) (hn : Cells w na (ns.map (Value.int .i64))) (hnl : ns.length <= nc) (hnc : nc <= 9223372036854775807) (hnr : ns.length <= 17592186044415) (hnn : na = none -> nc = 0)
 (h0 : ¬ cs.length = 0) (hk : chkB L cs = 0) :
 Calls Tryz.prog 11 #[.agg #[.int .i64 L, .slice al cs.length cap, .int .i64 wh, .int .i64 mo, .int .i64 ti, .slice na ns.length nc, .int .i64 B, .int .i64 va, .int .i64 fl]] w fun e w' => e = .returned (.bool true) /\ Below w.heap.size w w' := by
 obtain ⟨hL, hbk⟩ := chkB_0 hk
 simp only [inB, decide_eq_true_eq] at hL
 have hl64 := bankOK_len hbk
 obtain ⟨ab, ao, rfl⟩ := hcs.addr (prs_ne (by omega))
 obtain ⟨W0, hW0⟩ : ∃ W0, w.alloc (.cells (sigV L (some ⟨ab, ao, none⟩) cs.length cap wh mo ti na ns.length nc B va fl) 101) = W0 := ⟨_, rfl⟩
 have hB0 : Below w.heap.size w W0 := by rw [<- hW0]; exact (Below.refl _ w).alloc (Nat.le_refl _) _
 have hs0 : W0.heap.size = w.heap.size + 1 := by rw [<- hW0]; simp
 have r0 : Blk W0 w.heap.size 101 (sigV L (some ⟨ab, ao, none⟩) cs.length cap wh mo ti na ns.length nc B va fl) := by rw [<- hW0]; exact Blk.new w _ _
 have hck := fun (W : World) (h : Cells W (some ⟨ab, ao, none⟩) (prs cs)) => checkBank_any L cs (some ⟨ab, ao, none⟩) cap W h (by omega) hl hcap
 rw [hk] at hck
 obtain ⟨bm, hbm⟩ : ∃ bm, B % 101 = bm := ⟨_, rfl⟩
 have hbm2 : 0 <= bm /\ bm <= 100 := by omega
 have hmC := fun W => modz_any B 101 W (by omega) (by omega)
 rw [hbm] at hmC
 have hfk : ∀ W, Below w.heap.size w W -> Tab W /\ Cells W (some ⟨ab, ao, none⟩) (prs cs) /\ Cells W na (ns.map (Value.int .i64)) := fun W h => ⟨ht.below h (Nat.le_refl _), hcs.below h (Nat.le_refl _), hn.below h (Nat.le_refl _)⟩
 have HFK := Lib.hid hfk; have HW0 := Lib.hid hW0; have HCK := Lib.hid hck; have HMC := Lib.hid hmC; have HB0 := Lib.hid hB0; have HS0 := Lib.hid hs0; have HR0 := Lib.hid r0; have HBK := Lib.hid hbk; have HK := Lib.hid hk; have HNN := Lib.hid hnn
 have e0 : ((cs.length : Int) == 0) = false := by rw [beq_eq_false_iff_ne]; omega
 have y0 : W0.cell? ⟨w.heap.size, 0, none⟩ = some (.int .i64 L) := r0.cell 0
 have y1 : W0.cell? ⟨w.heap.size, 1, none⟩ = some (.slice (some ⟨ab, ao, none⟩) cs.length cap) := r0.cell 1
 clear hfk hW0 hck hmC hB0 hs0 r0 hbk hk hnn ht hcs hn hbm
 go_enter Tryz.func11, Tryz.ntmps11
 go_wp2_with fail
 rw [show (#[Value.int .i64 L, .slice (some ⟨ab, ao, none⟩) cs.length cap, .int .i64 wh, .int .i64 mo, .int .i64 ti, .slice na ns.length nc, .int .i64 B, .int .i64 va, .int .i64 fl] : Array Value) = sigV L (some ⟨ab, ao, none⟩) cs.length cap wh mo ti na ns.length nc B va fl from rfl, HW0.out]
 refine (HCK.out _ (HFK.out _ HB0.out).2.1).mono ?_
 rintro e w1 ⟨rfl, hb1⟩
 have hb01 := HB0.out.trans (hb1.mono HB0.out.size)
 have r1 := HR0.out.below hb1 (by have := HS0.out; omega)
 have z6 : w1.cell? ⟨w.heap.size, 6, none⟩ = some (.int .i64 B) := r1.cell 6
 have z6f := r1.free 6
 have HB01 := Lib.hid hb01; have HR1 := Lib.hid r1
 clear y0 y1 hb1 hb01 r1 HR0 HB0
 go_wp2_with fail
 refine (HMC.out _).mono ?_
 rintro e w2 ⟨rfl, rfl⟩
 go_wp2_with fail
 have hset := HR1.out.setAt 6 (.int .i64 bm)
 have hset2 : Blk (w1.setCell ⟨w.heap.size, 6, none⟩ (.int .i64 bm)) w.heap.size 101 (sigV L (some ⟨ab, ao, none⟩) cs.length cap wh mo ti na ns.length nc bm va fl) := hset
 have hb2 := HB01.out.setCell (p := ⟨w.heap.size, 6, none⟩) (Nat.le_refl _) (.int .i64 bm)
 generalize w1.setCell ⟨w.heap.size, 6, none⟩ (.int .i64 bm) = W2 at *
 have HSET := Lib.hid hset2; have HB2 := Lib.hid hb2
 clear hset hset2 hb2 z6 z6f HR1 HB01
 obtain ⟨i0, hi, hz0, hz1, hz2⟩ := info_parts Tryz.infoInt
 have HI := Lib.hid hi
 clear hi
 have hpt := padT_ge ns.length L
 obtain ⟨T, hT⟩ : ∃ T, padT ns.length L = T := ⟨_, rfl⟩
 rw [hT] at hpt
 have HPT := Lib.hid hpt
 clear hT hpt
 go_loopw [51] (fun _ wr => ∃ (k N : Nat) (a : Option Addr) (c : Nat), N = ns.length + k /\ Blk wr w.heap.size 101 (sigV L (some ⟨ab, ao, none⟩) cs.length cap wh mo ti a N c bm va fl) /\ Cells wr a ((ns ++ List.replicate k 0).map (Value.int .i64)) /\ (a = none -> c = 0) /\ N <= c /\ c <= 9223372036854775807 /\ N <= T /\ Below w.heap.size w wr) (fun _ wr => T - nzl wr w.heap.size)
 case atStart => exact ⟨0, ns.length, na, nc, rfl, HSET.out, by rw [List.replicate_zero, List.append_nil]; exact (HFK.out _ HB2.out).2.2, HNN.out, hnl, hnc, HPT.out.1, HB2.out⟩
 case round =>
  obtain ⟨k, N, a, c, hN, hblk, hcl, hna, hNc, hc2, hNT, hbe⟩ := hrel
  have z5 : wr.cell? ⟨w.heap.size, 5, none⟩ = some (.slice a N c) := hblk.cell 5
  have z0 : wr.cell? ⟨w.heap.size, 0, none⟩ = some (.int .i64 L) := hblk.cell 0
  have hnz := nzl_of z5
  have z5f := hblk.free 5
  have hsz := hbe.size
  have hbl := hblk.lt
  obtain ⟨pt1, pt2, pt3, pt4⟩ := HPT.out
  have hlen : ((ns ++ List.replicate k 0).map (Value.int .i64)).length = N := by simp [hN]
  have step : (N % 16 ≠ 0 ∨ (N : Int) < L + 16) -> N + 1 <= T := by
   intro h
   rcases h with h | h <;> omega
  have big : (N % 16 ≠ 0 ∨ (N : Int) < L + 16) -> (N + 1) * 8 <= 140737488355328 := by
   intro h
   rcases h with h | h <;> omega
  have HBK2 := Lib.hid hblk; have HCL := Lib.hid hcl; have HBE := Lib.hid hbe; have HLEN := Lib.hid hlen; have HN := Lib.hid hN
  have hnone : a = none -> N = 0 /\ N = 0 := fun h => by have := hna h; omega
  have HNO := Lib.hid hnone; have HSTEP := Lib.hid step; have HBIG := Lib.hid big; have HNZ := Lib.hid hnz
  clear hblk hcl hbe hlen hN hnone hna step big hnz
  by_cases hm : N % 16 = 0
  · have e1 : (N : Int) % 16 = 0 := by omega
    by_cases hlt : (N : Int) < L + 16
    · skip
      --<<
      have hst1 := HSTEP.out (.inr hlt)
      have hbg1 := HBIG.out (.inr hlt)
      clear hm HSTEP HBIG
      go_wp2_with (at_builtin; refine wpList_append_grows _ rfl _ _ 24 rfl 3 i0 (.int .i64 0) 1 8 Tryz.underlying24 HI.out hz0 hz1 hz2 rfl (by decide) a N N ((ns ++ List.replicate k 0).map (Value.int .i64)) rfl HNO.out (by rw [HLEN.out, Nat.mul_one]) (cells_holds (HCL.out.below ((Below.refl _ wr).alloc (Nat.le_refl _) (.cells #[.int .i64 0] 3)) (Nat.le_refl _))) ⟨wr.heap.size, 0, none⟩ 1 1 [.int .i64 0] rfl rfl (World.news_of_block (cs := #[.int .i64 0]) (t := 3) (fr := (0, 0)) (heap_alloc_new wr _)) (by simp [Value.oneCell']) (by omega) (by unfold maxLen; omega) (by omega) ?_; intro v1 wz hown1 hgrow; obtain ⟨ga, gc, rfl, hgc, hgn, hgm⟩ := own_cap hown1; have hbz := (HBK2.out.alloc (.cells #[.int .i64 0] 3)).kept hgrow (by simp); have x0 : wz.cell? ⟨w.heap.size, 5, none⟩ = some (.slice a N c) := hbz.cell 5; have x1 := hbz.free 5; have HBZ := Lib.hid hbz; have HGC := Lib.hid hgc; have HGR := Lib.hid hgrow; have HOWN := Lib.hid hown1; clear hbz hown1 hgrow hgc z5 z5f z0)
      have hset : Blk (wz.setCell ⟨w.heap.size, 5, none⟩ (.slice ga (N + 1) gc)) w.heap.size 101 (sigV L (some ⟨ab, ao, none⟩) cs.length cap wh mo ti ga (N + 1) gc bm va fl) := HBZ.out.setAt 5 (.slice ga (N + 1) gc)
      have hmx : maxLen = 9223372036854775807 := rfl
      rw [<- noise_snoc] at HGC
      have hbz2 := ((HBE.out.alloc hsz (.cells #[.int .i64 0] 3)).grown HGR.out (by simp; omega) (fun j e => by cases e)).setCell (p := ⟨w.heap.size, 5, none⟩) (Nat.le_refl _) (.slice ga (N + 1) gc)
      have hga : ga = none -> gc = 0 := by
       intro h
       rcases HGC.out with hh | ⟨b, o, hh, -⟩
       · exact absurd (congrArg List.length hh) (by simp)
       · rw [h] at hh; cases hh
      obtain ⟨a', c', h1', hcz⟩ := own_cells (own_set3 (p := ⟨w.heap.size, 5, none⟩) (u := .slice ga (N + 1) gc) HOWN.out (fun h => own_ne_blk HOWN.out HBZ.out (by decide) h.symm))
      obtain ⟨rfl, -, rfl⟩ := Value.slice.inj h1'
      rw [<- noise_snoc] at hcz
      have hnz2 := nzl_of (show (wz.setCell ⟨w.heap.size, 5, none⟩ (.slice ga (N + 1) gc)).cell? ⟨w.heap.size, 5, none⟩ = some (.slice ga (N + 1) gc) from hset.cell 5)
      have HSET2 := Lib.hid hset; have HBZ2 := Lib.hid hbz2; have HCZ := Lib.hid hcz; have HNZ2 := Lib.hid hnz2
      clear hset hbz2 hcz hnz2
      go_wp2_with fail
      go_roundw
      case rel => exact ⟨k + 1, N + 1, ga, gc, by have := HN.out; omega, HSET2.out, HCZ.out, hga, hgn, by omega, hst1, HBZ2.out⟩
      case measure => have h5 := HNZ.out; have h6 := HNZ2.out; omega
    · clear HSTEP HBIG HNZ
      have hM16 : N % 16 = 0 := hm
      have hbe := HBE.out
      obtain ⟨hTab, hcs2, -⟩ := HFK.out wr hbe
      by_cases h512 : 512 < N
      · have e2 : (512 : Int) < (N : Int) := by omega
        go_wp2_with fail
        refine (bworks_any wr hTab).mono ?_
        rintro e w3 ⟨rfl, hb3⟩
        have hfin := hbe.trans (hb3.mono hbe.size)
        have HFIN := Lib.hid hfin
        clear hfin hb3
        go_wp2_with fail
        go_ret
        exact ⟨rfl, HFIN.out⟩
      · have e2 : ¬ (512 : Int) < (N : Int) := by omega
        have z1 : wr.cell? ⟨w.heap.size, 1, none⟩ = some (.slice (some ⟨ab, ao, none⟩) cs.length cap) := HBK2.out.cell 1
        have z2 : wr.cell? ⟨w.heap.size, 2, none⟩ = some (.int .i64 wh) := HBK2.out.cell 2
        have z4 : wr.cell? ⟨w.heap.size, 4, none⟩ = some (.int .i64 ti) := HBK2.out.cell 4
        obtain ⟨NS, hNS⟩ : ∃ NS, NS = ns ++ List.replicate k 0 := ⟨_, rfl⟩
        have hlen := HLEN.out
        have hNl : NS.length = N := by rw [hNS, <- hlen, List.length_map]
        have hcl := HCL.out
        rw [<- hNS] at hcl
        have hblk := HBK2.out
        clear HLEN HCL HBK2 hlen HN hNS HPT HNO
        subst hNl
        have hge : L + 16 <= (NS.length : Int) := by omega
        have hM16 : NS.length % 16 = 0 := hm
        have h5 : NS.length <= 512 := by omega
        obtain ⟨wn, hwn⟩ : ∃ wn : Nat, wh % (cs.length : Int) = wn := Int.eq_ofNat_of_zero_le (Int.emod_nonneg _ (by omega))
        have hwn2 : (wn : Int) < cs.length := by rw [<- hwn]; exact Int.emod_lt_of_pos _ (by omega)
        obtain ⟨tn, htn⟩ : ∃ tn : Nat, ti % ((NS.length : Int) - L + 1) = tn := Int.eq_ofNat_of_zero_le (Int.emod_nonneg _ (by omega))
        have htn2 : (tn : Int) < (NS.length : Int) - L + 1 := by rw [<- htn]; exact Int.emod_lt_of_pos _ (by omega)
        obtain ⟨⟨p, q⟩, hpq⟩ := get_of_lt (show wn < cs.length by omega)
        have hwv := rec_wave HBK.out hpq
        have hmA := fun W => modz_any wh cs.length W (by omega) (by omega)
        have hmB := fun W => modz_any ti ((NS.length : Int) - L + 1) W (by omega) (by omega)
        rw [hwn] at hmA
        rw [htn] at hmB
        have hsu := fun W => sure_any L p q bm va fl W
        have hwa := fun W => Wave_any L p q W
        have hwE : wavE L p q = 0 := by simp [wavE, hwv]
        have hwR : wavR L p q = (wav L p q).take L.toNat := by simp [wavR, hwv]
        have hwl : (wavR L p q).length = L.toNat := by rw [wavR_length, if_pos hwv]
        have hwb : ∀ x ∈ wavR L p q, -127 <= x /\ x <= 127 := fun x hx => wav_bd L p q x (List.mem_of_mem_take (by rw [<- hwR]; exact hx))
        rw [hwE] at hwa
        have hST : ∀ v x, SurT L p q bm va fl v x -> x = 0 -> 0 <= v := fun v x h hx => by
         unfold SurT at h
         split at h
         · omega
         · split at h
           · omega
           · split at h
             · omega
             · rcases h with ⟨_, h6, _⟩ | ⟨_, h6, _⟩ <;> omega
        have hhit := fun v (h1 : SurT L p q bm va fl v 0) h2 => rec_hits (L := L) (cs := cs) (ns := NS) (va := va) (fl := fl) (B := bm) (v := v) (wn := wn) (tn := tn) hpq HK.out h1 hbm2 h2 h5 (by omega)
        rw [<- hwR] at hhit
        have hCC : ∀ wx, Below wr.heap.size wr wx -> (wx.cell? ⟨w.heap.size, 0, none⟩ = some (.int .i64 L) /\ wx.cell? ⟨w.heap.size, 1, none⟩ = some (.slice (some ⟨ab, ao, none⟩) cs.length cap) /\ wx.cell? ⟨w.heap.size, 2, none⟩ = some (.int .i64 wh) /\ wx.cell? ⟨w.heap.size, 3, none⟩ = some (.int .i64 mo) /\ wx.cell? ⟨w.heap.size, 4, none⟩ = some (.int .i64 ti) /\ wx.cell? ⟨w.heap.size, 5, none⟩ = some (.slice a NS.length c) /\ wx.cell? ⟨w.heap.size, 6, none⟩ = some (.int .i64 bm) /\ wx.cell? ⟨w.heap.size, 7, none⟩ = some (.int .i64 va) /\ wx.cell? ⟨w.heap.size, 8, none⟩ = some (.int .i64 fl)) /\ (wx.cell? ⟨ab, ao + wn * 2, none⟩ = some (.int .i64 p) /\ wx.cell? ⟨ab, ao + wn * 2 + 1, none⟩ = some (.int .i64 q)) /\ Tab wx /\ Cells wx (some ⟨ab, ao, none⟩) (prs cs) /\ Cells wx a (NS.map (Value.int .i64)) /\ Below w.heap.size w wx := fun wx h => by
         have hb := hblk.below h hblk.lt
         have hbw := hbe.trans (h.mono hbe.size)
         obtain ⟨q1, q2, -⟩ := HFK.out wx hbw
         exact ⟨⟨hb.cell 0, hb.cell 1, hb.cell 2, hb.cell 3, hb.cell 4, hb.cell 5, hb.cell 6, hb.cell 7, hb.cell 8⟩, ⟨q2.at (prs_fst hpq), by rw [Nat.add_assoc]; exact q2.at (prs_snd hpq)⟩, q1, q2, hcl.below h (Nat.le_refl _), hbw⟩
        have HBLK := Lib.hid hblk; have HCC := Lib.hid hCC; have HMA := Lib.hid hmA; have HMB := Lib.hid hmB; have HSU := Lib.hid hsu; have HWA := Lib.hid hwa; have HST := Lib.hid hST; have HHI := Lib.hid hhit; have HWL := Lib.hid hwl; have HWB := Lib.hid hwb
        clear hCC hmA hmB hsu hwa hST hhit hwl hwb hwE hwR hwv hpq hwn htn hblk hcl hbe hcs2 hTab z0 z1 z2 z4 z5 z5f HBE
        generalize wavR L p q = hs at *
        obtain ⟨⟨z0, z1, z2, z3, z4, z5, z6, z7, z8⟩, ⟨x0, x1⟩, -, -, -, -⟩ := HCC.out wr (Below.refl _ _)
        have wi1 : (0 : Int) <= wn := by omega
        go_wp2_with (first
         | (go_at_call 13; with_reducible refine Calls.mono (HMA.out _) ?_; rintro e w9 ⟨rfl, rfl⟩)
         | (go_at_call 13; with_reducible refine Calls.mono (HMB.out _) ?_; rintro e w9 ⟨rfl, rfl⟩))
        refine wp_region_held_drew (S := (fun w' => w'.cell? ⟨w.heap.size, 0, none⟩ = some (.int .i64 L) /\ w'.cell? ⟨w.heap.size, 1, none⟩ = some (.slice (some ⟨ab, ao, none⟩) cs.length cap) /\ w'.cell? ⟨w.heap.size, 6, none⟩ = some (.int .i64 bm) /\ w'.cell? ⟨w.heap.size, 7, none⟩ = some (.int .i64 va) /\ w'.cell? ⟨w.heap.size, 8, none⟩ = some (.int .i64 fl) /\ w'.cell? ⟨ab, ao + wn * 2, none⟩ = some (.int .i64 p) /\ w'.cell? ⟨ab, ao + wn * 2 + 1, none⟩ = some (.int .i64 q))) (by kernel_rfl) ⟨z0, z1, z6, z7, z8, x0, x1⟩ (fun h9 => ?_)
        refine tkV 0 (.pointer (some ⟨w.heap.size, 0, none⟩)) h9 ?_
        refine tkV 1 (.int .i64 L) h9 ?_
        refine tkV 2 (.pointer (some ⟨w.heap.size, 1, none⟩)) h9 ?_
        refine tkV 3 (.slice (some ⟨ab, ao, none⟩) cs.length cap) h9 ?_
        refine tkV 4 (.int .i64 wn) h9 ?_
        refine tkV 5 (.pointer (some ⟨ab, ao + wn * 2, none⟩)) h9 ?_
        refine tkV 6 (.agg #[.int .i64 p, .int .i64 q]) h9 ?_ (hy := by intro w9 h; exact exec_load_arr 23 _ rfl ⟨ab, ao + wn * 2, none⟩ rfl #[.int .i64 p, .int .i64 q] _ (rec_two h.2.2.2.2.2.1 h.2.2.2.2.2.2) Tryz.underlying23 (by rfl) (by kernel_rfl))
        refine tkV 7 (.pointer (some ⟨w.heap.size, 6, none⟩)) h9 ?_
        refine tkV 8 (.int .i64 bm) h9 ?_
        refine tkV 9 (.pointer (some ⟨w.heap.size, 7, none⟩)) h9 ?_
        refine tkV 10 (.int .i64 va) h9 ?_
        refine tkV 11 (.pointer (some ⟨w.heap.size, 8, none⟩)) h9 ?_
        refine tkV 12 (.int .i64 fl) h9 ?_
        refine tkC 13 (fun K hK => ?_)
        go_simp
        refine (HSU.out _).mono ?_
        rintro e w2 ⟨⟨v, x, rfl, hst⟩, hb2⟩
        have hb02 : Below wr.heap.size wr w2 := (Below.refl wr.heap.size wr).drew.trans hb2
        obtain ⟨⟨u0, u1, u2, u3, u4, u5, u6, u7, u8⟩, ⟨r0, r1⟩, -, -, -, -⟩ := HCC.out w2 hb02
        have HSTT := Lib.hid hst; have HB02 := Lib.hid hb02
        clear hst hb02 hb2
        refine hK.out _ _ ⟨u0, u1, u6, u7, u8, r0, r1⟩ (fun hA => ?_)
        clear hK K
        try simp only [Act.put, List.setIfInBounds_toArray, List.set_cons_zero, List.set_cons_succ]
        refine tkV 14 (.tuple #[.int .i64 v, .int .i64 x]) hA ?_
        refine tkV 15 (.int .i64 v) hA ?_
        refine tkV 16 (.int .i64 x) hA ?_
        refine tkV 17 (.int .i64 v) hA ?_
        refine tkV 18 (.int .i64 x) hA ?_
        refine wpAnyH_done (by kernel_rfl) ?_ _
        clear hA h9 z0 z1 z2 z3 z4 z5 z6 z7 z8 x0 x1
        go_wp2_with fail
        refine wp_region_held_drew (S := (fun w' => w'.cell? ⟨w.heap.size, 0, none⟩ = some (.int .i64 L) /\ w'.cell? ⟨w.heap.size, 1, none⟩ = some (.slice (some ⟨ab, ao, none⟩) cs.length cap) /\ w'.cell? ⟨ab, ao + wn * 2, none⟩ = some (.int .i64 p) /\ w'.cell? ⟨ab, ao + wn * 2 + 1, none⟩ = some (.int .i64 q))) (by kernel_rfl) ⟨u0, u1, r0, r1⟩ (fun h9 => ?_)
        refine tkV 0 (.pointer (some ⟨w.heap.size, 0, none⟩)) h9 ?_
        refine tkV 1 (.int .i64 L) h9 ?_
        refine tkV 2 (.pointer (some ⟨w.heap.size, 1, none⟩)) h9 ?_
        refine tkV 3 (.slice (some ⟨ab, ao, none⟩) cs.length cap) h9 ?_
        refine tkV 4 (.int .i64 wn) h9 ?_
        refine tkV 5 (.pointer (some ⟨ab, ao + wn * 2, none⟩)) h9 ?_
        refine tkV 6 (.agg #[.int .i64 p, .int .i64 q]) h9 ?_ (hy := by intro w9 h; exact exec_load_arr 23 _ rfl ⟨ab, ao + wn * 2, none⟩ rfl #[.int .i64 p, .int .i64 q] _ (rec_two h.2.2.1 h.2.2.2) Tryz.underlying23 (by rfl) (by kernel_rfl))
        refine tkC 7 (fun K hK => ?_)
        go_simp
        refine (HWA.out _).mono ?_
        rintro e w3 ⟨⟨hb, hc, rfl, hcs3⟩, hb3⟩
        have hb03 : Below wr.heap.size wr w3 := HB02.out.drew.trans (hb3.mono HB02.out.drew.size)
        obtain ⟨⟨z0, z1, z2, z3, z4, z5, z6, z7, z8⟩, ⟨x0, x1⟩, -, -, -, -⟩ := HCC.out w3 hb03
        have HCS3 := Lib.hid hcs3; have HB03 := Lib.hid hb03
        clear hcs3 hb03 hb3
        refine hK.out _ _ ⟨z0, z1, x0, x1⟩ (fun hA => ?_)
        clear hK K
        try simp only [Act.put, List.setIfInBounds_toArray, List.set_cons_zero, List.set_cons_succ]
        refine tkV 8 (.tuple #[.slice hb hs.length hc, .int .i64 0]) hA ?_
        refine tkV 9 (.slice hb hs.length hc) hA ?_
        refine tkV 10 (.int .i64 0) hA ?_
        refine tkV 11 (.slice hb hs.length hc) hA ?_
        refine tkV 12 (.int .i64 0) hA ?_
        refine wpAnyH_done (by kernel_rfl) ?_ _
        clear hA h9 u0 u1 u2 u3 u4 u5 u6 u7 u8 r0 r1 x0 x1 HSU HWA HMA HMB
        by_cases hxv : x = 0 /\ v <= 250
        · obtain ⟨rfl, hv⟩ := hxv
          have hv0 := HST.out v 0 HSTT.out rfl
          have k1 : ¬ (250 : Int) < v := by omega
          obtain ⟨hE, hany⟩ := HHI.out v HSTT.out ⟨hv0, hv⟩
          have hrow3 : w3.heap[w.heap.size]? = some (.cells (sigV L (some ⟨ab, ao, none⟩) cs.length cap wh mo ti a NS.length c bm va fl) 101 (0, 0)) := HBLK.out.below HB03.out hbl
          have hn3 := (HCC.out w3 HB03.out).2.2.2.2.1
          have hbu := buriedC_any L wh mo ti bm va fl v (some ⟨ab, ao, none⟩) cs.length cap a NS c hb hs hc tn w3 hn3 h5 HCS3.out (by rw [HWL.out]; omega) (by omega) (by omega) hv0 (by omega) HWB.out (by omega)
          have HBU := Lib.hid hbu; have HROW3 := Lib.hid hrow3
          have hi1 : (Tryz.prog.info? 101).map (·.size) = some (sigV L (some ⟨ab, ao, none⟩) cs.length cap wh mo ti a NS.length c bm va fl).size := by kernel_rfl
          have HI1 := Lib.hid hi1
          clear hbu hrow3 hn3 hi1
          go_wp2_with (refine wpList_load_row (by rfl) 101 _ (by rfl) w.heap.size (by rfl) _ _ _ _ HROW3.out Tryz.underlying101 (by rfl) HI1.out ?_)
          refine HBU.out.mono ?_
          rintro e w4 ⟨⟨da, dc, rfl, hcs4, hdl, hd2⟩, hb4⟩
          have hb04 : Below wr.heap.size wr w4 := HB03.out.trans (hb4.mono HB03.out.size)
          have hdn := burN_len NS hs bm v tn NS.length
          obtain ⟨DS, hDS⟩ : ∃ DS, DS = burN NS hs bm v tn NS.length := ⟨_, rfl⟩
          have hdb := burN_bd (ns := NS) (hs := hs) (B := bm) (A := v) tn NS.length hbm2 ⟨hv0, hv⟩ HWB.out
          rw [<- hDS] at hE hany hcs4 hdn hdb
          obtain ⟨n16, hn16⟩ : ∃ n16, NS.length = 16 * n16 := ⟨NS.length / 16, by omega⟩
          rw [hn16] at hdn hdl
          have hn1 : n16 <= 32 := by omega
          have hn2 : 1 <= n16 := by omega
          obtain ⟨db, dof, rfl⟩ := hcs4.addr (by intro h; rw [List.map_eq_nil_iff] at h; rw [h, List.length_nil] at hdn; omega)
          have HCS4 := Lib.hid hcs4; have HB04 := Lib.hid hb04; have HDN := Lib.hid hdn; have HDB := Lib.hid hdb; have HE := Lib.hid hE; have HANY := Lib.hid hany
          clear hcs4 hb04 hb4 hdn hdb hE hany hDS HBU HROW3 HI1 z0 z1 z2 z3 z4 z5 z6 z7 z8
          obtain ⟨f0, hf, hy0, hy1, hy2⟩ := info_parts Tryz.infoFrame
          have HF0 := Lib.hid hf; clear hf
          rw [hn16]
          have HN16 := Lib.hid hn16; clear hn16
          go_wp2_with fail
          obtain ⟨w5, hw5⟩ : ∃ w5, w4.alloc (.cells #[.string ⟨#[115, 116, 114, 97, 105, 110]⟩, .int .i64 16, .int .i64 16] 104) = w5 := ⟨_, rfl⟩
          rw [hw5]
          have hb05 : Below wr.heap.size wr w5 := by rw [<- hw5]; exact HB04.out.alloc HB04.out.size _
          have hd5 : Cells w5 (some ⟨db, dof, none⟩) (DS.map (Value.int .i64)) := by rw [<- hw5]; exact HCS4.out.below ((Below.refl _ _).alloc (Nat.le_refl _) _) (Nat.le_refl _)
          have hk5 : BookIn w5 (some ⟨w4.heap.size, 0, none⟩) strB 1 := by
           refine ⟨?_, by decide, by decide, by decide, by decide +kernel, by decide +kernel⟩
           rw [<- hw5]
           exact .inr ⟨w4.heap.size, 0, rfl, fun j u hu => by
            have h := World.news_of_block (cs := #[.string ⟨#[115, 116, 114, 97, 105, 110]⟩, .int .i64 16, .int .i64 16]) (t := 104) (fr := (0, 0)) (heap_alloc_new w4 _) j u hu
            rwa [Addr.add_lit] at h⟩
          have HB05 := Lib.hid hb05; have HD5 := Lib.hid hd5; have HK5 := Lib.hid hk5
          clear hw5 hb05 hd5 hk5 HCS4 HB04
          go_loopw [11, 12] (fun f i wq => ∃ (k : Nat) (l : List Frm), k <= n16 /\ i = .int .i64 (16 * (k : Int)) /\ wq.ownsRow w5.heap.size 108 2 f k (frs l) /\ l.map frm = recR DS k /\ FB wq db dof dc l /\ Below w5.heap.size w5 wq) (fun _ i _ => 16 * n16 - (intOf i).toNat)
          case atStart => exact ⟨0, [], Nat.zero_le _, rfl, World.ownsRow_nil _ _ _ _, rfl, fun i f h => by simp at h, Below.refl _ _⟩
          case round =>
           obtain ⟨k5, l5, hk, rfl, hown, hrec, hfb, hbe⟩ := hrel
           by_cases hlt : k5 < n16
           · have e3 : (16 * (k5 : Int)) / 16 = k5 := by omega
             have hz5 := hbe.size
             have hnc5 : ¬ dc = 16 * k5 := by omega
             have HOWN := Lib.hid hown; have HREC := Lib.hid hrec; have HFB := Lib.hid hfb; have HBE5 := Lib.hid hbe
             clear hown hrec hfb hbe
             go_wp2_with (at_builtin; refine wpList_append_own _ rfl _ _ 106 rfl w5.heap.size 108 f0 (.agg #[.int .i64 0, .slice none 0 0]) 2 32 Tryz.underlying106 HF0.out hy0 hy1 hy2 rfl (by decide) _ _ _ rfl ((HOWN.out.alloc _).alloc _) ⟨wr.heap.size + 1, 0, none⟩ 1 1 [.int .i64 (1000 + k5), .slice (some ⟨wr.heap.size, 0, none⟩) 1 1] rfl rfl (World.news_of_block (cs := #[.int .i64 (1000 + k5), .slice (some ⟨wr.heap.size, 0, none⟩) 1 1]) (t := 108) (fr := (0, 0)) (heap_alloc2_new wr _ _)) (by simp [Value.oneCell']) (by unfold maxLen; omega) (by omega) (by simp; omega) ?_; intro v1 wz hown1 hgrow _; have HO1 := Lib.hid hown1; have HG1 := Lib.hid hgrow; clear hown1 hgrow)
             go_roundw
             case rel =>
              refine ⟨k5 + 1, l5 ++ [⟨1000 + (k5 : Int), some ⟨wr.heap.size, 0, none⟩, 1, [(DS.drop (16 * k5)).take 16]⟩], by omega, by go_num, ?_, ?_, ?_, ?_⟩
              · rw [frs_snoc]; exact HO1.out
              · rw [List.map_append, HREC.out, recR_snoc]; rfl
              · exact FB.keep (FB.snoc (FB.keep HFB.out (fun b cs h => (h.alloc _).alloc _)) (recR_length HREC.out) ((Blk.new wr _ _).alloc _)) (fun b cs h => h.kept HG1.out (own_ne_blk ((HOWN.out.alloc _).alloc _) h (by decide)))
              · exact ((HBE5.out.alloc hz5 _).alloc (by simp; omega) _).grown HG1.out (by simp; omega) (fun j e => (HOWN.out.lt j e).1)
             case measure => simp [intOf]; omega
           · obtain rfl : k5 = n16 := by omega
             obtain ⟨fa, fc, rfl, hcf, hfn, hfm⟩ := own_cap hown
             have hd6 := HD5.out.below hbe (Nat.le_refl _)
             have hk6 := HK5.out.below hbe (Nat.le_refl _)
             have hrin := hfb.recIn hcf hrec HDN.out hd6 (by omega)
             have hok := rec_ok hrec (by omega) HDN.out HDB.out
             have hpk := pack_any (some ⟨w4.heap.size, 0, none⟩) strB 1 fa l5 fc wr hk6 hrin
             rw [hok, recR_length hrec, show strB.length = 1 from rfl] at hpk
             obtain ⟨hs1, hs2, hs3⟩ := rec_sal hok
             rw [hrec] at hs1
             have hp1 := rec_plen hok
             have hp2 := packRes_lt strB l5
             have hb06 := HB05.out.trans (hbe.mono HB05.out.size)
             generalize packRes strB l5 = PK at *
             have HPK := Lib.hid hpk; have HD6 := Lib.hid hd6; have HK6 := Lib.hid hk6; have HB06 := Lib.hid hb06; have HS1 := Lib.hid hs1; have HS2 := Lib.hid hs2; have HS3 := Lib.hid hs3; have HP2 := Lib.hid hp2
             clear hpk hd6 hk6 hb06 hs1 hs2 hs3 hp2 hrin hok hcf hown hrec hfb hbe
             go_wp2_with fail
             refine HPK.out.mono ?_
             rintro e w7 ⟨⟨pv, rfl, hown7⟩, hb7⟩
             obtain ⟨pa, pc, rfl, hpc, hpn, hpm⟩ := own_cap hown7
             have hmx : maxLen = 9223372036854775807 := rfl
             have hk7 := HK6.out.below hb7 (Nat.le_refl _)
             have hsv := salvage_any (some ⟨w4.heap.size, 0, none⟩) strB 1 pa PK pc w7 hk7 ⟨hpc, HP2.out, by omega, hpn, by omega⟩
             simp only [SalRes, HS3.out, HS1.out, HS2.out, if_true, show strB.length = 1 from rfl, List.length_nil] at hsv
             have hb07 := HB06.out.trans (hb7.mono HB06.out.size)
             have hd7 := HD6.out.below hb7 (Nat.le_refl _)
             have HSV := Lib.hid hsv; have HK7 := Lib.hid hk7; have HB07 := Lib.hid hb07; have HD7 := Lib.hid hd7
             clear hsv hk7 hb07 hd7 hown7 hpc hb7 HK6 HB06 HD6 HPK
             go_wp2_with fail
             refine HSV.out.mono ?_
             rintro e w8 ⟨⟨sv, vl, fs, rfl, hfm8, hfo8, hlo8⟩, hb8⟩
             obtain ⟨ga, gc, rfl, hri8⟩ := hfo8.recIn
             obtain ⟨oa, oc, rfl, -, -, -⟩ := own_cap hlo8
             have hk8 := HK7.out.below hb8 (Nat.le_refl _)
             have hd8 := HD7.out.below hb8 (Nat.le_refl _)
             have hb08 := HB07.out.trans (hb8.mono HB07.out.size)
             obtain ⟨hse, hsr⟩ := rec_series hfm8 (by omega) HDN.out HDB.out
             have hse2 := series_any (some ⟨w4.heap.size, 0, none⟩) strB 1 ga fs gc ⟨#[115, 116, 114, 97, 105, 110]⟩ 1000 (1000 + k5) w8 hk8 hri8
             rw [hse, hsr, recR_length hfm8, show strB.length = 1 from rfl, HDN.out] at hse2
             rw [recR_length hfm8]
             have HSE := Lib.hid hse2; have HD8 := Lib.hid hd8; have HB08 := Lib.hid hb08
             clear hfm8 hfo8 hlo8 hri8 hk8 hd8 hb08 hb8 hse hsr hse2 HSV HK7 HD7 HB07
             go_wp2_with fail
             refine HSE.out.mono ?_
             rintro e w9 ⟨⟨rv, rfl, hown9⟩, hb9⟩
             obtain ⟨ra, rc, rfl, hrc9, -, -⟩ := own_cap hown9
             have hd9 := HD8.out.below hb9 (Nat.le_refl _)
             have hb09 := HB08.out.trans (hb9.mono HB08.out.size)
             have hsi := sameInts_any ra (some ⟨db, dof, none⟩) DS DS rc dc w9 hrc9 hd9 (by rw [HDN.out]; omega) (by rw [HDN.out]; omega)
             rw [HDN.out, decide_eq_true rfl] at hsi
             have HSI := Lib.hid hsi; have HRC9 := Lib.hid hrc9; have HB09 := Lib.hid hb09
             clear hown9 hd9 hb09 hb9 hsi hrc9 HD8 HB08 HSE
             go_wp2_with fail
             refine HSI.out.mono ?_
             rintro e wa ⟨rfl, hba⟩
             have hrca := HRC9.out.below hba (Nat.le_refl _)
             have hb0a := HB09.out.trans (hba.mono HB09.out.size)
             obtain ⟨⟨z0, z1, -, -, -, -, -, z7, z8⟩, -, hTa, hCa, -, hWa⟩ := HCC.out wa hb0a
             have hhi := Hits_any L cs (some ⟨ab, ao, none⟩) cap DS ra rc va fl wa hCa (by omega) hl hcap hrca (by rw [HDN.out]; omega)
             rw [HE.out, HDN.out] at hhi
             have hme := HANY.out
             have hlh := hitR_len L cs DS va fl
             generalize hitR L cs DS va fl = lh at *
             have HHT := Lib.hid hhi; have HB0A := Lib.hid hb0a; have HME := Lib.hid hme
             clear hhi hb0a hme hrca hba HRC9 HB09 HSI hTa hCa hWa
             go_wp2_with fail
             refine HHT.out.mono ?_
             rintro e wb ⟨⟨hv9, rfl, hrowb⟩, hbb⟩
             have hb0b := HB0A.out.trans (hbb.mono HB0A.out.size)
             obtain ⟨la, lc, rfl, hlc⟩ := hrowb.cells
             have HLCB := Lib.hid hlc; have HB0B := Lib.hid hb0b
             clear hrowb hlc hb0b hbb z0 z1 z7 z8 HHT HB0A
             go_wp2_with fail
             go_loopw [19, 20] (fun b i wr => ∃ k : Nat, k <= lh.length /\ i = .int .i64 k /\ b = .bool ((lh.take k).any (atB tn wn)) /\ wr = wb) (fun _ i _ => lh.length - (intOf i).toNat)
             case atStart => exact ⟨0, Nat.zero_le _, rfl, rfl, rfl⟩
             case round =>
              obtain ⟨k, hk, rfl, rfl, rfl⟩ := hrel
              by_cases hlt : k < lh.length
              · obtain ⟨y, hy⟩ := get_of_lt hlt
                obtain ⟨q0, q1, -⟩ := hts_at hy
                have hst : (lh.take (k + 1)).any (atB tn wn) = ((lh.take k).any (atB tn wn) || (decide (y.1.1 = tn) && decide (y.1.2.1 = wn))) := by
                 rw [List.take_succ_eq_append_getElem hlt, List.any_append, show lh[k] = y from (List.getElem?_eq_some_iff.1 hy).2]
                 simp [atB]
                obtain ⟨lb, lo, rfl⟩ := HLCB.out.addr (by intro h; rw [h] at q0; simp at q0)
                have d0 := HLCB.out.at q0
                have d1 := HLCB.out.at q1
                rw [<- Nat.add_assoc] at d1
                generalize y.1.1 = a0 at *
                generalize y.1.2.1 = a1 at *
                have k1 : (k : Int) < lh.length := by omega
                have k2 : (0 : Int) <= k := by omega
                have HS := Lib.hid hst
                clear hst q0 q1 hy
                cases hb1 : (lh.take k).any (atB tn wn) with
                | true =>
                  rw [hb1] at HS
                  go_wp2
                  go_roundw
                  case rel => exact ⟨k + 1, by omega, by go_num, by rw [HS.out]; rfl, by first | rfl | trivial⟩
                  case measure => simp [intOf]; omega
                | false =>
                  rw [hb1] at HS
                  by_cases hq0 : a0 = tn
                  · have t0 : (a0 == (tn : Int)) = true := by rw [beq_iff_eq]; exact hq0
                    by_cases hq1 : a1 = wn
                    · have t1 : (a1 == (wn : Int)) = true := by rw [beq_iff_eq]; exact hq1
                      rw [decide_eq_true hq0, decide_eq_true hq1] at HS
                      clear hq0 hq1
                      go_wp2
                      go_roundw
                      case rel => exact ⟨k + 1, by omega, by go_num, by rw [HS.out]; rfl, by first | rfl | trivial⟩
                      case measure => simp [intOf]; omega
                    · have t1 : (a1 == (wn : Int)) = false := by rw [beq_eq_false_iff_ne]; exact hq1
                      rw [decide_eq_true hq0, decide_eq_false hq1] at HS
                      clear hq0 hq1
                      go_wp2
                      go_roundw
                      case rel => exact ⟨k + 1, by omega, by go_num, by rw [HS.out]; rfl, by first | rfl | trivial⟩
                      case measure => simp [intOf]; omega
                  · have t0 : (a0 == (tn : Int)) = false := by rw [beq_eq_false_iff_ne]; exact hq0
                    rw [decide_eq_false hq0, Bool.false_and] at HS
                    clear hq0
                    go_wp2
                    go_roundw
                    case rel => exact ⟨k + 1, by omega, by go_num, by rw [HS.out]; rfl, by first | rfl | trivial⟩
                    case measure => simp [intOf]; omega
              · obtain rfl : k = lh.length := by omega
                rw [List.take_length, HME.out]
                obtain ⟨-, -, hTb, -, -, hWb⟩ := HCC.out _ HB0B.out
                have hwk := bworks_any _ hTb
                have HWK := Lib.hid hwk; have HWB2 := Lib.hid hWb
                clear hwk hTb hWb
                go_wp2_with fail
                refine HWK.out.mono ?_
                rintro e wc ⟨rfl, hbc⟩
                have hfin := HWB2.out.trans (hbc.mono HWB2.out.size)
                have HFIN := Lib.hid hfin
                clear hfin hbc
                go_wp2_with fail
                go_ret
                exact ⟨rfl, HFIN.out⟩
        · skip
          --<<
          have hf : ((x != 0) = true) ∨ ((x != 0) = false /\ (250 : Int) < v) := by
           by_cases h : x = 0
           · exact .inr ⟨by rw [h]; rfl, by omega⟩
           · exact .inl (by simpa using h)
          have hT3 := (HCC.out w3 HB03.out).2.2.1
          have hW3 := (HCC.out w3 HB03.out).2.2.2.2.2
          rcases hf with h1 | ⟨h1, h2⟩
          · go_wp2_with fail
            refine (bworks_any _ hT3).mono ?_
            rintro e w4 ⟨rfl, hb4⟩
            have HF := Lib.hid (hW3.trans (hb4.mono hW3.size))
            clear hb4
            go_wp2_with fail
            go_ret
            exact ⟨rfl, HF.out⟩
          · go_wp2_with fail
            refine (bworks_any _ hT3).mono ?_
            rintro e w4 ⟨rfl, hb4⟩
            have HF := Lib.hid (hW3.trans (hb4.mono hW3.size))
            clear hb4
            go_wp2_with fail
            go_ret
            exact ⟨rfl, HF.out⟩
  · skip
    --<<
    have e1 : ¬ (N : Int) % 16 = 0 := by omega
    have hst1 := HSTEP.out (.inl hm)
    have hbg1 := HBIG.out (.inl hm)
    clear hm HSTEP HBIG
    go_wp2_with (at_builtin; refine wpList_append_grows _ rfl _ _ 24 rfl 3 i0 (.int .i64 0) 1 8 Tryz.underlying24 HI.out hz0 hz1 hz2 rfl (by decide) a N N ((ns ++ List.replicate k 0).map (Value.int .i64)) rfl HNO.out (by rw [HLEN.out, Nat.mul_one]) (cells_holds (HCL.out.below ((Below.refl _ wr).alloc (Nat.le_refl _) (.cells #[.int .i64 0] 3)) (Nat.le_refl _))) ⟨wr.heap.size, 0, none⟩ 1 1 [.int .i64 0] rfl rfl (World.news_of_block (cs := #[.int .i64 0]) (t := 3) (fr := (0, 0)) (heap_alloc_new wr _)) (by simp [Value.oneCell']) (by omega) (by unfold maxLen; omega) (by omega) ?_; intro v1 wz hown1 hgrow; obtain ⟨ga, gc, rfl, hgc, hgn, hgm⟩ := own_cap hown1; have hbz := (HBK2.out.alloc (.cells #[.int .i64 0] 3)).kept hgrow (by simp); have x0 : wz.cell? ⟨w.heap.size, 5, none⟩ = some (.slice a N c) := hbz.cell 5; have x1 := hbz.free 5; have HBZ := Lib.hid hbz; have HGC := Lib.hid hgc; have HGR := Lib.hid hgrow; have HOWN := Lib.hid hown1; clear hbz hown1 hgrow hgc z5 z5f z0)
    have hset : Blk (wz.setCell ⟨w.heap.size, 5, none⟩ (.slice ga (N + 1) gc)) w.heap.size 101 (sigV L (some ⟨ab, ao, none⟩) cs.length cap wh mo ti ga (N + 1) gc bm va fl) := HBZ.out.setAt 5 (.slice ga (N + 1) gc)
    have hmx : maxLen = 9223372036854775807 := rfl
    rw [<- noise_snoc] at HGC
    have hbz2 := ((HBE.out.alloc hsz (.cells #[.int .i64 0] 3)).grown HGR.out (by simp; omega) (fun j e => by cases e)).setCell (p := ⟨w.heap.size, 5, none⟩) (Nat.le_refl _) (.slice ga (N + 1) gc)
    have hga : ga = none -> gc = 0 := by
     intro h
     rcases HGC.out with hh | ⟨b, o, hh, -⟩
     · exact absurd (congrArg List.length hh) (by simp)
     · rw [h] at hh; cases hh
    obtain ⟨a', c', h1', hcz⟩ := own_cells (own_set3 (p := ⟨w.heap.size, 5, none⟩) (u := .slice ga (N + 1) gc) HOWN.out (fun h => own_ne_blk HOWN.out HBZ.out (by decide) h.symm))
    obtain ⟨rfl, -, rfl⟩ := Value.slice.inj h1'
    rw [<- noise_snoc] at hcz
    have hnz2 := nzl_of (show (wz.setCell ⟨w.heap.size, 5, none⟩ (.slice ga (N + 1) gc)).cell? ⟨w.heap.size, 5, none⟩ = some (.slice ga (N + 1) gc) from hset.cell 5)
    have HSET2 := Lib.hid hset; have HBZ2 := Lib.hid hbz2; have HCZ := Lib.hid hcz; have HNZ2 := Lib.hid hnz2
    clear hset hbz2 hcz hnz2
    go_wp2_with fail
    go_roundw
    case rel => exact ⟨k + 1, N + 1, ga, gc, by have := HN.out; omega, HSET2.out, HCZ.out, hga, hgn, by omega, hst1, HBZ2.out⟩
    case measure => have h5 := HNZ.out; have h6 := HNZ2.out; omega
end Go.Proofs.YtdpjdifoonfcdaaGreatDoor

namespace Go.Proofs.YtdpjdifoonfcdaaGreatDoor
open Go.RowKit
set_option maxRecDepth 100000 in
set_option maxHeartbeats 4000000 in
theorem recL_bad (L wh mo ti B va fl : Int) (al : Option Addr) (cs : List (Int × Int)) (cap : Nat) (na : Option Addr) (ns : List Int) (nc : Nat) (w : World) (ht : Tab w) (hcs : Cells w al (prs cs)) (hl : cs.length <= cap) (hcap : cap <= 9223372036854775807) (hn : Cells w na (ns.map (Value.int .i64)))
 (h : cs.length = 0 ∨ (¬ cs.length = 0 /\ chkB L cs ≠ 0)) :
 Calls Tryz.prog 11 #[.agg #[.int .i64 L, .slice al cs.length cap, .int .i64 wh, .int .i64 mo, .int .i64 ti, .slice na ns.length nc, .int .i64 B, .int .i64 va, .int .i64 fl]] w fun e w' => e = .returned (.bool true) /\ Below w.heap.size w w' := by
 obtain ⟨W0, hW0, hFK⟩ := sig_box L wh mo ti B va fl al cs cap na ns nc w ht hcs hn
 have hck := fun (W : World) (h : Cells W al (prs cs)) => checkBank_any L cs al cap W h (by omega) hl hcap
 obtain ⟨⟨y0, y1, y2, y3, y4, y5, y6, y7, y8⟩, -, -, -, -, -⟩ := hFK W0 (Below.refl _ _)
 have hwk := fun (W : World) (h : Below W0.heap.size W0 W) => bworks_any W (hFK W h).2.2.1
 have HFK := Lib.hid hFK; have HCK := Lib.hid hck; have HWK := Lib.hid hwk; have HW0 := Lib.hid hW0
 clear hFK hck hwk hW0 ht hcs hn
 obtain ⟨E, hE⟩ : ∃ E, E = chkB L cs := ⟨_, rfl⟩
 rw [<- hE] at h HCK
 clear hE
 rcases h with h1 | ⟨h1, h2⟩
 · have e1 : (cs.length : Int) = 0 := by omega
   have e3 : ((cs.length : Int) == 0) = true := by rw [beq_iff_eq]; exact e1
   rw [h1] at HW0
   go_enter Tryz.func11, Tryz.ntmps11
   go_wp2_with fail
   rw [HW0.out]
   refine (HWK.out _ (Below.refl _ _)).mono ?_
   rintro e w1 ⟨rfl, hb1⟩
   go_wp2_with fail
   go_ret
   exact ⟨rfl, (HFK.out w1 hb1).2.2.2.2.2⟩
 · have e1 : ¬ (cs.length : Int) = 0 := by omega
   have e3 : ((cs.length : Int) == 0) = false := by rw [beq_eq_false_iff_ne]; exact e1
   have e4 : (E != 0) = true := by simpa using h2
   go_enter Tryz.func11, Tryz.ntmps11
   go_wp2_with fail
   rw [HW0.out]
   refine (HCK.out _ (HFK.out _ (Below.refl _ _)).2.2.2.1).mono ?_
   rintro e w1 ⟨rfl, hb1⟩
   go_wp2_with fail
   refine (HWK.out _ hb1).mono ?_
   rintro e w2 ⟨rfl, hb2⟩
   go_wp2_with fail
   go_ret
   exact ⟨rfl, (HFK.out w2 (hb1.trans (hb2.mono hb1.size))).2.2.2.2.2⟩
theorem rec_law (L wh mo ti B va fl : Int) (al : Option Addr) (cs : List (Int × Int)) (cap : Nat) (na : Option Addr) (ns : List Int) (nc : Nat) (w : World) (ht : Tab w) (hcs : Cells w al (prs cs)) (hl : cs.length <= cap) (hcap : cap <= 9223372036854775807) (hn : Cells w na (ns.map (Value.int .i64))) (hnl : ns.length <= nc) (hnc : nc <= 9223372036854775807) (hnr : ns.length <= 17592186044415) (hnn : na = none -> nc = 0) :
 Calls Tryz.prog 11 #[.agg #[.int .i64 L, .slice al cs.length cap, .int .i64 wh, .int .i64 mo, .int .i64 ti, .slice na ns.length nc, .int .i64 B, .int .i64 va, .int .i64 fl]] w fun e w' => e = .returned (.bool true) /\ Below w.heap.size w w' := by
 by_cases h0 : cs.length = 0
 · exact recL_bad L wh mo ti B va fl al cs cap na ns nc w ht hcs hl hcap hn (.inl h0)
 by_cases hk : chkB L cs = 0
 · exact recL_good L wh mo ti B va fl al cs cap na ns nc w ht hcs hl hcap hn hnl hnc hnr hnn h0 hk
 · exact recL_bad L wh mo ti B va fl al cs cap na ns nc w ht hcs hl hcap hn (.inr ⟨h0, hk⟩)
end Go.Proofs.YtdpjdifoonfcdaaGreatDoor
