/- Parts of a proof, in build order: OF, OG, OJ, JA, JS, JU, JR, JV, JW, V5, VA. -/
import Derived.Test.YtahnadhlagabgaaGreatDoorKt16
import Derived.Test.YtahnadhlagabgaaGreatDoorRows

namespace Go.Proofs.YtahnadhlagabgaaGreatDoor
open Go.RowKit
set_option maxRecDepth 100000 in
set_option maxHeartbeats 4000000 in
theorem refFit_any (n d : Int) (L : Nat) (xs ys : List Int) (ao : Option Addr) (ca : Nat) (bo : Option Addr) (cb : Nat) (w : World) (hx : xs.length = 64) (hy : ys.length = 64) (hL1 : 1 <= L) (hL : L <= 64) (h1 : ∀ x ∈ xs, -127 <= x /\ x <= 127) (h2 : ∀ x ∈ ys, -127 <= x /\ x <= 127)
 (n1 : 0 <= n) (n2 : n <= 999999) (d1 : 0 <= d) (d2 : d <= 999999) (hc : Cells w ao ((xs.take L).map (Value.int .i64))) (hd : Cells w bo ((ys.take L).map (Value.int .i64))) :
 Calls Tryz.prog 109 #[.slice ao L ca, .slice bo L cb, .agg #[.int .i64 n, .int .i64 d]] w fun e w' => e = .returned (.tuple #[.int .i64 (fstV (rchB n d xs ys L) (shl L (2 * L - 1))), .bool (fstS (rchB n d xs ys L) (shl L (2 * L - 1))).isSome]) /\ Below w.heap.size w w' := by
 obtain ⟨W0, hW0⟩ : ∃ W0, w.alloc (.cells #[.int .i64 n, .int .i64 d] 88) = W0 := ⟨_, rfl⟩
 have hb0 : Below w.heap.size w W0 := by rw [<- hW0]; exact (Below.refl _ w).alloc lc _
 have hs0 : W0.heap.size = w.heap.size + 1 := by rw [<- hW0]; simp
 have q0 : Blk W0 w.heap.size 88 #[.int .i64 n, .int .i64 d] := by rw [<- hW0]; exact heap_alloc_new w _
 have hkr : ∀ W, Below W0.heap.size W0 W -> (W.cell? ⟨w.heap.size, 0, none⟩ = some (.int .i64 n) /\ W.cell? ⟨w.heap.size, 1, none⟩ = some (.int .i64 d)) /\ Below w.heap.size w W := fun W h => by
  have hq := q0.below h (by omega)
  exact ⟨⟨hq.cell 0, hq.cell 1⟩, hb0.trans (h.mono hb0.size)⟩
 have hre := fun (s : Int) W (s1 : -1000 <= s) (s2 : s <= 1000) (h : Below w.heap.size w W) => refReaches_any n d L xs ys s ao ca bo cb W hx hy hL1 hL h1 h2 s1 s2 n1 n2 d1 d2 (hc.below h lc) (hd.below h lc)
 generalize rchB n d xs ys L = f at *
 have HRE := hG hre; have HKR := hG hkr; have HW0 := hG hW0
 clear hre hkr hW0 hb0 q0 hc hd h1 h2 hx hy n1 n2 d1 d2
 have hnone : (∀ y ∈ shl L (2 * L - 1), f y.1 = false) -> fstV f (shl L (2 * L - 1)) = 0 /\ fstS f (shl L (2 * L - 1)) = none := fun h => by
  have h3 := fstS_none h
  unfold fstV
  rw [h3]
  exact ⟨rfl, rfl⟩
 have hsome : ∀ j, j < 2 * L - 1 -> (∀ y ∈ shl L j, f y.1 = false) -> f (1 - (L : Int) + j) = true -> fstV f (shl L (2 * L - 1)) = 1 - (L : Int) + j /\ (fstS f (shl L (2 * L - 1))).isSome = true := fun j hj h hf => by
  obtain ⟨t, ht⟩ := shl_prefix L (show j + 1 <= 2 * L - 1 by omega)
  have hv : (mkS (1 - (L : Int) + (j : Int))).1 = 1 - (L : Int) + j := mkS_val (by omega) (by omega)
  have h3 : fstS f (shl L (2 * L - 1)) = some (mkS (1 - (L : Int) + (j : Int))) := by
   rw [<- ht, shl_succ]
   unfold fstS
   rw [List.append_assoc, List.find?_append, List.find?_eq_none.2 (fun x hx => by rw [h x hx]; decide)]
   simp only [Option.none_or, List.singleton_append, List.find?_cons]
   rw [hv, hf]
  unfold fstV
  rw [h3]
  exact ⟨hv, rfl⟩
 have HNONE := hG hnone; have HSOME := hG hsome
 clear hnone hsome
 go_enter Tryz.func109, Tryz.ntmps109
 go_wp2_with fail
 rw [HW0.out]
 go_loopw [8] (fun sv wr => ∃ j : Nat, j <= 2 * L - 1 /\ sv = .int .i64 (1 - (L : Int) + j) /\ (∀ y ∈ shl L j, f y.1 = false) /\ Below W0.heap.size W0 wr) (fun sv _ => ((L : Int) - intOf sv).toNat)
 case atStart => exact ⟨0, Nat.zero_le _, by simp, by simp [shl], Below.refl _ _⟩
 case round =>
  obtain ⟨j, hj, rfl, hno, hbe⟩ := hrel
  obtain ⟨⟨k0, k1⟩, hbw⟩ := HKR.out wr hbe
  have HNO := hG hno
  clear hno
  by_cases hlt : j < 2 * L - 1
  · have i1 : 1 - (L : Int) + (j : Int) < (L : Int) := by omega
    have hr1 : -1000 <= 1 - (L : Int) + (j : Int) := by omega
    have hr2 : 1 - (L : Int) + (j : Int) <= 1000 := by omega
    have hv : (mkS (1 - (L : Int) + (j : Int))).1 = 1 - (L : Int) + j := mkS_val (by omega) (by omega)
    have HV := hG hv
    clear hv
    cases hf : f (1 - (L : Int) + (j : Int)) with
    | true =>
      obtain ⟨s1, s2⟩ := HSOME.out j hlt HNO.out hf
      have hre := HRE.out _ wr hr1 hr2 hbw
      rw [hf] at hre
      have HR := hG hre; have H1 := hG s1; have H2 := hG s2
      clear hre s1 s2 hf
      go_wp2_with fail
      refine HR.out.mono ?_
      rintro e w1 ⟨rfl, hb1⟩
      go_wp2_with fail
      go_ret2
      rw [H1.out, H2.out]
      exact ⟨rfl, hbw.trans (hb1.mono hbw.size)⟩
    | false =>
      have hre := HRE.out _ wr hr1 hr2 hbw
      rw [hf] at hre
      have hno2 : ∀ y ∈ shl L (j + 1), f y.1 = false := by
       rw [shl_succ]
       intro y hy
       rcases List.mem_append.1 hy with h | h
       · exact HNO.out y h
       · rw [List.mem_singleton.1 h, HV.out]; exact hf
      have HR := hG hre; have HN2 := hG hno2
      have HS : Hid (1 - (L : Int) + (j : Int) + 1 = 1 - (L : Int) + ((j + 1 : Nat) : Int)) := hG (by omega)
      clear hre hf hno2
      go_wp2_with fail
      refine HR.out.mono ?_
      rintro e w1 ⟨rfl, hb1⟩
      have hbe1 := hbe.trans (hb1.mono hbe.size)
      go_wp2_with fail
      go_roundw
      case rel => exact ⟨j + 1, by omega, by first | (rw [<- HS.out]) | (rw [HS.out]) | rfl, HN2.out, hbe1⟩
      case measure => simp [intOf]; omega
  · obtain rfl : j = 2 * L - 1 := by omega
    obtain ⟨s1, s2⟩ := HNONE.out HNO.out
    have i1 : ¬ (1 - (L : Int) + ((2 * L - 1 : Nat) : Int) < (L : Int)) := by omega
    have H1 := hG s1; have H2 := hG s2
    clear s1 s2
    go_wp2_with fail
    go_ret2
    rw [H1.out, H2.out]
    exact ⟨rfl, hbw⟩
theorem wvs_get {L : Int} {cs : List (Int × Int)} {i : Nat} {p q : Int} (h : cs[i]? = some (p, q)) : (wvs L cs)[i]? = some (wav L p q) := by
 unfold wvs
 rw [List.getElem?_map, h]
 rfl
theorem fstV_of {f : Int -> Bool} {l : List Sh} {s : Sh} (h : fstS f l = some s) : fstV f l = s.1 := by unfold fstV; rw [h]
set_option maxRecDepth 100000 in
set_option maxHeartbeats 4000000 in
theorem refCovered_any (n d : Int) (L p q : Int) (cs : List (Int × Int)) (ao : Option Addr) (cap : Nat) (w : World) (hbk : bankOK L cs = true) (hok : waveOK L p q = true)
 (n1 : 0 <= n) (n2 : n <= 999999) (d1 : 0 <= d) (d2 : d <= 999999) (hc : Cells w ao (prs cs)) :
 Calls Tryz.prog 54 #[.int .i64 L, .slice ao cs.length cap, .agg #[.int .i64 p, .int .i64 q], .agg #[.int .i64 n, .int .i64 d]] w fun e w' => e = .returned (.tuple #[.agg #[.int .i64 (fitI (fitF (srv n d L.toNat (wav L p q)) (wvs L cs))), .int .i64 (fitS (fitF (srv n d L.toNat (wav L p q)) (wvs L cs)))], .bool (fitF (srv n d L.toNat (wav L p q)) (wvs L cs)).isSome]) /\ Below w.heap.size w w' := by
 have hL := waveOK_true hok
 have hb2 := hbk
 simp only [bankOK, Bool.and_eq_true, decide_eq_true_eq, List.all_eq_true] at hb2
 obtain ⟨⟨h64, hall⟩, -⟩ := hb2
 obtain ⟨W0, hW0⟩ : ∃ W0, ((w.alloc (.cells #[.int .i64 p, .int .i64 q] 54)).alloc (.cells #[.int .i64 n, .int .i64 d] 88)).alloc (.cells #[.int .i64 0, .int .i64 0] 93) = W0 := ⟨_, rfl⟩
 have hb0 : Below w.heap.size w W0 := by rw [<- hW0]; exact (((Below.refl _ w).alloc lc _).alloc (by simp) _).alloc (by simp; omega) _
 have hs0 : W0.heap.size = w.heap.size + 3 := by rw [<- hW0]; simp
 have q0 : Blk W0 w.heap.size 54 #[.int .i64 p, .int .i64 q] := by rw [<- hW0]; exact Blk.alloc (heap_alloc2_old w _ _) _
 have q1 : Blk W0 (w.heap.size + 1) 88 #[.int .i64 n, .int .i64 d] := by rw [<- hW0]; exact Blk.alloc (heap_alloc2_new w _ _) _
 have q2 : Blk W0 (w.heap.size + 2) 93 #[.int .i64 0, .int .i64 0] := by
  rw [<- hW0]
  have := heap_alloc_new ((w.alloc (.cells #[.int .i64 p, .int .i64 q] 54)).alloc (.cells #[.int .i64 n, .int .i64 d] 88)) (.cells #[.int .i64 0, .int .i64 0] 93)
  rw [show ((w.alloc (.cells #[.int .i64 p, .int .i64 q] 54)).alloc (.cells #[.int .i64 n, .int .i64 d] 88)).heap.size = w.heap.size + 2 by simp] at this
  exact this
 have hkr : ∀ W, Below W0.heap.size W0 W -> ((W.cell? ⟨w.heap.size, 0, none⟩ = some (.int .i64 p) /\ W.cell? ⟨w.heap.size, 1, none⟩ = some (.int .i64 q)) /\ (W.cell? ⟨w.heap.size + 1, 0, none⟩ = some (.int .i64 n) /\ W.cell? ⟨w.heap.size + 1, 1, none⟩ = some (.int .i64 d)) /\ W.cell? ⟨w.heap.size + 2, 0, none⟩ = some (.int .i64 0) /\ W.cell? ⟨w.heap.size + 2, 1, none⟩ = some (.int .i64 0) /\ W.frozen? ⟨w.heap.size + 2, 0, none⟩ = false /\ W.frozen? ⟨w.heap.size + 2, 1, none⟩ = false) /\ Below w.heap.size w W /\ Cells W ao (prs cs) := fun W h => by
  have h0 := q0.below h (by omega)
  have h1 := q1.below h (by omega)
  have h2 := q2.below h (by omega)
  have hb := hb0.trans (h.mono hb0.size)
  exact ⟨⟨⟨h0.cell 0, h0.cell 1⟩, ⟨h1.cell 0, h1.cell 1⟩, h2.cell 0, h2.cell 1, h2.free 0, h2.free 1⟩, hb, hc.below hb lc⟩
 have hwp := fun W => refWaveL_any L p q W hok
 have hel : ∀ i r s, cs[i]? = some (r, s) -> (∀ W, Calls Tryz.prog 59 #[.int .i64 L, .agg #[.int .i64 r, .int .i64 s]] W fun e w' => (∃ b c, e = .returned (.slice b L.toNat c) /\ Cells w' b (((wav L r s).take L.toNat).map (Value.int .i64))) /\ Below W.heap.size W w') /\
  (∀ xa xc ya yc W, Cells W xa (((wav L p q).take L.toNat).map (Value.int .i64)) -> Cells W ya (((wav L r s).take L.toNat).map (Value.int .i64)) -> Calls Tryz.prog 109 #[.slice xa L.toNat xc, .slice ya L.toNat yc, .agg #[.int .i64 n, .int .i64 d]] W fun e w' => e = .returned (.tuple #[.int .i64 (fstV (rchB n d (wav L p q) (wav L r s) L.toNat) (shl L.toNat (2 * L.toNat - 1))), .bool (srv n d L.toNat (wav L p q) (wav L r s)).isSome]) /\ Below W.heap.size W w') := fun i r s hi => by
  have h3 := hall _ (List.mem_of_getElem? hi)
  simp only [chOK, Bool.and_eq_true] at h3
  exact ⟨fun W => refWaveL_any L r s W h3.1, fun xa xc ya yc W hx hy => refFit_any n d L.toNat _ _ xa xc ya yc W (wav_length _ _ _) (wav_length _ _ _) (by omega) (by omega) (wav_bd _ _ _) (wav_bd _ _ _) n1 n2 d1 d2 hx hy⟩
 obtain ⟨F, hF⟩ : ∃ F, F = fitF (srv n d L.toNat (wav L p q)) (wvs L cs) := ⟨_, rfl⟩
 rw [<- hF]
 have HF := hG hF; have HW0 := hG hW0; have HKR := hG hkr; have HWP := hG hwp; have HEL := hG hel
 have hle : w.heap.size <= w.heap.size + 2 := by omega
 obtain ⟨⟨⟨p0, p1⟩, ⟨m0, m1⟩, r0, r1, f0, f1⟩, hbw, -⟩ := HKR.out W0 bg
 rw [<- HW0.out] at p0 p1 m0 m1
 clear hF hW0 hkr hwp hel hb0 q0 q1 q2 hc hall hbk hok n1 n2 d1 d2 r0 r1 f0 f1
 go_enter Tryz.func54, Tryz.ntmps54
 go_wp2_with fail
 rw [HW0.out]
 clear p0 p1 m0 m1
 refine (HWP.out W0).mono ?_
 rintro e w1 ⟨⟨xa, xc, rfl, hxa⟩, hb1⟩
 have HXA := hG hxa; have HB1 := hG hb1
 clear hxa hb1 hbw
 go_wp2_with fail
 go_loopw [11] (fun iv wr => ∃ i : Nat, i <= cs.length /\ iv = .int .i64 i /\ (∀ j : Nat, j < i -> ∀ z, (wvs L cs)[j]? = some z -> srv n d L.toNat (wav L p q) z = none) /\ Below w1.heap.size w1 wr) (fun iv _ => cs.length - (intOf iv).toNat)
 case atStart => exact ⟨0, Nat.zero_le _, rfl, fun j hj => by omega, Below.refl _ _⟩
 case round =>
  obtain ⟨i, hi, rfl, hno, hbe⟩ := hrel
  have HNO := hG hno
  clear hno
  have hbe0 := HB1.out.trans (hbe.mono HB1.out.size)
  obtain ⟨⟨-, ⟨m0, m1⟩, -⟩, hbw, hcr⟩ := HKR.out wr hbe0
  have HCR := hG hcr
  have HXR := hG (HXA.out.below hbe lc)
  clear hcr
  by_cases hlt : i < cs.length
  · obtain ⟨⟨r, s⟩, hx⟩ := get_of_lt hlt
    obtain ⟨hwv, hft⟩ := HEL.out i r s hx
    obtain ⟨b, off, rfl⟩ := HCR.out.addr (prs_ne (by omega))
    have c1 := HCR.out.at (prs_fst hx)
    have c2 := HCR.out.at (prs_snd hx)
    rw [<- Nat.add_assoc] at c2
    simp only at c1 c2
    have c1d : wr.drew.cell? ⟨b, off + i * 2, none⟩ = some (.int .i64 r) := c1
    have c2d : wr.drew.cell? ⟨b, off + i * 2 + 1, none⟩ = some (.int .i64 s) := c2
    have m0d : wr.drew.cell? ⟨w.heap.size + 1, 0, none⟩ = some (.int .i64 n) := m0
    have m1d : wr.drew.cell? ⟨w.heap.size + 1, 1, none⟩ = some (.int .i64 d) := m1
    have HX := hG hx; have HWV := hG hwv; have HFT := hG hft
    have i1 : (i : Int) < (cs.length : Int) := by omega
    have i2 : (0 : Int) <= (i : Int) := by omega
    have hz := wvs_get (L := L) HX.out
    have HZ := hG hz
    clear hx hwv hft hz
    rcases hsv : srv n d L.toNat (wav L p q) (wav L r s) with _ | y
    · rw [hsv] at HFT
      have hno2 : ∀ j : Nat, j < i + 1 -> ∀ z, (wvs L cs)[j]? = some z -> srv n d L.toNat (wav L p q) z = none := fun j hj z hz => by
       by_cases hji : j = i
       · rw [hji, HZ.out] at hz
         cases hz
         exact hsv
       · exact HNO.out j (by omega) z hz
      have HN2 := hG hno2
      clear hno2 hsv
      generalize fstV (rchB n d (wav L p q) (wav L r s) L.toNat) (shl L.toNat (2 * L.toNat - 1)) = V at *
      go_wp2_with fail
      go_region_held3 (fun w' => w'.cell? ⟨w.heap.size + 1, 0, none⟩ = some (.int .i64 n) /\ w'.cell? ⟨w.heap.size + 1, 1, none⟩ = some (.int .i64 d) /\ w'.cell? ⟨b, off + i * 2, none⟩ = some (.int .i64 r) /\ w'.cell? ⟨b, off + i * 2 + 1, none⟩ = some (.int .i64 s))
       (first | with_reducible exact ⟨m0, m1, c1, c2⟩ | with_reducible exact ⟨m0d, m1d, c1d, c2d⟩ | with_reducible exact ⟨z0, z1, z2, z3⟩ | with_reducible exact ⟨t0, t1, t2, t3⟩ | go_keep)
       (first
        | (go_at_call 59; (with_reducible refine Calls.mono (HWV.out wr.drew) ?_); rintro e wb ⟨⟨ya, yc, rfl, hya⟩, hbb⟩; have hbz := ((Below.refl wr.heap.size wr).drew).trans hbb; have z0 := cell_keep m0 hbz lc; have z1 := cell_keep m1 hbz lc; have z2 := cell_keep c1 hbz lc; have z3 := cell_keep c2 hbz lc; have HYA := hG hya; have HXB := hG (HXR.out.below hbz lc); have HBZ := hG hbz; clear hya hbb hbz)
        | (go_at_call 109; (with_reducible refine Calls.mono (HFT.out _ _ _ _ wb HXB.out HYA.out) ?_); rintro e wc ⟨rfl, hbc⟩; have hby := HBZ.out.trans (hbc.mono HBZ.out.size); have t0 := cell_keep m0 hby lc; have t1 := cell_keep m1 hby lc; have t2 := cell_keep c1 hby lc; have t3 := cell_keep c2 hby lc; have HBY := hG hby; clear hbc hby))
      all_goals
       go_wp2_with fail
       go_roundw
       case rel => exact ⟨i + 1, by omega, by go_num, HN2.out, hbe.trans (HBY.out.mono hbe.size)⟩
       case measure => simp [intOf]; omega
    · rw [hsv] at HFT
      have hfs : fstS (rchB n d (wav L p q) (wav L r s) L.toNat) (shl L.toNat (2 * L.toNat - 1)) = some y := hsv
      have hV := fstV_of hfs
      rw [hV] at HFT
      have hFs : F = some (i, y.1) := by rw [HF.out]; exact fitF_some HZ.out hsv HNO.out
      have HFS := hG hFs
      clear hfs hV hFs hsv
      go_wp2_with fail
      go_region_held3 (fun w' => w'.cell? ⟨w.heap.size + 1, 0, none⟩ = some (.int .i64 n) /\ w'.cell? ⟨w.heap.size + 1, 1, none⟩ = some (.int .i64 d) /\ w'.cell? ⟨b, off + i * 2, none⟩ = some (.int .i64 r) /\ w'.cell? ⟨b, off + i * 2 + 1, none⟩ = some (.int .i64 s))
       (first | with_reducible exact ⟨m0, m1, c1, c2⟩ | with_reducible exact ⟨m0d, m1d, c1d, c2d⟩ | with_reducible exact ⟨z0, z1, z2, z3⟩ | with_reducible exact ⟨t0, t1, t2, t3⟩ | go_keep)
       (first
        | (go_at_call 59; (with_reducible refine Calls.mono (HWV.out wr.drew) ?_); rintro e wb ⟨⟨ya, yc, rfl, hya⟩, hbb⟩; have hbz := ((Below.refl wr.heap.size wr).drew).trans hbb; have z0 := cell_keep m0 hbz lc; have z1 := cell_keep m1 hbz lc; have z2 := cell_keep c1 hbz lc; have z3 := cell_keep c2 hbz lc; have HYA := hG hya; have HXB := hG (HXR.out.below hbz lc); have HBZ := hG hbz; clear hya hbb hbz)
        | (go_at_call 109; (with_reducible refine Calls.mono (HFT.out _ _ _ _ wb HXB.out HYA.out) ?_); rintro e wc ⟨rfl, hbc⟩; have hby := HBZ.out.trans (hbc.mono HBZ.out.size); have t0 := cell_keep m0 hby lc; have t1 := cell_keep m1 hby lc; have t2 := cell_keep c1 hby lc; have t3 := cell_keep c2 hby lc; have HBY := hG hby; clear hbc hby))
      all_goals
       obtain ⟨⟨-, -, r0, r1, f0, f1⟩, hbx, -⟩ := HKR.out wc (hbe0.trans (HBY.out.mono hbe0.size))
       go_wp2_with fail
       refine bodyPost_ret (v := .tuple #[.agg #[.int .i64 i, .int .i64 y.1], .bool true]) (by simp [results, Tryz.results54, go_sem, r0, r1]) rfl ?_
       rw [HFS.out]
       exact ⟨rfl, (hbx.setCell hle _).setCell hle _⟩
  · obtain rfl : i = cs.length := by omega
    have hFn : F = none := by
     rw [HF.out]
     refine fitF_none fun j z hz => HNO.out j ?_ z hz
     have := (List.getElem?_eq_some_iff.1 hz).1
     simpa [wvs] using this
    have HFN := hG hFn
    have i1 : ¬ ((cs.length : Int) < (cs.length : Int)) := by omega
    obtain ⟨⟨-, -, r0, r1, f0, f1⟩, hbx, -⟩ := HKR.out wr hbe0
    clear hFn
    go_wp2_with fail
    refine bodyPost_ret (v := .tuple #[.agg #[.int .i64 0, .int .i64 0], .bool false]) (by simp [results, Tryz.results54, go_sem, r0, r1]) rfl ?_
    rw [HFN.out]
    exact ⟨rfl, (hbx.setCell hle _).setCell hle _⟩
theorem heap_lt0 {w : World} {a : Addr} {v : Value} (h : w.cell? a = some v) : a.block < w.heap.size := by
 apply Nat.lt_of_not_le
 intro hc
 have h2 : w.heap[a.block]? = none := by simp; omega
 unfold World.cell? at h
 rw [h2] at h
 cases h
theorem keep2 {W : World} {a : Addr} {v u0 u1 : Value} {b : Nat} (h : W.cell? a = some v) (hne : a.block ≠ b) : ((W.setCell ⟨b, 0, none⟩ u0).setCell ⟨b, 1, none⟩ u1).cell? a = some v := by
 rw [World.cell?_setCell_other _ _ _ _ (by first | exact fun e => hne (congrArg Addr.block e) | exact fun e => hne (congrArg Addr.block e).symm), World.cell?_setCell_other _ _ _ _ (by first | exact fun e => hne (congrArg Addr.block e) | exact fun e => hne (congrArg Addr.block e).symm)]
 exact h
theorem pairs_get {L : Int} {l : List (Pt L)} {i : Nat} {x : Pt L} (h : l[i]? = some x) : (pairsOf l)[i]? = some x.1 := by
 unfold pairsOf
 rw [List.getElem?_map, h]
 rfl
end Go.Proofs.YtahnadhlagabgaaGreatDoor

namespace Go.Proofs.YtahnadhlagabgaaGreatDoor
open Go.RowKit Go.Shelf
def chkB (L : Int) (cs : List (Int × Int)) : Int := if inB 4 L 64 = false then 70 else if bankOK L cs = false then 72 else 0
set_option maxRecDepth 100000 in
set_option maxHeartbeats 2000000 in
theorem checkBank_any (L : Int) (cs : List (Int × Int)) (ao : Option Addr) (cap : Nat) (w : World) (hc : Cells w ao (prs cs)) (hl : cs.length <= 9223372036854775807) (hcap : cs.length <= cap) (hcap2 : cap <= 9223372036854775807) :
 Calls Tryz.prog 22 #[.int .i64 L, .slice ao cs.length cap] w fun e w' => e = .returned (.int .i64 (chkB L cs)) /\ Below w.heap.size w w' := by
 have hwv := waves_any L cs ao cap w hc hl hcap hcap2
 have hwi := fun W => bwithin_any L 4 64 W
 have hE : chkB L cs = if inB 4 L 64 = false then 70 else if bankOK L cs = false then 72 else 0 := rfl
 have HWV := hG hwv
 clear hwv hc
 cases h4 : inB 4 L 64 with
 | false =>
   rw [h4, if_pos rfl] at hE
   rw [h4] at hwi
   have HW := hG hwi; have HE := hG hE
   clear hwi hE h4
   go_enter Tryz.func22, Tryz.ntmps22
   go_wp2_with (go_at_call 56; refine (HW.out _).mono ?_; rintro e w1 ⟨rfl, rfl⟩)
   go_ret
   exact ⟨by rw [HE.out]; rfl, Below.refl _ _⟩
 | true =>
   rw [h4, if_neg (by decide)] at hE
   rw [h4] at hwi
   have HW := hG hwi
   clear hwi h4
   cases hb : bankOK L cs with
   | false =>
     rw [hb, if_pos rfl] at hE
     have HE := hG hE; have HB := hG hb
     clear hE hb
     go_enter Tryz.func22, Tryz.ntmps22
     go_wp2_with (first
      | (go_at_call 56; refine (HW.out _).mono ?_; rintro e w1 ⟨rfl, rfl⟩)
      | (go_at_call 65; refine HWV.out.mono ?_; rintro e w1 ⟨hr, hb1⟩; rw [HB.out] at hr; obtain rfl : e = _ := hr))
     go_ret
     exact ⟨by rw [HE.out]; rfl, hb1⟩
   | true =>
     rw [hb, if_neg (by decide)] at hE
     have HE := hG hE; have HB := hG hb
     clear hE hb
     go_enter Tryz.func22, Tryz.ntmps22
     go_wp2_with (first
      | (go_at_call 56; refine (HW.out _).mono ?_; rintro e w1 ⟨rfl, rfl⟩)
      | (go_at_call 65; refine HWV.out.mono ?_; rintro e w1 ⟨hr, hb1⟩; rw [HB.out] at hr; obtain ⟨bo, cb, rfl, _⟩ := hr))
     go_ret
     exact ⟨by rw [HE.out]; rfl, hb1⟩
end Go.Proofs.YtahnadhlagabgaaGreatDoor

namespace Go.Proofs.YtahnadhlagabgaaGreatDoor
open Go.RowKit
set_option maxRecDepth 100000 in
set_option maxHeartbeats 2000000 in
theorem refCheckBank_any (L : Int) (cs : List (Int × Int)) (ao : Option Addr) (cap : Nat) (w : World) (hc : Cells w ao (prs cs)) (hl : cs.length <= 9223372036854775807) :
 Calls Tryz.prog 23 #[.int .i64 L, .slice ao cs.length cap] w fun e w' => e = .returned (.int .i64 (chkB L cs)) /\ Below w.heap.size w w' := by
 have hbk := refBank_any L cs ao cap w hc hl
 have hwi := fun W => rin2_any L 4 64 W
 have hE : chkB L cs = if inB 4 L 64 = false then 70 else if bankOK L cs = false then 72 else 0 := rfl
 have HBK := hG hbk
 clear hbk hc
 cases h4 : inB 4 L 64 with
 | false =>
   rw [h4, if_pos rfl] at hE
   rw [h4] at hwi
   have HW := hG hwi; have HE := hG hE
   clear hwi hE h4
   go_enter Tryz.func23, Tryz.ntmps23
   go_wp2_with (go_at_call 47; refine (HW.out _).mono ?_; rintro e w1 ⟨rfl, rfl⟩)
   go_ret
   exact ⟨by rw [HE.out]; rfl, Below.refl _ _⟩
 | true =>
   rw [h4, if_neg (by decide)] at hE
   rw [h4] at hwi
   have HW := hG hwi
   clear hwi h4
   cases hb : bankOK L cs with
   | false =>
     rw [hb, if_pos rfl] at hE
     rw [hb] at HBK
     have HE := hG hE
     clear hE hb
     go_enter Tryz.func23, Tryz.ntmps23
     go_wp2_with (first
      | (go_at_call 47; refine (HW.out _).mono ?_; rintro e w1 ⟨rfl, rfl⟩)
      | (go_at_call 66; refine HBK.out.mono ?_; rintro e w1 ⟨rfl, hb1⟩))
     go_ret
     exact ⟨by rw [HE.out]; rfl, hb1⟩
   | true =>
     rw [hb, if_neg (by decide)] at hE
     rw [hb] at HBK
     have HE := hG hE
     clear hE hb
     go_enter Tryz.func23, Tryz.ntmps23
     go_wp2_with (first
      | (go_at_call 47; refine (HW.out _).mono ?_; rintro e w1 ⟨rfl, rfl⟩)
      | (go_at_call 66; refine HBK.out.mono ?_; rintro e w1 ⟨rfl, hb1⟩))
     go_ret
     exact ⟨by rw [HE.out]; rfl, hb1⟩
theorem misP_step {n d L : Int} {ys : List (List Int)} {l : List (Pt L)} {i : Nat} {x : Pt L} (h : l[i]? = some x) : misP n d L ys (l.take (i + 1)) = misP n d L ys (l.take i) ++ (if (fitP n d L ys x).isSome = true then [] else [(i : Int)]) := by
 have hi := (List.getElem?_eq_some_iff.1 h).1
 rw [List.take_add_one, h]
 show misI _ 0 (l.take i ++ [x]) = _
 rw [misI_snoc, List.length_take, Nat.min_eq_left (by omega), Nat.zero_add]; rfl
set_option maxRecDepth 100000 in
set_option maxHeartbeats 4000000 in
theorem refmisses_any (n m : Nat) (L a b c d : Int) (cs : List (Int × Int)) (ao : Option Addr) (cap : Nat) (w : World) (hfo : famOK L a b c d = true) (hbk : bankOK L cs = true) (hn6 : n <= 999999) (hm6 : m <= 999999) (hc : Cells w ao (prs cs)) :
 Calls Tryz.prog 67 #[.agg #[.int .i64 L, .int .i64 a, .int .i64 b, .int .i64 c, .int .i64 d], .slice ao cs.length cap, .agg #[.int .i64 n, .int .i64 m]] w fun e w' => (∃ ma cm, e = .returned (.slice ma (misP n m L (wvs L cs) (ptsAll L a c (d - c + 1).toNat (b - a + 1).toNat)).length cm) /\ Cells w' ma ((misP n m L (wvs L cs) (ptsAll L a c (d - c + 1).toNat (b - a + 1).toNat)).map (Value.int .i64))) /\ Below w.heap.size w w' := by
 obtain ⟨i0, hi, hz0, hz1, hz2⟩ := info_parts Tryz.infoInt
 obtain ⟨W0, hW0⟩ : ∃ W0, (w.alloc (.cells #[.int .i64 L, .int .i64 a, .int .i64 b, .int .i64 c, .int .i64 d] 23)).alloc (.cells #[.int .i64 n, .int .i64 m] 88) = W0 := ⟨_, rfl⟩
 have hb0 : Below w.heap.size w W0 := by rw [<- hW0]; exact ((Below.refl _ w).alloc lc _).alloc (by simp) _
 have hs0 : W0.heap.size = w.heap.size + 2 := by rw [<- hW0]; simp
 have q0 : Blk W0 w.heap.size 23 #[.int .i64 L, .int .i64 a, .int .i64 b, .int .i64 c, .int .i64 d] := by rw [<- hW0]; exact heap_alloc2_old w _ _
 have q1 : Blk W0 (w.heap.size + 1) 88 #[.int .i64 n, .int .i64 m] := by rw [<- hW0]; exact heap_alloc2_new w _ _
 have hkr : ∀ W, Below W0.heap.size W0 W -> (W.cell? ⟨w.heap.size, 0, none⟩ = some (.int .i64 L) /\ W.cell? ⟨w.heap.size, 1, none⟩ = some (.int .i64 a) /\ W.cell? ⟨w.heap.size, 2, none⟩ = some (.int .i64 b) /\ W.cell? ⟨w.heap.size, 3, none⟩ = some (.int .i64 c) /\ W.cell? ⟨w.heap.size, 4, none⟩ = some (.int .i64 d)) /\ (W.cell? ⟨w.heap.size + 1, 0, none⟩ = some (.int .i64 n) /\ W.cell? ⟨w.heap.size + 1, 1, none⟩ = some (.int .i64 m)) /\ Below w.heap.size w W /\ Cells W ao (prs cs) := fun W h => by
  have hq := q0.below h (by omega)
  have hq1 := q1.below h (by omega)
  have hb := hb0.trans (h.mono hb0.size)
  exact ⟨⟨hq.cell 0, hq.cell 1, hq.cell 2, hq.cell 3, hq.cell 4⟩, ⟨hq1.cell 0, hq1.cell 1⟩, hb, hc.below hb lc⟩
 have hfm := fam_true hfo
 have hpt := fun W => refPoints_any L a b c d W hfo
 have hpl := ptsAll_len L a c (d - c + 1).toNat (b - a + 1).toNat
 have hco := fun (x : Pt L) W h => refCovered_any (n : Int) (m : Int) L x.1.1 x.1.2 cs ao cap W hbk x.2.1 (by omega) (by omega) (by omega) (by omega) h
 have h400 : (ptsAll L a c (d - c + 1).toNat (b - a + 1).toNat).length <= 400 := Nat.le_trans hpl hfm.2.2.2.2.2.2.2.2
 generalize ptsAll L a c (d - c + 1).toNat (b - a + 1).toNat = l at *
 have HW0 := hG hW0; have HKR := hG hkr; have HPT := hG hpt; have HCO := hG hco
 obtain ⟨⟨k0, k1, k2, k3, k4⟩, -, -, -⟩ := hkr W0 bg
 clear hW0 hb0 q0 q1 hkr hc hfm hpt hpl hco hn6 hm6 hfo hbk
 go_enter Tryz.func67, Tryz.ntmps67
 go_wp2_with fail
 rw [HW0.out]
 refine (HPT.out W0).mono ?_
 rintro e w2 ⟨⟨pb, pc, rfl, hpc⟩, hb2⟩
 have HPC := hG hpc; have HB12 := hG hb2
 clear hpc hb2 k0 k1 k2 k3 k4
 go_wp2_with fail
 go_loopw [7, 9] (fun ov iv wr => ∃ i : Nat, i <= l.length /\ iv = .int .i64 i /\ wr.ownsRow w2.heap.size 3 1 ov (misP n m L (wvs L cs) (l.take i)).length ((misP n m L (wvs L cs) (l.take i)).map (Value.int .i64)) /\ Below w2.heap.size w2 wr) (fun _ iv _ => l.length - (intOf iv).toNat)
 case atStart => exact ⟨0, Nat.zero_le _, rfl, World.ownsRow_nil _ _ _ _, Below.refl _ _⟩
 case round =>
  obtain ⟨i, hi', rfl, hown, hbe⟩ := hrel
  have HO := hG hown
  have HOB : Hid (∀ j, u7.ownBlock = some j -> w2.heap.size <= j) := fun j e => (hown.lt j e).1
  have hbe0 := HB12.out.trans (hbe.mono HB12.out.size)
  obtain ⟨⟨k0, -, -, -, -⟩, ⟨m0, m1⟩, hbw, hcr⟩ := HKR.out wr hbe0
  have HCR := hG hcr; have HBW := hG hbw
  clear hown hcr hbw
  by_cases hlt : i < l.length
  · obtain ⟨x, hx⟩ := get_of_lt hlt
    have hxx := pairs_get hx
    have hll : (pairsOf l).length = l.length := by simp [pairsOf]
    have hpcr := HPC.out.below hbe lc
    obtain ⟨bk, off, rfl⟩ := hpcr.addr (prs_ne (by omega))
    have c1 := hpcr.at (prs_fst hxx)
    have c2 := hpcr.at (prs_snd hxx)
    rw [<- Nat.add_assoc] at c2
    have hne0 : w.heap.size ≠ wr.heap.size := by have := heap_lt0 k0; simp at this; omega
    have hne1 : w.heap.size + 1 ≠ wr.heap.size := by have := heap_lt0 m0; simp at this; omega
    have hne2 : bk ≠ wr.heap.size := by have := heap_lt0 c1; simp at this; omega
    have k0d : wr.drew.cell? ⟨w.heap.size, 0, none⟩ = some (.int .i64 L) := k0
    have m0d : wr.drew.cell? ⟨w.heap.size + 1, 0, none⟩ = some (.int .i64 n) := m0
    have m1d : wr.drew.cell? ⟨w.heap.size + 1, 1, none⟩ = some (.int .i64 m) := m1
    have c1d : wr.drew.cell? ⟨bk, off + i * 2, none⟩ = some (.int .i64 x.1.1) := c1
    have c2d : wr.drew.cell? ⟨bk, off + i * 2 + 1, none⟩ = some (.int .i64 x.1.2) := c2
    have i1 : (i : Int) < (l.length : Int) := by omega
    have i2 : (0 : Int) <= (i : Int) := by omega
    have hcov := fun W (h : Below wr.heap.size wr W) => HCO.out x W (HCR.out.below h lc)
    have hmst := misP_step (n := n) (d := m) (ys := wvs L cs) hx
    have hF : fitP (n : Int) m L (wvs L cs) x = fitF (srv n m L.toNat (wav L x.1.1 x.1.2)) (wvs L cs) := rfl
    rw [<- hF] at hcov
    have hmlen : (misP n m L (wvs L cs) (l.take i)).length <= 400 := by
     have h9 : (misP (n : Int) m L (wvs L cs) (l.take i)).length <= (l.take i).length := misI_len _ _ _
     rw [List.length_take] at h9
     omega
    generalize fitI (fitP (n : Int) m L (wvs L cs) x) = fi at *
    generalize fitS (fitP (n : Int) m L (wvs L cs) x) = fs at *
    generalize (fitP (n : Int) m L (wvs L cs) x).isSome = ok at *
    have hsn : (ok = false -> (misP n m L (wvs L cs) (l.take (i + 1))).length = (misP n m L (wvs L cs) (l.take i)).length + 1 /\ (misP n m L (wvs L cs) (l.take (i + 1))).map (Value.int .i64) = (misP n m L (wvs L cs) (l.take i)).map (Value.int .i64) ++ [.int .i64 i]) /\ (ok = true -> misP n m L (wvs L cs) (l.take (i + 1)) = misP n m L (wvs L cs) (l.take i)) := by
     refine ⟨fun h => ?_, fun h => ?_⟩
     · rw [hmst, h, if_neg (by decide)]; simp
     · rw [hmst, h, if_pos rfl, List.append_nil]
    have HCOV := hG hcov; have HSN := hG hsn
    clear hxx hll hpcr hx hcov hsn hF hmst
    go_wp2_with fail
    go_region_held3 (fun w' => w'.cell? ⟨w.heap.size, 0, none⟩ = some (.int .i64 L) /\ w'.cell? ⟨w.heap.size + 1, 0, none⟩ = some (.int .i64 n) /\ w'.cell? ⟨w.heap.size + 1, 1, none⟩ = some (.int .i64 m) /\ w'.cell? ⟨bk, off + i * 2, none⟩ = some (.int .i64 x.1.1) /\ w'.cell? ⟨bk, off + i * 2 + 1, none⟩ = some (.int .i64 x.1.2))
     (first | with_reducible exact ⟨k0, m0, m1, c1, c2⟩ | with_reducible exact ⟨k0d, m0d, m1d, c1d, c2d⟩ | with_reducible exact ⟨z0, z1, z2, z3, z4⟩ | exact ⟨keep2 z0 hne0, keep2 z1 hne1, keep2 z2 hne1, keep2 z3 hne2, keep2 z4 hne2⟩ | go_keep)
     (first
     | (go_at_call 54; (with_reducible refine Calls.mono (HCOV.out wr.drew (bg.drew)) ?_); rintro e wb ⟨rfl, hbb⟩; have hbz := ((Below.refl wr.heap.size wr).drew).trans hbb; have z0 := cell_keep k0 hbz lc; have z1 := cell_keep m0 hbz lc; have z2 := cell_keep m1 hbz lc; have z3 := cell_keep c1 hbz lc; have z4 := cell_keep c2 hbz lc; have n0 := World.new_ne wb _ z0; have n1 := World.new_ne wb _ z1; have n2 := World.new_ne wb _ z2; have n3 := World.new_ne wb _ z3; have n4 := World.new_ne wb _ z4; have HBZ := hG hbz; clear hbb hbz)
     | (go_at_call 54; (with_reducible refine Calls.mono (HCOV.out (wr.alloc (.cells #[.int .i64 0, .int .i64 0] 93)).drew (((Below.refl _ wr).alloc lc _).drew)) ?_); rintro e wb ⟨rfl, hbb⟩; have hba := (((Below.refl wr.heap.size wr).alloc lc (.cells #[.int .i64 0, .int .i64 0] 93)).drew); have hbz := hba.trans (hbb.mono hba.size); have hqq := (show Blk (wr.alloc (.cells #[.int .i64 0, .int .i64 0] 93)).drew wr.heap.size 93 #[.int .i64 0, .int .i64 0] from heap_alloc_new wr _).below hbb (by simp); have y0 := hqq.cell 0; have y1 := hqq.cell 1; simp only [List.getElem?_toArray, List.getElem?_cons_succ, List.getElem?_cons_zero] at y0 y1; have g0 := hqq.free 0; have g1 := hqq.free 1; have z0 := cell_keep k0 hbz lc; have z1 := cell_keep m0 hbz lc; have z2 := cell_keep m1 hbz lc; have z3 := cell_keep c1 hbz lc; have z4 := cell_keep c2 hbz lc; have HBZ := hG hbz; have HQQ := hG hqq; clear hbb hbz hba hqq))
    rotate_left
    · have hbx := (HBZ.out.setCell (p := ⟨wr.heap.size, 0, none⟩) lc (.int .i64 fi)).setCell (p := ⟨wr.heap.size, 1, none⟩) lc (.int .i64 fs)
      generalize (wb.setCell ⟨wr.heap.size, 0, none⟩ (.int .i64 fi)).setCell ⟨wr.heap.size, 1, none⟩ (.int .i64 fs) = wv at *
      have hownX := own_belowK HO.out hbx lc
      have hbex := hbe.trans (hbx.mono hbe.size)
      have hszx := hbex.size
      cases hsm : ok with
      | false =>
        have hfin0 := HSN.out.1 hsm
        go_wp2_with (at_builtin; refine wpList_append_own _ rfl _ _ 43 rfl w2.heap.size 3 i0 (.int .i64 0) 1 8 Tryz.underlying43 hi hz0 hz1 hz2 rfl (by decide) _ _ _ rfl (hownX.alloc _) ⟨wv.heap.size, 0, none⟩ 1 1 [.int .i64 i] rfl rfl (news1 _ _ _) (by simp [Value.oneCell']) (by unfold maxLen; omega) (by omega) (by simp; omega) ?_; intro v1 wz hown1 hgrow _)
        have hfin := hown1
        rw [<- hfin0.1, <- hfin0.2] at hfin
        have hbz2 := (hbex.alloc hbex.size (.cells #[.int .i64 i] 3)).grown hgrow (by simp; omega) HOB.out
        clear hown1 hgrow hownX
        have HFIN := hG hfin; clear hfin
        go_wp2_with fail
        go_roundw
        case rel => exact ⟨i + 1, by omega, by go_num, HFIN.out, hbz2⟩
        case measure => simp [intOf]; omega
      | true =>
        have hfin0 := HSN.out.2 hsm
        go_wp2_with fail
        go_roundw
        case rel => exact ⟨i + 1, by omega, by go_num, by rw [hfin0]; exact hownX, hbex⟩
        case measure => simp [intOf]; omega
    · have hbx := HBZ.out.alloc HBZ.out.size (.cells #[.int .i64 fi, .int .i64 fs] 93)
      generalize wb.alloc (.cells #[.int .i64 fi, .int .i64 fs] 93) = wv at *
      have hownX := own_belowK HO.out hbx lc
      have hbex := hbe.trans (hbx.mono hbe.size)
      have hszx := hbex.size
      cases hsm : ok with
      | false =>
        have hfin0 := HSN.out.1 hsm
        go_wp2_with (at_builtin; refine wpList_append_own _ rfl _ _ 43 rfl w2.heap.size 3 i0 (.int .i64 0) 1 8 Tryz.underlying43 hi hz0 hz1 hz2 rfl (by decide) _ _ _ rfl (hownX.alloc _) ⟨wv.heap.size, 0, none⟩ 1 1 [.int .i64 i] rfl rfl (news1 _ _ _) (by simp [Value.oneCell']) (by unfold maxLen; omega) (by omega) (by simp; omega) ?_; intro v1 wz hown1 hgrow _)
        have hfin := hown1
        rw [<- hfin0.1, <- hfin0.2] at hfin
        have hbz2 := (hbex.alloc hbex.size (.cells #[.int .i64 i] 3)).grown hgrow (by simp; omega) HOB.out
        clear hown1 hgrow hownX
        have HFIN := hG hfin; clear hfin
        go_wp2_with fail
        go_roundw
        case rel => exact ⟨i + 1, by omega, by go_num, HFIN.out, hbz2⟩
        case measure => simp [intOf]; omega
      | true =>
        have hfin0 := HSN.out.2 hsm
        go_wp2_with fail
        go_roundw
        case rel => exact ⟨i + 1, by omega, by go_num, by rw [hfin0]; exact hownX, hbex⟩
        case measure => simp [intOf]; omega
  · obtain rfl : i = l.length := by omega
    rw [List.take_length] at HO
    obtain ⟨ma, cm, rfl, hma⟩ := own_cells HO.out
    have HMA := hG hma
    clear hma HO k0 m0 m1
    go_wp2_with fail
    go_ret
    exact ⟨⟨ma, cm, rfl, HMA.out⟩, HBW.out⟩
set_option maxRecDepth 100000 in
set_option maxHeartbeats 2000000 in
theorem refMisses_any (L a b c d : Int) (cs : List (Int × Int)) (ao : Option Addr) (cap : Nat) (s : ByteArray) (w : World) (hs : s.size <= 1048576) (hc : Cells w ao (prs cs)) (hl : cs.length <= 9223372036854775807) :
 Calls Tryz.prog 25 #[.agg #[.int .i64 L, .int .i64 a, .int .i64 b, .int .i64 c, .int .i64 d], .slice ao cs.length cap, .string s] w fun e w' => (∃ m cm, e = .returned (.tuple #[.slice m (misR L a b c d cs s).length cm, .int .i64 (covE L a b c d cs s)]) /\ Cells w' m ((misR L a b c d cs s).map (Value.int .i64))) /\ Below w.heap.size w w' := by
 obtain ⟨W0, hW0⟩ : ∃ W0, w.alloc (.cells #[.int .i64 L, .int .i64 a, .int .i64 b, .int .i64 c, .int .i64 d] 23) = W0 := ⟨_, rfl⟩
 have hb0 : Below w.heap.size w W0 := by rw [<- hW0]; exact (Below.refl _ w).alloc lc _
 have hs0 : W0.heap.size = w.heap.size + 1 := by rw [<- hW0]; simp
 have q0 : Blk W0 w.heap.size 23 #[.int .i64 L, .int .i64 a, .int .i64 b, .int .i64 c, .int .i64 d] := by rw [<- hW0]; exact heap_alloc_new w _
 have hbg := refBegin_any L a b c d cs ao cap s W0 hs (hc.below hb0 lc) hl
 have hcc := hc.below hb0 lc
 have HW0 := hG hW0; have HBG := hG hbg; have HB0 := hG hb0; have HQ0 := hG q0; have HCC := hG hcc
 clear hW0 hb0 q0 hbg hc hcc
 go_enter Tryz.func25, Tryz.ntmps25
 go_wp2_with fail
 rw [HW0.out]
 refine HBG.out.mono ?_
 rintro e w1 ⟨⟨n, m, rfl, hnm⟩, hb1⟩
 have hbw := HB0.out.trans (hb1.mono HB0.out.size)
 by_cases hE : covE L a b c d cs s = 0
 · have hbs := hnm hE
   obtain ⟨hfo, hbk, _⟩ := covE_0 hE
   obtain ⟨_, _, hn6, hm6, _, _⟩ := barS_some hbs
   have hmr := (misR_yes hE hbs).1
   have hmi := fun W h => refmisses_any n m L a b c d cs ao cap W hfo hbk (by omega) (by omega) h
   rw [<- hmr] at hmi
   have hq := HQ0.out.below hb1 (by omega)
   have k0 := hq.cell 0
   have k1 := hq.cell 1
   have k2 := hq.cell 2
   have k3 := hq.cell 3
   have k4 := hq.cell 4
   simp only [List.getElem?_toArray, List.getElem?_cons_succ, List.getElem?_cons_zero] at k0 k1 k2 k3 k4
   have hlt : w.heap.size < w1.heap.size := by have := hb1.size; omega
   have hal := (Below.refl w1.heap.size w1).alloc lc (.cells #[.int .i64 n, .int .i64 m] 88)
   have hc1 := (HCC.out.below hb1 lc).below hal lc
   have HMI := hG hmi; have HC1 := hG hc1; have HAL := hG hal; have HBW := hG hbw
   have HE := hG hE
   rw [hE]
   clear hE hnm hbs hfo hbk hn6 hm6 hmr hmi hq hc1 hal hbw hb1
   go_wp2_with fail
   refine (HMI.out _ HC1.out).mono ?_
   rintro e w2 ⟨⟨ma, cm, rfl, hma⟩, hb2⟩
   have HMA := hG hma
   have hbz := HBW.out.trans ((HAL.out.trans (hb2.mono HAL.out.size)).mono HBW.out.size)
   have HBZ := hG hbz
   clear hma hb2 hbz
   go_wp2_with fail
   go_ret2
   exact ⟨⟨ma, cm, by rw [HE.out]; rfl, HMA.out⟩, HBZ.out⟩
 · have hr : misR L a b c d cs s = [] := by unfold misR; rw [if_neg hE]
   have HR := hG hr; have HBW := hG hbw
   generalize hvv : covE L a b c d cs s = v at *
   have HVV := hG hvv
   have hv : (v != 0) = true := by simpa using hE
   clear hvv hr hnm hb1 hbw
   go_wp2_with fail
   go_ret2
   exact ⟨⟨none, 0, by rw [HR.out, HVV.out]; rfl, by rw [HR.out]; exact Cells.nil _ _⟩, HBW.out.alloc HBW.out.size _⟩
set_option maxRecDepth 100000 in
set_option maxHeartbeats 4000000 in
theorem refWorst_good (L a b c d : Int) (cs : List (Int × Int)) (ao : Option Addr) (cap : Nat) (w : World) (hc : Cells w ao (prs cs)) (hl : cs.length <= 9223372036854775807) (hE : covE L a b c d cs ⟨#[48]⟩ = 0) :
 Calls Tryz.prog 28 #[.agg #[.int .i64 L, .int .i64 a, .int .i64 b, .int .i64 c, .int .i64 d], .slice ao cs.length cap] w fun e w' => e = .returned (.tuple #[.string (worT (wrsF L cs (ptsAll L a c (d - c + 1).toNat (b - a + 1).toNat))), .int .i64 (worE (wrsF L cs (ptsAll L a c (d - c + 1).toNat (b - a + 1).toNat)))]) /\ Below w.heap.size w w' := by
 obtain ⟨W0, hW0⟩ : ∃ W0, w.alloc (.cells #[.int .i64 L, .int .i64 a, .int .i64 b, .int .i64 c, .int .i64 d] 23) = W0 := ⟨_, rfl⟩
 have hb0 : Below w.heap.size w W0 := by rw [<- hW0]; exact (Below.refl _ w).alloc lc _
 have hs0 : W0.heap.size = w.heap.size + 1 := by rw [<- hW0]; simp
 have q0 : Blk W0 w.heap.size 23 #[.int .i64 L, .int .i64 a, .int .i64 b, .int .i64 c, .int .i64 d] := by rw [<- hW0]; exact heap_alloc_new w _
 have hcc := hc.below hb0 lc
 have hbg := refBegin_any L a b c d cs ao cap ⟨#[48]⟩ W0 (by decide) hcc hl
 obtain ⟨hfo, hbk, _⟩ := covE_0 hE
 have hpt := fun W => refPoints_any L a b c d W hfo
 have hall : ∀ c ∈ cs, chOK L c = true := by
  simp only [bankOK, Bool.and_eq_true, decide_eq_true_eq, List.all_eq_true] at hbk
  exact hbk.1.2
 have hl64 := bankOK_len9 hbk
 have hwn := wrsF_none (ptsAll L a c (d - c + 1).toNat (b - a + 1).toNat) hall
 have hwr := fun h => wrs_ref hall (l := ptsAll L a c (d - c + 1).toNat (b - a + 1).toNat) h
 have hok := fun (l : List (Pt L)) => refW_ok hall l
 have hpl := ptsAll_len L a c (d - c + 1).toNat (b - a + 1).toNat
 have hfm := fam_true hfo
 have h400 : (ptsAll L a c (d - c + 1).toNat (b - a + 1).toNat).length <= 400 := Nat.le_trans hpl hfm.2.2.2.2.2.2.2.2
 generalize ptsAll L a c (d - c + 1).toNat (b - a + 1).toNat = l at *
 have HW0 := hG hW0; have HBG := hG hbg; have HB0 := hG hb0; have HQ0 := hG q0; have HCC := hG hcc; have HPT := hG hpt
 have HALL := hG hall; have HWN := hG hwn; have HWR := hG hwr; have HOK := hG hok; have HS0 := hG hs0
 clear hW0 hb0 q0 hbg hc hcc hpt hall hwn hwr hok hpl hfm hfo hbk hs0
 go_enter Tryz.func28, Tryz.ntmps28
 go_wp2_with fail
 rw [HW0.out]
 refine HBG.out.mono ?_
 rintro e w1 ⟨⟨n, m, rfl, hnm⟩, hb1⟩
 rw [hE]
 clear hnm hE
 have hbw := HB0.out.trans (hb1.mono HB0.out.size)
 have hlt : w.heap.size < w1.heap.size := by have := hb1.size; have := HS0.out; omega
 obtain ⟨k0, k1, k2, k3, k4⟩ : w1.cell? ⟨w.heap.size, 0, none⟩ = some (.int .i64 L) /\ w1.cell? ⟨w.heap.size, 1, none⟩ = some (.int .i64 a) /\ w1.cell? ⟨w.heap.size, 2, none⟩ = some (.int .i64 b) /\ w1.cell? ⟨w.heap.size, 3, none⟩ = some (.int .i64 c) /\ w1.cell? ⟨w.heap.size, 4, none⟩ = some (.int .i64 d) := by
  have h := HQ0.out.below hb1 (by have := HS0.out; omega)
  exact ⟨h.cell 0, h.cell 1, h.cell 2, h.cell 3, h.cell 4⟩
 have hc1 := HCC.out.below hb1 lc
 have HC1 := hG hc1; have HBW := hG hbw
 clear hb1 hc1 hbw HBG HB0 HQ0 HCC
 go_wp2_with fail
 refine (HPT.out _).mono ?_
 rintro e w2 ⟨⟨pb, pc, rfl, hpc⟩, hb2⟩
 have hb12 : Below w1.heap.size w1 w2 := ((Below.refl w1.heap.size w1).alloc lc _).trans (hb2.mono (by simp))
 have HPC := hG hpc; have HB12 := hG hb12
 have x0 : w2.cell? ⟨w.heap.size, 0, none⟩ = some (.int .i64 L) := cell_keep k0 hb12 lc
 clear hpc hb2 hb12 k0 k1 k2 k3 k4
 cases hln : l with
 | nil =>
   have h0 : l = [] := hln
   subst h0
   have hw0 := HWN.out.2 rfl
   have HW := hG hw0
   clear hw0
   go_wp2
   go_ret2
   exact ⟨by rw [HW.out]; rfl, HBW.out.trans (HB12.out.mono HBW.out.size)⟩
 | cons x0' l0' =>
   rw [<- hln]
   have hne : l ≠ [] := by rw [hln]; simp
   clear hln
   have hlp : 0 < l.length := List.length_pos_iff.2 hne
   have hw0 := HWR.out hne
   have HW := hG hw0
   clear hw0 HWR HWN
   have hlz : ((l.length : Int) == 0) = false := by simp; omega
   have hq1 := fun W => Z4.qInt_any 1 W (by omega) (by omega)
   have HQI := hG hq1
   clear hq1
   go_wp2_with fail
   refine (HQI.out _).mono ?_
   rintro e w3 ⟨⟨v, rfl, hv⟩, hb3⟩
   obtain ⟨a1, n1, c1, a2, n2, c2, rfl, hv1, hv2⟩ := qv_parts (p := (1, 1)) hv
   have hqb := QB.new hv1 hv2
   have hbx : Below w2.heap.size w2 (w3.alloc (.cells #[.bool false, .slice a1 n1 c1, .bool false, .slice a2 n2 c2] 129)) := hb3.alloc hb3.size _
   have HQB := hG hqb; have HB3 := hG hb3
   clear hqb hbx hb3 hv hv1 hv2
   go_wp2_with fail
   go_loopw [10] (fun iv wr => ∃ i : Nat, i <= l.length /\ iv = .int .i64 i /\ QB wr w3.heap.size (refW L cs (l.take i)) /\ Below w3.heap.size w3 wr) (fun iv _ => l.length - (intOf iv).toNat)
   case atStart => exact ⟨0, Nat.zero_le _, rfl, HQB.out, bg.alloc lc _⟩
   case round =>
    obtain ⟨i, hi', rfl, hqb, hbe⟩ := hrel
    obtain ⟨wo, rfl⟩ : ∃ wo, wo = wr := ⟨_, rfl⟩
    have hb2r := HB3.out.trans (hbe.mono HB3.out.size)
    have hb1r := HB12.out.trans (hb2r.mono HB12.out.size)
    have hbwr := HBW.out.trans (hb1r.mono HBW.out.size)
    have y0 : wo.cell? ⟨w.heap.size, 0, none⟩ = some (.int .i64 L) := cell_keep x0 hb2r lc
    by_cases hlt2 : i < l.length
    · obtain ⟨x, hx⟩ := get_of_lt hlt2
      have hxx := pairs_get hx
      have hll : (pairsOf l).length = l.length := by simp [pairsOf]
      have hpcr := HPC.out.below hb2r lc
      obtain ⟨bk, off, rfl⟩ := hpcr.addr (prs_ne (by omega))
      have c1 := hpcr.at (prs_fst hxx)
      have c2 := hpcr.at (prs_snd hxx)
      rw [<- Nat.add_assoc] at c2
      have i1 : (i : Int) < (l.length : Int) := by omega
      have i2 : (0 : Int) <= (i : Int) := by omega
      have hsn := refW_snoc L cs (l.take i) x
      rw [show l.take i ++ [x] = l.take (i + 1) by rw [List.take_add_one, hx]; rfl] at hsn
      have hq0 := fun W => Z4.qInt_any 0 W (by omega) (by omega)
      have HQI0 := hG hq0
      have HSN := hG hsn; have HQB9 := hG hqb; have HBE := hG hbe; have HB1R := hG hb1r; have HBWR := hG hbwr
      have hxp := fun c hc => pt_match x (HALL.out c hc)
      have hmo := fun k => mostF_ok x (cs := cs.take k) (fun c hc => HALL.out c (List.mem_of_mem_take hc))
      have hx21 := x.2.1
      have HXP := hG hxp; have HMO := hG hmo; have HX21 := hG hx21
      clear hq0 hsn hqb hbe hb2r hb1r hbwr hxx hll hpcr hx hxp hmo hx21
      go_wp2_with fail
      refine (HQI0.out _).mono ?_
      rintro e w4 ⟨⟨v, rfl, hv⟩, hb4⟩
      obtain ⟨d1, m1, e1, d2, m2, e2, rfl, hv1, hv2⟩ := qv_parts (p := (0, 1)) hv
      have hqb := QB.new hv1 hv2
      have HQB4 := hG hqb; have HB4 := hG hb4
      clear hqb hb4 hv hv1 hv2
      go_wp2_with fail
      go_loopw [12] (fun kv ws => ∃ k : Nat, k <= cs.length /\ kv = .int .i64 k /\ QB ws w4.heap.size (mostF L x.1 (cs.take k)) /\ Below w4.heap.size w4 ws) (fun kv _ => cs.length - (intOf kv).toNat)
      case atStart => exact ⟨0, Nat.zero_le _, rfl, HQB4.out, bg.alloc lc _⟩
      case round =>
       obtain ⟨k, hk, rfl, hqb, hbs⟩ := hrel
       have hbrs := HB4.out.trans (hbs.mono HB4.out.size)
       have hb1s := HB1R.out.trans (hbrs.mono HB1R.out.size)
       by_cases hlt3 : k < cs.length
       · obtain ⟨⟨r, s⟩, hrs⟩ := get_of_lt hlt3
         have hcs := HC1.out.below hb1s lc
         obtain ⟨bb, ob, rfl⟩ := hcs.addr (prs_ne (by omega))
         have g1 := hcs.at (prs_fst hrs)
         have g2 := hcs.at (prs_snd hrs)
         rw [<- Nat.add_assoc] at g2
         have z0 := cell_keep y0 hbrs lc
         have z1 := cell_keep c1 hbrs lc
         have z2 := cell_keep c2 hbrs lc
         have i3 : (k : Int) < (cs.length : Int) := by omega
         have i4 : (0 : Int) <= (k : Int) := by omega
         have hmat := HXP.out (r, s) (List.mem_of_getElem? hrs)
         have hw1 := fun W => refWaveL_any L x.1.1 x.1.2 W HX21.out
         obtain ⟨hm1, hm2, hm3, hm4⟩ := matE_zero hmat
         have hsn := mostF_snoc L x.1 (cs.take k) (r, s)
         rw [show cs.take k ++ [(r, s)] = cs.take (k + 1) by rw [List.take_add_one, hrs]; rfl] at hsn
         have hfr := (mFr_ok hmat).1
         have hrm := fun ao bo ca cb W c1 c2 => refmatch_call L x.1.1 x.1.2 r s hmat ao bo ca cb W c1 c2
         have hw2 := fun W => refWaveL_any L r s W hm2
         generalize mFr L x.1.1 x.1.2 r s = fr at *
         have hks : ∀ W, Below wr.heap.size wr W -> W.cell? ⟨w.heap.size, 0, none⟩ = some (.int .i64 L) /\ W.cell? ⟨bk, off + i * 2, none⟩ = some (.int .i64 x.1.1) /\ W.cell? ⟨bk, off + i * 2 + 1, none⟩ = some (.int .i64 x.1.2) /\ W.cell? ⟨bb, ob + k * 2, none⟩ = some (.int .i64 r) /\ W.cell? ⟨bb, ob + k * 2 + 1, none⟩ = some (.int .i64 s) := fun W h => ⟨cell_keep z0 h lc, cell_keep z1 h lc, cell_keep z2 h lc, cell_keep g1 h lc, cell_keep g2 h lc⟩
         have HKS := hG hks; have HW1 := hG hw1; have HW2 := hG hw2; have HMAT := hG hrm; have HMS := hG hsn; have HFR := hG hfr
         have HQB2 := hG hqb; have HBS := hG hbs; have HCS := hG hcs
         clear hks hw1 hw2 hrm hsn hfr hmat hm1 hm2 hm3 hm4 hrs hqb hbs hb1s hbrs hcs
         go_wp2_with fail
         refine wp_region_held_drew (S := fun w' => w'.cell? ⟨w.heap.size, 0, none⟩ = some (.int .i64 L) /\ w'.cell? ⟨bk, off + i * 2, none⟩ = some (.int .i64 x.1.1) /\ w'.cell? ⟨bk, off + i * 2 + 1, none⟩ = some (.int .i64 x.1.2) /\ w'.cell? ⟨bb, ob + k * 2, none⟩ = some (.int .i64 r) /\ w'.cell? ⟨bb, ob + k * 2 + 1, none⟩ = some (.int .i64 s)) (by kernel_rfl) ⟨z0, z1, z2, g1, g2⟩ (fun hHeld => ?_)
         refine tkV 0 (.pointer (some ⟨w.heap.size, 0, none⟩)) hHeld ?_
         refine tkV 1 (.int .i64 L) hHeld ?_
         refine tkV 2 (.slice (some ⟨bk, off, none⟩) l.length pc) hHeld ?_
         refine tkV 3 (.int .i64 i) hHeld ?_
         refine tkV 4 (.pointer (some ⟨bk, off + i * 2, none⟩)) hHeld ?_
         refine tkV 5 (.agg #[.int .i64 x.1.1, .int .i64 x.1.2]) hHeld ?_
         refine tkV 7 (.pointer (some ⟨w.heap.size, 0, none⟩)) hHeld ?_
         refine tkV 8 (.int .i64 L) hHeld ?_
         refine tkV 9 (.slice (some ⟨bb, ob, none⟩) cs.length cap) hHeld ?_
         refine tkV 10 (.int .i64 k) hHeld ?_
         refine tkV 11 (.pointer (some ⟨bb, ob + k * 2, none⟩)) hHeld ?_
         refine tkV 12 (.agg #[.int .i64 r, .int .i64 s]) hHeld ?_
         --REGION15<<
         have hb0 : Below wr.heap.size wr wr.drew := (Below.refl wr.heap.size wr).drew
         obtain ⟨wd, hwd⟩ : ∃ W9, wr.drew = W9 := ⟨_, rfl⟩
         rw [hwd]
         rw [hwd] at hb0 hHeld
         refine wpAnyH_ready (rs := [6, 15]) (by kernel_rfl) (by simp) (AllReadyH.cons (by rfl) (fun K hK => ?_) (AllReadyH.cons (by rfl) (fun K hK => ?_) AllReadyH.nil))
         go_simp
         refine (HW1.out _).mono ?_
         rintro e w1x ⟨⟨b1, c1, rfl, hc1⟩, hbx1⟩
         have hb1 : Below wr.heap.size wr w1x := hb0.trans (hbx1.mono hb0.size)
         refine hK.out _ _ (HKS.out _ hb1) (fun hH1 => ?_)
         clear hK K
         try simp only [Act.put, List.setIfInBounds_toArray, List.set_cons_zero, List.set_cons_succ]
         refine wpAnyH_ready (rs := [13, 15]) (by kernel_rfl) (by simp) (AllReadyH.cons (by rfl) (fun K hK => ?_) (AllReadyH.cons (by rfl) (fun K hK => ?_) AllReadyH.nil))
         go_simp
         refine (HW2.out _).mono ?_
         rintro e w2x ⟨⟨b2, c2, rfl, hc2⟩, hbx2⟩
         have hb2 : Below wr.heap.size wr w2x := hb1.trans (hbx2.mono hb1.size)
         have ha2 := hc1.below hbx2 lc
         refine hK.out _ _ (HKS.out _ hb2) (fun hH2 => ?_)
         clear hK K
         try simp only [Act.put, List.setIfInBounds_toArray, List.set_cons_zero, List.set_cons_succ]
         refine wpAnyH_ready (rs := [14, 15]) (by kernel_rfl) (by simp) (AllReadyH.cons (by rfl) (fun K hK => ?_) (AllReadyH.cons (by rfl) (fun K hK => ?_) AllReadyH.nil))
         go_simp
         refine (HMAT.out _ _ _ _ _ ha2 hc2).mono ?_
         rintro e w3x ⟨⟨v3, rfl, hq3⟩, hbx3⟩
         obtain ⟨p3, i3, s3, q3, j3, t3, rfl, hv3, hv3y⟩ := qv_parts hq3
         have hb3 : Below wr.heap.size wr w3x := hb2.trans (hbx3.mono hb2.size)
         refine hK.out _ _ (HKS.out _ hb3) (fun hH3 => ?_)
         clear hK K
         try simp only [Act.put, List.setIfInBounds_toArray, List.set_cons_zero, List.set_cons_succ]
         refine tkC 15 (fun K hK => ?_)
         go_simp
         have hb4 : Below wr.heap.size wr (w3x.alloc (.cells #[.bool false, .slice none 0 0, .bool false, .slice none 0 0] 129)) := hb3.alloc hb3.size _
         have hx4 := Blk.new w3x 129 #[.bool false, .slice none 0 0, .bool false, .slice none 0 0]
         have hv4 := hv3.below ((Below.refl w3x.heap.size w3x).alloc lc (.cells #[.bool false, .slice none 0 0, .bool false, .slice none 0 0] 129)) lc
         have hy4 := hv3y.below ((Below.refl w3x.heap.size w3x).alloc lc (.cells #[.bool false, .slice none 0 0, .bool false, .slice none 0 0] 129)) lc
         obtain ⟨wz4, hwz4⟩ : ∃ W9, w3x.alloc (.cells #[.bool false, .slice none 0 0, .bool false, .slice none 0 0] 129) = W9 := ⟨_, rfl⟩
         obtain ⟨D4, hD4⟩ : ∃ D9, w3x.heap.size = D9 := ⟨_, rfl⟩
         have hD40 : wr.heap.size <= D4 := by rw [<- hD4]; exact hb3.size
         rw [hD4] at hx4
         try rw [hD4]
         try rw [hwz4]
         rw [hwz4] at hb4 hx4 hv4 hy4
         refine hK.out _ _ (HKS.out _ hb4) (fun hH4 => ?_)
         clear hK K
         try simp only [Act.put, List.setIfInBounds_toArray, List.set_cons_zero, List.set_cons_succ]
         have hv4y := hy4
         refine tkC 16 (fun K hK => ?_)
         have e0 := hx4.cell 0; have e1 := hx4.cell 1; have e2 := hx4.cell 2; have e3 := hx4.cell 3
         simp only [List.getElem?_toArray, List.getElem?_cons_succ, List.getElem?_cons_zero] at e0 e1 e2 e3
         have f0 := hx4.free 0; have f1 := hx4.free 1; have f2 := hx4.free 2; have f3 := hx4.free 3
         have hqf := QB.fill hx4 hv4 hv4y
         have hbf := ((((hb4.setCell (p := ⟨D4, 0, none⟩) hD40 (.bool false)).setCell (p := ⟨D4, 1, none⟩) hD40 (.slice p3 i3 s3)).setCell (p := ⟨D4, 2, none⟩) hD40 (.bool false)).setCell (p := ⟨D4, 3, none⟩) hD40 (.slice q3 j3 t3))
         go_simp
         refine hK.out _ _ (HKS.out _ hbf) (fun hHf => ?_)
         clear hK K
         try simp only [Act.put, List.setIfInBounds_toArray, List.set_cons_zero, List.set_cons_succ]
         refine wpAnyH_done (by kernel_rfl) ?_ _
         obtain ⟨wv, hwv⟩ : ∃ W9, ((((wz4.setCell ⟨D4, 0, none⟩ (.bool false)).setCell ⟨D4, 1, none⟩ (.slice p3 i3 s3)).setCell ⟨D4, 2, none⟩ (.bool false)).setCell ⟨D4, 3, none⟩ (.slice q3 j3 t3)) = W9 := ⟨_, rfl⟩
         rw [hwv] at hqf hbf ⊢
         clear hwv
         rotate_left
         go_simp
         have hb6 : Below wr.heap.size wr (w2x.alloc (.cells #[.bool false, .slice none 0 0, .bool false, .slice none 0 0] 129)) := hb2.alloc hb2.size _
         have hx6 := Blk.new w2x 129 #[.bool false, .slice none 0 0, .bool false, .slice none 0 0]
         have ha6 := ha2.below ((Below.refl w2x.heap.size w2x).alloc lc (.cells #[.bool false, .slice none 0 0, .bool false, .slice none 0 0] 129)) lc
         have hbb6 := hc2.below ((Below.refl w2x.heap.size w2x).alloc lc (.cells #[.bool false, .slice none 0 0, .bool false, .slice none 0 0] 129)) lc
         obtain ⟨wz6, hwz6⟩ : ∃ W9, w2x.alloc (.cells #[.bool false, .slice none 0 0, .bool false, .slice none 0 0] 129) = W9 := ⟨_, rfl⟩
         obtain ⟨D6, hD6⟩ : ∃ D9, w2x.heap.size = D9 := ⟨_, rfl⟩
         have hD60 : wr.heap.size <= D6 := by rw [<- hD6]; exact hb2.size
         rw [hD6] at hx6
         try rw [hD6]
         try rw [hwz6]
         rw [hwz6] at hb6 hx6 ha6 hbb6
         refine hK.out _ _ (HKS.out _ hb6) (fun hH6 => ?_)
         clear hK K
         try simp only [Act.put, List.setIfInBounds_toArray, List.set_cons_zero, List.set_cons_succ]
         refine tkC 14 (fun K hK => ?_)
         go_simp
         refine (HMAT.out _ _ _ _ _ ha6 hbb6).mono ?_
         rintro e w7x ⟨⟨v7, rfl, hq7⟩, hbx7⟩
         obtain ⟨p7, i7, s7, q7, j7, t7, rfl, hv7, hv7y⟩ := qv_parts hq7
         have hb7 : Below wr.heap.size wr w7x := hb6.trans (hbx7.mono hb6.size)
         have hx7 := hx6.below hbx7 hx6.lt
         refine hK.out _ _ (HKS.out _ hb7) (fun hH7 => ?_)
         clear hK K
         try simp only [Act.put, List.setIfInBounds_toArray, List.set_cons_zero, List.set_cons_succ]
         refine tkC 16 (fun K hK => ?_)
         have e0 := hx7.cell 0; have e1 := hx7.cell 1; have e2 := hx7.cell 2; have e3 := hx7.cell 3
         simp only [List.getElem?_toArray, List.getElem?_cons_succ, List.getElem?_cons_zero] at e0 e1 e2 e3
         have f0 := hx7.free 0; have f1 := hx7.free 1; have f2 := hx7.free 2; have f3 := hx7.free 3
         have hqf := QB.fill hx7 hv7 hv7y
         have hbf := ((((hb7.setCell (p := ⟨D6, 0, none⟩) hD60 (.bool false)).setCell (p := ⟨D6, 1, none⟩) hD60 (.slice p7 i7 s7)).setCell (p := ⟨D6, 2, none⟩) hD60 (.bool false)).setCell (p := ⟨D6, 3, none⟩) hD60 (.slice q7 j7 t7))
         go_simp
         refine hK.out _ _ (HKS.out _ hbf) (fun hHf => ?_)
         clear hK K
         try simp only [Act.put, List.setIfInBounds_toArray, List.set_cons_zero, List.set_cons_succ]
         refine wpAnyH_done (by kernel_rfl) ?_ _
         obtain ⟨wv, hwv⟩ : ∃ W9, ((((w7x.setCell ⟨D6, 0, none⟩ (.bool false)).setCell ⟨D6, 1, none⟩ (.slice p7 i7 s7)).setCell ⟨D6, 2, none⟩ (.bool false)).setCell ⟨D6, 3, none⟩ (.slice q7 j7 t7)) = W9 := ⟨_, rfl⟩
         rw [hwv] at hqf hbf ⊢
         clear hwv
         rotate_left
         go_simp
         have hb9 : Below wr.heap.size wr (w1x.alloc (.cells #[.bool false, .slice none 0 0, .bool false, .slice none 0 0] 129)) := hb1.alloc hb1.size _
         have hx9 := Blk.new w1x 129 #[.bool false, .slice none 0 0, .bool false, .slice none 0 0]
         have ha9 := hc1.below ((Below.refl w1x.heap.size w1x).alloc lc (.cells #[.bool false, .slice none 0 0, .bool false, .slice none 0 0] 129)) lc
         obtain ⟨wz9, hwz9⟩ : ∃ W9, w1x.alloc (.cells #[.bool false, .slice none 0 0, .bool false, .slice none 0 0] 129) = W9 := ⟨_, rfl⟩
         obtain ⟨D9, hD9⟩ : ∃ D9, w1x.heap.size = D9 := ⟨_, rfl⟩
         have hD90 : wr.heap.size <= D9 := by rw [<- hD9]; exact hb1.size
         rw [hD9] at hx9
         try rw [hD9]
         try rw [hwz9]
         rw [hwz9] at hb9 hx9 ha9
         refine hK.out _ _ (HKS.out _ hb9) (fun hH9 => ?_)
         clear hK K
         try simp only [Act.put, List.setIfInBounds_toArray, List.set_cons_zero, List.set_cons_succ]
         refine tkC 13 (fun K hK => ?_)
         go_simp
         refine (HW2.out _).mono ?_
         rintro e w10x ⟨⟨b10, c10, rfl, hc10⟩, hbx10⟩
         have hb10 : Below wr.heap.size wr w10x := hb9.trans (hbx10.mono hb9.size)
         have hx10 := hx9.below hbx10 hx9.lt
         have ha10 := ha9.below hbx10 lc
         refine hK.out _ _ (HKS.out _ hb10) (fun hH10 => ?_)
         clear hK K
         try simp only [Act.put, List.setIfInBounds_toArray, List.set_cons_zero, List.set_cons_succ]
         refine tkC 14 (fun K hK => ?_)
         go_simp
         refine (HMAT.out _ _ _ _ _ ha10 hc10).mono ?_
         rintro e w11x ⟨⟨v11, rfl, hq11⟩, hbx11⟩
         obtain ⟨p11, i11, s11, q11, j11, t11, rfl, hv11, hv11y⟩ := qv_parts hq11
         have hb11 : Below wr.heap.size wr w11x := hb10.trans (hbx11.mono hb10.size)
         have hx11 := hx10.below hbx11 hx10.lt
         refine hK.out _ _ (HKS.out _ hb11) (fun hH11 => ?_)
         clear hK K
         try simp only [Act.put, List.setIfInBounds_toArray, List.set_cons_zero, List.set_cons_succ]
         refine tkC 16 (fun K hK => ?_)
         have e0 := hx11.cell 0; have e1 := hx11.cell 1; have e2 := hx11.cell 2; have e3 := hx11.cell 3
         simp only [List.getElem?_toArray, List.getElem?_cons_succ, List.getElem?_cons_zero] at e0 e1 e2 e3
         have f0 := hx11.free 0; have f1 := hx11.free 1; have f2 := hx11.free 2; have f3 := hx11.free 3
         have hqf := QB.fill hx11 hv11 hv11y
         have hbf := ((((hb11.setCell (p := ⟨D9, 0, none⟩) hD90 (.bool false)).setCell (p := ⟨D9, 1, none⟩) hD90 (.slice p11 i11 s11)).setCell (p := ⟨D9, 2, none⟩) hD90 (.bool false)).setCell (p := ⟨D9, 3, none⟩) hD90 (.slice q11 j11 t11))
         go_simp
         refine hK.out _ _ (HKS.out _ hbf) (fun hHf => ?_)
         clear hK K
         try simp only [Act.put, List.setIfInBounds_toArray, List.set_cons_zero, List.set_cons_succ]
         refine wpAnyH_done (by kernel_rfl) ?_ _
         obtain ⟨wv, hwv⟩ : ∃ W9, ((((w11x.setCell ⟨D9, 0, none⟩ (.bool false)).setCell ⟨D9, 1, none⟩ (.slice p11 i11 s11)).setCell ⟨D9, 2, none⟩ (.bool false)).setCell ⟨D9, 3, none⟩ (.slice q11 j11 t11)) = W9 := ⟨_, rfl⟩
         rw [hwv] at hqf hbf ⊢
         clear hwv
         rotate_left
         go_simp
         have hb13 : Below wr.heap.size wr (wd.alloc (.cells #[.bool false, .slice none 0 0, .bool false, .slice none 0 0] 129)) := hb0.alloc hb0.size _
         have hx13 := Blk.new wd 129 #[.bool false, .slice none 0 0, .bool false, .slice none 0 0]
         obtain ⟨wz13, hwz13⟩ : ∃ W9, wd.alloc (.cells #[.bool false, .slice none 0 0, .bool false, .slice none 0 0] 129) = W9 := ⟨_, rfl⟩
         obtain ⟨D13, hD13⟩ : ∃ D9, wd.heap.size = D9 := ⟨_, rfl⟩
         have hD130 : wr.heap.size <= D13 := by rw [<- hD13]; exact hb0.size
         rw [hD13] at hx13
         try rw [hD13]
         try rw [hwz13]
         rw [hwz13] at hb13 hx13
         refine hK.out _ _ (HKS.out _ hb13) (fun hH13 => ?_)
         clear hK K
         try simp only [Act.put, List.setIfInBounds_toArray, List.set_cons_zero, List.set_cons_succ]
         refine tkC 6 (fun K hK => ?_)
         go_simp
         refine (HW1.out _).mono ?_
         rintro e w14x ⟨⟨b14, c14, rfl, hc14⟩, hbx14⟩
         have hb14 : Below wr.heap.size wr w14x := hb13.trans (hbx14.mono hb13.size)
         have hx14 := hx13.below hbx14 hx13.lt
         refine hK.out _ _ (HKS.out _ hb14) (fun hH14 => ?_)
         clear hK K
         try simp only [Act.put, List.setIfInBounds_toArray, List.set_cons_zero, List.set_cons_succ]
         refine tkC 13 (fun K hK => ?_)
         go_simp
         refine (HW2.out _).mono ?_
         rintro e w15x ⟨⟨b15, c15, rfl, hc15⟩, hbx15⟩
         have hb15 : Below wr.heap.size wr w15x := hb14.trans (hbx15.mono hb14.size)
         have hx15 := hx14.below hbx15 hx14.lt
         have ha15 := hc14.below hbx15 lc
         refine hK.out _ _ (HKS.out _ hb15) (fun hH15 => ?_)
         clear hK K
         try simp only [Act.put, List.setIfInBounds_toArray, List.set_cons_zero, List.set_cons_succ]
         refine tkC 14 (fun K hK => ?_)
         go_simp
         refine (HMAT.out _ _ _ _ _ ha15 hc15).mono ?_
         rintro e w16x ⟨⟨v16, rfl, hq16⟩, hbx16⟩
         obtain ⟨p16, i16, s16, q16, j16, t16, rfl, hv16, hv16y⟩ := qv_parts hq16
         have hb16 : Below wr.heap.size wr w16x := hb15.trans (hbx16.mono hb15.size)
         have hx16 := hx15.below hbx16 hx15.lt
         refine hK.out _ _ (HKS.out _ hb16) (fun hH16 => ?_)
         clear hK K
         try simp only [Act.put, List.setIfInBounds_toArray, List.set_cons_zero, List.set_cons_succ]
         refine tkC 16 (fun K hK => ?_)
         have e0 := hx16.cell 0; have e1 := hx16.cell 1; have e2 := hx16.cell 2; have e3 := hx16.cell 3
         simp only [List.getElem?_toArray, List.getElem?_cons_succ, List.getElem?_cons_zero] at e0 e1 e2 e3
         have f0 := hx16.free 0; have f1 := hx16.free 1; have f2 := hx16.free 2; have f3 := hx16.free 3
         have hqf := QB.fill hx16 hv16 hv16y
         have hbf := ((((hb16.setCell (p := ⟨D13, 0, none⟩) hD130 (.bool false)).setCell (p := ⟨D13, 1, none⟩) hD130 (.slice p16 i16 s16)).setCell (p := ⟨D13, 2, none⟩) hD130 (.bool false)).setCell (p := ⟨D13, 3, none⟩) hD130 (.slice q16 j16 t16))
         go_simp
         refine hK.out _ _ (HKS.out _ hbf) (fun hHf => ?_)
         clear hK K
         try simp only [Act.put, List.setIfInBounds_toArray, List.set_cons_zero, List.set_cons_succ]
         refine wpAnyH_done (by kernel_rfl) ?_ _
         obtain ⟨wv, hwv⟩ : ∃ W9, ((((w16x.setCell ⟨D13, 0, none⟩ (.bool false)).setCell ⟨D13, 1, none⟩ (.slice p16 i16 s16)).setCell ⟨D13, 2, none⟩ (.bool false)).setCell ⟨D13, 3, none⟩ (.slice q16 j16 t16)) = W9 := ⟨_, rfl⟩
         rw [hwv] at hqf hbf ⊢
         clear hwv
         rotate_left
         --REGION15>>
         all_goals
          have hqo := HQB2.out.below hbf
          obtain ⟨p1, j1, s1, p2, j2, s2, hk1, hv1, hv2⟩ := hqf
          obtain ⟨r1, l1, t1, r2, l2, t2, hk2, ho1, ho2⟩ := hqo
          have hcmp := qcmp_fr HFR.out (HMO.out k) ⟨_, _, rfl, hv1, hv2⟩ ⟨_, _, rfl, ho1, ho2⟩
          have a0 := hk1.cell 0; have a1 := hk1.cell 1; have a2 := hk1.cell 2; have a3 := hk1.cell 3
          have b0 := hk2.cell 0; have b1 := hk2.cell 1; have b2 := hk2.cell 2; have b3 := hk2.cell 3
          simp only [List.getElem?_toArray, List.getElem?_cons_succ, List.getElem?_cons_zero] at a0 a1 a2 a3 b0 b1 b2 b3
          have hms := HMS.out
          generalize cmpF fr (mostF L x.1 (cs.take k)) = cv at *
          have hbw := HBS.out.trans (hbf.mono HBS.out.size)
          have HCMP := hG hcmp; have HMS2 := hG hms
          have HK1 := hG hk1; have HK2 := hG hk2; have HV1 := hG hv1; have HV2 := hG hv2; have HBW2 := hG hbw
          have HO1 := hG ho1; have HO2 := hG ho2
          clear hcmp hms hk1 hk2 hv1 hv2 ho1 ho2 hbw z0 z1 z2 g1 g2
          go_wp2_with fail
          refine HCMP.out.mono ?_
          rintro e w5 ⟨rfl, hb5⟩
          have d0 := cell_keep a0 hb5 lc; have d1 := cell_keep a1 hb5 lc; have d2 := cell_keep a2 hb5 lc; have d3 := cell_keep a3 hb5 lc
          have hk5 := HK2.out.below hb5 HK2.out.lt
          have b0 := hk5.cell 0; have b1 := hk5.cell 1; have b2 := hk5.cell 2; have b3 := hk5.cell 3
          simp only [List.getElem?_toArray, List.getElem?_cons_succ, List.getElem?_cons_zero] at b0 b1 b2 b3
          have f0 := hk5.free 0; have f1 := hk5.free 1; have f2 := hk5.free 2; have f3 := hk5.free 3
          have hbz := HBW2.out.trans (hb5.mono HBW2.out.size)
          have HK5 := hG hk5; have HBZ := hG hbz; have HV3 := hG (HV1.out.below hb5 lc); have HV4 := hG (HV2.out.below hb5 lc)
          have HO3 := hG (HO1.out.below hb5 lc); have HO4 := hG (HO2.out.below hb5 lc)
          clear hk5 hbz hb5
          by_cases hp : 0 < cv
          · have hms := HMS2.out
            rw [if_pos hp] at hms
            have HM := hG hms
            clear hms
            go_wp2_with fail
            go_roundw
            case rel => exact ⟨k + 1, by omega, by go_num, by rw [HM.out]; exact QB.fill HK5.out HV3.out HV4.out, (((HBZ.out.setCell lc _).setCell lc _).setCell lc _).setCell lc _⟩
            case measure => simp [intOf]; omega
          · have hms := HMS2.out
            rw [if_neg hp] at hms
            have HM := hG hms
            clear hms
            go_wp2_with fail
            go_roundw
            case rel => exact ⟨k + 1, by omega, by go_num, by rw [HM.out]; exact ⟨_, _, _, _, _, _, HK5.out, HO3.out, HO4.out⟩, HBZ.out⟩
            case measure => simp [intOf]; omega
       · obtain rfl : k = cs.length := by omega
         have hmo := HMO.out cs.length
         rw [List.take_length] at hqb hmo
         have hq9 := HQB9.out.below hbrs
         obtain ⟨p1, j1, s1, p2, j2, s2, hk1, hv1, hv2⟩ := hqb
         obtain ⟨r1, l1, t1, r2, l2, t2, hk2, ho1, ho2⟩ := hq9
         have hcmp := qcmp_fr hmo (HOK.out (l.take i)) ⟨_, _, rfl, hv1, hv2⟩ ⟨_, _, rfl, ho1, ho2⟩
         have a0 := hk1.cell 0; have a1 := hk1.cell 1; have a2 := hk1.cell 2; have a3 := hk1.cell 3
         have b0 := hk2.cell 0; have b1 := hk2.cell 1; have b2 := hk2.cell 2; have b3 := hk2.cell 3
         simp only [List.getElem?_toArray, List.getElem?_cons_succ, List.getElem?_cons_zero] at a0 a1 a2 a3 b0 b1 b2 b3
         have hms := HSN.out
         generalize cmpF (mostF L x.1 cs) (refW L cs (l.take i)) = cv at *
         have hbw := HBE.out.trans (hbrs.mono HBE.out.size)
         have HCMP := hG hcmp; have HMS2 := hG hms
         have HK1 := hG hk1; have HK2 := hG hk2; have HV1 := hG hv1; have HV2 := hG hv2; have HBW2 := hG hbw
         have HO1 := hG ho1; have HO2 := hG ho2
         clear hcmp hms hk1 hk2 hv1 hv2 ho1 ho2 hbw hbs hbrs hb1s hmo
         go_wp2_with fail
         refine HCMP.out.mono ?_
         rintro e w5 ⟨rfl, hb5⟩
         have d0 := cell_keep a0 hb5 lc; have d1 := cell_keep a1 hb5 lc; have d2 := cell_keep a2 hb5 lc; have d3 := cell_keep a3 hb5 lc
         have hk5 := HK2.out.below hb5 HK2.out.lt
         have b0 := hk5.cell 0; have b1 := hk5.cell 1; have b2 := hk5.cell 2; have b3 := hk5.cell 3
         simp only [List.getElem?_toArray, List.getElem?_cons_succ, List.getElem?_cons_zero] at b0 b1 b2 b3
         have f0 := hk5.free 0; have f1 := hk5.free 1; have f2 := hk5.free 2; have f3 := hk5.free 3
         have hbz := HBW2.out.trans (hb5.mono HBW2.out.size)
         have HK5 := hG hk5; have HBZ := hG hbz; have HV3 := hG (HV1.out.below hb5 lc); have HV4 := hG (HV2.out.below hb5 lc)
         have HO3 := hG (HO1.out.below hb5 lc); have HO4 := hG (HO2.out.below hb5 lc)
         clear hk5 hbz hb5
         by_cases hp : cv < 0
         · have hms := HMS2.out
           rw [if_pos hp] at hms
           have HM := hG hms
           clear hms
           go_wp2_with fail
           go_roundw
           case rel => exact ⟨i + 1, by omega, by go_num, by rw [HM.out]; exact QB.fill HK5.out HV3.out HV4.out, (((HBZ.out.setCell lc _).setCell lc _).setCell lc _).setCell lc _⟩
           case measure => simp [intOf]; omega
         · have hms := HMS2.out
           rw [if_neg hp] at hms
           have HM := hG hms
           clear hms
           go_wp2_with fail
           go_roundw
           case rel => exact ⟨i + 1, by omega, by go_num, by rw [HM.out]; exact ⟨_, _, _, _, _, _, HK5.out, HO3.out, HO4.out⟩, HBZ.out⟩
           case measure => simp [intOf]; omega
    · obtain rfl : i = l.length := by omega
      rw [List.take_length] at hqb
      have hF := HOK.out l
      have hT := T2_q hF
      obtain ⟨f1, f2, f3, f4⟩ := hF
      obtain ⟨p1, j1, s1, p2, j2, s2, hk1, hv1, hv2⟩ := hqb
      have a0 := hk1.cell 0; have a1 := hk1.cell 1; have a2 := hk1.cell 2; have a3 := hk1.cell 3
      simp only [List.getElem?_toArray, List.getElem?_cons_succ, List.getElem?_cons_zero] at a0 a1 a2 a3
      have hre := Z4.real_any _ false _ _ _ ⟨_, _, rfl, hv1, hv2⟩
      have hpu := fun v W h => Z4.refPut_small v false (refW L cs l).1 (refW L cs l).2 W h f1 (rdig_len (by omega)) (rdig_len (by omega)) (Nat.le_trans (digits_u64 (by omega)) (by decide)) (Nat.le_trans (digits_u64 (by omega)) (by decide))
      rw [<- hT] at hpu
      have HRE := hG hre; have HPU := hG hpu; have HBWR := hG hbwr
      clear hre hpu hT f1 f2 f3 f4 hk1 hv1 hv2 hbe hb2r hb1r hbwr
      go_wp2_with fail
      refine HRE.out.mono ?_
      rintro e w7 ⟨⟨v7, rfl, hv7⟩, hb7⟩
      have HV7 := hG hv7; have HB7 := hG (HBWR.out.trans (hb7.mono HBWR.out.size))
      clear hv7 hb7
      go_wp2_with fail
      refine (HPU.out _ _ HV7.out).mono ?_
      rintro e w8 ⟨rfl, hb8⟩
      have HB8 := hG (HB7.out.trans (hb8.mono HB7.out.size))
      clear hb8
      go_wp2
      go_ret2
      exact ⟨by rw [HW.out]; rfl, HB8.out⟩
end Go.Proofs.YtahnadhlagabgaaGreatDoor

namespace Go.Proofs.YtahnadhlagabgaaGreatDoor
open Go.RowKit Go.Shelf
def worV (L a b c d : Int) (cs : List (Int × Int)) : ByteArray := if covE L a b c d cs ⟨#[48]⟩ = 0 then worT (wrsF L cs (ptsAll L a c (d - c + 1).toNat (b - a + 1).toNat)) else ⟨#[]⟩
def worX (L a b c d : Int) (cs : List (Int × Int)) : Int := if covE L a b c d cs ⟨#[48]⟩ = 0 then worE (wrsF L cs (ptsAll L a c (d - c + 1).toNat (b - a + 1).toNat)) else covE L a b c d cs ⟨#[48]⟩
set_option maxRecDepth 100000 in
set_option maxHeartbeats 2000000 in
theorem Worst_any (L a b c d : Int) (cs : List (Int × Int)) (ao : Option Addr) (cap : Nat) (w : World) (ht : Tab w) (hc : Cells w ao (prs cs)) (hl : cs.length <= 9223372036854775807) (hcap : cs.length <= cap) (hcap2 : cap <= 9223372036854775807) :
 Calls Tryz.prog 27 #[.agg #[.int .i64 L, .int .i64 a, .int .i64 b, .int .i64 c, .int .i64 d], .slice ao cs.length cap] w fun e w' => e = .returned (.tuple #[.string (worV L a b c d cs), .int .i64 (worX L a b c d cs)]) /\ Below w.heap.size w w' := by
 by_cases hE : covE L a b c d cs ⟨#[48]⟩ = 0
 · have h := Worst_good L a b c d cs ao cap w ht hc hl hcap hcap2 hE
   rw [show worV L a b c d cs = worT (wrsF L cs (ptsAll L a c (d - c + 1).toNat (b - a + 1).toNat)) from if_pos hE, show worX L a b c d cs = worE (wrsF L cs (ptsAll L a c (d - c + 1).toNat (b - a + 1).toNat)) from if_pos hE]
   exact h
 · rw [show worV L a b c d cs = ⟨#[]⟩ from if_neg hE, show worX L a b c d cs = covE L a b c d cs ⟨#[48]⟩ from if_neg hE]
   obtain ⟨W0, hW0⟩ : ∃ W0, w.alloc (.cells #[.int .i64 L, .int .i64 a, .int .i64 b, .int .i64 c, .int .i64 d] 23) = W0 := ⟨_, rfl⟩
   have hB0 : Below w.heap.size w W0 := by rw [<- hW0]; exact (Below.refl _ w).alloc lc _
   have hs0 : W0.heap.size = w.heap.size + 1 := by rw [<- hW0]; simp
   have q0 : Blk W0 w.heap.size 23 #[.int .i64 L, .int .i64 a, .int .i64 b, .int .i64 c, .int .i64 d] := by rw [<- hW0]; exact Blk.new w _ _
   have hcv := covering_any L a b c d cs ao cap ⟨#[48]⟩ W0 (ht.below hB0 lc) (by decide) (hc.below hB0 lc) hl hcap hcap2
   have HW0 := hG hW0; have HCV := hG hcv; have HB0 := hG hB0; have HE := hG hE
   clear hW0 hcv ht hc hB0 hs0 q0 hE
   go_enter Tryz.func27, Tryz.ntmps27
   go_wp2_with fail
   rw [HW0.out]
   refine HCV.out.mono ?_
   rintro r w1 ⟨⟨h0, _⟩ | ⟨hE, rfl⟩, hb1⟩
   · exact absurd h0 HE.out
   · have hbw := HB0.out.trans (hb1.mono HB0.out.size)
     generalize hvv : covE L a b c d cs ⟨#[48]⟩ = v at hE ⊢
     have HVV := hG hvv
     have hv : (v != 0) = true := by simpa using hE
     clear hvv hb1
     go_wp2_with fail
     go_ret2
     exact ⟨by rw [HVV.out]; rfl, hbw.alloc hbw.size _⟩
end Go.Proofs.YtahnadhlagabgaaGreatDoor

namespace Go.Proofs.YtahnadhlagabgaaGreatDoor
open Go.RowKit
set_option maxRecDepth 100000 in
set_option maxHeartbeats 2000000 in
theorem refWorst_any (L a b c d : Int) (cs : List (Int × Int)) (ao : Option Addr) (cap : Nat) (w : World) (hc : Cells w ao (prs cs)) (hl : cs.length <= 9223372036854775807) :
 Calls Tryz.prog 28 #[.agg #[.int .i64 L, .int .i64 a, .int .i64 b, .int .i64 c, .int .i64 d], .slice ao cs.length cap] w fun e w' => e = .returned (.tuple #[.string (worV L a b c d cs), .int .i64 (worX L a b c d cs)]) /\ Below w.heap.size w w' := by
 by_cases hE : covE L a b c d cs ⟨#[48]⟩ = 0
 · have h := refWorst_good L a b c d cs ao cap w hc hl hE
   rw [show worV L a b c d cs = worT (wrsF L cs (ptsAll L a c (d - c + 1).toNat (b - a + 1).toNat)) from if_pos hE, show worX L a b c d cs = worE (wrsF L cs (ptsAll L a c (d - c + 1).toNat (b - a + 1).toNat)) from if_pos hE]
   exact h
 · rw [show worV L a b c d cs = ⟨#[]⟩ from if_neg hE, show worX L a b c d cs = covE L a b c d cs ⟨#[48]⟩ from if_neg hE]
   obtain ⟨W0, hW0⟩ : ∃ W0, w.alloc (.cells #[.int .i64 L, .int .i64 a, .int .i64 b, .int .i64 c, .int .i64 d] 23) = W0 := ⟨_, rfl⟩
   have hb0 : Below w.heap.size w W0 := by rw [<- hW0]; exact (Below.refl _ w).alloc lc _
   have hbg := refBegin_any L a b c d cs ao cap ⟨#[48]⟩ W0 (by decide) (hc.below hb0 lc) hl
   have HW0 := hG hW0; have HBG := hG hbg; have HB0 := hG hb0
   clear hW0 hb0 hbg hc
   go_enter Tryz.func28, Tryz.ntmps28
   go_wp2_with fail
   rw [HW0.out]
   refine HBG.out.mono ?_
   rintro e w1 ⟨⟨n, m, rfl, -⟩, hb1⟩
   have hbw := HB0.out.trans (hb1.mono HB0.out.size)
   have HBW := hG hbw
   generalize hvv : covE L a b c d cs ⟨#[48]⟩ = v at *
   have HVV := hG hvv
   have hv : (v != 0) = true := by simpa using hE
   clear hvv hb1 hbw
   go_wp2_with fail
   go_ret2
   exact ⟨by rw [HVV.out]; rfl, HBW.out.alloc HBW.out.size _⟩
set_option maxRecDepth 100000 in
set_option maxHeartbeats 2000000 in
theorem refPointsW_any (L a b c d : Int) (w : World) :
 Calls Tryz.prog 21 #[.agg #[.int .i64 L, .int .i64 a, .int .i64 b, .int .i64 c, .int .i64 d]] w fun e w' => (∃ b' c', e = .returned (.tuple #[.slice b' (ptsR L a b c d).length c', .int .i64 (ptsE L a b c d)]) /\ Cells w' b' (prs (ptsR L a b c d))) /\ Below w.heap.size w w' := by
 have hfa := fun W => refFamily_any L a b c d W
 have hal := (Below.refl w.heap.size w).alloc lc (.cells #[.int .i64 L, .int .i64 a, .int .i64 b, .int .i64 c, .int .i64 d] 23)
 have HAL := hG hal
 clear hal
 cases hf : famOK L a b c d
 · have e1 : ptsE L a b c d = 71 := by simp [ptsE, hf]
   have e2 : ptsR L a b c d = [] := by simp [ptsR, hf]
   rw [e1, e2]
   rw [hf] at hfa
   have HFA := hG hfa
   clear hfa hf e1 e2
   go_enter Tryz.func21, Tryz.ntmps21
   go_wp2_with fail
   refine (HFA.out _).mono ?_
   rintro e w1 ⟨rfl, hb1⟩
   have hbw := HAL.out.trans (hb1.mono HAL.out.size)
   clear hb1
   go_wp2_with fail
   go_ret2
   exact ⟨⟨none, 0, rfl, Cells.nil _ _⟩, hbw⟩
 · have e1 : ptsE L a b c d = 0 := by simp [ptsE, hf]
   have e2 : ptsR L a b c d = pairsOf (ptsAll L a c (d - c + 1).toNat (b - a + 1).toNat) := by simp [ptsR, hf]
   have hpt := fun W => refPoints_any L a b c d W hf
   have hln : (pairsOf (ptsAll L a c (d - c + 1).toNat (b - a + 1).toNat)).length = (ptsAll L a c (d - c + 1).toNat (b - a + 1).toNat).length := by simp [pairsOf]
   rw [e1, e2, hln]
   rw [hf] at hfa
   generalize ptsAll L a c (d - c + 1).toNat (b - a + 1).toNat = l at *
   have HFA := hG hfa; have HPT := hG hpt
   clear hfa hf e1 e2 hpt hln
   go_enter Tryz.func21, Tryz.ntmps21
   go_wp2_with fail
   refine (HFA.out _).mono ?_
   rintro e w1 ⟨rfl, hb1⟩
   have hq := (show Blk (w.alloc (.cells #[.int .i64 L, .int .i64 a, .int .i64 b, .int .i64 c, .int .i64 d] 23)) w.heap.size 23 #[.int .i64 L, .int .i64 a, .int .i64 b, .int .i64 c, .int .i64 d] from heap_alloc_new w _).below hb1 (by simp)
   have k0 := hq.cell 0; have k1 := hq.cell 1; have k2 := hq.cell 2; have k3 := hq.cell 3; have k4 := hq.cell 4
   simp only [List.getElem?_toArray, List.getElem?_cons_succ, List.getElem?_cons_zero] at k0 k1 k2 k3 k4
   have hbw := HAL.out.trans (hb1.mono HAL.out.size)
   have HBW := hG hbw
   clear hb1 hq hbw
   go_wp2_with fail
   refine (HPT.out _).mono ?_
   rintro e w2 ⟨⟨pb, pc, rfl, hpc⟩, hb2⟩
   have HPC := hG hpc; have HB2 := hG (HBW.out.trans (hb2.mono HBW.out.size))
   clear hpc hb2
   go_wp2_with fail
   go_ret2
   exact ⟨⟨pb, pc, rfl, HPC.out⟩, HB2.out⟩
end Go.Proofs.YtahnadhlagabgaaGreatDoor

namespace Go.Proofs.YtahnadhlagabgaaGreatDoor
open Go.RowKit Go.Shelf
set_option maxRecDepth 1000000 in
set_option maxHeartbeats 8000000 in
theorem points_law (L a b c d : Int) (cs : List (Int × Int)) (ao : Option Addr) (cap : Nat) (s : ByteArray) (w : World) (ht : Tab w) (hs : s.size <= 1048576) (hc : Cells w ao (prs cs)) (hcap : cs.length <= cap) (hcap2 : cap <= 9223372036854775807) :
 Calls Tryz.prog 5 #[.agg #[.int .i64 L, .int .i64 a, .int .i64 b, .int .i64 c, .int .i64 d, .slice ao cs.length cap, .string s]] w fun e w' => e = .returned (.bool true) /\ Below w.heap.size w w' := by
 obtain ⟨W0, hW0⟩ : ∃ W0, w.alloc (.cells #[.int .i64 L, .int .i64 a, .int .i64 b, .int .i64 c, .int .i64 d, .slice ao cs.length cap, .string s] 27) = W0 := ⟨_, rfl⟩
 have hB0 : Below w.heap.size w W0 := by rw [<- hW0]; exact (Below.refl _ w).alloc lc _
 have hs0 : W0.heap.size = w.heap.size + 1 := by rw [<- hW0]; simp
 have r0 : Blk W0 w.heap.size 27 #[.int .i64 L, .int .i64 a, .int .i64 b, .int .i64 c, .int .i64 d, .slice ao cs.length cap, .string s] := by rw [<- hW0]; exact heap_alloc_new w _
 have HKB : Hid (∀ wx, Below W0.heap.size W0 wx -> (wx.cell? ⟨w.heap.size, 0, none⟩ = some (.int .i64 L) /\ wx.cell? ⟨w.heap.size, 1, none⟩ = some (.int .i64 a) /\ wx.cell? ⟨w.heap.size, 2, none⟩ = some (.int .i64 b) /\ wx.cell? ⟨w.heap.size, 3, none⟩ = some (.int .i64 c) /\ wx.cell? ⟨w.heap.size, 4, none⟩ = some (.int .i64 d) /\ wx.cell? ⟨w.heap.size, 5, none⟩ = some (.slice ao cs.length cap) /\ wx.cell? ⟨w.heap.size, 6, none⟩ = some (.string s)) /\ Below w.heap.size w wx /\ Tab wx /\ Cells wx ao (prs cs)) := hG (fun wx hb => by
  have hbw := hB0.trans (hb.mono (by omega))
  have h := r0.below hb (by omega)
  exact ⟨⟨h.cell 0, h.cell 1, h.cell 2, h.cell 3, h.cell 4, h.cell 5, h.cell 6⟩, hbw, ht.below hbw lc, hc.below hbw lc⟩)
 have hp1 := fun (W : World) => Points_any L a b c d W
 have hp2 := fun (W : World) => refPointsW_any L a b c d W
 have hk1 := fun (W : World) (h2 : Cells W ao (prs cs)) => checkBank_any L cs ao cap W h2 (by omega) hcap hcap2
 have hk2 := fun (W : World) (h2 : Cells W ao (prs cs)) => refCheckBank_any L cs ao cap W h2 (by omega)
 have hm1 := fun (W : World) (h : Tab W) (h2 : Cells W ao (prs cs)) => Misses_any L a b c d cs ao cap s W h (by omega) h2 (by omega) hcap hcap2
 have hm2 := fun (W : World) (h2 : Cells W ao (prs cs)) => refMisses_any L a b c d cs ao cap s W hs h2 (by omega)
 have hv1 := fun (W : World) (h : Tab W) (h2 : Cells W ao (prs cs)) => Worst_any L a b c d cs ao cap W h h2 (by omega) hcap hcap2
 have hv2 := fun (W : World) (h2 : Cells W ao (prs cs)) => refWorst_any L a b c d cs ao cap W h2 (by omega)
 have hlP : (ptsR L a b c d).length <= 9223372036854775807 := by
  unfold ptsR
  split
  · rename_i h
    have h1 := ptsAll_len L a c (d - c + 1).toNat (b - a + 1).toNat
    have h2 := (fam_true h).2.2.2.2.2.2.2.2
    simp only [pairsOf, List.length_map]
    omega
  · simp
 have hlM : (misR L a b c d cs s).length <= 9223372036854775807 := by
  unfold misR
  split
  · rename_i h
    obtain ⟨hf, _, N, D, hb⟩ := covE_0 h
    rw [hb]
    have h1 := ptsAll_len L a c (d - c + 1).toNat (b - a + 1).toNat
    have h2 := (fam_true hf).2.2.2.2.2.2.2.2
    have h9 : (misP (N : Int) D L (wvs L cs) (ptsAll L a c (d - c + 1).toNat (b - a + 1).toNat)).length <= (ptsAll L a c (d - c + 1).toNat (b - a + 1).toNat).length := misI_len _ _ _
    simp only
    omega
  · simp
 have hsc := fun (m k : Option Addr) (p q : Nat) (W : World) (h1 : Cells W m (prs (ptsR L a b c d))) (h2 : Cells W k (prs (ptsR L a b c d))) => sameChirps_any m k (ptsR L a b c d) (ptsR L a b c d) p q W h1 h2 hlP hlP
 have hsi := fun (m k : Option Addr) (p q : Nat) (W : World) (h1 : Cells W m ((misR L a b c d cs s).map (Value.int .i64))) (h2 : Cells W k ((misR L a b c d cs s).map (Value.int .i64))) => sameInts_any m k (misR L a b c d cs s) (misR L a b c d cs s) p q W h1 h2 hlM hlM
 rw [decide_eq_true rfl] at hsc hsi
 generalize ptsR L a b c d = R at *
 generalize ptsE L a b c d = E at *
 generalize misR L a b c d cs s = M at *
 generalize covE L a b c d cs s = C at *
 generalize worV L a b c d cs = V at *
 generalize worX L a b c d cs = X at *
 generalize chkB L cs = K at *
 have h1 : (E != E) = false := by simp
 have h2 : (K != K) = false := by simp
 have h3 : (C != C) = false := by simp
 have h4 : (X == X) = true := by simp
 have HW0 := hG hW0; have HP1 := hG hp1; have HP2 := hG hp2; have HK1 := hG hk1; have HK2 := hG hk2; have HM1 := hG hm1; have HM2 := hG hm2; have HV1 := hG hv1; have HV2 := hG hv2; have HSC := hG hsc; have HSI := hG hsi
 clear hW0 hB0 hs0 r0 ht hc hp1 hp2 hk1 hk2 hm1 hm2 hv1 hv2 hsc hsi hlP hlM
 obtain ⟨⟨q0, q1, q2, q3, q4, q5, q6⟩, -, -, -⟩ := HKB.out W0 bg
 go_enter Tryz.func5, Tryz.ntmps5
 go_wp2_with fail
 rw [HW0.out]
 refine (HP1.out _).mono ?_
 rintro e w1 ⟨⟨p1, c1, rfl, hr1⟩, hb1⟩
 clear q0 q1 q2 q3 q4 q5 q6
 obtain ⟨⟨q0, q1, q2, q3, q4, q5, q6⟩, -, -, -⟩ := HKB.out w1 hb1
 have HR1 := hG hr1
 clear hr1
 go_wp2_with fail
 refine (HP2.out _).mono ?_
 rintro e w2 ⟨⟨p2, c2, rfl, hr2⟩, hb2⟩
 have HR1' := hG (HR1.out.below hb2 lc); have HR2 := hG hr2
 have hb2 := hb1.trans (hb2.mono hb1.size)
 clear q0 q1 q2 q3 q4 q5 q6 hr2 hb1
 have HB2 := hG hb2
 clear hb2
 go_wp2_with fail
 refine wp_region_quiet (C := fun w' => Below w2.heap.size w2 w') (by kernel_rfl) (by kernel_rfl) (Below.refl _ w2).drew ?_
 simp only
 repeat
  (refine wpQuiet_step (fun K hK => ?_)
   go_simp
   first
    | (refine hK _ ?_; clear hK K)
    | (apply Exists.intro
       refine ⟨fun w' hw' => ?_, hK _ ?_⟩
       (first
        | rfl
        | (obtain ⟨⟨q0', -, -, -, -, q5', -⟩, -, -, -⟩ := HKB.out w' (HB2.out.trans (hw'.mono HB2.out.size)); go_simp; rfl)
        | (with_reducible refine Calls.mono (HK1.out w' (HKB.out w' (HB2.out.trans (hw'.mono HB2.out.size))).2.2.2) ?_; exact fun e w'' ⟨he, hb⟩ => ⟨he, hw'.trans (hb.mono hw'.size)⟩)
        | (with_reducible refine Calls.mono (HK2.out w' (HKB.out w' (HB2.out.trans (hw'.mono HB2.out.size))).2.2.2) ?_; exact fun e w'' ⟨he, hb⟩ => ⟨he, hw'.trans (hb.mono hw'.size)⟩)
        | (with_reducible refine Calls.mono (HSC.out _ _ _ _ w' (HR1'.out.below hw' lc) (HR2.out.below hw' lc)) ?_; exact fun e w'' ⟨he, hb⟩ => ⟨he, hw'.trans (hb.mono hw'.size)⟩))
       clear hK K))
 refine wpQuiet_nil ?_
 intro w3 hb3
 have hb3 := HB2.out.trans (hb3.mono HB2.out.size)
 obtain ⟨⟨q0, q1, q2, q3, q4, q5, q6⟩, -, htx, hcx⟩ := HKB.out w3 hb3
 have HTX := hG htx; have HCX := hG hcx
 clear htx hcx
 go_wp2_with fail
 refine (HM1.out _ HTX.out HCX.out).mono ?_
 rintro e w4 ⟨⟨p4, c4, rfl, hr4⟩, hb4⟩
 have hb4 := hb3.trans (hb4.mono hb3.size)
 clear q0 q1 q2 q3 q4 q5 q6
 obtain ⟨⟨q0, q1, q2, q3, q4, q5, q6⟩, -, htx, hcx⟩ := HKB.out w4 hb4
 have HCX := hG hcx; have HR4 := hG hr4
 clear htx hcx hb3 hr4
 go_wp2_with fail
 refine (HM2.out _ HCX.out).mono ?_
 rintro e w5 ⟨⟨p5, c5, rfl, hr5⟩, hb5⟩
 have HR4' := hG (HR4.out.below hb5 lc); have HR5 := hG hr5
 have hb5 := hb4.trans (hb5.mono hb4.size)
 clear q0 q1 q2 q3 q4 q5 q6 hb4 hr5
 go_wp2_with fail
 refine (HSI.out _ _ _ _ _ HR4'.out HR5.out).mono ?_
 rintro e w6 ⟨rfl, hb6⟩
 have hb6 := hb5.trans (hb6.mono hb5.size)
 obtain ⟨⟨q0, q1, q2, q3, q4, q5, q6⟩, -, htx, hcx⟩ := HKB.out w6 hb6
 have HTX := hG htx; have HCX := hG hcx
 clear htx hcx hb5
 go_wp2_with fail
 refine (HV1.out _ HTX.out HCX.out).mono ?_
 rintro e w7 ⟨rfl, hb7⟩
 have hb7 := hb6.trans (hb7.mono hb6.size)
 clear q0 q1 q2 q3 q4 q5 q6
 obtain ⟨⟨q0, q1, q2, q3, q4, q5, q6⟩, -, htx, hcx⟩ := HKB.out w7 hb7
 have HCX := hG hcx
 clear htx hcx hb6
 go_wp2_with fail
 refine (HV2.out _ HCX.out).mono ?_
 rintro e w8 ⟨rfl, hb8⟩
 have hb8 := hb7.trans (hb8.mono hb7.size)
 clear q0 q1 q2 q3 q4 q5 q6 hb7
 obtain ⟨-, hbw, htx, -⟩ := HKB.out w8 hb8
 have HTX := hG htx
 clear htx
 go_wp2_with fail
 refine (bworks_any _ HTX.out).mono ?_
 rintro e w9 ⟨rfl, hb9⟩
 go_wp2_with fail
 go_ret
 exact ⟨rfl, hbw.trans (hb9.mono hbw.size)⟩
end Go.Proofs.YtahnadhlagabgaaGreatDoor

namespace Go.Proofs.YtahnadhlagabgaaGreatDoor
open Go.RowKit Go.WideShapes Go.ChangeShapes Go.Deep Go.Joins
section
variable {H : Type}
theorem bulk_mem {d : DataW H} : ∀ {ds : List (DataW H)}, d ∈ ds -> Rows.uptoBulk d <= Rows.uptoBulkAll ds
 | x :: r, h => by
   simp only [Rows.uptoBulkAll]
   rcases List.mem_cons.1 h with rfl | h2
   · omega
   · have := bulk_mem h2; omega
end
theorem upto_str {H : Type} {ds : List (DataW H)} (h : Rows.uptoSmall H ds = true) {d q0 q1 : DataW H} {l : List UInt8} (hd : d ∈ ds) (he : d = .agg [q0, q1, .lit (.string l)]) : l.length <= 1048576 := by
 have h1 : Rows.uptoBulkAll ds <= 1048576 := by simpa [Rows.uptoSmall] using h
 have h3 := bulk_mem hd
 rw [he] at h3
 simp only [Rows.uptoBulk, Rows.uptoBulkAll] at h3
 omega
end Go.Proofs.YtahnadhlagabgaaGreatDoor
