/- Parts of a proof, in build order: O7, O8, O9, Ra. -/
import Derived.Test.YtahnadhlagabgaaGreatDoorKt14

namespace Go.Proofs.YtahnadhlagabgaaGreatDoor.Z4
open Go.RowKit
theorem qT_ratT (s : Bool) (n d : Nat) : qT s n d = ratT s n d := by
 unfold qT ratT
 split
 · rfl
 · rw [ByteArray.append_assoc]; rfl
def gT (s : Bool) (n d : Nat) (t : Bool) (m e : Nat) : ByteArray := if m = 0 then qT s n d else cT (qT s n d) (qT t m e) (decide (n = 0)) t
theorem refTextA_any (v : Value) (s t : Bool) (n d m e : Nat) (w : World) (hv : CG w v s n d t m e) (h0 : m = 0 -> t = false /\ e = 1) (hd : d ≠ 0) (he : e ≠ 0) (hl : (dig n).length <= 501) (hl2 : (dig d).length <= 501) (hl3 : (dig m).length <= 501) (hl4 : (dig e).length <= 501) :
 Calls Tryz.prog 123 #[v] w fun x w' => x = .returned (.string (gT s n d t m e)) /\ Below w.heap.size w w' := by
 unfold gT
 by_cases hm : m = 0
 · obtain ⟨rfl, rfl⟩ := h0 hm
   subst hm
   rw [if_pos rfl]
   exact refText_any v s n d w hv.cr hd (by omega) (by omega)
 · rw [if_neg hm]
   exact refTextG_any v s t n d m e w hv hm hd he hl hl2 hl3 hl4
def IsC (v : Value) : Prop := ∃ (s1 s2 : Bool) (a1 : Option Addr) (n1 c1 : Nat) (a2 : Option Addr) (n2 c2 : Nat) (a3 : Option Addr) (n3 c3 : Nat) (a4 : Option Addr) (n4 c4 : Nat), v = .agg #[.bool s1, .slice a1 n1 c1, .bool false, .slice a2 n2 c2, .bool s2, .slice a3 n3 c3, .bool false, .slice a4 n4 c4]
theorem isC (s1 s2 : Bool) (a1 : Option Addr) (n1 c1 : Nat) (a2 : Option Addr) (n2 c2 : Nat) (a3 : Option Addr) (n3 c3 : Nat) (a4 : Option Addr) (n4 c4 : Nat) : IsC (.agg #[.bool s1, .slice a1 n1 c1, .bool false, .slice a2 n2 c2, .bool s2, .slice a3 n3 c3, .bool false, .slice a4 n4 c4]) := ⟨s1, s2, a1, n1, c1, a2, n2, c2, a3, n3, c3, a4, n4, c4, rfl⟩
theorem partN_len (l : List UInt8) : (partN l).2.2.length <= l.length := by
 unfold partN
 split
 · exact Nat.le_refl _
 · split
   · exact Nat.zero_le _
   · rename_i c r hr
     have h1 : (c :: r).length <= l.length := by rw [<- hr]; unfold numT; rw [List.length_drop]; omega
     split
     · show (numT r).length <= _
       unfold numT
       rw [List.length_drop]
       rw [List.length_cons] at h1
       omega
     · exact h1
theorem signN_len (l : List UInt8) : (signN l).2.2.2.length <= l.length := by
 unfold signN
 split
 · exact Nat.le_refl _
 · rename_i c r
   split
   · have := partN_len r; show (partN r).2.2.length <= _; rw [List.length_cons]; omega
   · split
     · have := partN_len r; show (partN r).2.2.length <= _; rw [List.length_cons]; omega
     · exact partN_len (c :: r)
theorem bytes_of {b : ByteArray} {l : List UInt8} (h : b.data.toList = l) : b = ⟨l.toArray⟩ := by
 cases b; simp only at h; rw [<- h]
theorem bigZ_one : bigZ 0 1 = false := by
 unfold bigZ
 rw [Lib.nDigits_small (by decide), Lib.nDigits_small (by decide)]
 rfl
theorem isNum_of {s : ByteArray} {sg t : Bool} {n d m e : Nat} (hd : d ≠ 0) (hg : Nat.gcd n d = 1) (hz : n = 0 -> sg = false) (h0 : m = 0 -> t = false /\ e = 1)
 (hr : (signN s.data.toList).2.2.2 = [] -> (sg, n, d) = ((signN s.data.toList).1, (signN s.data.toList).2.1, (signN s.data.toList).2.2.1) /\ m = 0) :
 ((gT sg n d t m e).toList == s.toList) = true -> IsNum s (!(bigZ n d || bigZ m e)) := by
 intro h
 have hs : s = gT sg n d t m e := by
  have h1 := eq_of_beq h
  rw [Lib.toList_data, Lib.toList_data] at h1
  cases s; cases hx : gT sg n d t m e
  rw [hx] at h1
  simp only at h1
  congr 1
  exact (Array.toList_inj.1 h1).symm
 refine ⟨fun hb => ?_, fun h1 h2 h3 => ?_⟩
 · rw [Bool.not_eq_true', Bool.or_eq_false_iff] at hb
   by_cases hm : m = 0
   · left
     refine ⟨sg, n, d, ?_, hd, hg, hz, hb.1⟩
     rw [hs, gT, if_pos hm, qT_ratT]
   · right
     rw [hs, gT, if_neg hm]
     exact cT_i _ _ _ _
 · obtain ⟨h4, hm⟩ := hr h1
   obtain ⟨-, he⟩ := h0 hm
   rw [hm, he, bigZ_one, Bool.or_false, Bool.not_eq_true']
   simp only [Prod.mk.injEq] at h4
   rw [h4.2.1, h4.2.2]
   exact h3
theorem isNum_no {s : ByteArray} {sg t : Bool} {n d m e : Nat}
 (hr : (signN s.data.toList).2.2.2 = [] -> (sg, n, d) = ((signN s.data.toList).1, (signN s.data.toList).2.1, (signN s.data.toList).2.2.1) /\ m = 0) :
 ((gT sg n d t m e).toList == s.toList) = false -> IsNum s false := by
 intro h
 refine ⟨fun hb => Bool.noConfusion hb, fun h1 h2 h3 => ?_⟩
 obtain ⟨h4, hm⟩ := hr h1
 simp only [Prod.mk.injEq] at h4
 rw [gT, if_pos hm, qT_ratT, h4.1, h4.2.1, h4.2.2, <- h2] at h
 simp at h
set_option maxRecDepth 100000 in
set_option maxHeartbeats 8000000 in
theorem Get_any (s : ByteArray) (w : World) (hs : s.size <= 9223372036854775807) :
 Calls Tryz.prog 187 #[.string s] w fun e w' => (∃ v b, e = .returned (.tuple #[v, .bool b]) /\ IsC v /\ IsNum s b) /\ Below w.heap.size w w' := by
 obtain ⟨l, hl⟩ : ∃ l, l = s.data.toList := ⟨_, rfl⟩
 have hsi := fun W => signed_any s W hs
 rw [<- hl] at hsi
 obtain ⟨W0, hW0⟩ : ∃ W0, w.alloc (.cells #[.bool false, .slice none 0 0, .bool false, .slice none 0 0, .bool false, .slice none 0 0, .bool false, .slice none 0 0] 135) = W0 := ⟨_, rfl⟩
 have hb0 : Below w.heap.size w W0 := by rw [<- hW0]; exact (Below.refl _ w).alloc lc _
 have q0 : Blk W0 w.heap.size 135 #[.bool false, .slice none 0 0, .bool false, .slice none 0 0, .bool false, .slice none 0 0, .bool false, .slice none 0 0] := by rw [<- hW0]; exact heap_alloc_new w _
 have hsz0 : W0.heap.size = w.heap.size + 1 := by rw [<- hW0]; simp
 have HKR : Hid (∀ W, Below W0.heap.size W0 W -> (W.cell? ⟨w.heap.size, 0, none⟩ = some (.bool false) /\ W.cell? ⟨w.heap.size, 1, none⟩ = some (.slice none 0 0) /\ W.cell? ⟨w.heap.size, 2, none⟩ = some (.bool false) /\ W.cell? ⟨w.heap.size, 3, none⟩ = some (.slice none 0 0) /\ W.cell? ⟨w.heap.size, 4, none⟩ = some (.bool false) /\ W.cell? ⟨w.heap.size, 5, none⟩ = some (.slice none 0 0) /\ W.cell? ⟨w.heap.size, 6, none⟩ = some (.bool false) /\ W.cell? ⟨w.heap.size, 7, none⟩ = some (.slice none 0 0)) /\
  (W.frozen? ⟨w.heap.size, 0, none⟩ = false /\ W.frozen? ⟨w.heap.size, 1, none⟩ = false /\ W.frozen? ⟨w.heap.size, 2, none⟩ = false /\ W.frozen? ⟨w.heap.size, 3, none⟩ = false /\ W.frozen? ⟨w.heap.size, 4, none⟩ = false /\ W.frozen? ⟨w.heap.size, 5, none⟩ = false /\ W.frozen? ⟨w.heap.size, 6, none⟩ = false /\ W.frozen? ⟨w.heap.size, 7, none⟩ = false) /\ Below w.heap.size w W) := hG (fun W h => by
  have hq := q0.below h (by omega)
  exact ⟨⟨hq.cell 0, hq.cell 1, hq.cell 2, hq.cell 3, hq.cell 4, hq.cell 5, hq.cell 6, hq.cell 7⟩, ⟨hq.free 0, hq.free 1, hq.free 2, hq.free 3, hq.free 4, hq.free 5, hq.free 6, hq.free 7⟩, hb0.trans (h.mono hb0.size)⟩)
 have HI8 : Hid ((Tryz.prog.info? 135).map (·.size) = some 8) := hG (by kernel_rfl)
 have hbd := signN_bd l
 have hlx : (signN l).2.2.2.length <= 9223372036854775807 := Nat.le_trans (signN_len l) (by rw [hl]; show s.size <= _; exact hs)
 obtain ⟨sg, n, d, rs, hR⟩ : ∃ sg n d rs, signN l = (sg, n, d, rs) := ⟨_, _, _, _, rfl⟩
 rw [hR] at hsi hbd hlx
 obtain ⟨hn, hd, hd0, hg, hz⟩ := hbd
 have HSI := hG hsi; have HW0 := hG hW0; have HL := hG hl; have HR := hG hR
 simp only at hn hd hd0 hg hz hlx
 have hln := dig_501 hn
 have hld := dig_501 hd
 have HG := hG hg; have HZ := hG hz; have HD0 := hG hd0
 clear hb0 q0 hW0 hsi hl hR hn hd hg hz hd0
 go_enter Tryz.func187, Tryz.ntmps187
 go_wp2_with fail
 rw [HW0.out]
 refine (HSI.out W0).mono ?_
 rintro e w1 ⟨⟨v1, r1, rfl, hv1, hr1⟩, hb1⟩
 have hre := fun W (h : Below w1.heap.size w1 W) => real_any v1 sg n d W (hv1.below h lc)
 obtain ⟨vn, vd, rfl, hn, hd⟩ := hv1
 obtain ⟨an, cn, rfl⟩ := hn.cases
 obtain ⟨ad, cd, rfl⟩ := hd.cases
 have HRE := hG hre; have HR1 := hG hr1; have HN := hG hn; have HD := hG hd
 clear hre hr1 hn hd
 go_wp2_with fail
 refine (HRE.out _ ((Below.refl w1.heap.size w1).alloc lc _)).mono ?_
 rintro e w2 ⟨⟨v2, rfl, hv2⟩, hb2⟩
 obtain ⟨wq, hwq⟩ : ∃ wq, wq = w1.alloc (.cells #[.bool sg, .slice an (dig n).length cn, .bool false, .slice ad (dig d).length cd] 129) := ⟨_, rfl⟩
 have hsq : wq.heap.size = w1.heap.size + 1 := by rw [hwq]; simp
 have hbq : Below w1.heap.size w1 wq := by rw [hwq]; exact (Below.refl w1.heap.size w1).alloc lc _
 have hq5 : Blk wq w1.heap.size 129 #[.bool sg, .slice an (dig n).length cn, .bool false, .slice ad (dig d).length cd] := by rw [hwq]; exact heap_alloc_new w1 _
 rw [<- hwq] at hb2
 have hb02 := hb1.trans ((hbq.trans (hb2.mono hbq.size)).mono hb1.size)
 have hq52 := hq5.below hb2 (by omega)
 have hn2 := HN.out.below (hbq.trans (hb2.mono hbq.size)) lc
 have hd2 := HD.out.below (hbq.trans (hb2.mono hbq.size)) lc
 have hs12 : w1.heap.size < w2.heap.size := by have := hb2.size; omega
 have HB02 := hG hb02; have HQ5 := hG hq52; have HN2 := hG hn2; have HD2 := hG hd2
 clear hwq hsq hbq hq5 hb2 hb02 hq52 hn2 hd2 HRE HN HD
 obtain ⟨va, vb, vc, vd, rfl, ha, hb, hc, hdd⟩ := hv2
 obtain ⟨aa, ca, rfl⟩ := ha.cases
 obtain ⟨ab, cb, rfl⟩ := hb.cases
 obtain ⟨ac, cc, rfl⟩ := hc.cases
 obtain ⟨ae, ce, rfl⟩ := hdd.cases
 have HA := hG ha; have HB := hG hb; have HC := hG hc; have HE := hG hdd
 clear ha hb hc hdd
 rcases rs with _ | ⟨c, rr⟩
 · obtain rfl := bytes_of HR1.out
   go_wp2_with fail
   obtain ⟨wy, hwy⟩ : ∃ wy, w2.alloc (.cells #[.bool sg, .slice aa (dig n).length ca, .bool false, .slice ab (dig d).length cb, .bool false, .slice ac (dig 0).length cc, .bool false, .slice ae (dig 1).length ce] 135) = wy := ⟨_, rfl⟩
   rw [hwy]
   have hbz : Below w2.heap.size w2 wy := by rw [<- hwy]; exact (Below.refl w2.heap.size w2).alloc lc _
   have hsy : wy.heap.size = w2.heap.size + 1 := by rw [<- hwy]; simp
   have hblk : Blk wy w2.heap.size 135 #[.bool sg, .slice aa (dig n).length ca, .bool false, .slice ab (dig d).length cb, .bool false, .slice ac (dig 0).length cc, .bool false, .slice ae (dig 1).length ce] := by rw [<- hwy]; exact heap_alloc_new w2 _
   have hblt : w2.heap.size < wy.heap.size := by omega
   have hWy := HB02.out.trans (hbz.mono HB02.out.size)
   have hCG : CG wy (.agg #[.bool sg, .slice aa (dig n).length ca, .bool false, .slice ab (dig d).length cb, .bool false, .slice ac (dig 0).length cc, .bool false, .slice ae (dig 1).length ce]) sg n d false 0 1 := ⟨_, _, _, _, rfl, HA.out.below hbz lc, HB.out.below hbz lc, HC.out.below hbz lc, HE.out.below hbz lc⟩
   have h0M : (0 : Nat) = 0 -> false = false /\ (1 : Nat) = 1 := fun _ => ⟨rfl, rfl⟩
   have hDne := HD0.out
   have hEne : (1 : Nat) ≠ 0 := Nat.one_ne_zero
   have hGcd := HG.out
   have hZs := HZ.out
   have hlN := hln
   have hlD := hld
   have hlM : (dig 0).length <= 501 := by rw [dig_zero]; simp
   have hlE : (dig 1).length <= 501 := by rw [dig_small (by decide) (by decide)]; simp
   have hRst : (signN s.data.toList).2.2.2 = [] -> (sg, n, d) = ((signN s.data.toList).1, (signN s.data.toList).2.1, (signN s.data.toList).2.2.1) /\ (0 : Nat) = 0 := fun _ => by rw [<- HL.out, HR.out]; exact ⟨rfl, rfl⟩
   obtain ⟨TX, hTX⟩ : ∃ TX, gT sg n d false 0 1 = TX := ⟨_, rfl⟩
   obtain ⟨BG, hBG⟩ : ∃ BG, (bigZ n d || bigZ 0 1) = BG := ⟨_, rfl⟩
   have HKY : Hid (∀ W, Below wy.heap.size wy W -> (W.cell? ⟨w2.heap.size, 0, none⟩ = some (.bool sg) /\ W.cell? ⟨w2.heap.size, 1, none⟩ = some (.slice aa (dig n).length ca) /\ W.cell? ⟨w2.heap.size, 2, none⟩ = some (.bool false) /\ W.cell? ⟨w2.heap.size, 3, none⟩ = some (.slice ab (dig d).length cb) /\ W.cell? ⟨w2.heap.size, 4, none⟩ = some (.bool false) /\ W.cell? ⟨w2.heap.size, 5, none⟩ = some (.slice ac (dig 0).length cc) /\ W.cell? ⟨w2.heap.size, 6, none⟩ = some (.bool false) /\ W.cell? ⟨w2.heap.size, 7, none⟩ = some (.slice ae (dig 1).length ce)) /\ (W.cell? ⟨w.heap.size, 0, none⟩ = some (.bool false) /\ W.cell? ⟨w.heap.size, 1, none⟩ = some (.slice none 0 0) /\ W.cell? ⟨w.heap.size, 2, none⟩ = some (.bool false) /\ W.cell? ⟨w.heap.size, 3, none⟩ = some (.slice none 0 0) /\ W.cell? ⟨w.heap.size, 4, none⟩ = some (.bool false) /\ W.cell? ⟨w.heap.size, 5, none⟩ = some (.slice none 0 0) /\ W.cell? ⟨w.heap.size, 6, none⟩ = some (.bool false) /\ W.cell? ⟨w.heap.size, 7, none⟩ = some (.slice none 0 0)) /\
    (W.frozen? ⟨w.heap.size, 0, none⟩ = false /\ W.frozen? ⟨w.heap.size, 1, none⟩ = false /\ W.frozen? ⟨w.heap.size, 2, none⟩ = false /\ W.frozen? ⟨w.heap.size, 3, none⟩ = false /\ W.frozen? ⟨w.heap.size, 4, none⟩ = false /\ W.frozen? ⟨w.heap.size, 5, none⟩ = false /\ W.frozen? ⟨w.heap.size, 6, none⟩ = false /\ W.frozen? ⟨w.heap.size, 7, none⟩ = false) /\ Below w.heap.size w W) := hG (fun W h => by
    have hq := hblk.below h hblt
    obtain ⟨u1, u2, u3⟩ := HKR.out W (hWy.trans (h.mono hWy.size))
    exact ⟨⟨hq.cell 0, hq.cell 1, hq.cell 2, hq.cell 3, hq.cell 4, hq.cell 5, hq.cell 6, hq.cell 7⟩, u1, u2, u3⟩)
   have HTX : Hid (∀ W, Below wy.heap.size wy W -> Calls Tryz.prog 123 #[.agg #[.bool sg, .slice aa (dig n).length ca, .bool false, .slice ab (dig d).length cb, .bool false, .slice ac (dig 0).length cc, .bool false, .slice ae (dig 1).length ce]] W fun x w' => x = .returned (.string TX) /\ Below W.heap.size W w') := hG (fun W h => by
    have := refTextA_any _ sg false n d 0 1 W (hCG.below h lc) h0M hDne hEne hlN hlD hlM hlE
    rw [hTX] at this; exact this)
   have HBG : Hid (∀ W, Below wy.heap.size wy W -> Calls Tryz.prog 122 #[.agg #[.bool sg, .slice aa (dig n).length ca, .bool false, .slice ab (dig d).length cb, .bool false, .slice ac (dig 0).length cc, .bool false, .slice ae (dig 1).length ce]] W fun x w' => x = .returned (.bool BG) /\ Below W.heap.size W w') := hG (fun W h => by
    have := refBigG_any _ sg false n d 0 1 W (hCG.below h lc) (by omega) (by omega) (by omega) (by omega)
    rw [hBG] at this; exact this)
   have HNUM : Hid (((TX.toList == s.toList) = true -> IsNum s (!BG)) /\ ((TX.toList == s.toList) = false -> IsNum s false)) := hG (by
    rw [<- hTX, <- hBG]
    exact ⟨isNum_of hDne hGcd hZs h0M hRst, isNum_no hRst⟩)
   have HBK : Hid (wy.drew.heap[w2.heap.size]? = some (.cells #[.bool sg, .slice aa (dig n).length ca, .bool false, .slice ab (dig d).length cb, .bool false, .slice ac (dig 0).length cc, .bool false, .slice ae (dig 1).length ce] 135 (0, 0))) := hG hblk
   have HBLT : Hid (∀ W, Below wy.heap.size wy W -> W.heap[w2.heap.size]? = some (.cells #[.bool sg, .slice aa (dig n).length ca, .bool false, .slice ab (dig d).length cb, .bool false, .slice ac (dig 0).length cc, .bool false, .slice ae (dig 1).length ce] 135 (0, 0))) := hG (fun W h => hblk.below h hblt)
   have hne7 : w.heap.size < w2.heap.size := by have := HB02.out.size; omega
   clear hCG hTX hBG hRst hblk hblt
   clear hwy hbz hsy h0M hDne hEne hGcd hZs hlN hlD hlM hlE hWy
   obtain ⟨⟨q0, q1, q2, q3, q4, q5, q6, q7⟩, ⟨k0, k1, k2, k3, k4, k5, k6, k7⟩, -, -⟩ := HKY.out wy bg
   have x0 : wy.drew.cell? ⟨w2.heap.size, 0, none⟩ = _ := q0
   have x1 : wy.drew.cell? ⟨w2.heap.size, 1, none⟩ = _ := q1
   have x2 : wy.drew.cell? ⟨w2.heap.size, 2, none⟩ = _ := q2
   have x3 : wy.drew.cell? ⟨w2.heap.size, 3, none⟩ = _ := q3
   have x4 : wy.drew.cell? ⟨w2.heap.size, 4, none⟩ = _ := q4
   have x5 : wy.drew.cell? ⟨w2.heap.size, 5, none⟩ = _ := q5
   have x6 : wy.drew.cell? ⟨w2.heap.size, 6, none⟩ = _ := q6
   have x7 : wy.drew.cell? ⟨w2.heap.size, 7, none⟩ = _ := q7
   clear k0 k1 k2 k3 k4 k5 k6 k7
   by_cases hTs : (TX.toList == s.toList) = true
   · have HIN : Hid (IsNum s (!BG)) := hG ((HNUM.out).1 hTs)
     have HTS := hG hTs
     clear hTs
     go_wp2_with fail
     refine wp_region_held_drew (S := fun w' => w'.heap[w2.heap.size]? = some (.cells #[.bool sg, .slice aa (dig n).length ca, .bool false, .slice ab (dig d).length cb, .bool false, .slice ac (dig 0).length cc, .bool false, .slice ae (dig 1).length ce] 135 (0, 0))) (by kernel_rfl) HBK.out (fun hHeld => ?_)
     refine tkV 0 (.agg #[.bool sg, .slice aa (dig n).length ca, .bool false, .slice ab (dig d).length cb, .bool false, .slice ac (dig 0).length cc, .bool false, .slice ae (dig 1).length ce]) hHeld ?_ (hy := by intro w9 h; exact exec_load_row 135 _ rfl w2.heap.size rfl 135 #[.bool sg, .slice aa (dig n).length ca, .bool false, .slice ab (dig d).length cb, .bool false, .slice ac (dig 0).length cc, .bool false, .slice ae (dig 1).length ce] (0, 0) _ h Tryz.underlying135 (by rfl) HI8.out)
     refine tkV 1 (.agg #[.bool sg, .slice aa (dig n).length ca, .bool false, .slice ab (dig d).length cb, .bool false, .slice ac (dig 0).length cc, .bool false, .slice ae (dig 1).length ce]) hHeld ?_ (hy := by intro w9 h; exact exec_load_row 135 _ rfl w2.heap.size rfl 135 #[.bool sg, .slice aa (dig n).length ca, .bool false, .slice ab (dig d).length cb, .bool false, .slice ac (dig 0).length cc, .bool false, .slice ae (dig 1).length ce] (0, 0) _ h Tryz.underlying135 (by rfl) HI8.out)
     refine tkV 3 (.string s) hHeld ?_
     refine tkC 2 (fun K hK => ?_)
     go_simp
     refine (HTX.out wy.drew ((Below.refl wy.heap.size wy).drew)).mono ?_
     rintro x wz ⟨rfl, hbz⟩
     have hbz := ((Below.refl wy.heap.size wy).drew).trans hbz
     have hbk := HBLT.out wz hbz
     have HBZ := hG hbz
     clear hbz
     refine hK.out _ _ hbk (fun hHeld2 => ?_)
     clear hK K
     try simp only [Act.put, List.setIfInBounds_toArray, List.set_cons_zero, List.set_cons_succ]
     refine tkV 4 (.bool true) hbk ?_ (hy := by intro w9 h; go_simp; exact eq_of_beq HTS.out)
     refine tkV 5 (.bool true) hbk ?_
     refine tkV 6 (.agg #[.bool sg, .slice aa (dig n).length ca, .bool false, .slice ab (dig d).length cb, .bool false, .slice ac (dig 0).length cc, .bool false, .slice ae (dig 1).length ce]) hbk ?_ (hy := by intro w9 h; exact exec_load_row 135 _ rfl w2.heap.size rfl 135 #[.bool sg, .slice aa (dig n).length ca, .bool false, .slice ab (dig d).length cb, .bool false, .slice ac (dig 0).length cc, .bool false, .slice ae (dig 1).length ce] (0, 0) _ h Tryz.underlying135 (by rfl) HI8.out)
     refine tkC 7 (fun K hK => ?_)
     go_simp
     refine (HBG.out wz HBZ.out).mono ?_
     rintro x wv ⟨rfl, hbv⟩
     have hbv := HBZ.out.trans (hbv.mono HBZ.out.size)
     have hbk2 := HBLT.out wv hbv
     obtain ⟨-, ⟨z0, z1, z2, z3, z4, z5, z6, z7⟩, ⟨f0, f1, f2, f3, f4, f5, f6, f7⟩, hbf⟩ := HKY.out wv hbv
     refine hK.out _ _ hbk2 (fun hHeld4 => ?_)
     clear hK K
     try simp only [Act.put, List.setIfInBounds_toArray, List.set_cons_zero, List.set_cons_succ]
     refine tkV 8 (.bool (!BG)) hbk2 ?_
     refine tkV 9 (.bool (!BG)) hbk2 ?_
     refine tkC 10 (fun K hK => ?_)
     go_simp
     refine hK.out _ _ ?_ (fun hHeld3 => ?_)
     · repeat rw [heap_setCell_other _ _ _ _ (by show w2.heap.size ≠ w.heap.size; omega)]
       exact hbk2
     clear hK K
     try simp only [Act.put, List.setIfInBounds_toArray, List.set_cons_zero, List.set_cons_succ]
     refine tkV 11 (.bool (!BG)) hHeld3 ?_
     refine wpAnyH_done (by kernel_rfl) ?_ _
     go_wp2_with fail
     refine bodyPost_ret (v := .tuple #[.agg #[.bool sg, .slice aa (dig n).length ca, .bool false, .slice ab (dig d).length cb, .bool false, .slice ac (dig 0).length cc, .bool false, .slice ae (dig 1).length ce], .bool (!BG)]) (by simp [results, Tryz.results187, go_sem, z0, z1, z2, z3, z4, z5, z6, z7]) rfl ?_
     exact ⟨⟨_, _, rfl, isC _ _ _ _ _ _ _ _ _ _ _ _ _ _, HIN.out⟩, (((((((hbf.setCell lc _).setCell lc _).setCell lc _).setCell lc _).setCell lc _).setCell lc _).setCell lc _).setCell lc _⟩
   · have HIN : Hid (IsNum s false) := hG ((HNUM.out).2 (by simpa using hTs))
     have hTs2 : (TX.toList == s.toList) = false := by simpa using hTs
     have HTS := hG hTs2
     clear hTs hTs2
     go_wp2_with fail
     refine wp_region_held_drew (S := fun w' => w'.heap[w2.heap.size]? = some (.cells #[.bool sg, .slice aa (dig n).length ca, .bool false, .slice ab (dig d).length cb, .bool false, .slice ac (dig 0).length cc, .bool false, .slice ae (dig 1).length ce] 135 (0, 0))) (by kernel_rfl) HBK.out (fun hHeld => ?_)
     refine tkV 0 (.agg #[.bool sg, .slice aa (dig n).length ca, .bool false, .slice ab (dig d).length cb, .bool false, .slice ac (dig 0).length cc, .bool false, .slice ae (dig 1).length ce]) hHeld ?_ (hy := by intro w9 h; exact exec_load_row 135 _ rfl w2.heap.size rfl 135 #[.bool sg, .slice aa (dig n).length ca, .bool false, .slice ab (dig d).length cb, .bool false, .slice ac (dig 0).length cc, .bool false, .slice ae (dig 1).length ce] (0, 0) _ h Tryz.underlying135 (by rfl) HI8.out)
     refine tkV 1 (.agg #[.bool sg, .slice aa (dig n).length ca, .bool false, .slice ab (dig d).length cb, .bool false, .slice ac (dig 0).length cc, .bool false, .slice ae (dig 1).length ce]) hHeld ?_ (hy := by intro w9 h; exact exec_load_row 135 _ rfl w2.heap.size rfl 135 #[.bool sg, .slice aa (dig n).length ca, .bool false, .slice ab (dig d).length cb, .bool false, .slice ac (dig 0).length cc, .bool false, .slice ae (dig 1).length ce] (0, 0) _ h Tryz.underlying135 (by rfl) HI8.out)
     refine tkV 3 (.string s) hHeld ?_
     refine tkC 2 (fun K hK => ?_)
     go_simp
     refine (HTX.out wy.drew ((Below.refl wy.heap.size wy).drew)).mono ?_
     rintro x wz ⟨rfl, hbz⟩
     have hbz := ((Below.refl wy.heap.size wy).drew).trans hbz
     have hbk := HBLT.out wz hbz
     obtain ⟨-, ⟨z0, z1, z2, z3, z4, z5, z6, z7⟩, ⟨f0, f1, f2, f3, f4, f5, f6, f7⟩, hbf⟩ := HKY.out wz hbz
     have HBZ := hG hbz
     clear hbz
     refine hK.out _ _ hbk (fun hHeld2 => ?_)
     clear hK K
     try simp only [Act.put, List.setIfInBounds_toArray, List.set_cons_zero, List.set_cons_succ]
     refine tkV 4 (.bool false) hbk ?_ (hy := by intro w9 h; go_simp; exact fun h => by have h2 := HTS.out; rw [h] at h2; simp at h2)
     refine tkV 5 (.bool false) hbk ?_
     refine tkS 6 hbk ?_
     refine tkS 7 hbk ?_
     refine tkS 8 hbk ?_
     refine tkV 9 (.bool false) hbk ?_
     refine tkC 10 (fun K hK => ?_)
     go_simp
     refine hK.out _ _ ?_ (fun hHeld3 => ?_)
     · repeat rw [heap_setCell_other _ _ _ _ (by show w2.heap.size ≠ w.heap.size; omega)]
       exact hbk
     clear hK K
     try simp only [Act.put, List.setIfInBounds_toArray, List.set_cons_zero, List.set_cons_succ]
     refine tkV 11 (.bool false) hHeld3 ?_
     refine wpAnyH_done (by kernel_rfl) ?_ _
     go_wp2_with fail
     refine bodyPost_ret (v := .tuple #[.agg #[.bool sg, .slice aa (dig n).length ca, .bool false, .slice ab (dig d).length cb, .bool false, .slice ac (dig 0).length cc, .bool false, .slice ae (dig 1).length ce], .bool false]) (by simp [results, Tryz.results187, go_sem, z0, z1, z2, z3, z4, z5, z6, z7]) rfl ?_
     exact ⟨⟨_, _, rfl, isC _ _ _ _ _ _ _ _ _ _ _ _ _ _, HIN.out⟩, (((((((hbf.setCell lc _).setCell lc _).setCell lc _).setCell lc _).setCell lc _).setCell lc _).setCell lc _).setCell lc _⟩
 · by_cases hi : c = 105 /\ rr = []
   · obtain ⟨rfl, rfl⟩ := hi
     obtain rfl := bytes_of HR1.out
     obtain ⟨w7, hw7⟩ : ∃ w7, w2.alloc (.cells #[.bool sg, .slice aa (dig n).length ca, .bool false, .slice ab (dig d).length cb, .bool false, .slice ac (dig 0).length cc, .bool false, .slice ae (dig 1).length ce] 135) = w7 := ⟨_, rfl⟩
     have hb7 : Below w2.heap.size w2 w7 := by rw [<- hw7]; exact (Below.refl w2.heap.size w2).alloc lc _
     have hs7 : w7.heap.size = w2.heap.size + 1 := by rw [<- hw7]; simp
     have hblk7 : Blk w7 w2.heap.size 135 #[.bool sg, .slice aa (dig n).length ca, .bool false, .slice ab (dig d).length cb, .bool false, .slice ac (dig 0).length cc, .bool false, .slice ae (dig 1).length ce] := by rw [<- hw7]; exact heap_alloc_new w2 _
     have HK7 : Hid (∀ W, Below w7.heap.size w7 W -> Blk W w2.heap.size 135 #[.bool sg, .slice aa (dig n).length ca, .bool false, .slice ab (dig d).length cb, .bool false, .slice ac (dig 0).length cc, .bool false, .slice ae (dig 1).length ce] /\ Blk W w1.heap.size 129 #[.bool sg, .slice an (dig n).length cn, .bool false, .slice ad (dig d).length cd] /\ MV W (.slice an (dig n).length cn) n /\ MV W (.slice ad (dig d).length cd) d /\ Below W0.heap.size W0 W) := hG (fun W h => by
      have h2 := hb7.trans (h.mono hb7.size)
      exact ⟨hblk7.below h (by omega), HQ5.out.below h2 hs12, HN2.out.below h2 lc, HD2.out.below h2 lc, HB02.out.trans (h2.mono HB02.out.size)⟩)
     have HW7 := hG hw7
     have hs02 := HB02.out.size
     clear hw7 hb7 hblk7
     obtain ⟨hq7, hq5, -, -, -⟩ := HK7.out w7 bg
     have y0 := hq5.cell 0
     have y1 := hq5.cell 1
     have y2 := hq5.cell 2
     have y3 := hq5.cell 3
     simp only [List.getElem?_toArray, List.getElem?_cons_succ, List.getElem?_cons_zero] at y0 y1 y2 y3
     clear hq7 hq5
     go_wp2_with fail
     rw [HW7.out]
     go_region_with (go_at_call 70; refine (qInt_any 0 _ (by omega) (by omega)).mono ?_; rintro e wc ⟨⟨vq, rfl, vz, vo, rfl, hz0, ho0⟩, hbc⟩; obtain ⟨a0, c0, rfl⟩ := hz0.cases; obtain ⟨a9, c9, rfl⟩ := ho0.cases; have hbc := ((Below.refl w7.heap.size w7).drew).trans hbc; obtain ⟨hq7, hq5, hnc, hdc, hWc⟩ := HK7.out wc hbc; have u0 := hq7.cell 0; have u1 := hq7.cell 1; have u2 := hq7.cell 2; have u3 := hq7.cell 3; have u4 := hq7.cell 4; have u5 := hq7.cell 5; have u6 := hq7.cell 6; have u7 := hq7.cell 7; have g0 := hq7.free 0; have g1 := hq7.free 1; have g2 := hq7.free 2; have g3 := hq7.free 3; have g4 := hq7.free 4; have g5 := hq7.free 5; have g6 := hq7.free 6; have g7 := hq7.free 7; have x0 := hq5.cell 0; have x1 := hq5.cell 1; have x2 := hq5.cell 2; have x3 := hq5.cell 3; simp only [List.getElem?_toArray, List.getElem?_cons_succ, List.getElem?_cons_zero] at u0 u1 u2 u3 u4 u5 u6 u7 x0 x1 x2 x3; have HBC7 := hG hq7; have HNC := hG hnc; have HDC := hG hdc; have HWC := hG hWc; have HZ0 := hG hz0; have HO0 := hG ho0; have hblt0 : w2.heap.size < wc.heap.size := hq7.lt; clear hq7 hq5 hnc hdc hWc hbc hz0 ho0)
     all_goals
      obtain ⟨wy, hwy⟩ : ∃ wy, ((((((((wc.setCell ⟨w2.heap.size, 0, none⟩ (.bool false)).setCell ⟨w2.heap.size, 1, none⟩ (.slice a0 (dig 0).length c0)).setCell ⟨w2.heap.size, 2, none⟩ (.bool false)).setCell ⟨w2.heap.size, 3, none⟩ (.slice a9 (dig 1).length c9)).setCell ⟨w2.heap.size, 4, none⟩ (.bool sg)).setCell ⟨w2.heap.size, 5, none⟩ (.slice an (dig n).length cn)).setCell ⟨w2.heap.size, 6, none⟩ (.bool false)).setCell ⟨w2.heap.size, 7, none⟩ (.slice ad (dig d).length cd)) = wy := ⟨_, rfl⟩
      rw [hwy]
      have hle7 : W0.heap.size <= w2.heap.size := hs02
      have hWy : Below W0.heap.size W0 wy := by rw [<- hwy]; exact (((((((HWC.out.setCell (p := ⟨w2.heap.size, 0, none⟩) hle7 _).setCell (p := ⟨w2.heap.size, 1, none⟩) hle7 _).setCell (p := ⟨w2.heap.size, 2, none⟩) hle7 _).setCell (p := ⟨w2.heap.size, 3, none⟩) hle7 _).setCell (p := ⟨w2.heap.size, 4, none⟩) hle7 _).setCell (p := ⟨w2.heap.size, 5, none⟩) hle7 _).setCell (p := ⟨w2.heap.size, 6, none⟩) hle7 _).setCell (p := ⟨w2.heap.size, 7, none⟩) hle7 _
      have hblk : Blk wy w2.heap.size 135 #[.bool false, .slice a0 (dig 0).length c0, .bool false, .slice a9 (dig 1).length c9, .bool sg, .slice an (dig n).length cn, .bool false, .slice ad (dig d).length cd] := by rw [<- hwy]; exact ((((((((HBC7.out.setAt 0 _).setAt 1 _).setAt 2 _).setAt 3 _).setAt 4 _).setAt 5 _).setAt 6 _).setAt 7 _)
      have hblt : w2.heap.size < wy.heap.size := by rw [<- hwy]; simp only [World.size_setCell]; exact hblt0
      have mvk : ∀ v k, MV wc v k -> MV wy v k := fun v k h => by rw [<- hwy]; exact h.box8 u0 u1 u2 u3 u4 u5 u6 u7 trivial trivial trivial trivial trivial trivial trivial trivial
      have hCG : CG wy (.agg #[.bool false, .slice a0 (dig 0).length c0, .bool false, .slice a9 (dig 1).length c9, .bool sg, .slice an (dig n).length cn, .bool false, .slice ad (dig d).length cd]) false 0 1 sg n d := ⟨_, _, _, _, rfl, mvk _ _ HZ0.out, mvk _ _ HO0.out, mvk _ _ HNC.out, mvk _ _ HDC.out⟩
      have h0M : n = 0 -> sg = false /\ d = 1 := fun h => ⟨HZ.out h, by have := HG.out; rwa [h, Nat.gcd_zero_left] at this⟩
      have hDne : (1 : Nat) ≠ 0 := Nat.one_ne_zero
      have hEne := HD0.out
      have hGcd : Nat.gcd 0 1 = 1 := Nat.gcd_one_right _
      have hZs : (0 : Nat) = 0 -> false = false := fun _ => rfl
      have hlN : (dig 0).length <= 501 := by rw [dig_zero]; simp
      have hlD : (dig 1).length <= 501 := by rw [dig_small (by decide) (by decide)]; simp
      have hlM := hln
      have hlE := hld
      have hRst : (signN s.data.toList).2.2.2 = [] -> (false, 0, 1) = ((signN s.data.toList).1, (signN s.data.toList).2.1, (signN s.data.toList).2.2.1) /\ n = 0 := fun h => by rw [<- HL.out, HR.out] at h; cases h
      obtain ⟨TX, hTX⟩ : ∃ TX, gT false 0 1 sg n d = TX := ⟨_, rfl⟩
      obtain ⟨BG, hBG⟩ : ∃ BG, (bigZ 0 1 || bigZ n d) = BG := ⟨_, rfl⟩
      have HKY : Hid (∀ W, Below wy.heap.size wy W -> (W.cell? ⟨w2.heap.size, 0, none⟩ = some (.bool false) /\ W.cell? ⟨w2.heap.size, 1, none⟩ = some (.slice a0 (dig 0).length c0) /\ W.cell? ⟨w2.heap.size, 2, none⟩ = some (.bool false) /\ W.cell? ⟨w2.heap.size, 3, none⟩ = some (.slice a9 (dig 1).length c9) /\ W.cell? ⟨w2.heap.size, 4, none⟩ = some (.bool sg) /\ W.cell? ⟨w2.heap.size, 5, none⟩ = some (.slice an (dig n).length cn) /\ W.cell? ⟨w2.heap.size, 6, none⟩ = some (.bool false) /\ W.cell? ⟨w2.heap.size, 7, none⟩ = some (.slice ad (dig d).length cd)) /\ (W.cell? ⟨w.heap.size, 0, none⟩ = some (.bool false) /\ W.cell? ⟨w.heap.size, 1, none⟩ = some (.slice none 0 0) /\ W.cell? ⟨w.heap.size, 2, none⟩ = some (.bool false) /\ W.cell? ⟨w.heap.size, 3, none⟩ = some (.slice none 0 0) /\ W.cell? ⟨w.heap.size, 4, none⟩ = some (.bool false) /\ W.cell? ⟨w.heap.size, 5, none⟩ = some (.slice none 0 0) /\ W.cell? ⟨w.heap.size, 6, none⟩ = some (.bool false) /\ W.cell? ⟨w.heap.size, 7, none⟩ = some (.slice none 0 0)) /\
       (W.frozen? ⟨w.heap.size, 0, none⟩ = false /\ W.frozen? ⟨w.heap.size, 1, none⟩ = false /\ W.frozen? ⟨w.heap.size, 2, none⟩ = false /\ W.frozen? ⟨w.heap.size, 3, none⟩ = false /\ W.frozen? ⟨w.heap.size, 4, none⟩ = false /\ W.frozen? ⟨w.heap.size, 5, none⟩ = false /\ W.frozen? ⟨w.heap.size, 6, none⟩ = false /\ W.frozen? ⟨w.heap.size, 7, none⟩ = false) /\ Below w.heap.size w W) := hG (fun W h => by
       have hq := hblk.below h hblt
       obtain ⟨u1, u2, u3⟩ := HKR.out W (hWy.trans (h.mono hWy.size))
       exact ⟨⟨hq.cell 0, hq.cell 1, hq.cell 2, hq.cell 3, hq.cell 4, hq.cell 5, hq.cell 6, hq.cell 7⟩, u1, u2, u3⟩)
      have HTX : Hid (∀ W, Below wy.heap.size wy W -> Calls Tryz.prog 123 #[.agg #[.bool false, .slice a0 (dig 0).length c0, .bool false, .slice a9 (dig 1).length c9, .bool sg, .slice an (dig n).length cn, .bool false, .slice ad (dig d).length cd]] W fun x w' => x = .returned (.string TX) /\ Below W.heap.size W w') := hG (fun W h => by
       have := refTextA_any _ false sg 0 1 n d W (hCG.below h lc) h0M hDne hEne hlN hlD hlM hlE
       rw [hTX] at this; exact this)
      have HBG : Hid (∀ W, Below wy.heap.size wy W -> Calls Tryz.prog 122 #[.agg #[.bool false, .slice a0 (dig 0).length c0, .bool false, .slice a9 (dig 1).length c9, .bool sg, .slice an (dig n).length cn, .bool false, .slice ad (dig d).length cd]] W fun x w' => x = .returned (.bool BG) /\ Below W.heap.size W w') := hG (fun W h => by
       have := refBigG_any _ false sg 0 1 n d W (hCG.below h lc) (by omega) (by omega) (by omega) (by omega)
       rw [hBG] at this; exact this)
      have HNUM : Hid (((TX.toList == s.toList) = true -> IsNum s (!BG)) /\ ((TX.toList == s.toList) = false -> IsNum s false)) := hG (by
       rw [<- hTX, <- hBG]
       exact ⟨isNum_of hDne hGcd hZs h0M hRst, isNum_no hRst⟩)
      have HBK : Hid (wy.drew.heap[w2.heap.size]? = some (.cells #[.bool false, .slice a0 (dig 0).length c0, .bool false, .slice a9 (dig 1).length c9, .bool sg, .slice an (dig n).length cn, .bool false, .slice ad (dig d).length cd] 135 (0, 0))) := hG hblk
      have HBLT : Hid (∀ W, Below wy.heap.size wy W -> W.heap[w2.heap.size]? = some (.cells #[.bool false, .slice a0 (dig 0).length c0, .bool false, .slice a9 (dig 1).length c9, .bool sg, .slice an (dig n).length cn, .bool false, .slice ad (dig d).length cd] 135 (0, 0))) := hG (fun W h => hblk.below h hblt)
      have hne7 : w.heap.size < w2.heap.size := by have := HB02.out.size; omega
      clear hCG hTX hBG hRst hblk hblt
      clear hwy h0M hDne hEne hGcd hZs hlN hlD hlM hlE hWy mvk u0 u1 u2 u3 u4 u5 u6 u7 g0 g1 g2 g3 g4 g5 g6 g7
      try clear x0 x1 x2 x3 y0 y1 y2 y3
      obtain ⟨⟨q0, q1, q2, q3, q4, q5, q6, q7⟩, ⟨k0, k1, k2, k3, k4, k5, k6, k7⟩, -, -⟩ := HKY.out wy bg
      have x0 : wy.drew.cell? ⟨w2.heap.size, 0, none⟩ = _ := q0
      have x1 : wy.drew.cell? ⟨w2.heap.size, 1, none⟩ = _ := q1
      have x2 : wy.drew.cell? ⟨w2.heap.size, 2, none⟩ = _ := q2
      have x3 : wy.drew.cell? ⟨w2.heap.size, 3, none⟩ = _ := q3
      have x4 : wy.drew.cell? ⟨w2.heap.size, 4, none⟩ = _ := q4
      have x5 : wy.drew.cell? ⟨w2.heap.size, 5, none⟩ = _ := q5
      have x6 : wy.drew.cell? ⟨w2.heap.size, 6, none⟩ = _ := q6
      have x7 : wy.drew.cell? ⟨w2.heap.size, 7, none⟩ = _ := q7
      clear k0 k1 k2 k3 k4 k5 k6 k7
      by_cases hTs : (TX.toList == s.toList) = true
      · have HIN : Hid (IsNum s (!BG)) := hG ((HNUM.out).1 hTs)
        have HTS := hG hTs
        clear hTs
        go_wp2_with fail
        refine wp_region_held_drew (S := fun w' => w'.heap[w2.heap.size]? = some (.cells #[.bool false, .slice a0 (dig 0).length c0, .bool false, .slice a9 (dig 1).length c9, .bool sg, .slice an (dig n).length cn, .bool false, .slice ad (dig d).length cd] 135 (0, 0))) (by kernel_rfl) HBK.out (fun hHeld => ?_)
        refine tkV 0 (.agg #[.bool false, .slice a0 (dig 0).length c0, .bool false, .slice a9 (dig 1).length c9, .bool sg, .slice an (dig n).length cn, .bool false, .slice ad (dig d).length cd]) hHeld ?_ (hy := by intro w9 h; exact exec_load_row 135 _ rfl w2.heap.size rfl 135 #[.bool false, .slice a0 (dig 0).length c0, .bool false, .slice a9 (dig 1).length c9, .bool sg, .slice an (dig n).length cn, .bool false, .slice ad (dig d).length cd] (0, 0) _ h Tryz.underlying135 (by rfl) HI8.out)
        refine tkV 1 (.agg #[.bool false, .slice a0 (dig 0).length c0, .bool false, .slice a9 (dig 1).length c9, .bool sg, .slice an (dig n).length cn, .bool false, .slice ad (dig d).length cd]) hHeld ?_ (hy := by intro w9 h; exact exec_load_row 135 _ rfl w2.heap.size rfl 135 #[.bool false, .slice a0 (dig 0).length c0, .bool false, .slice a9 (dig 1).length c9, .bool sg, .slice an (dig n).length cn, .bool false, .slice ad (dig d).length cd] (0, 0) _ h Tryz.underlying135 (by rfl) HI8.out)
        refine tkV 3 (.string s) hHeld ?_
        refine tkC 2 (fun K hK => ?_)
        go_simp
        refine (HTX.out wy.drew ((Below.refl wy.heap.size wy).drew)).mono ?_
        rintro x wz ⟨rfl, hbz⟩
        have hbz := ((Below.refl wy.heap.size wy).drew).trans hbz
        have hbk := HBLT.out wz hbz
        have HBZ := hG hbz
        clear hbz
        refine hK.out _ _ hbk (fun hHeld2 => ?_)
        clear hK K
        try simp only [Act.put, List.setIfInBounds_toArray, List.set_cons_zero, List.set_cons_succ]
        refine tkV 4 (.bool true) hbk ?_ (hy := by intro w9 h; go_simp; exact eq_of_beq HTS.out)
        refine tkV 5 (.bool true) hbk ?_
        refine tkV 6 (.agg #[.bool false, .slice a0 (dig 0).length c0, .bool false, .slice a9 (dig 1).length c9, .bool sg, .slice an (dig n).length cn, .bool false, .slice ad (dig d).length cd]) hbk ?_ (hy := by intro w9 h; exact exec_load_row 135 _ rfl w2.heap.size rfl 135 #[.bool false, .slice a0 (dig 0).length c0, .bool false, .slice a9 (dig 1).length c9, .bool sg, .slice an (dig n).length cn, .bool false, .slice ad (dig d).length cd] (0, 0) _ h Tryz.underlying135 (by rfl) HI8.out)
        refine tkC 7 (fun K hK => ?_)
        go_simp
        refine (HBG.out wz HBZ.out).mono ?_
        rintro x wv ⟨rfl, hbv⟩
        have hbv := HBZ.out.trans (hbv.mono HBZ.out.size)
        have hbk2 := HBLT.out wv hbv
        obtain ⟨-, ⟨z0, z1, z2, z3, z4, z5, z6, z7⟩, ⟨f0, f1, f2, f3, f4, f5, f6, f7⟩, hbf⟩ := HKY.out wv hbv
        refine hK.out _ _ hbk2 (fun hHeld4 => ?_)
        clear hK K
        try simp only [Act.put, List.setIfInBounds_toArray, List.set_cons_zero, List.set_cons_succ]
        refine tkV 8 (.bool (!BG)) hbk2 ?_
        refine tkV 9 (.bool (!BG)) hbk2 ?_
        refine tkC 10 (fun K hK => ?_)
        go_simp
        refine hK.out _ _ ?_ (fun hHeld3 => ?_)
        · repeat rw [heap_setCell_other _ _ _ _ (by show w2.heap.size ≠ w.heap.size; omega)]
          exact hbk2
        clear hK K
        try simp only [Act.put, List.setIfInBounds_toArray, List.set_cons_zero, List.set_cons_succ]
        refine tkV 11 (.bool (!BG)) hHeld3 ?_
        refine wpAnyH_done (by kernel_rfl) ?_ _
        go_wp2_with fail
        refine bodyPost_ret (v := .tuple #[.agg #[.bool false, .slice a0 (dig 0).length c0, .bool false, .slice a9 (dig 1).length c9, .bool sg, .slice an (dig n).length cn, .bool false, .slice ad (dig d).length cd], .bool (!BG)]) (by simp [results, Tryz.results187, go_sem, z0, z1, z2, z3, z4, z5, z6, z7]) rfl ?_
        exact ⟨⟨_, _, rfl, isC _ _ _ _ _ _ _ _ _ _ _ _ _ _, HIN.out⟩, (((((((hbf.setCell lc _).setCell lc _).setCell lc _).setCell lc _).setCell lc _).setCell lc _).setCell lc _).setCell lc _⟩
      · have HIN : Hid (IsNum s false) := hG ((HNUM.out).2 (by simpa using hTs))
        have hTs2 : (TX.toList == s.toList) = false := by simpa using hTs
        have HTS := hG hTs2
        clear hTs hTs2
        go_wp2_with fail
        refine wp_region_held_drew (S := fun w' => w'.heap[w2.heap.size]? = some (.cells #[.bool false, .slice a0 (dig 0).length c0, .bool false, .slice a9 (dig 1).length c9, .bool sg, .slice an (dig n).length cn, .bool false, .slice ad (dig d).length cd] 135 (0, 0))) (by kernel_rfl) HBK.out (fun hHeld => ?_)
        refine tkV 0 (.agg #[.bool false, .slice a0 (dig 0).length c0, .bool false, .slice a9 (dig 1).length c9, .bool sg, .slice an (dig n).length cn, .bool false, .slice ad (dig d).length cd]) hHeld ?_ (hy := by intro w9 h; exact exec_load_row 135 _ rfl w2.heap.size rfl 135 #[.bool false, .slice a0 (dig 0).length c0, .bool false, .slice a9 (dig 1).length c9, .bool sg, .slice an (dig n).length cn, .bool false, .slice ad (dig d).length cd] (0, 0) _ h Tryz.underlying135 (by rfl) HI8.out)
        refine tkV 1 (.agg #[.bool false, .slice a0 (dig 0).length c0, .bool false, .slice a9 (dig 1).length c9, .bool sg, .slice an (dig n).length cn, .bool false, .slice ad (dig d).length cd]) hHeld ?_ (hy := by intro w9 h; exact exec_load_row 135 _ rfl w2.heap.size rfl 135 #[.bool false, .slice a0 (dig 0).length c0, .bool false, .slice a9 (dig 1).length c9, .bool sg, .slice an (dig n).length cn, .bool false, .slice ad (dig d).length cd] (0, 0) _ h Tryz.underlying135 (by rfl) HI8.out)
        refine tkV 3 (.string s) hHeld ?_
        refine tkC 2 (fun K hK => ?_)
        go_simp
        refine (HTX.out wy.drew ((Below.refl wy.heap.size wy).drew)).mono ?_
        rintro x wz ⟨rfl, hbz⟩
        have hbz := ((Below.refl wy.heap.size wy).drew).trans hbz
        have hbk := HBLT.out wz hbz
        obtain ⟨-, ⟨z0, z1, z2, z3, z4, z5, z6, z7⟩, ⟨f0, f1, f2, f3, f4, f5, f6, f7⟩, hbf⟩ := HKY.out wz hbz
        have HBZ := hG hbz
        clear hbz
        refine hK.out _ _ hbk (fun hHeld2 => ?_)
        clear hK K
        try simp only [Act.put, List.setIfInBounds_toArray, List.set_cons_zero, List.set_cons_succ]
        refine tkV 4 (.bool false) hbk ?_ (hy := by intro w9 h; go_simp; exact fun h => by have h2 := HTS.out; rw [h] at h2; simp at h2)
        refine tkV 5 (.bool false) hbk ?_
        refine tkS 6 hbk ?_
        refine tkS 7 hbk ?_
        refine tkS 8 hbk ?_
        refine tkV 9 (.bool false) hbk ?_
        refine tkC 10 (fun K hK => ?_)
        go_simp
        refine hK.out _ _ ?_ (fun hHeld3 => ?_)
        · repeat rw [heap_setCell_other _ _ _ _ (by show w2.heap.size ≠ w.heap.size; omega)]
          exact hbk
        clear hK K
        try simp only [Act.put, List.setIfInBounds_toArray, List.set_cons_zero, List.set_cons_succ]
        refine tkV 11 (.bool false) hHeld3 ?_
        refine wpAnyH_done (by kernel_rfl) ?_ _
        go_wp2_with fail
        refine bodyPost_ret (v := .tuple #[.agg #[.bool false, .slice a0 (dig 0).length c0, .bool false, .slice a9 (dig 1).length c9, .bool sg, .slice an (dig n).length cn, .bool false, .slice ad (dig d).length cd], .bool false]) (by simp [results, Tryz.results187, go_sem, z0, z1, z2, z3, z4, z5, z6, z7]) rfl ?_
        exact ⟨⟨_, _, rfl, isC _ _ _ _ _ _ _ _ _ _ _ _ _ _, HIN.out⟩, (((((((hbf.setCell lc _).setCell lc _).setCell lc _).setCell lc _).setCell lc _).setCell lc _).setCell lc _).setCell lc _⟩
   ·
    have hrl : r1.data.toList.length = (c :: rr).length := by rw [HR1.out]
    have hr1n : r1.data.toList ≠ [105] := by
     rw [HR1.out]; intro h; exact hi (by simpa using h)
    have hr1e : r1.data.toList ≠ [] := by rw [HR1.out]; simp
    have e5 : (r1.toList == [105]) = false := by rw [Lib.toList_data]; simpa using hr1n
    have e6 : (r1.toList == []) = false := by rw [Lib.toList_data]; simpa using hr1e
    have e7 : r1.toList.isEmpty = false := by rw [Lib.toList_data]; simpa using hr1e
    have hsg := fun W => signed_any r1 W (by show r1.data.toList.length <= _; rw [hrl]; exact hlx)
    have hbd2 := signN_bd r1.data.toList
    obtain ⟨tg, m, q, rs2, hR2⟩ : ∃ tg m q rs2, signN r1.data.toList = (tg, m, q, rs2) := ⟨_, _, _, _, rfl⟩
    rw [hR2] at hsg hbd2
    obtain ⟨hmm, hqq, hq0, hg2, hz2⟩ := hbd2
    simp only at hmm hqq hq0 hg2 hz2
    have hlm := dig_501 hmm
    have hlq := dig_501 hqq
    have HG2 := hG hg2; have HZ2 := hG hz2; have HQ0 := hG hq0; have HSG := hG hsg
    clear hmm hqq hg2 hz2 hq0 hsg hR2 hr1n hr1e hrl hi
    obtain ⟨w7, hw7⟩ : ∃ w7, w2.alloc (.cells #[.bool sg, .slice aa (dig n).length ca, .bool false, .slice ab (dig d).length cb, .bool false, .slice ac (dig 0).length cc, .bool false, .slice ae (dig 1).length ce] 135) = w7 := ⟨_, rfl⟩
    have hb7 : Below w2.heap.size w2 w7 := by rw [<- hw7]; exact (Below.refl w2.heap.size w2).alloc lc _
    have hs7 : w7.heap.size = w2.heap.size + 1 := by rw [<- hw7]; simp
    have hblk7 : Blk w7 w2.heap.size 135 #[.bool sg, .slice aa (dig n).length ca, .bool false, .slice ab (dig d).length cb, .bool false, .slice ac (dig 0).length cc, .bool false, .slice ae (dig 1).length ce] := by rw [<- hw7]; exact heap_alloc_new w2 _
    have HK7 : Hid (∀ W, Below w7.heap.size w7 W -> Blk W w2.heap.size 135 #[.bool sg, .slice aa (dig n).length ca, .bool false, .slice ab (dig d).length cb, .bool false, .slice ac (dig 0).length cc, .bool false, .slice ae (dig 1).length ce] /\ Blk W w1.heap.size 129 #[.bool sg, .slice an (dig n).length cn, .bool false, .slice ad (dig d).length cd] /\ MV W (.slice an (dig n).length cn) n /\ MV W (.slice ad (dig d).length cd) d /\ Below W0.heap.size W0 W) := hG (fun W h => by
     have h2 := hb7.trans (h.mono hb7.size)
     exact ⟨hblk7.below h (by omega), HQ5.out.below h2 hs12, HN2.out.below h2 lc, HD2.out.below h2 lc, HB02.out.trans (h2.mono HB02.out.size)⟩)
    have HW7 := hG hw7
    have hs02 := HB02.out.size
    clear hw7 hb7 hblk7
    obtain ⟨hq7, hq5, -, -, -⟩ := HK7.out w7 bg
    clear hq7 hq5
    go_wp2_with fail
    rw [HW7.out]
    clear e5 e6 e7
    refine (HSG.out w7).mono ?_
    rintro e w3 ⟨⟨v3, r3, rfl, ⟨vm, vq, rfl, hm3, hq3⟩, -⟩, hb3⟩
    obtain ⟨am, cm, rfl⟩ := hm3.cases
    obtain ⟨aq, cq, rfl⟩ := hq3.cases
    obtain ⟨wc, hwc⟩ : ∃ wc, w3.alloc (.cells #[.bool tg, .slice am (dig m).length cm, .bool false, .slice aq (dig q).length cq] 129) = wc := ⟨_, rfl⟩
    have hb8 : Below w3.heap.size w3 wc := by rw [<- hwc]; exact (Below.refl w3.heap.size w3).alloc lc _
    have hblk8 : Blk wc w3.heap.size 129 #[.bool tg, .slice am (dig m).length cm, .bool false, .slice aq (dig q).length cq] := by rw [<- hwc]; exact heap_alloc_new w3 _
    have v0 := hblk8.cell 0
    have v1 := hblk8.cell 1
    have v2 := hblk8.cell 2
    have v3 := hblk8.cell 3
    simp only [List.getElem?_toArray, List.getElem?_cons_succ, List.getElem?_cons_zero] at v0 v1 v2 v3
    clear hblk8
    have hbc := hb3.trans (hb8.mono hb3.size)
    obtain ⟨hq7, hq5, hnc, hdc, hWc⟩ := HK7.out wc hbc
    have u0 := hq7.cell 0
    have u1 := hq7.cell 1
    have u2 := hq7.cell 2
    have u3 := hq7.cell 3
    have u4 := hq7.cell 4
    have u5 := hq7.cell 5
    have u6 := hq7.cell 6
    have u7 := hq7.cell 7
    have g0 := hq7.free 0
    have g1 := hq7.free 1
    have g2 := hq7.free 2
    have g3 := hq7.free 3
    have g4 := hq7.free 4
    have g5 := hq7.free 5
    have g6 := hq7.free 6
    have g7 := hq7.free 7
    have x0 := hq5.cell 0
    have x1 := hq5.cell 1
    have x2 := hq5.cell 2
    have x3 := hq5.cell 3
    simp only [List.getElem?_toArray, List.getElem?_cons_succ, List.getElem?_cons_zero] at u0 u1 u2 u3 u4 u5 u6 u7 x0 x1 x2 x3
    have HBC7 := hG hq7; have HNC := hG hnc; have HDC := hG hdc; have HWC := hG hWc
    have HM3 := hG (hm3.below hb8 lc); have HQ3 := hG (hq3.below hb8 lc)
    have hblt0 : w2.heap.size < wc.heap.size := hq7.lt
    have hu0 := u0
    have hu1 := u1
    have hu2 := u2
    have hu3 := u3
    have hu4 := u4
    have hu5 := u5
    have hu6 := u6
    have hu7 := u7
    have HU : Hid (wc.cell? ⟨w2.heap.size, 0, none⟩ = some _ /\ wc.cell? ⟨w2.heap.size, 1, none⟩ = some _ /\ wc.cell? ⟨w2.heap.size, 2, none⟩ = some _ /\ wc.cell? ⟨w2.heap.size, 3, none⟩ = some _ /\ wc.cell? ⟨w2.heap.size, 4, none⟩ = some _ /\ wc.cell? ⟨w2.heap.size, 5, none⟩ = some _ /\ wc.cell? ⟨w2.heap.size, 6, none⟩ = some _ /\ wc.cell? ⟨w2.heap.size, 7, none⟩ = some _) := hG ⟨hu0, hu1, hu2, hu3, hu4, hu5, hu6, hu7⟩
    clear hu0 hu1 hu2 hu3 hu4 hu5 hu6 hu7 hq7 hq5 hnc hdc hWc hbc hb3 hb8 hm3 hq3
    go_wp2_with fail
    try rw [hwc]
    clear u0 u1 u2 u3 u4 u5 u6 u7 v0 v1 v2 v3
    obtain ⟨u0, u1, u2, u3, u4, u5, u6, u7⟩ := HU.out
    obtain ⟨wy, hwy⟩ : ∃ wy, ((((((((wc.setCell ⟨w2.heap.size, 0, none⟩ (.bool sg)).setCell ⟨w2.heap.size, 1, none⟩ (.slice an (dig n).length cn)).setCell ⟨w2.heap.size, 2, none⟩ (.bool false)).setCell ⟨w2.heap.size, 3, none⟩ (.slice ad (dig d).length cd)).setCell ⟨w2.heap.size, 4, none⟩ (.bool tg)).setCell ⟨w2.heap.size, 5, none⟩ (.slice am (dig m).length cm)).setCell ⟨w2.heap.size, 6, none⟩ (.bool false)).setCell ⟨w2.heap.size, 7, none⟩ (.slice aq (dig q).length cq)) = wy := ⟨_, rfl⟩
    rw [hwy]
    have hle7 : W0.heap.size <= w2.heap.size := hs02
    have hWy : Below W0.heap.size W0 wy := by rw [<- hwy]; exact (((((((HWC.out.setCell (p := ⟨w2.heap.size, 0, none⟩) hle7 _).setCell (p := ⟨w2.heap.size, 1, none⟩) hle7 _).setCell (p := ⟨w2.heap.size, 2, none⟩) hle7 _).setCell (p := ⟨w2.heap.size, 3, none⟩) hle7 _).setCell (p := ⟨w2.heap.size, 4, none⟩) hle7 _).setCell (p := ⟨w2.heap.size, 5, none⟩) hle7 _).setCell (p := ⟨w2.heap.size, 6, none⟩) hle7 _).setCell (p := ⟨w2.heap.size, 7, none⟩) hle7 _
    have hblk : Blk wy w2.heap.size 135 #[.bool sg, .slice an (dig n).length cn, .bool false, .slice ad (dig d).length cd, .bool tg, .slice am (dig m).length cm, .bool false, .slice aq (dig q).length cq] := by rw [<- hwy]; exact ((((((((HBC7.out.setAt 0 _).setAt 1 _).setAt 2 _).setAt 3 _).setAt 4 _).setAt 5 _).setAt 6 _).setAt 7 _)
    have hblt : w2.heap.size < wy.heap.size := by rw [<- hwy]; simp only [World.size_setCell]; exact hblt0
    have mvk : ∀ v k, MV wc v k -> MV wy v k := fun v k h => by rw [<- hwy]; exact h.box8 u0 u1 u2 u3 u4 u5 u6 u7 trivial trivial trivial trivial trivial trivial trivial trivial
    have hCG : CG wy (.agg #[.bool sg, .slice an (dig n).length cn, .bool false, .slice ad (dig d).length cd, .bool tg, .slice am (dig m).length cm, .bool false, .slice aq (dig q).length cq]) sg n d tg m q := ⟨_, _, _, _, rfl, mvk _ _ HNC.out, mvk _ _ HDC.out, mvk _ _ HM3.out, mvk _ _ HQ3.out⟩
    have h0M : m = 0 -> tg = false /\ q = 1 := fun h => ⟨HZ2.out h, by have := HG2.out; rwa [h, Nat.gcd_zero_left] at this⟩
    have hDne := HD0.out
    have hEne := HQ0.out
    have hGcd := HG.out
    have hZs := HZ.out
    have hlN := hln
    have hlD := hld
    have hlM := hlm
    have hlE := hlq
    have hRst : (signN s.data.toList).2.2.2 = [] -> (sg, n, d) = ((signN s.data.toList).1, (signN s.data.toList).2.1, (signN s.data.toList).2.2.1) /\ m = 0 := fun h => by rw [<- HL.out, HR.out] at h; cases h
    obtain ⟨TX, hTX⟩ : ∃ TX, gT sg n d tg m q = TX := ⟨_, rfl⟩
    obtain ⟨BG, hBG⟩ : ∃ BG, (bigZ n d || bigZ m q) = BG := ⟨_, rfl⟩
    have HKY : Hid (∀ W, Below wy.heap.size wy W -> (W.cell? ⟨w2.heap.size, 0, none⟩ = some (.bool sg) /\ W.cell? ⟨w2.heap.size, 1, none⟩ = some (.slice an (dig n).length cn) /\ W.cell? ⟨w2.heap.size, 2, none⟩ = some (.bool false) /\ W.cell? ⟨w2.heap.size, 3, none⟩ = some (.slice ad (dig d).length cd) /\ W.cell? ⟨w2.heap.size, 4, none⟩ = some (.bool tg) /\ W.cell? ⟨w2.heap.size, 5, none⟩ = some (.slice am (dig m).length cm) /\ W.cell? ⟨w2.heap.size, 6, none⟩ = some (.bool false) /\ W.cell? ⟨w2.heap.size, 7, none⟩ = some (.slice aq (dig q).length cq)) /\ (W.cell? ⟨w.heap.size, 0, none⟩ = some (.bool false) /\ W.cell? ⟨w.heap.size, 1, none⟩ = some (.slice none 0 0) /\ W.cell? ⟨w.heap.size, 2, none⟩ = some (.bool false) /\ W.cell? ⟨w.heap.size, 3, none⟩ = some (.slice none 0 0) /\ W.cell? ⟨w.heap.size, 4, none⟩ = some (.bool false) /\ W.cell? ⟨w.heap.size, 5, none⟩ = some (.slice none 0 0) /\ W.cell? ⟨w.heap.size, 6, none⟩ = some (.bool false) /\ W.cell? ⟨w.heap.size, 7, none⟩ = some (.slice none 0 0)) /\
     (W.frozen? ⟨w.heap.size, 0, none⟩ = false /\ W.frozen? ⟨w.heap.size, 1, none⟩ = false /\ W.frozen? ⟨w.heap.size, 2, none⟩ = false /\ W.frozen? ⟨w.heap.size, 3, none⟩ = false /\ W.frozen? ⟨w.heap.size, 4, none⟩ = false /\ W.frozen? ⟨w.heap.size, 5, none⟩ = false /\ W.frozen? ⟨w.heap.size, 6, none⟩ = false /\ W.frozen? ⟨w.heap.size, 7, none⟩ = false) /\ Below w.heap.size w W) := hG (fun W h => by
     have hq := hblk.below h hblt
     obtain ⟨u1, u2, u3⟩ := HKR.out W (hWy.trans (h.mono hWy.size))
     exact ⟨⟨hq.cell 0, hq.cell 1, hq.cell 2, hq.cell 3, hq.cell 4, hq.cell 5, hq.cell 6, hq.cell 7⟩, u1, u2, u3⟩)
    have HTX : Hid (∀ W, Below wy.heap.size wy W -> Calls Tryz.prog 123 #[.agg #[.bool sg, .slice an (dig n).length cn, .bool false, .slice ad (dig d).length cd, .bool tg, .slice am (dig m).length cm, .bool false, .slice aq (dig q).length cq]] W fun x w' => x = .returned (.string TX) /\ Below W.heap.size W w') := hG (fun W h => by
     have := refTextA_any _ sg tg n d m q W (hCG.below h lc) h0M hDne hEne hlN hlD hlM hlE
     rw [hTX] at this; exact this)
    have HBG : Hid (∀ W, Below wy.heap.size wy W -> Calls Tryz.prog 122 #[.agg #[.bool sg, .slice an (dig n).length cn, .bool false, .slice ad (dig d).length cd, .bool tg, .slice am (dig m).length cm, .bool false, .slice aq (dig q).length cq]] W fun x w' => x = .returned (.bool BG) /\ Below W.heap.size W w') := hG (fun W h => by
     have := refBigG_any _ sg tg n d m q W (hCG.below h lc) (by omega) (by omega) (by omega) (by omega)
     rw [hBG] at this; exact this)
    have HNUM : Hid (((TX.toList == s.toList) = true -> IsNum s (!BG)) /\ ((TX.toList == s.toList) = false -> IsNum s false)) := hG (by
     rw [<- hTX, <- hBG]
     exact ⟨isNum_of hDne hGcd hZs h0M hRst, isNum_no hRst⟩)
    have HBK : Hid (wy.drew.heap[w2.heap.size]? = some (.cells #[.bool sg, .slice an (dig n).length cn, .bool false, .slice ad (dig d).length cd, .bool tg, .slice am (dig m).length cm, .bool false, .slice aq (dig q).length cq] 135 (0, 0))) := hG hblk
    have HBLT : Hid (∀ W, Below wy.heap.size wy W -> W.heap[w2.heap.size]? = some (.cells #[.bool sg, .slice an (dig n).length cn, .bool false, .slice ad (dig d).length cd, .bool tg, .slice am (dig m).length cm, .bool false, .slice aq (dig q).length cq] 135 (0, 0))) := hG (fun W h => hblk.below h hblt)
    have hne7 : w.heap.size < w2.heap.size := by have := HB02.out.size; omega
    clear hCG hTX hBG hRst hblk hblt
    clear hwy h0M hDne hEne hGcd hZs hlN hlD hlM hlE hWy mvk u0 u1 u2 u3 u4 u5 u6 u7 g0 g1 g2 g3 g4 g5 g6 g7 x0 x1 x2 x3
    obtain ⟨⟨q0, q1, q2, q3, q4, q5, q6, q7⟩, ⟨k0, k1, k2, k3, k4, k5, k6, k7⟩, -, -⟩ := HKY.out wy bg
    have x0 : wy.drew.cell? ⟨w2.heap.size, 0, none⟩ = _ := q0
    have x1 : wy.drew.cell? ⟨w2.heap.size, 1, none⟩ = _ := q1
    have x2 : wy.drew.cell? ⟨w2.heap.size, 2, none⟩ = _ := q2
    have x3 : wy.drew.cell? ⟨w2.heap.size, 3, none⟩ = _ := q3
    have x4 : wy.drew.cell? ⟨w2.heap.size, 4, none⟩ = _ := q4
    have x5 : wy.drew.cell? ⟨w2.heap.size, 5, none⟩ = _ := q5
    have x6 : wy.drew.cell? ⟨w2.heap.size, 6, none⟩ = _ := q6
    have x7 : wy.drew.cell? ⟨w2.heap.size, 7, none⟩ = _ := q7
    clear k0 k1 k2 k3 k4 k5 k6 k7
    by_cases hTs : (TX.toList == s.toList) = true
    · have HIN : Hid (IsNum s (!BG)) := hG ((HNUM.out).1 hTs)
      have HTS := hG hTs
      clear hTs
      go_wp2_with fail
      refine wp_region_held_drew (S := fun w' => w'.heap[w2.heap.size]? = some (.cells #[.bool sg, .slice an (dig n).length cn, .bool false, .slice ad (dig d).length cd, .bool tg, .slice am (dig m).length cm, .bool false, .slice aq (dig q).length cq] 135 (0, 0))) (by kernel_rfl) HBK.out (fun hHeld => ?_)
      refine tkV 0 (.agg #[.bool sg, .slice an (dig n).length cn, .bool false, .slice ad (dig d).length cd, .bool tg, .slice am (dig m).length cm, .bool false, .slice aq (dig q).length cq]) hHeld ?_ (hy := by intro w9 h; exact exec_load_row 135 _ rfl w2.heap.size rfl 135 #[.bool sg, .slice an (dig n).length cn, .bool false, .slice ad (dig d).length cd, .bool tg, .slice am (dig m).length cm, .bool false, .slice aq (dig q).length cq] (0, 0) _ h Tryz.underlying135 (by rfl) HI8.out)
      refine tkV 1 (.agg #[.bool sg, .slice an (dig n).length cn, .bool false, .slice ad (dig d).length cd, .bool tg, .slice am (dig m).length cm, .bool false, .slice aq (dig q).length cq]) hHeld ?_ (hy := by intro w9 h; exact exec_load_row 135 _ rfl w2.heap.size rfl 135 #[.bool sg, .slice an (dig n).length cn, .bool false, .slice ad (dig d).length cd, .bool tg, .slice am (dig m).length cm, .bool false, .slice aq (dig q).length cq] (0, 0) _ h Tryz.underlying135 (by rfl) HI8.out)
      refine tkV 3 (.string s) hHeld ?_
      refine tkC 2 (fun K hK => ?_)
      go_simp
      refine (HTX.out wy.drew ((Below.refl wy.heap.size wy).drew)).mono ?_
      rintro x wz ⟨rfl, hbz⟩
      have hbz := ((Below.refl wy.heap.size wy).drew).trans hbz
      have hbk := HBLT.out wz hbz
      have HBZ := hG hbz
      clear hbz
      refine hK.out _ _ hbk (fun hHeld2 => ?_)
      clear hK K
      try simp only [Act.put, List.setIfInBounds_toArray, List.set_cons_zero, List.set_cons_succ]
      refine tkV 4 (.bool true) hbk ?_ (hy := by intro w9 h; go_simp; exact eq_of_beq HTS.out)
      refine tkV 5 (.bool true) hbk ?_
      refine tkV 6 (.agg #[.bool sg, .slice an (dig n).length cn, .bool false, .slice ad (dig d).length cd, .bool tg, .slice am (dig m).length cm, .bool false, .slice aq (dig q).length cq]) hbk ?_ (hy := by intro w9 h; exact exec_load_row 135 _ rfl w2.heap.size rfl 135 #[.bool sg, .slice an (dig n).length cn, .bool false, .slice ad (dig d).length cd, .bool tg, .slice am (dig m).length cm, .bool false, .slice aq (dig q).length cq] (0, 0) _ h Tryz.underlying135 (by rfl) HI8.out)
      refine tkC 7 (fun K hK => ?_)
      go_simp
      refine (HBG.out wz HBZ.out).mono ?_
      rintro x wv ⟨rfl, hbv⟩
      have hbv := HBZ.out.trans (hbv.mono HBZ.out.size)
      have hbk2 := HBLT.out wv hbv
      obtain ⟨-, ⟨z0, z1, z2, z3, z4, z5, z6, z7⟩, ⟨f0, f1, f2, f3, f4, f5, f6, f7⟩, hbf⟩ := HKY.out wv hbv
      refine hK.out _ _ hbk2 (fun hHeld4 => ?_)
      clear hK K
      try simp only [Act.put, List.setIfInBounds_toArray, List.set_cons_zero, List.set_cons_succ]
      refine tkV 8 (.bool (!BG)) hbk2 ?_
      refine tkV 9 (.bool (!BG)) hbk2 ?_
      refine tkC 10 (fun K hK => ?_)
      go_simp
      refine hK.out _ _ ?_ (fun hHeld3 => ?_)
      · repeat rw [heap_setCell_other _ _ _ _ (by show w2.heap.size ≠ w.heap.size; omega)]
        exact hbk2
      clear hK K
      try simp only [Act.put, List.setIfInBounds_toArray, List.set_cons_zero, List.set_cons_succ]
      refine tkV 11 (.bool (!BG)) hHeld3 ?_
      refine wpAnyH_done (by kernel_rfl) ?_ _
      go_wp2_with fail
      refine bodyPost_ret (v := .tuple #[.agg #[.bool sg, .slice an (dig n).length cn, .bool false, .slice ad (dig d).length cd, .bool tg, .slice am (dig m).length cm, .bool false, .slice aq (dig q).length cq], .bool (!BG)]) (by simp [results, Tryz.results187, go_sem, z0, z1, z2, z3, z4, z5, z6, z7]) rfl ?_
      exact ⟨⟨_, _, rfl, isC _ _ _ _ _ _ _ _ _ _ _ _ _ _, HIN.out⟩, (((((((hbf.setCell lc _).setCell lc _).setCell lc _).setCell lc _).setCell lc _).setCell lc _).setCell lc _).setCell lc _⟩
    · have HIN : Hid (IsNum s false) := hG ((HNUM.out).2 (by simpa using hTs))
      have hTs2 : (TX.toList == s.toList) = false := by simpa using hTs
      have HTS := hG hTs2
      clear hTs hTs2
      go_wp2_with fail
      refine wp_region_held_drew (S := fun w' => w'.heap[w2.heap.size]? = some (.cells #[.bool sg, .slice an (dig n).length cn, .bool false, .slice ad (dig d).length cd, .bool tg, .slice am (dig m).length cm, .bool false, .slice aq (dig q).length cq] 135 (0, 0))) (by kernel_rfl) HBK.out (fun hHeld => ?_)
      refine tkV 0 (.agg #[.bool sg, .slice an (dig n).length cn, .bool false, .slice ad (dig d).length cd, .bool tg, .slice am (dig m).length cm, .bool false, .slice aq (dig q).length cq]) hHeld ?_ (hy := by intro w9 h; exact exec_load_row 135 _ rfl w2.heap.size rfl 135 #[.bool sg, .slice an (dig n).length cn, .bool false, .slice ad (dig d).length cd, .bool tg, .slice am (dig m).length cm, .bool false, .slice aq (dig q).length cq] (0, 0) _ h Tryz.underlying135 (by rfl) HI8.out)
      refine tkV 1 (.agg #[.bool sg, .slice an (dig n).length cn, .bool false, .slice ad (dig d).length cd, .bool tg, .slice am (dig m).length cm, .bool false, .slice aq (dig q).length cq]) hHeld ?_ (hy := by intro w9 h; exact exec_load_row 135 _ rfl w2.heap.size rfl 135 #[.bool sg, .slice an (dig n).length cn, .bool false, .slice ad (dig d).length cd, .bool tg, .slice am (dig m).length cm, .bool false, .slice aq (dig q).length cq] (0, 0) _ h Tryz.underlying135 (by rfl) HI8.out)
      refine tkV 3 (.string s) hHeld ?_
      refine tkC 2 (fun K hK => ?_)
      go_simp
      refine (HTX.out wy.drew ((Below.refl wy.heap.size wy).drew)).mono ?_
      rintro x wz ⟨rfl, hbz⟩
      have hbz := ((Below.refl wy.heap.size wy).drew).trans hbz
      have hbk := HBLT.out wz hbz
      obtain ⟨-, ⟨z0, z1, z2, z3, z4, z5, z6, z7⟩, ⟨f0, f1, f2, f3, f4, f5, f6, f7⟩, hbf⟩ := HKY.out wz hbz
      have HBZ := hG hbz
      clear hbz
      refine hK.out _ _ hbk (fun hHeld2 => ?_)
      clear hK K
      try simp only [Act.put, List.setIfInBounds_toArray, List.set_cons_zero, List.set_cons_succ]
      refine tkV 4 (.bool false) hbk ?_ (hy := by intro w9 h; go_simp; exact fun h => by have h2 := HTS.out; rw [h] at h2; simp at h2)
      refine tkV 5 (.bool false) hbk ?_
      refine tkS 6 hbk ?_
      refine tkS 7 hbk ?_
      refine tkS 8 hbk ?_
      refine tkV 9 (.bool false) hbk ?_
      refine tkC 10 (fun K hK => ?_)
      go_simp
      refine hK.out _ _ ?_ (fun hHeld3 => ?_)
      · repeat rw [heap_setCell_other _ _ _ _ (by show w2.heap.size ≠ w.heap.size; omega)]
        exact hbk
      clear hK K
      try simp only [Act.put, List.setIfInBounds_toArray, List.set_cons_zero, List.set_cons_succ]
      refine tkV 11 (.bool false) hHeld3 ?_
      refine wpAnyH_done (by kernel_rfl) ?_ _
      go_wp2_with fail
      refine bodyPost_ret (v := .tuple #[.agg #[.bool sg, .slice an (dig n).length cn, .bool false, .slice ad (dig d).length cd, .bool tg, .slice am (dig m).length cm, .bool false, .slice aq (dig q).length cq], .bool false]) (by simp [results, Tryz.results187, go_sem, z0, z1, z2, z3, z4, z5, z6, z7]) rfl ?_
      exact ⟨⟨_, _, rfl, isC _ _ _ _ _ _ _ _ _ _ _ _ _ _, HIN.out⟩, (((((((hbf.setCell lc _).setCell lc _).setCell lc _).setCell lc _).setCell lc _).setCell lc _).setCell lc _).setCell lc _⟩
end Go.Proofs.YtahnadhlagabgaaGreatDoor.Z4

namespace Go.Proofs.YtahnadhlagabgaaGreatDoor
open Go.RowKit
theorem Tryz.infoStr : (Tryz.prog.info? 9).map (fun i => (i.zero, i.size, i.bytes)) = some (some (.string ⟨#[]⟩), 1, 16) := by kernel_rfl
def strs (ls : List (List UInt8)) : List Value := ls.map fun l => .string ⟨l.toArray⟩
theorem strs_snoc (a : List (List UInt8)) (x : List UInt8) : strs (a ++ [x]) = strs a ++ [.string ⟨x.toArray⟩] := by simp [strs]
theorem bytes_ext {s : ByteArray} {l : List UInt8} (h : l = s.data.toList) (f k : Nat) : s.extract f k = ⟨((l.drop f).take (k - f)).toArray⟩ := by
 have e : (s.extract f k).data.toList = (l.drop f).take (k - f) := by rw [h]; simp [ByteArray.data_extract]
 cases hx : s.extract f k
 rw [hx] at e
 simp only at e
 rw [<- e]
set_option maxRecDepth 100000 in
set_option maxHeartbeats 2000000 in
theorem refCut_any (s : ByteArray) (w : World) (hs : s.size <= 1048576) :
 Calls Tryz.prog 149 #[.string s, .int .u8 47] w fun e w' => (∃ a c, e = .returned (.slice a (cutB s.data.toList).length c) /\ Cells w' a (strs (cutB s.data.toList))) /\ Below w.heap.size w w' := by
 obtain ⟨i0, hi, hz0, hz1, hz2⟩ := info_parts Tryz.infoStr
 obtain ⟨l, hl⟩ : ∃ l, l = s.data.toList := ⟨_, rfl⟩
 have hsl : s.size = l.length := by rw [hl]; rfl
 rw [<- hl]
 have HL := hG hl; have HSL := hG hsl
 have hl1 : l.length <= 1048576 := by omega
 have hets : (s.size : Int) = (l.length : Int) := by omega
 have hgetc : ∀ i, i < l.length -> ∃ c, l[i]? = some c /\ ∃ h : i < s.size, s[i] = c := fun i h => by
  obtain ⟨c, h1, h2⟩ := byte_get (t := s) (i := i) (by omega)
  rw [<- hl] at h1
  exact ⟨c, h1, by omega, h2⟩
 have HGC := hG hgetc
 clear hl hgetc hsl
 go_enter Tryz.func149, Tryz.ntmps149
 go_wp2_with fail
 go_loopw [5, 6, 7] (fun ov fv iv wr => ∃ (ds : List (List UInt8)) (f k : Nat), fv = .int .i64 f /\ iv = .int .i64 k /\ f <= k /\ k <= l.length /\ ds.length <= f /\ (∀ b ∈ (l.drop f).take (k - f), b ≠ 47) /\ cutB l = ds ++ cutB (l.drop f) /\ wr.ownsRow w.heap.size 9 1 ov ds.length (strs ds) /\ Below w.heap.size w wr) (fun _ _ iv _ => l.length - (intOf iv).toNat)
 case atStart => exact ⟨[], 0, 0, rfl, rfl, Nat.le_refl _, Nat.zero_le _, Nat.le_refl _, by simp, rfl, World.ownsRow_nil _ _ _ _, Below.refl _ _⟩
 case round =>
  obtain ⟨ds, f, k, rfl, rfl, hfk, hk, hdl, hno, hcut, hown, hb⟩ := hrel
  have hsz := hb.size
  have HNO := hG hno; have HCUT := hG hcut
  have HOB : Hid (∀ j, u5.ownBlock = some j -> w.heap.size <= j) := fun j e => (hown.lt j e).1
  clear hno hcut
  by_cases hlt : k < l.length
  · obtain ⟨c, hlc, hit, rfl⟩ := HGC.out k hlt
    have hdr : (l.drop f)[k - f]? = some s[k] := by rw [List.getElem?_drop, show f + (k - f) = k by omega]; exact hlc
    have i1 : (k : Int) < (l.length : Int) := by omega
    have i2 : (0 : Int) <= (k : Int) := by omega
    have i4 : (f : Int) <= (k : Int) := by omega
    have i5 : (0 : Int) <= (f : Int) := by omega
    have i6 : (k : Int) <= (l.length : Int) := by omega
    by_cases hc : s[k] = 47
    · have e3 : ((s[k].toNat : Int) == 47) = true := by rw [hc]; rfl
      have hext := bytes_ext HL.out f k
      have hcut2 : cutB l = (ds ++ [(l.drop f).take (k - f)]) ++ cutB (l.drop (k + 1)) := by
       have hdk : l.drop k = 47 :: l.drop (k + 1) := by
        rw [List.drop_eq_getElem_cons hlt, (List.getElem?_eq_some_iff.1 hlc).2, hc]
       obtain ⟨P, hP⟩ : ∃ P, P = (l.drop f).take (k - f) := ⟨_, rfl⟩
       have e : l.drop f = P ++ 47 :: l.drop (k + 1) := by
        rw [hP, <- hdk, show l.drop k = (l.drop f).drop (k - f) by rw [List.drop_drop, show f + (k - f) = k by omega], List.take_append_drop]
       have h1 := HCUT.out
       have h2 := HNO.out
       rw [<- hP] at h2 ⊢
       rw [e, cutB_some h2] at h1
       rw [h1, List.append_assoc]; rfl
      have HEX := hG hext; have HC2 := hG hcut2
      clear hext hcut2 hdr hlc hc
      go_wp2_with (at_builtin; refine wpList_append_own _ rfl _ _ 228 rfl w.heap.size 9 i0 (.string ⟨#[]⟩) 1 16 Tryz.underlying228 hi hz0 hz1 hz2 rfl (by decide) _ _ _ rfl (hown.alloc _) ⟨wr.heap.size, 0, none⟩ 1 1 [.string (s.extract f k)] rfl rfl (news1 _ _ _) (by simp [Value.oneCell']) (by unfold maxLen; omega) (by omega) (by simp; omega) ?_; intro v1 wz hown1 hgrow _)
      have hfin := hown1
      rw [HEX.out, show strs ds ++ [.string ⟨((l.drop f).take (k - f)).toArray⟩] = strs (ds ++ [(l.drop f).take (k - f)]) from (strs_snoc _ _).symm] at hfin
      have hbz := (hb.alloc hsz (.cells #[.string (s.extract f k)] 9)).grown hgrow (by simp; omega) HOB.out
      clear hown1 hgrow hown
      have HFIN := hG hfin; clear hfin
      go_wp2_with fail
      go_roundw
      case rel => exact ⟨ds ++ [(l.drop f).take (k - f)], k + 1, k + 1, by go_num, by go_num, Nat.le_refl _, by omega, by rw [List.length_append, List.length_singleton]; omega, by simp, HC2.out, by simpa using HFIN.out, hbz⟩
      case measure => simp [intOf]; omega
    · have e3 : ((s[k].toNat : Int) == 47) = false := by
       rw [Bool.eq_false_iff, ne_eq, beq_iff_eq]
       intro h
       exact hc (UInt8.toNat_inj.1 (by show s[k].toNat = 47; omega))
      have hno2 : ∀ b ∈ (l.drop f).take (k + 1 - f), b ≠ 47 := by
       rw [show k + 1 - f = (k - f) + 1 by omega, List.take_add_one, hdr]
       intro b hb2
       rcases List.mem_append.1 hb2 with h | h
       · exact HNO.out b h
       · simp at h; rw [h]; exact hc
      have HN2 := hG hno2
      clear hno2 hdr hlc hc
      go_wp2_with fail
      go_roundw
      case rel => exact ⟨ds, f, k + 1, rfl, by go_num, by omega, by omega, hdl, HN2.out, HCUT.out, hown, hb⟩
      case measure => simp [intOf]; omega
  · obtain rfl : k = l.length := by omega
    have i1 : ¬ ((l.length : Int) < (l.length : Int)) := by omega
    have i4 : (f : Int) <= (l.length : Int) := by omega
    have i5 : (0 : Int) <= (f : Int) := by omega
    have hext := bytes_ext HL.out f l.length
    rw [show (l.drop f).take (l.length - f) = l.drop f from List.take_of_length_le (by rw [List.length_drop]; omega)] at hext
    have hext2 : s.extract f s.size = ⟨(l.drop f).toArray⟩ := by rw [HSL.out]; exact hext
    have hcut2 : cutB l = ds ++ [l.drop f] := by
     have h1 := HCUT.out
     rw [cutB_none (l := l.drop f) (by have := HNO.out; rwa [List.take_of_length_le (by rw [List.length_drop]; omega)] at this)] at h1
     exact h1
    have HEX := hG hext2; have HC2 := hG hcut2; have HEY := hG hext
    clear hext hext2 hcut2
    go_wp2_with (at_builtin; refine wpList_append_own _ rfl _ _ 228 rfl w.heap.size 9 i0 (.string ⟨#[]⟩) 1 16 Tryz.underlying228 hi hz0 hz1 hz2 rfl (by decide) _ _ _ rfl (hown.alloc _) ⟨wr.heap.size, 0, none⟩ 1 1 [.string ⟨(l.drop f).toArray⟩] rfl rfl (by first | rw [<- HEX.out]; exact news1 _ _ _ | rw [<- HEY.out]; exact news1 _ _ _) (by simp [Value.oneCell']) (by unfold maxLen; omega) (by omega) (by simp; omega) ?_; intro v1 wz hown1 hgrow _)
    have hfin := hown1
    rw [show strs ds ++ [.string ⟨(l.drop f).toArray⟩] = strs (ds ++ [l.drop f]) from (strs_snoc _ _).symm, <- HC2.out, show ds.length + 1 = (cutB l).length by rw [HC2.out, List.length_append, List.length_singleton]] at hfin
    have hbz := (hb.alloc hsz (.cells #[.string (s.extract f s.size)] 9)).grown hgrow (by simp; omega) HOB.out
    obtain ⟨g, cc, rfl, hcs, -, -⟩ := own_cap hfin
    go_ret
    exact ⟨⟨g, ⟨cc, rfl⟩, hcs⟩, hbz⟩
set_option maxRecDepth 100000 in
set_option maxHeartbeats 2000000 in
theorem refNatural_any (s : ByteArray) (w : World) (hs : s.size <= 1048576) :
 Calls Tryz.prog 151 #[.string s, .int .i64 6] w fun e w' => (∃ n : Nat, e = .returned (.tuple #[.int .i64 n, .bool (natS s.data.toList).isSome]) /\ ∀ m, natS s.data.toList = some m -> n = m) /\ w = w' := by
 obtain ⟨l, hl⟩ : ∃ l, l = s.data.toList := ⟨_, rfl⟩
 have hsl : s.size = l.length := by rw [hl]; rfl
 rw [<- hl]
 have hgetc : ∀ i, i < l.length -> ∃ c, l[i]? = some c /\ ∃ h : i < s.size, s[i] = c := fun i h => by
  obtain ⟨c, h1, h2⟩ := byte_get (t := s) (i := i) (by omega)
  rw [<- hl] at h1
  exact ⟨c, h1, by omega, h2⟩
 have hets : (s.size : Int) = (l.length : Int) := by omega
 have hno : ∀ (n : Nat), natS l = none -> (∃ m : Nat, Ending.returned (.tuple #[.int .i64 0, .bool false]) = Ending.returned (.tuple #[.int .i64 m, .bool (natS l).isSome]) /\ ∀ k, natS l = some k -> m = k) := fun _ h => ⟨0, by rw [h]; rfl, fun k hk => by rw [h] at hk; cases hk⟩
 have HGC := hG hgetc; have HNO := hG hno
 clear hgetc hno
 by_cases h1 : l.length < 1
 · have hn : natS l = none := by unfold natS; rw [if_pos (.inl h1)]
   have HN := hG hn
   clear hn hl
   go_enter Tryz.func151, Tryz.ntmps151
   go_wp2_with fail
   go_ret2
   exact ⟨HNO.out 0 HN.out, rfl⟩
 · by_cases h2 : 6 < l.length
   · have hn : natS l = none := by unfold natS; rw [if_pos (.inr (.inl h2))]
     have HN := hG hn
     clear hn hl
     go_enter Tryz.func151, Tryz.ntmps151
     go_wp2_with fail
     go_ret2
     exact ⟨HNO.out 0 HN.out, rfl⟩
   · obtain ⟨c, hlc, hit, rfl⟩ := HGC.out 0 (by omega)
     have hh : l.head? = some s[0] := by rw [List.head?_eq_getElem?]; exact hlc
     by_cases h3 : s[0] = 48 /\ 1 < l.length
     · have hn : natS l = none := by unfold natS; rw [if_pos (.inr (.inr (.inl ⟨by rw [hh, h3.1], h3.2⟩)))]
       have HN := hG hn
       have e3 : ((s[0].toNat : Int) == 48) = true := by rw [h3.1]; rfl
       have e4 : 1 < l.length := h3.2
       clear hn hl hh hlc h3
       go_enter Tryz.func151, Tryz.ntmps151
       go_wp2_with fail
       go_ret2
       exact ⟨HNO.out 0 HN.out, rfl⟩
     · have hn : natS l = if l.all isDg = false then none else some (dval l) := by
        unfold natS
        by_cases ha : l.all isDg = false
        · rw [if_pos (.inr (.inr (.inr ha))), if_pos ha]
        · rw [if_neg ha, if_neg]
          rintro (h | h | ⟨h, h'⟩ | h)
          · exact h1 h
          · exact h2 h
          · rw [hh] at h; exact h3 ⟨by simpa using h, h'⟩
          · exact ha h
       have e3 : (((s[0].toNat : Int) == 48) = true /\ ¬ (1 < l.length)) ∨ ((s[0].toNat : Int) == 48) = false := by
        by_cases h48 : s[0] = 48
        · exact .inl ⟨by rw [h48]; rfl, fun h => h3 ⟨h48, h⟩⟩
        · right
          rw [Bool.eq_false_iff, ne_eq, beq_iff_eq]
          intro h
          exact h48 (UInt8.toNat_inj.1 (by show s[0].toNat = 48; omega))
       have HN := hG hn
       have hl6 : l.length <= 6 := by omega
       clear hn hl hh hlc h3
       rcases e3 with ⟨e3, e4⟩ | e3
       all_goals
        go_enter Tryz.func151, Tryz.ntmps151
        go_wp2_with fail
        go_loop [6, 7] (fun nv iv => ∃ i n : Nat, i <= l.length /\ iv = .int .i64 i /\ nv = .int .i64 n /\ n = dval (l.take i) /\ (l.take i).all isDg = true) (fun _ iv => l.length - (intOf iv).toNat)
        case atStart => exact ⟨0, 0, Nat.zero_le _, rfl, rfl, rfl, rfl⟩
        case round =>
         obtain ⟨i, n, hil, rfl, rfl, hn, ha⟩ := hrel
         have hn6 : n < 1000000 := by
          have h1 := dval_lt _ ha
          rw [<- hn] at h1
          have h2 : (l.take i).length <= 6 := by rw [List.length_take]; omega
          have h3 := Nat.pow_le_pow_right (n := 10) (by decide) h2
          omega
         by_cases hlt : i < l.length
         · obtain ⟨c, hlc, hit2, rfl⟩ := HGC.out i hlt
           have hc8 : (s[i].toNat : Int) <= 255 := by have := s[i].toNat_lt; omega
           have htk : l.take (i + 1) = l.take i ++ [s[i]] := take_get hlc
           have HTK := hG htk; have HV := hG hn; have HA := hG ha; have HLC := hG hlc
           clear htk hn ha hlc
           have i1 : (i : Int) < (l.length : Int) := by omega
           have i2 : (0 : Int) <= (i : Int) := by omega
           by_cases hd : isDg s[i] = true
           · have hd2 := hd
             simp only [isDg, Bool.and_eq_true, decide_eq_true_eq] at hd2
             have hd3 : (48 : Int) <= (s[i].toNat : Int) /\ (s[i].toNat : Int) <= 57 := by omega
             obtain ⟨d1, d2⟩ := hd3
             have en : (10 * (n : Int) + ((s[i].toNat : Int) - 48)) = ((10 * n + (s[i].toNat - 48) : Nat) : Int) := by omega
             have HD := hG hd; have EN := hG en
             clear hd hd2 en
             go_wp2_with fail
             go_round
             case rel => exact ⟨i + 1, 10 * n + (s[i].toNat - 48), by omega, by go_num, by rw [EN.out], by rw [HTK.out, dval_snoc, HV.out], by rw [HTK.out, List.all_append, HA.out, List.all_cons, HD.out]; rfl⟩
             case measure => simp [intOf]; omega
           · have hdf : isDg s[i] = false := by simpa using hd
             have hnn : natS l = none := natS_no (List.mem_of_getElem? HLC.out) hdf
             have hd3 : (s[i].toNat : Int) < 48 ∨ (57 : Int) < (s[i].toNat : Int) := by
              simp only [isDg, Bool.and_eq_false_iff, decide_eq_false_iff_not] at hdf
              omega
             have HNN := hG hnn
             clear hd hdf hnn
             rcases hd3 with hd3 | hd3
             · go_wp2_with fail
               go_ret2
               exact ⟨HNO.out 0 HNN.out, rfl⟩
             · have hd4 : (48 : Int) <= (s[i].toNat : Int) := by omega
               go_wp2_with fail
               go_ret2
               exact ⟨HNO.out 0 HNN.out, rfl⟩
         · obtain rfl : i = l.length := by omega
           rw [List.take_length] at hn ha
           have hnn : natS l = some n := by rw [HN.out, if_neg (by rw [ha]; decide), hn]
           have HNN := hG hnn
           have i1 : ¬ ((l.length : Int) < (l.length : Int)) := by omega
           clear hn ha hnn
           go_wp2_with fail
           go_ret2
           exact ⟨⟨n, by rw [HNN.out]; rfl, fun m hm => by rw [HNN.out] at hm; exact Option.some.inj hm⟩, rfl⟩
theorem refCheck_any (s : ByteArray) (w : World) (hs : s.size <= 1048576) :
 Calls Tryz.prog 150 #[.string s] w fun e w' => (∃ b, e = .returned (.int .i64 (if b = true then 0 else 10)) /\ IsNum s b) /\ Below w.heap.size w w' := by
 have hg := fun W => Z4.Get_any s W (by omega)
 have HG := hG hg; clear hg
 go_enter Tryz.func150, Tryz.ntmps150
 go_wp2_with fail
 refine (HG.out _).mono ?_
 rintro e w1 ⟨⟨v, b, rfl, ⟨s1, s2, a1, n1, c1, a2, n2, c2, a3, n3, c3, a4, n4, c4, rfl⟩, hn⟩, hb1⟩
 have HN := hG hn
 have hbz := hb1.alloc hb1.size (.cells #[.bool s1, .slice a1 n1 c1, .bool false, .slice a2 n2 c2, .bool s2, .slice a3 n3 c3, .bool false, .slice a4 n4 c4] 135)
 clear hn
 cases b
 · go_wp2_with fail
   go_ret
   exact ⟨⟨false, rfl, HN.out⟩, hbz⟩
 · go_wp2_with fail
   go_ret
   exact ⟨⟨true, rfl, HN.out⟩, hbz⟩
theorem cutB_len : ∀ (l : List UInt8), ∀ x ∈ cutB l, x.length <= l.length := by
 intro l
 induction l with
 | nil => intro x hx; simp [cutB] at hx; subst hx; exact Nat.le_refl _
 | cons c r ih =>
   intro x hx
   rw [cutB] at hx
   split at hx
   · rcases List.mem_cons.1 hx with rfl | h
     · exact Nat.zero_le _
     · have := ih x h; rw [List.length_cons]; omega
   · rcases hc : cutB r with _ | ⟨y, ys⟩
     · exact absurd hc (cutB_ne r)
     · rw [hc] at hx ih
       rcases List.mem_cons.1 hx with rfl | h
       · have := ih y (by simp); simp only [List.length_cons]; omega
       · have := ih x (by simp [h]); rw [List.length_cons]; omega
theorem isNum_ex (s : ByteArray) : ∃ b, IsNum s b := by
 obtain ⟨h1, h2, h3, h4, h5⟩ := Z4.signN_bd s.data.toList
 by_cases h : s = ratT (Z4.signN s.data.toList).1 (Z4.signN s.data.toList).2.1 (Z4.signN s.data.toList).2.2.1 /\ bigQ (Z4.signN s.data.toList).2.1 (Z4.signN s.data.toList).2.2.1 = false
 · exact ⟨true, fun _ => .inl ⟨_, _, _, h.1, h3, h4, h5, h.2⟩, fun _ _ _ => rfl⟩
 · exact ⟨false, fun hb => Bool.noConfusion hb, fun _ a b => absurd ⟨a, b⟩ h⟩
def BarRes2 (s : ByteArray) (w : World) (e : Ending) (w' : World) : Prop :=
 (∃ (n d : Nat), e = .returned (.tuple #[.agg #[.int .i64 n, .int .i64 d], .bool (barS s).isSome]) /\ ∀ x, barS s = some x -> (n, d) = x) /\ Below w.heap.size w w'
set_option maxRecDepth 100000 in
set_option maxHeartbeats 2000000 in
theorem refBar_any (s : ByteArray) (w : World) (hs : s.size <= 1048576) :
 Calls Tryz.prog 107 #[.string s] w (BarRes2 s w) := by
 obtain ⟨W0, hW0⟩ : ∃ W0, w.alloc (.cells #[.int .i64 0, .int .i64 0] 88) = W0 := ⟨_, rfl⟩
 have hb0 : Below w.heap.size w W0 := by rw [<- hW0]; exact (Below.refl _ w).alloc lc _
 have q0 : Blk W0 w.heap.size 88 #[.int .i64 0, .int .i64 0] := by rw [<- hW0]; exact heap_alloc_new w _
 have hsz0 : W0.heap.size = w.heap.size + 1 := by rw [<- hW0]; simp
 have hck := fun W => refCheck_any s W hs
 have hcu := fun W => refCut_any s W hs
 have hkr : ∀ W, Below W0.heap.size W0 W -> (W.cell? ⟨w.heap.size, 0, none⟩ = some (.int .i64 0) /\ W.cell? ⟨w.heap.size, 1, none⟩ = some (.int .i64 0) /\ W.frozen? ⟨w.heap.size, 0, none⟩ = false /\ W.frozen? ⟨w.heap.size, 1, none⟩ = false) /\ Below w.heap.size w W := fun W h => by
  have hq := q0.below h (by omega)
  exact ⟨⟨hq.cell 0, hq.cell 1, hq.free 0, hq.free 1⟩, hb0.trans (h.mono hb0.size)⟩
 have HW0 := hG hW0; have HCK := hG hck; have HCU := hG hcu; have HKR := hG hkr
 clear hb0 q0 hW0 hck hcu hkr
 have hbq := fun b (h : IsNum s b) => barQ_is h
 have HBQ := hG hbq; clear hbq
 obtain ⟨ps, hps⟩ : ∃ ps, ps = cutB s.data.toList := ⟨_, rfl⟩
 rw [<- hps] at HCU
 have HPS := hG hps; clear hps
 go_enter Tryz.func107, Tryz.ntmps107
 go_wp2_with fail
 rw [HW0.out]
 refine (HCU.out W0).mono ?_
 rintro e w1 ⟨⟨a1, c1, rfl, hc1⟩, hb1⟩
 have HC1 := hG hc1
 clear hc1
 by_cases h2 : 2 < ps.length
 · have hB : barS s = none := by
    obtain ⟨b, hb⟩ := isNum_ex s
    rw [<- HBQ.out b hb]
    unfold barQ
    rw [<- HPS.out]
    match ps, h2 with
    | _ :: _ :: _ :: _, _ => rfl
   have HB := hG hB
   obtain ⟨⟨k0, k1, f0, f1⟩, hbw⟩ := HKR.out w1 hb1
   clear hB
   go_wp2_with fail
   refine bodyPost_ret (v := .tuple #[.agg #[.int .i64 0, .int .i64 0], .bool false]) (by simp [results, Tryz.results107, go_sem, k0, k1]) rfl ?_
   refine ⟨⟨0, 0, by rw [HB.out]; rfl, fun x hx => ?_⟩, (hbw.setCell lc _).setCell lc _⟩
   rw [HB.out] at hx; cases hx
 · have h2' : ¬ ((2 : Int) < (ps.length : Int)) := by omega
   go_wp2_with fail
   refine (HCK.out w1).mono ?_
   rintro e w2 ⟨⟨b, rfl, hn⟩, hb2⟩
   have HQ := hG (HBQ.out b hn)
   have HC2 := hG (HC1.out.below hb2 lc)
   have hb12 := hb1.trans (hb2.mono hb1.size)
   obtain ⟨⟨k0, k1, f0, f1⟩, hbw⟩ := HKR.out w2 hb12
   clear hn hb1 hb2
   cases b
   · have hB : barS s = none := by
      rw [<- HQ.out]
      unfold barQ
      split <;> rfl
     have HB := hG hB
     clear hB
     go_wp2_with fail
     refine bodyPost_ret (v := .tuple #[.agg #[.int .i64 0, .int .i64 0], .bool false]) (by simp [results, Tryz.results107, go_sem, k0, k1]) rfl ?_
     refine ⟨⟨0, 0, by rw [HB.out]; rfl, fun x hx => ?_⟩, (hbw.setCell lc _).setCell lc _⟩
     rw [HB.out] at hx; cases hx
   · have hps : (∃ x, ps = [x]) ∨ ∃ x y, ps = [x, y] := by
      have hne : ps ≠ [] := by rw [HPS.out]; exact cutB_ne _
      match ps, hne, h2 with
      | [x], _, _ => exact .inl ⟨x, rfl⟩
      | [x, y], _, _ => exact .inr ⟨x, y, rfl⟩
      | _ :: _ :: _ :: _, _, h => simp at h
     have hlx : ∀ x ∈ ps, x.length <= 1048576 := fun x hx => by
      rw [HPS.out] at hx
      have h1 := cutB_len _ x hx
      have h2 : s.data.toList.length = s.size := rfl
      omega
     rcases hps with ⟨x, rfl⟩ | ⟨x, y, rfl⟩
     · obtain ⟨bb, off, rfl⟩ := HC2.out.addr (by simp [strs])
       have c0 : w2.cell? ⟨bb, off, none⟩ = some (.string ⟨x.toArray⟩) := HC2.out.at (j := 0) rfl
       have hna := fun W => refNatural_any ⟨x.toArray⟩ W (by rw [arr_size]; exact hlx x (by simp))
       have hB : barS s = (match natS x with | some n => if n <= 1 then some (n, 1) else none | none => none) := by
        rw [<- HQ.out]; unfold barQ; rw [<- HPS.out]; rfl
       have HNA := hG hna; have HB0 := hG hB
       clear hna hB hlx
       simp only [List.length_singleton, List.length_cons, List.length_nil] at *
       go_wp2_with fail
       refine (HNA.out w2).mono ?_
       rintro e w3 ⟨⟨n, rfl, hn⟩, rfl⟩
       rcases hnx : natS x with _ | m
       · have hB : barS s = none := by rw [HB0.out, hnx]
         have HB := hG hB
         clear hB hn
         simp only [Option.isSome_none, Option.isSome_some]
         go_wp2_with fail
         refine bodyPost_ret (v := .tuple #[.agg #[.int .i64 n, .int .i64 1], .bool false]) (by simp [results, Tryz.results107, go_sem, k0, k1]) rfl ?_
         refine ⟨⟨n, 1, by rw [HB.out]; rfl, fun x hx => ?_⟩, (hbw.setCell lc _).setCell lc _⟩
         rw [HB.out] at hx; cases hx
       · obtain rfl : n = m := hn m hnx
         simp only [Option.isSome_none, Option.isSome_some]
         by_cases hn1 : n <= 1
         · have hB : barS s = some (n, 1) := by rw [HB0.out, hnx]; show (if n <= 1 then _ else _) = _; rw [if_pos hn1]
           have HB := hG hB
           have hn1i : (n : Int) <= 1 := by omega
           clear hB hn
           go_wp2_with fail
           refine bodyPost_ret (v := .tuple #[.agg #[.int .i64 n, .int .i64 1], .bool true]) (by simp [results, Tryz.results107, go_sem, k0, k1]) rfl ?_
           refine ⟨⟨n, 1, by rw [HB.out]; rfl, fun x hx => ?_⟩, (hbw.setCell lc _).setCell lc _⟩
           rw [HB.out] at hx; exact Option.some.inj hx
         · have hB : barS s = none := by rw [HB0.out, hnx]; show (if n <= 1 then _ else _) = _; rw [if_neg hn1]
           have HB := hG hB
           have hn1i : ¬ ((n : Int) <= 1) := by omega
           clear hB hn
           go_wp2_with fail
           refine bodyPost_ret (v := .tuple #[.agg #[.int .i64 n, .int .i64 1], .bool false]) (by simp [results, Tryz.results107, go_sem, k0, k1]) rfl ?_
           refine ⟨⟨n, 1, by rw [HB.out]; rfl, fun x hx => ?_⟩, (hbw.setCell lc _).setCell lc _⟩
           rw [HB.out] at hx; cases hx
     · obtain ⟨bb, off, rfl⟩ := HC2.out.addr (by simp [strs])
       have c0 : w2.cell? ⟨bb, off, none⟩ = some (.string ⟨x.toArray⟩) := HC2.out.at (j := 0) rfl
       have c1 : w2.cell? ⟨bb, off + 1, none⟩ = some (.string ⟨y.toArray⟩) := HC2.out.at (j := 1) rfl
       have hna := fun W => refNatural_any ⟨x.toArray⟩ W (by rw [arr_size]; exact hlx x (by simp))
       have hnb := fun W => refNatural_any ⟨y.toArray⟩ W (by rw [arr_size]; exact hlx y (by simp))
       have hB : barS s = (match natS x, natS y with | some n, some d => if n <= d then some (n, d) else none | _, _ => none) := by
        rw [<- HQ.out]; unfold barQ; rw [<- HPS.out]; rfl
       have HNA := hG hna; have HNB := hG hnb; have HB0 := hG hB
       clear hna hnb hB hlx
       simp only [List.length_singleton, List.length_cons, List.length_nil] at *
       go_wp2_with fail
       refine (HNA.out w2).mono ?_
       rintro e w3 ⟨⟨n, rfl, hn⟩, rfl⟩
       go_wp2_with fail
       refine (HNB.out w2).mono ?_
       rintro e w3 ⟨⟨d, rfl, hd⟩, rfl⟩
       rcases hnx : natS x with _ | m
       · have hB : barS s = none := by rw [HB0.out, hnx]
         have HB := hG hB
         clear hB hn hd
         simp only [Option.isSome_none, Option.isSome_some]
         go_wp2_with fail
         refine bodyPost_ret (v := .tuple #[.agg #[.int .i64 n, .int .i64 d], .bool false]) (by simp [results, Tryz.results107, go_sem, k0, k1]) rfl ?_
         refine ⟨⟨n, d, by rw [HB.out]; rfl, fun x hx => ?_⟩, (hbw.setCell lc _).setCell lc _⟩
         rw [HB.out] at hx; cases hx
       · obtain rfl : n = m := hn m hnx
         simp only [Option.isSome_none, Option.isSome_some]
         rcases hny : natS y with _ | q
         · have hB : barS s = none := by rw [HB0.out, hnx, hny]
           have HB := hG hB
           clear hB hn hd
           simp only [Option.isSome_none, Option.isSome_some]
           go_wp2_with fail
           refine bodyPost_ret (v := .tuple #[.agg #[.int .i64 n, .int .i64 d], .bool false]) (by simp [results, Tryz.results107, go_sem, k0, k1]) rfl ?_
           refine ⟨⟨n, d, by rw [HB.out]; rfl, fun x hx => ?_⟩, (hbw.setCell lc _).setCell lc _⟩
           rw [HB.out] at hx; cases hx
         · obtain rfl : d = q := hd q hny
           simp only [Option.isSome_none, Option.isSome_some]
           by_cases hn1 : n <= d
           · have hB : barS s = some (n, d) := by rw [HB0.out, hnx, hny]; show (if n <= d then _ else _) = _; rw [if_pos hn1]
             have HB := hG hB
             clear hB hn hd
             go_wp2_with fail
             refine bodyPost_ret (v := .tuple #[.agg #[.int .i64 n, .int .i64 d], .bool true]) (by simp [results, Tryz.results107, go_sem, k0, k1]) rfl ?_
             refine ⟨⟨n, d, by rw [HB.out]; rfl, fun x hx => ?_⟩, (hbw.setCell lc _).setCell lc _⟩
             rw [HB.out] at hx; exact Option.some.inj hx
           · have hB : barS s = none := by rw [HB0.out, hnx, hny]; show (if n <= d then _ else _) = _; rw [if_neg hn1]
             have HB := hG hB
             clear hB hn hd
             go_wp2_with fail
             refine bodyPost_ret (v := .tuple #[.agg #[.int .i64 n, .int .i64 d], .bool false]) (by simp [results, Tryz.results107, go_sem, k0, k1]) rfl ?_
             refine ⟨⟨n, d, by rw [HB.out]; rfl, fun x hx => ?_⟩, (hbw.setCell lc _).setCell lc _⟩
             rw [HB.out] at hx; cases hx
theorem rin2_any (n lo hi : Int) (w : World) :
 Calls Tryz.prog 47 #[.int .i64 n, .int .i64 lo, .int .i64 hi] w fun e w' => e = .returned (.bool (inB lo n hi)) /\ w = w' := by
 by_cases h1 : lo <= n
 · go_enter Tryz.func47, Tryz.ntmps47
   go_wp2
   go_ret
   exact ⟨ret_bool (by simp [inB]; try omega), rfl⟩
 · go_enter Tryz.func47, Tryz.ntmps47
   go_wp2
   go_ret
   exact ⟨ret_bool (by simp [inB]; try omega), rfl⟩
end Go.Proofs.YtahnadhlagabgaaGreatDoor
