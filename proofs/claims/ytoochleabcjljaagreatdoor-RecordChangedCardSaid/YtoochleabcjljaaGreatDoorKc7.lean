/- Parts of a proof, in build order: Dg, B2, N1, N2, N3, N4, N5, N6. -/
import Derived.Test.YtoochleabcjljaaGreatDoorKc6
import Derived.Deep.RegionWith

/- Frames compared: SameTable, sameFrame, sameFrames. -/
namespace Go.Proofs.YtoochleabcjljaaGreatDoor
open Go.RowKit

set_option maxRecDepth 100000 in
set_option maxHeartbeats 1000000 in
theorem sameTable_any (aa ab : Option Addr) (va vb : List Value) (xss yss : List (List Int)) (ca cb : Nat) (w : World) (ha : Cells w aa va) (hra : RowsV w va xss) (hla : xss.length ≤ 9223372036854775807) (hb : Cells w ab vb) (hrb : RowsV w vb yss) (hlb : yss.length ≤ 9223372036854775807) :
    Calls Tryz.prog 84 #[.slice aa xss.length ca, .slice ab yss.length cb] w fun e w' => e = .returned (.bool (decide (xss = yss))) ∧ Below w.heap.size w w' := by
  by_cases hlen : xss.length = yss.length
  · have h1 : ((xss.length : Int) != yss.length) = false := by simp [hlen]
    have HL := Lib.hid hlen; clear hlen
    have HA := Lib.hid ha; have HB := Lib.hid hb; have HRA := Lib.hid hra; have HRB := Lib.hid hrb; clear ha hb hra hrb
    go_enter Tryz.func84, Tryz.ntmps84
    go_wp2
    go_loopw [5] (fun i wr => ∃ k : Nat, k ≤ xss.length ∧ i = .int .i64 k ∧ xss.take k = yss.take k ∧ Below w.heap.size w wr) (fun i _ => xss.length - (intOf i).toNat)
    case atStart => exact ⟨0, Nat.zero_le _, rfl, rfl, Below.refl _ _⟩
    case round =>
      obtain ⟨k, hk, rfl, heq, hbe⟩ := hrel
      have HQ := Lib.hid heq; clear heq
      by_cases hlt : k < xss.length
      · have hlt2 : k < yss.length := by have := HL.out; omega
        obtain ⟨xs, hxs⟩ := get_of_lt hlt
        obtain ⟨ys, hys⟩ := get_of_lt hlt2
        obtain ⟨x, hx⟩ := get_of_lt (show k < va.length by have := HRA.out.1; omega)
        obtain ⟨y, hy⟩ := get_of_lt (show k < vb.length by have := HRB.out.1; omega)
        obtain ⟨a1, k1, rfl, hc1, hl1⟩ := HRA.out.2 k x xs hx hxs
        obtain ⟨a2, k2, rfl, hc2, hl2⟩ := HRB.out.2 k y ys hy hys
        obtain ⟨b, off, rfl⟩ := HA.out.addr (List.ne_nil_of_length_pos (by have := HRA.out.1; omega))
        obtain ⟨b2, off2, rfl⟩ := HB.out.addr (List.ne_nil_of_length_pos (by have := HRB.out.1; omega))
        have c1 := cell_keep (HA.out.at hx) hbe (Nat.le_refl _)
        have c2 := cell_keep (HB.out.at hy) hbe (Nat.le_refl _)
        have i1 : (k : Int) < xss.length := by omega
        have i2 : (k : Int) < yss.length := by omega
        have i3 : (0 : Int) ≤ k := by omega
        have hsi := sameInts_any a1 a2 xs ys k1 k2 wr.drew (hc1.below hbe.drew (Nat.le_refl _)) (hc2.below hbe.drew (Nat.le_refl _)) hl1 hl2
        have HSI := Lib.hid hsi
        have hz := hbe.size
        have HXS := Lib.hid hxs; have HYS := Lib.hid hys
        have HBE := Lib.hid hbe
        clear hsi hx hy hc1 hc2 hl1 hl2 hxs hys hbe
        by_cases hxy : xs = ys
        · have ht : xss.take (k + 1) = yss.take (k + 1) := by rw [take_get HXS.out, take_get HYS.out, HQ.out, hxy]
          have HT := Lib.hid ht
          have hd : decide (xs = ys) = true := by rw [decide_eq_true_iff]; exact hxy
          rw [hd] at HSI
          clear ht hd hxy
          go_wp2_with fail
          go_region_held3 (fun w' => w'.cell? ⟨b, off + k, none⟩ = some (.slice a1 xs.length k1) ∧ w'.cell? ⟨b2, off2 + k, none⟩ = some (.slice a2 ys.length k2))
            (first | exact ⟨c1, c2⟩ | exact ⟨cell_keep c1 hbz (Nat.le_refl _), cell_keep c2 hbz (Nat.le_refl _)⟩ | go_keep)
            (first | (go_at_call 17; refine HSI.out.mono ?_; rintro e w2 ⟨rfl, hb2⟩; have hbz : Below wr.heap.size wr w2 := ((Below.refl wr.heap.size wr).drew).trans hb2; clear hb2))
          all_goals
            have hbf := HBE.out.trans (hbz.mono hz)
            clear hbz c1 c2
            go_wp2
            go_roundw
            case rel => exact ⟨k + 1, by omega, by go_num, HT.out, hbf⟩
            case measure => simp [intOf]; omega
        · have hne : decide (xss = yss) = false := by
            rw [decide_eq_false_iff_not]; rintro rfl
            have h1 := HXS.out; have h2 := HYS.out
            rw [h1] at h2; simp at h2; exact hxy h2
          have HNE := Lib.hid hne
          have hd : decide (xs = ys) = false := by rw [decide_eq_false_iff_not]; exact hxy
          rw [hd] at HSI
          clear hne hd hxy
          go_wp2_with fail
          go_region_held3 (fun w' => w'.cell? ⟨b, off + k, none⟩ = some (.slice a1 xs.length k1) ∧ w'.cell? ⟨b2, off2 + k, none⟩ = some (.slice a2 ys.length k2))
            (first | exact ⟨c1, c2⟩ | exact ⟨cell_keep c1 hbz (Nat.le_refl _), cell_keep c2 hbz (Nat.le_refl _)⟩ | go_keep)
            (first | (go_at_call 17; refine HSI.out.mono ?_; rintro e w2 ⟨rfl, hb2⟩; have hbz : Below wr.heap.size wr w2 := ((Below.refl wr.heap.size wr).drew).trans hb2; clear hb2))
          all_goals
            have hbf := HBE.out.trans (hbz.mono hz)
            clear hbz c1 c2
            go_wp2
            go_ret
            exact ⟨ret_bool HNE.out.symm, hbf⟩
      · obtain rfl : k = xss.length := by omega
        have he : decide (xss = yss) = true := by
          rw [decide_eq_true_iff]
          have := HQ.out
          rw [List.take_length, HL.out, List.take_length] at this; exact this
        have HE := Lib.hid he; clear he
        go_wp2
        go_ret
        exact ⟨ret_bool HE.out.symm, hbe⟩
  · have h1 : ((xss.length : Int) != yss.length) = true := by simp; omega
    have he : decide (xss = yss) = false := by
      rw [decide_eq_false_iff_not]; rintro rfl; exact hlen rfl
    have HE := Lib.hid he; clear he
    go_enter Tryz.func84, Tryz.ntmps84
    go_wp2
    go_ret
    exact ⟨ret_bool HE.out.symm, Below.refl _ _⟩

set_option maxRecDepth 100000 in
theorem sameFrame_any (f g : Frm) (w : World) (hf : FrmIn w f) (hg : FrmIn w g) :
    Calls Tryz.prog 41 #[.agg #[.int .i64 f.st, .slice f.a f.xss.length f.c], .agg #[.int .i64 g.st, .slice g.a g.xss.length g.c]] w fun e w' => e = .returned (.bool (decide (frm f = frm g))) ∧ Below w.heap.size w w' := by
  obtain ⟨fs, fa, fc, fx⟩ := f
  obtain ⟨gs, ga, gc, gx⟩ := g
  obtain ⟨l1, v1, c1, r1⟩ := hf
  obtain ⟨l2, v2, c2, r2⟩ := hg
  simp only at l1 c1 r1 l2 c2 r2
  have hb := ((Below.refl w.heap.size w).alloc (Nat.le_refl _) (.cells #[.int .i64 fs, .slice fa fx.length fc] 43)).alloc (by simp) (.cells #[.int .i64 gs, .slice ga gx.length gc] 43)
  have hst := sameTable_any fa ga v1 v2 fx gx fc gc _ (c1.below hb (Nat.le_refl _)) (r1.below hb (Nat.le_refl _)) l1 (c2.below hb (Nat.le_refl _)) (r2.below hb (Nat.le_refl _)) l2
  have HST := Lib.hid hst
  clear hst c1 r1 c2 r2
  simp only
  by_cases hs : fs = gs
  · subst hs
    have he : decide (frm ⟨fs, fa, fc, fx⟩ = frm ⟨fs, ga, gc, gx⟩) = decide (fx = gx) := by simp [frm]
    have HE := Lib.hid he; clear he
    go_enter Tryz.func41, Tryz.ntmps41
    go_wp2_with fail
    refine HST.out.mono ?_
    rintro e w1 ⟨rfl, hb1⟩
    have hbf := hb.trans (hb1.mono (by simp; omega))
    go_wp2
    go_ret
    exact ⟨ret_bool HE.out.symm, hbf⟩
  · have he : decide (frm ⟨fs, fa, fc, fx⟩ = frm ⟨gs, ga, gc, gx⟩) = false := by simp [frm, hs]
    have HE := Lib.hid he; clear he
    have hsb : (fs == gs) = false := by simpa using hs
    go_enter Tryz.func41, Tryz.ntmps41
    go_wp2_with fail
    go_ret
    exact ⟨ret_bool HE.out.symm, hb⟩

set_option maxRecDepth 100000 in
set_option maxHeartbeats 1000000 in
theorem sameFrames_any (aa ab : Option Addr) (xs ys : List Frm) (ca cb : Nat) (w : World) (ha : RecIn w aa xs) (hb : RecIn w ab ys) :
    Calls Tryz.prog 44 #[.slice aa xs.length ca, .slice ab ys.length cb] w fun e w' => e = .returned (.bool (decide (xs.map frm = ys.map frm))) ∧ Below w.heap.size w w' := by
  have hla := ha.len
  have hlb := hb.len
  by_cases hlen : xs.length = ys.length
  · have h1 : ((xs.length : Int) != ys.length) = false := by simp [hlen]
    have HL := Lib.hid hlen; clear hlen
    have HA := Lib.hid ha; have HB := Lib.hid hb; clear ha hb
    go_enter Tryz.func44, Tryz.ntmps44
    go_wp2
    go_loopw [5] (fun i wr => ∃ k : Nat, k ≤ xs.length ∧ i = .int .i64 k ∧ (xs.map frm).take k = (ys.map frm).take k ∧ Below w.heap.size w wr) (fun i _ => xs.length - (intOf i).toNat)
    case atStart => exact ⟨0, Nat.zero_le _, rfl, rfl, Below.refl _ _⟩
    case round =>
      obtain ⟨k, hk, rfl, heq, hbe⟩ := hrel
      have HQ := Lib.hid heq; clear heq
      by_cases hlt : k < xs.length
      · have hlt2 : k < ys.length := by have := HL.out; omega
        obtain ⟨x, hx⟩ := get_of_lt hlt
        obtain ⟨y, hy⟩ := get_of_lt hlt2
        obtain ⟨b, off, rfl⟩ := HA.out.cells.addr (frs_ne (by omega))
        obtain ⟨b2, off2, rfl⟩ := HB.out.cells.addr (frs_ne (by omega))
        have c1 := cell_keep (HA.out.cells.at (frs_get hx).1) hbe (Nat.le_refl _)
        have c2 := cell_keep (HA.out.cells.at (frs_get hx).2) hbe (Nat.le_refl _)
        have c3 := cell_keep (HB.out.cells.at (frs_get hy).1) hbe (Nat.le_refl _)
        have c4 := cell_keep (HB.out.cells.at (frs_get hy).2) hbe (Nat.le_refl _)
        rw [← Nat.add_assoc] at c2 c4
        have i1 : (k : Int) < xs.length := by omega
        have i2 : (k : Int) < ys.length := by omega
        have i3 : (0 : Int) ≤ k := by omega
        have hsi := sameFrame_any x y wr.drew ((HA.out.rows x (List.mem_of_getElem? hx)).below hbe.drew (Nat.le_refl _)) ((HB.out.rows y (List.mem_of_getElem? hy)).below hbe.drew (Nat.le_refl _))
        have HSI := Lib.hid hsi
        have hz := hbe.size
        have HXS := Lib.hid hx; have HYS := Lib.hid hy
        have HBE := Lib.hid hbe
        clear hsi hx hy hbe
        by_cases hxy : frm x = frm y
        · have ht : (xs.map frm).take (k + 1) = (ys.map frm).take (k + 1) := by
            rw [take_get (show (xs.map frm)[k]? = some (frm x) by simp [HXS.out]), take_get (show (ys.map frm)[k]? = some (frm y) by simp [HYS.out]), HQ.out, hxy]
          have HT := Lib.hid ht
          have hd : decide (frm x = frm y) = true := by rw [decide_eq_true_iff]; exact hxy
          rw [hd] at HSI
          clear ht hd hxy
          go_wp2_with fail
          go_region_held3 (fun w' => w'.cell? ⟨b, off + k * 2, none⟩ = some (.int .i64 x.st) ∧ w'.cell? ⟨b, off + k * 2 + 1, none⟩ = some (.slice x.a x.xss.length x.c) ∧ w'.cell? ⟨b2, off2 + k * 2, none⟩ = some (.int .i64 y.st) ∧ w'.cell? ⟨b2, off2 + k * 2 + 1, none⟩ = some (.slice y.a y.xss.length y.c))
            (first | exact ⟨c1, c2, c3, c4⟩ | exact ⟨cell_keep c1 hbz (Nat.le_refl _), cell_keep c2 hbz (Nat.le_refl _), cell_keep c3 hbz (Nat.le_refl _), cell_keep c4 hbz (Nat.le_refl _)⟩ | go_keep)
            (first | (go_at_call 41; refine HSI.out.mono ?_; rintro e w2 ⟨rfl, hb2⟩; have hbz : Below wr.heap.size wr w2 := ((Below.refl wr.heap.size wr).drew).trans hb2; clear hb2))
          all_goals
            have hbf := HBE.out.trans (hbz.mono hz)
            clear hbz c1 c2 c3 c4
            go_wp2
            go_roundw
            case rel => exact ⟨k + 1, by omega, by go_num, HT.out, hbf⟩
            case measure => simp [intOf]; omega
        · have hne : decide (xs.map frm = ys.map frm) = false := by
            rw [decide_eq_false_iff_not]; intro h
            have h1 : (xs.map frm)[k]? = some (frm x) := by simp [HXS.out]
            rw [h] at h1
            simp [HYS.out] at h1
            exact hxy h1.symm
          have HNE := Lib.hid hne
          have hd : decide (frm x = frm y) = false := by rw [decide_eq_false_iff_not]; exact hxy
          rw [hd] at HSI
          clear hne hd hxy
          go_wp2_with fail
          go_region_held3 (fun w' => w'.cell? ⟨b, off + k * 2, none⟩ = some (.int .i64 x.st) ∧ w'.cell? ⟨b, off + k * 2 + 1, none⟩ = some (.slice x.a x.xss.length x.c) ∧ w'.cell? ⟨b2, off2 + k * 2, none⟩ = some (.int .i64 y.st) ∧ w'.cell? ⟨b2, off2 + k * 2 + 1, none⟩ = some (.slice y.a y.xss.length y.c))
            (first | exact ⟨c1, c2, c3, c4⟩ | exact ⟨cell_keep c1 hbz (Nat.le_refl _), cell_keep c2 hbz (Nat.le_refl _), cell_keep c3 hbz (Nat.le_refl _), cell_keep c4 hbz (Nat.le_refl _)⟩ | go_keep)
            (first | (go_at_call 41; refine HSI.out.mono ?_; rintro e w2 ⟨rfl, hb2⟩; have hbz : Below wr.heap.size wr w2 := ((Below.refl wr.heap.size wr).drew).trans hb2; clear hb2))
          all_goals
            have hbf := HBE.out.trans (hbz.mono hz)
            clear hbz c1 c2 c3 c4
            go_wp2
            go_ret
            exact ⟨ret_bool HNE.out.symm, hbf⟩
      · obtain rfl : k = xs.length := by omega
        have he : decide (xs.map frm = ys.map frm) = true := by
          rw [decide_eq_true_iff]
          have := HQ.out
          rw [List.take_of_length_le (by simp), List.take_of_length_le (by simp; have := HL.out; omega)] at this; exact this
        have HE := Lib.hid he; clear he
        go_wp2
        go_ret
        exact ⟨ret_bool HE.out.symm, hbe⟩
  · have h1 : ((xs.length : Int) != ys.length) = true := by simp; omega
    have he : decide (xs.map frm = ys.map frm) = false := by
      rw [decide_eq_false_iff_not]; intro h
      have := congrArg List.length h
      simp at this; exact hlen this
    have HE := Lib.hid he; clear he
    go_enter Tryz.func44, Tryz.ntmps44
    go_wp2
    go_ret
    exact ⟨ret_bool HE.out.symm, Below.refl _ _⟩
end Go.Proofs.YtoochleabcjljaaGreatDoor

/- Lines: amplitude. -/
namespace Go.Proofs.YtoochleabcjljaaGreatDoor
open Go.RowKit

def ampN (sh xs : List Int) : Nat → Int
  | 0 => 0
  | t + 1 => ampN sh xs t + xs.getD t 0 * sh.getD (t % sh.length) 0
def ampD (sh : List Int) : Nat → Int
  | 0 => 0
  | t + 1 => ampD sh t + sh.getD (t % sh.length) 0 * sh.getD (t % sh.length) 0
/-- the whole periods -/
def whole (sh xs : List Int) : Nat := xs.length / sh.length * sh.length

theorem amp_bd {sh xs : List Int} (h : linedErr sh xs = 0) (t : Nat) (ht : t ≤ xs.length) :
    -(8388608000 * (t : Int)) ≤ ampN sh xs t ∧ ampN sh xs t ≤ 8388608000 * (t : Int) ∧ 0 ≤ ampD sh t ∧ ampD sh t ≤ 1000000 * (t : Int) := by
  obtain ⟨h1, h2⟩ := linedErr_zero h
  obtain ⟨a1, a2, _, a3⟩ := lineErr_zero h1
  obtain ⟨b1, b2⟩ := serErr_zero h2
  induction t with
  | zero => simp [ampN, ampD]
  | succ t ih =>
    have ih := ih (by omega)
    have hm : t % sh.length < sh.length := Nat.mod_lt _ (by omega)
    have m1 := a3 (sh.getD (t % sh.length) 0) (by rw [List.getD_eq_getElem?_getD, List.getElem?_eq_getElem hm]; exact List.getElem_mem _)
    have m2 := b2 (xs.getD t 0) (by rw [List.getD_eq_getElem?_getD, List.getElem?_eq_getElem (by omega)]; exact List.getElem_mem _)
    have p1 := mul_bd (A := 8388608) (X := 1000) m2.1 m2.2 m1.1 m1.2
    have p2 := mul_bd (A := 1000) (X := 1000) m1.1 m1.2 m1.1 m1.2
    have p3 : 0 ≤ sh.getD (t % sh.length) 0 * sh.getD (t % sh.length) 0 := by
      rcases Int.le_total 0 (sh.getD (t % sh.length) 0) with h | h
      · exact Int.mul_nonneg h h
      · exact Int.mul_nonneg_of_nonpos_of_nonpos h h
    simp only [ampN, ampD]
    push_cast
    omega

theorem whole_le (sh xs : List Int) : whole sh xs ≤ xs.length := Nat.div_mul_le_self _ _

set_option maxRecDepth 100000 in
set_option maxHeartbeats 1000000 in
theorem amplitude_any (ao : Option Addr) (sh : List Int) (cap : Nat) (ax : Option Addr) (xs : List Int) (cx : Nat) (w : World) (hc : Cells w ao (sh.map (Value.int .i64))) (hx : Cells w ax (xs.map (Value.int .i64))) (h : linedErr sh xs = 0) :
    Calls Tryz.prog 60 #[.slice ao sh.length cap, .slice ax xs.length cx] w fun e w' => e = .returned (.tuple #[.int .i64 (ampN sh xs (whole sh xs)), .int .i64 (ampD sh (whole sh xs))]) ∧ w = w' := by
  have HC := Lib.hid hc; clear hc
  have HX := Lib.hid hx; clear hx
  obtain ⟨h1, h2⟩ := linedErr_zero h
  obtain ⟨a1, a2, _, a3⟩ := lineErr_zero h1
  obtain ⟨b1, b2⟩ := serErr_zero h2
  have HB := Lib.hid (fun t ht => amp_bd h t ht)
  have A3 := Lib.hid a3; clear a3
  have B2 := Lib.hid b2; clear b2
  have hw := whole_le sh xs
  have hw0 : ((xs.length : Int) / sh.length) * sh.length = (whole sh xs : Nat) := by simp [whole]
  have hw1 : 0 ≤ ((xs.length : Int) / sh.length) * sh.length := by rw [hw0]; omega
  have hw2 : ((xs.length : Int) / sh.length) * sh.length ≤ 4096 := by rw [hw0]; omega
  have hq1 : 0 ≤ (xs.length : Int) / sh.length := Int.ediv_nonneg (by omega) (by omega)
  have hq2 : (xs.length : Int) / sh.length ≤ 4096 := by have := Int.ediv_le_self (a := (xs.length : Int)) (sh.length : Int) (by omega); omega
  have HW := Lib.hid hw0; clear hw0
  have hne : ((sh.length : Int) == 0) = false := by simp; intro e; simp [e] at a1
  clear h h1 h2
  go_enter Tryz.func60, Tryz.ntmps60
  go_wp2
  rw [HW.out]
  clear hw1 hw2 hq1 hq2
  go_loop [4, 5, 16] (fun n d i => ∃ k : Nat, k ≤ whole sh xs ∧ i = .int .i64 k ∧ n = .int .i64 (ampN sh xs k) ∧ d = .int .i64 (ampD sh k)) (fun _ _ i => whole sh xs - (intOf i).toNat)
  case atStart => exact ⟨0, Nat.zero_le _, rfl, rfl, rfl⟩
  case round =>
    obtain ⟨k, hk, rfl, rfl, rfl⟩ := hrel
    obtain ⟨d1, d2, d3, d4⟩ := HB.out k (by omega)
    by_cases hlt : k < whole sh xs
    · obtain ⟨x, hx⟩ := get_of_lt (show k < xs.length by omega)
      have hm0 : k % sh.length < sh.length := Nat.mod_lt _ (by omega)
      obtain ⟨y, hy⟩ := get_of_lt hm0
      obtain ⟨b, off, rfl⟩ := HC.out.addr (by simpa using List.ne_nil_of_length_pos (by omega))
      obtain ⟨bx, ox, rfl⟩ := HX.out.addr (by simpa using List.ne_nil_of_length_pos (by omega))
      have c1 := HX.out.int hx
      have c2 := HC.out.int hy
      have t1 := B2.out _ (List.mem_of_getElem? hx)
      have t2 := A3.out _ (List.mem_of_getElem? hy)
      have p1 := mul_bd t1.1 t1.2 t2.1 t2.2
      have p2 := mul_bd t2.1 t2.2 t2.1 t2.2
      obtain ⟨p11, p12⟩ := p1
      obtain ⟨p21, p22⟩ := p2
      have e1 : ampN sh xs (k + 1) = ampN sh xs k + x * y := by simp [ampN, hx, hy]
      have e2 : ampD sh (k + 1) = ampD sh k + y * y := by simp [ampD, hy]
      have E1 := Lib.hid e1; have E2 := Lib.hid e2; clear e1 e2 hx hy
      go_wp2
      go_round
      case rel => exact ⟨k + 1, by omega, by go_num, by rw [E1.out], by rw [E2.out]⟩
      case measure => simp [intOf]; omega
    · obtain rfl : k = whole sh xs := by omega
      go_wp2
      go_ret2
      exact ⟨rfl, rfl⟩
end Go.Proofs.YtoochleabcjljaaGreatDoor

/- Natural numbers of package num: short (division by one digit). -/
namespace Go.Proofs.YtoochleabcjljaaGreatDoor
open Go.RowKit

theorem zeros_dgs (n : Nat) : (madeCells (Value.int .u64 0).cells (n * 1)).toList = dgs (List.replicate n 0) := by
  rw [show (Value.int .u64 0).cells = #[Value.int .u64 0] from rfl, toList_madeCells_one]; simp [dgs]

theorem set_zeros (k q : Nat) (qs : List Nat) : (dgs (List.replicate (k + 1) 0 ++ qs)).set k (.int .u64 (q : Nat)) = dgs (List.replicate k 0 ++ (q :: qs)) := by
  rw [List.replicate_succ', List.append_assoc, dgs_append, dgs_append, List.set_append_right _ _ (by simp [dgs])]
  simp [dgs]

set_option maxRecDepth 100000 in
theorem short_any (aa : Option Addr) (l : List Nat) (ca d : Nat) (w : World) (ha : Cells w aa (dgs l)) (hs : Sm l) (hl : l.length ≤ 17592186044416) (hd : 1 ≤ d) (hd2 : d ≤ 1000000000) :
    Calls Tryz.prog 190 #[.slice aa l.length ca, .int .u64 (d : Nat)] w fun e w' => (∃ a c, e = .returned (.tuple #[.slice a (dig (val l / d)).length c, .int .u64 (val l % d : Nat)]) ∧ Cells w' a (dgs (dig (val l / d))) ∧ (dig (val l / d)).length ≤ c ∧ c ≤ 17592186044416) ∧ Below w.heap.size w w' := by
  obtain ⟨i0, hi, hz0, hz1, hz2⟩ := info_parts Tryz.infoU64
  have HA := Lib.hid ha; clear ha
  have HS := Lib.hid hs; clear hs
  have hne : ((d : Int) == 0) = false := by simp; omega
  go_enter Tryz.func190, Tryz.ntmps190
  go_wp2_with (at_make; refine wpList_make_full _ rfl _ _ 128 rfl w.heap.size 187 i0 (.int .u64 0) 1 Tryz.underlying128 hi hz0 hz1 .i64 .i64 _ _ l.length rfl rfl rfl rfl (by rw [hz2]; omega) (by unfold maxLen; omega) (Nat.le_refl _) ?_; intro w1 hown1 hgrow1)
  rw [zeros_dgs] at hown1
  have hb1 := (Below.refl w.heap.size w).grown hgrow1 (Nat.le_refl _) (fun _ h => by cases h)
  clear hgrow1
  have HO := Lib.hid hown1; clear hown1
  go_wp2
  go_loopw [7, 8] (fun r i wr => ∃ k : Nat, ∃ qs : List Nat, k ≤ l.length ∧ i = .int .i64 ((k : Int) - 1) ∧ r = .int .u64 (val (l.drop k) % d : Nat) ∧ qs.length = l.length - k ∧ val qs = val (l.drop k) / d ∧ Sm qs ∧ wr.ownsRow w.heap.size 187 1 (.slice (some ⟨w.heap.size, 0, none⟩) l.length l.length) l.length (dgs (List.replicate k 0 ++ qs)) ∧ Below w.heap.size w wr) (fun _ i _ => (intOf i + 1).toNat)
  case atStart => exact ⟨l.length, [], Nat.le_refl _, rfl, by rw [List.drop_length]; simp [val], by simp, by rw [List.drop_length]; simp [val], by simp [Sm], by simpa using HO.out, hb1⟩
  case round =>
    clear hb1
    obtain ⟨k, qs, hk, rfl, rfl, hql, hqv, hqs, hown, hb⟩ := hrel
    by_cases h0 : k = 0
    · subst h0
      rw [List.drop_zero] at hqv ⊢
      simp only [List.replicate_zero, List.nil_append, Nat.sub_zero] at hown hql
      obtain ⟨g, c, hv, hcs⟩ := own_cells hown
      simp only [Value.slice.injEq, true_and] at hv
      obtain ⟨rfl, rfl⟩ := hv
      have hle := lean_any (some ⟨w.heap.size, 0, none⟩) qs l.length wr hcs hqs (by omega) (by omega) (by omega)
      have hdl : (dig (val qs)).length ≤ qs.length := dig_len_val hqs
      rw [hqv] at hle hdl
      rw [hql] at hle hdl
      have HLE := Lib.hid hle; clear hle hcs hown hqv hqs
      have HQL := Lib.hid hql; clear hql
      go_wp2_with fail
      refine HLE.out.mono ?_
      rintro e w2 ⟨⟨rfl, hcs2⟩, rfl⟩
      have HCS := Lib.hid hcs2; clear hcs2
      go_wp2
      go_ret2
      exact ⟨⟨_, _, rfl, HCS.out, hdl, hl⟩, hb⟩
    · obtain ⟨j, rfl⟩ : ∃ j, k = j + 1 := ⟨k - 1, by omega⟩
      have hj : j < l.length := by omega
      obtain ⟨x, hx⟩ := get_of_lt hj
      have hxB := sm_get HS.out hx
      obtain ⟨b, off, rfl⟩ := HA.out.addr (dgs_ne (by omega))
      have c1 := cell_keep (HA.out.dgs hx) hb (Nat.le_refl _)
      have hdr : val (l.drop j) = x + B * val (l.drop (j + 1)) := by
        rw [List.drop_eq_getElem_cons hj, (List.getElem?_eq_some_iff.1 hx).2, val_cons]
      have hst := short_step (H := val (l.drop (j + 1))) (x := x) (show 0 < d by omega)
      rw [← hdr] at hst
      have hrd : val (l.drop (j + 1)) % d < d := Nat.mod_lt _ (by omega)
      have hq := short_dig hrd (show x < B by simp only [B]; omega)
      generalize hr : val (l.drop (j + 1)) % d = r at *
      have HR := Lib.hid hr; clear hr hdr hx
      have c2 := hown.cellAt j (by omega)
      rw [show (dgs (List.replicate (j + 1) 0 ++ qs))[j]? = some (.int .u64 (0 : Nat)) from by rw [dgs, List.map_append, List.getElem?_append_left (by simp)]; simp] at c2
      have c3 := hown.frozenAt j
      have hsto := hown.stored j (.int .u64 ((r * B + x) / d : Nat))
      rw [set_zeros] at hsto
      obtain ⟨hsto1, hsto2⟩ := hsto
      have e1 : ((((r : Int) * 1000000000) + x) / d) = (((r * B + x) / d : Nat) : Int) := by simp [B]
      have e2 : ((((r : Int) * 1000000000) + x) % d) = (((r * B + x) % d : Nat) : Int) := by simp [B]
      have q1 : 0 ≤ (((r : Int) * 1000000000) + x) / d := by rw [e1]; exact Int.natCast_nonneg _
      have q2 : (((r : Int) * 1000000000) + x) / d ≤ 999999999 := by rw [e1]; simp only [B] at hq ⊢; omega
      have hsz := hb.size
      have hszl : w.heap.size < wr.heap.size := by have := World.block_lt_of_cell? wr _ c2; simpa using this
      have hb2 : Below w.heap.size w (wr.setCell ⟨w.heap.size, j, none⟩ (.int .u64 ((r * B + x) / d : Nat))) := hb.setCell (Nat.le_refl _) _
      have HST := Lib.hid hst; clear hst
      have HQL := Lib.hid hql; clear hql
      have HQV := Lib.hid hqv; clear hqv
      have HQS := Lib.hid hqs; clear hqs
      have HO1 := Lib.hid hsto1; clear hsto1 hsto2 hown
      have HB2 := Lib.hid hb2; clear hb2
      have E1 := Lib.hid e1; have E2 := Lib.hid e2; clear e1 e2
      have e3 : (((j + 1 : Nat) : Int) - 1) = (j : Int) := by omega
      rw [e3]
      clear e3
      go_wp2
      go_roundw
      case rel =>
        refine ⟨j, (r * B + x) / d :: qs, by omega, rfl, by rw [E2.out, HST.out.2], by rw [List.length_cons, HQL.out]; omega, by rw [val_cons, HQV.out, HST.out.1], ?_, by rw [E1.out]; exact HO1.out, by rw [E1.out]; exact HB2.out⟩
        intro y hy
        rcases List.mem_cons.1 hy with rfl | hy
        · exact hq
        · exact HQS.out y hy
      case measure => simp [intOf]

end Go.Proofs.YtoochleabcjljaaGreatDoor

/- Natural numbers of package num: over at one digit, common, reduced. -/
namespace Go.Proofs.YtoochleabcjljaaGreatDoor
open Go.RowKit

/-- a slice that is a natural number -/
def NatV (w : World) (v : Value) (n : Nat) : Prop := ∃ a c, v = .slice a (dig n).length c ∧ Cells w a (dgs (dig n)) ∧ (dig n).length ≤ c ∧ c ≤ 9223372036854775807
theorem NatV.below {w w' : World} {B : Nat} {v : Value} {n : Nat} (h : NatV w v n) (hb : Below B w w') (hB : w.heap.size ≤ B) : NatV w' v n := by
  obtain ⟨a, c, h1, h2, h3⟩ := h
  exact ⟨a, c, h1, h2.below hb hB, h3⟩

theorem dig_one {n : Nat} (h0 : n ≠ 0) (h : n < B) : dig n = [n] := dig_small h h0

set_option maxRecDepth 100000 in
theorem over_small (va vb : Value) (m n : Nat) (w : World) (ha : NatV w va m) (hb : NatV w vb n) (hm : (dig m).length ≤ 17592186044416) (hn0 : n ≠ 0) (hn : n < B) :
    Calls Tryz.prog 141 #[va, vb] w fun e w' => (∃ q r, e = .returned (.tuple #[q, r]) ∧ NatV w' q (m / n) ∧ NatV w' r (m % n)) ∧ Below w.heap.size w w' := by
  have HVA := Lib.hid ha
  obtain ⟨aa, ca, rfl, ha, hac, hac2⟩ := ha
  obtain ⟨ab, cb, rfl, hb, hbc, hbc2⟩ := hb
  have hnl : (dig n).length ≤ 1 := by rw [dig_one hn0 hn]; simp
  by_cases hlt : m < n
  · have hq : m / n = 0 := Nat.div_eq_of_lt hlt
    have hr : m % n = m := Nat.mod_eq_of_lt hlt
    have hcmp := compare_any aa ab m n ca cb w ha hb (by omega) (by omega)
    rw [cmpN_lt hlt] at hcmp
    have HC := Lib.hid hcmp; clear hcmp
    have HQ := Lib.hid hq; have HR := Lib.hid hr; clear hq hr ha hb
    go_enter Tryz.func141, Tryz.ntmps141
    go_wp2_with fail
    refine HC.out.mono ?_
    rintro e w1 ⟨rfl, hb1⟩
    go_wp2
    go_ret2
    exact ⟨⟨_, _, rfl, by rw [HQ.out]; exact ⟨none, 0, by rw [dig_zero]; rfl, by rw [dig_zero]; exact Cells.nil _ _, by rw [dig_zero]; simp, by omega⟩, by rw [HR.out]; exact HVA.out.below hb1 (Nat.le_refl _)⟩, hb1⟩
  · have hcmp := compare_any aa ab m n ca cb w ha hb (by omega) (by omega)
    have hge : 0 ≤ cmpN m n := by unfold cmpN; rw [if_neg hlt]; split <;> omega
    have hdn := dig_one hn0 hn
    have hc0 : Cells w ab [.int .u64 (n : Nat)] := by rw [hdn] at hb; exact hb
    obtain ⟨b, off, rfl⟩ := hc0.addr (by simp)
    rw [hdn] at hcmp
    rw [hdn]
    simp only [B] at hn
    have hsh := fun (w1 : World) (h : Cells w1 aa (dgs (dig m))) => short_any aa (dig m) ca n w1 h (sm_dig m) (by omega) (by omega) (by omega)
    rw [val_dig] at hsh
    have hmod : m % n < n := Nat.mod_lt _ (by omega)
    have hnat := fun (w1 : World) => natural_any (m % n) w1 (by omega)
    generalize cmpN m n = cm at *
    have HC := Lib.hid hcmp; have HSH := Lib.hid hsh; have HN := Lib.hid hnat; have HA := Lib.hid ha; have HC0 := Lib.hid hc0
    clear hcmp hsh hnat ha hb hc0 hdn
    go_enter Tryz.func141, Tryz.ntmps141
    go_wp2_with fail
    refine HC.out.mono ?_
    rintro e w1 ⟨rfl, hb1⟩
    have hcell : w1.cell? ⟨b, off, none⟩ = some (.int .u64 (n : Nat)) := (HC0.out.below hb1 (Nat.le_refl _)).at (j := 0) rfl
    go_wp2_with fail
    refine (HSH.out w1 (HA.out.below hb1 (Nat.le_refl _))).mono ?_
    rintro e w2 ⟨⟨a, c, rfl, hq, hqc, hqc2⟩, hb2⟩
    have HQ := Lib.hid hq; clear hq
    go_wp2_with fail
    refine (HN.out w2).mono ?_
    rintro e w3 ⟨⟨a3, c3, rfl, hr, hrc, hrc2⟩, hb3⟩
    have HR := Lib.hid hr; clear hr
    go_wp2
    go_ret2
    exact ⟨⟨_, _, rfl, (NatV.below ⟨_, _, rfl, HQ.out, hqc, by omega⟩ hb3 (Nat.le_refl _)), ⟨_, _, rfl, HR.out, hrc, hrc2⟩⟩, (hb1.trans (hb2.mono hb1.size)).trans (hb3.mono (Nat.le_trans hb1.size hb2.size))⟩
end Go.Proofs.YtoochleabcjljaaGreatDoor

/- Rational numbers of package num: common, reduced, whole, plain, over whatever contract of 'over' serves below a bound. -/
namespace Go.Proofs.YtoochleabcjljaaGreatDoor
open Go.RowKit

/-- the contract of 'over' for divisors below K -/
def OverOK (K : Nat) : Prop := ∀ (va vb : Value) (m n : Nat) (w : World), NatV w va m → NatV w vb n → (dig m).length ≤ 17592186044415 → (dig n).length ≤ 17592186044415 → n ≠ 0 → n < K →
  Calls Tryz.prog 141 #[va, vb] w fun e w' => (∃ q r, e = .returned (.tuple #[q, r]) ∧ NatV w' q (m / n) ∧ NatV w' r (m % n)) ∧ Below w.heap.size w w'
theorem overOK_small : OverOK B := fun va vb m n w ha hb hm _ h0 hn => over_small va vb m n w ha hb (by omega) h0 hn

theorem common_any (K : Nat) (hov : OverOK K) (va vb : Value) (m n : Nat) (w : World) (ha : NatV w va m) (hb : NatV w vb n) (hm : (dig m).length ≤ 17592186044415) (hn : (dig n).length ≤ 17592186044415) (hK : n < K) :
    Calls Tryz.prog 140 #[va, vb] w fun e w' => (∃ v, e = .returned v ∧ NatV w' v (Nat.gcd m n)) ∧ Below w.heap.size w w' := by
  have HA := Lib.hid ha; have HB := Lib.hid hb; have HOV := Lib.hid hov; have HK := Lib.hid hK; have HM := Lib.hid hm; have HN := Lib.hid hn
  clear ha hb hov hK hm hn
  go_enter Tryz.func140, Tryz.ntmps140
  go_wp2
  go_loopg [0, 1] n (fun b x y wr => ∃ p q : Nat, q ≤ b ∧ NatV wr x p ∧ NatV wr y q ∧ Nat.gcd p q = Nat.gcd m n ∧ q < K ∧ (dig p).length ≤ 17592186044415 ∧ (dig q).length ≤ 17592186044415 ∧ Below w.heap.size w wr)
  case atStart => exact ⟨m, n, Nat.le_refl _, HA.out, HB.out, rfl, HK.out, HM.out, HN.out, Below.refl _ _⟩
  case round =>
    obtain ⟨p, q, hqb, hp, hq, hg, hqK, hpl, hql, hbe⟩ := hrel
    have HP := Lib.hid hp; have HQ := Lib.hid hq
    have hq2 := hq
    obtain ⟨aq, cq, rfl, hqc, hqc2⟩ := hq
    by_cases h0 : q = 0
    · subst h0
      have he : p = Nat.gcd m n := by rw [← hg, Nat.gcd_zero_right]
      have hl0 : (dig 0).length = 0 := by rw [dig_zero]; rfl
      rw [hl0]
      have HE := Lib.hid he; clear he hg hq2 hp hqc hqc2 hl0
      go_wp2
      go_ret
      exact ⟨⟨_, rfl, by rw [← HE.out]; exact HP.out⟩, hbe⟩
    · have hlp : 0 < ((dig q).length : Int) := by
        have : (dig q).length ≠ 0 := by rw [Ne, dig_len_pos]; exact h0
        omega
      have hov := HOV.out _ _ p q wr hp hq2 hpl hql h0 hqK
      have hlt : p % q < q := Nat.mod_lt _ (by omega)
      have hg2 : Nat.gcd q (p % q) = Nat.gcd m n := by rw [← hg, Nat.gcd_comm q, ← Nat.gcd_rec, Nat.gcd_comm]
      have hml : (dig (p % q)).length ≤ 17592186044415 := Nat.le_trans (dig_len_mono (Nat.le_of_lt hlt)) hql
      have HO := Lib.hid hov; have HG := Lib.hid hg2
      clear hov hg hg2 hp hq2 hqc hqc2
      go_wp2_with fail
      refine HO.out.mono ?_
      rintro e w1 ⟨⟨vq, vr, rfl, _, hr⟩, hb1⟩
      have HR := Lib.hid hr; clear hr
      go_wp2
      go_roundg (p % q)
      case measure => omega
      case rel => exact ⟨q, p % q, Nat.le_refl _, HQ.out.below hb1 (Nat.le_refl _), HR.out, HG.out, by omega, hql, hml, hbe.trans (hb1.mono hbe.size)⟩
end Go.Proofs.YtoochleabcjljaaGreatDoor

/- Rational numbers of package num: one, reduced. -/
namespace Go.Proofs.YtoochleabcjljaaGreatDoor
open Go.RowKit

theorem box_free {w w1 : World} {cs : Array Value} {T : TypeId} {B : Nat} (hb : Below B (w.alloc (.cells cs T)) w1) (hB : w.heap.size < B) (i : Nat) : w1.frozen? ⟨w.heap.size, i, none⟩ = false := by
  rw [hb.frozen (p := ⟨w.heap.size, i, none⟩) hB]; simp

/-- cells that hold no such value as is overwritten stay -/
theorem Cells.set {w : World} {ao : Option Addr} {cs : List Value} {p : Addr} {v0 u : Value} (h : Cells w ao cs) (hp : w.cell? p = some v0) (hn : ∀ x ∈ cs, x ≠ v0) : Cells (w.setCell p u) ao cs := by
  rcases h with h | ⟨b, off, h1, h2⟩
  · exact .inl h
  · refine .inr ⟨b, off, h1, fun j x hx => ?_⟩
    have h3 := h2 j x hx
    rw [World.cell?_setCell_other]
    · exact h3
    · rintro rfl
      rw [hp] at h3
      exact hn x (List.mem_of_getElem? hx) (Option.some.inj h3).symm

/-- a value that is no number -/
def NoNum : Value → Prop | .int _ _ => False | _ => True
theorem NatV.set {w : World} {v : Value} {n : Nat} {p : Addr} {v0 u : Value} (h : NatV w v n) (hp : w.cell? p = some v0) (hn : NoNum v0) : NatV (w.setCell p u) v n := by
  obtain ⟨a, c, h1, h2, h3⟩ := h
  refine ⟨a, c, h1, h2.set hp ?_, h3⟩
  intro x hx e
  simp only [dgs, List.mem_map] at hx
  obtain ⟨d, _, rfl⟩ := hx
  subst e; exact hn

theorem NatV.box3 {w : World} {v : Value} {n b : Nat} {x0 x1 x2 u0 u1 u2 : Value} (h : NatV w v n) (q0 : w.cell? ⟨b, 0, none⟩ = some x0) (q1 : w.cell? ⟨b, 1, none⟩ = some x1) (q2 : w.cell? ⟨b, 2, none⟩ = some x2)
    (n0 : NoNum x0) (n1 : NoNum x1) (n2 : NoNum x2) : NatV (((w.setCell ⟨b, 0, none⟩ u0).setCell ⟨b, 1, none⟩ u1).setCell ⟨b, 2, none⟩ u2) v n := by
  refine ((h.set q0 n0).set (v0 := x1) ?_ n1).set (v0 := x2) ?_ n2
  · rw [World.cell?_setCell_other _ _ _ _ (by simp)]; exact q1
  · rw [World.cell?_setCell_other _ _ _ _ (by simp), World.cell?_setCell_other _ _ _ _ (by simp)]; exact q2

theorem natV_nil (w : World) : NatV w (.slice none 0 0) 0 := ⟨none, 0, by rw [dig_zero]; rfl, by rw [dig_zero]; exact Cells.nil _ _, by rw [dig_zero]; simp, by omega⟩

theorem dig_1 : dig 1 = [1] := dig_small (by decide) (by decide)

theorem one_any (w : World) :
    Calls Tryz.prog 137 #[] w fun e w' => (∃ v, e = .returned v ∧ NatV w' v 1) ∧ Below w.heap.size w w' := by
  go_enter Tryz.func137, Tryz.ntmps137
  go_wp2
  go_ret
  refine ⟨⟨_, rfl, ⟨some ⟨w.heap.size, 0, none⟩, 1, by rw [dig_1]; rfl, ?_, by rw [dig_1]; simp, by omega⟩⟩, (Below.refl _ _).alloc (Nat.le_refl _) _⟩
  rw [dig_1]
  refine .inr ⟨w.heap.size, 0, rfl, fun j u hu => ?_⟩
  match j, hu with
  | 0, hu => simp [dgs] at hu; subst hu; simp

/-- a struct that is a rational number -/
def RatV (w : World) (v : Value) (s : Bool) (n d : Nat) : Prop := ∃ vn vd, v = .agg #[.bool s, vn, vd] ∧ NatV w vn n ∧ NatV w vd d
theorem RatV.below {w w' : World} {B : Nat} {v : Value} {s : Bool} {n d : Nat} (h : RatV w v s n d) (hb : Below B w w') (hB : w.heap.size ≤ B) : RatV w' v s n d := by
  obtain ⟨vn, vd, h1, h2, h3⟩ := h
  exact ⟨vn, vd, h1, h2.below hb hB, h3.below hb hB⟩

theorem NatV.cases {w : World} {v : Value} {n : Nat} (h : NatV w v n) : ∃ a c, v = .slice a (dig n).length c := by
  obtain ⟨a, c, h1, _⟩ := h; exact ⟨a, c, h1⟩

set_option maxRecDepth 100000 in
theorem reduced_any (K : Nat) (hov : OverOK K) (s : Bool) (va vb : Value) (m n : Nat) (w : World) (ha : NatV w va m) (hb : NatV w vb n) (hm : (dig m).length ≤ 17592186044415) (hn : (dig n).length ≤ 17592186044415) (hK : n < K) (hn0 : n ≠ 0) :
    Calls Tryz.prog 91 #[.bool s, va, vb] w fun e w' => (∃ v, e = .returned v ∧ RatV w' v (s && decide (m ≠ 0)) (m / Nat.gcd m n) (n / Nat.gcd m n)) ∧ Below w.heap.size w w' := by
  by_cases h0 : m = 0
  · subst h0
    have e1 : 0 / Nat.gcd 0 n = 0 := Nat.zero_div _
    have e2 : n / Nat.gcd 0 n = 1 := by rw [Nat.gcd_zero_left]; exact Nat.div_self (by omega)
    obtain ⟨a, c, rfl⟩ := ha.cases
    have hl0 : (dig 0).length = 0 := by rw [dig_zero]; rfl
    rw [hl0]
    have HE1 := Lib.hid e1; have HE2 := Lib.hid e2; clear e1 e2 ha hb hl0
    go_enter Tryz.func91, Tryz.ntmps91
    go_wp2_with fail
    refine (one_any _).mono ?_
    rintro e w1 ⟨⟨v1, rfl, h1⟩, hb1⟩
    have H1 := Lib.hid h1; clear h1
    have q0 : w1.cell? ⟨w.heap.size, 0, none⟩ = some (.bool false) := box_keep hb1 (by simp) 0
    have q1 : w1.cell? ⟨w.heap.size, 1, none⟩ = some (.slice none 0 0) := box_keep hb1 (by simp) 1
    have q2 : w1.cell? ⟨w.heap.size, 2, none⟩ = some (.slice none 0 0) := box_keep hb1 (by simp) 2
    have f0 := box_free hb1 (by simp) 0
    have f1 := box_free hb1 (by simp) 1
    have f2 := box_free hb1 (by simp) 2
    have hz : w.heap.size + 1 ≤ w1.heap.size := by have := hb1.size; simpa using this
    obtain ⟨a1, c1, hv1⟩ := H1.out.cases
    rw [dig_1] at hv1
    subst hv1
    go_wp2
    refine bodyPost_ret (v := .agg #[.bool false, .slice none 0 0, .slice a1 1 c1]) (by simp [results, Tryz.results91, go_sem, q0, q1, q2]) rfl ?_
    refine ⟨⟨_, rfl, ?_⟩, ((((Below.refl _ _).alloc (Nat.le_refl _) _).trans (hb1.mono (by simp))).setCell (Nat.le_refl _) _).setCell (Nat.le_refl _) _ |>.setCell (Nat.le_refl _) _⟩
    rw [HE1.out, HE2.out]
    exact ⟨.slice none 0 0, .slice a1 1 c1, by simp, (natV_nil w1).box3 q0 q1 q2 trivial trivial trivial, H1.out.box3 q0 q1 q2 trivial trivial trivial⟩
  · have hs : (s && decide (m ≠ 0)) = s := by simp [h0]
    have hgp : 0 < Nat.gcd m n := Nat.gcd_pos_of_pos_right _ (by omega)
    have hgn : Nat.gcd m n ≤ n := Nat.gcd_le_right _ (by omega)
    have hgl : (dig (Nat.gcd m n)).length ≤ 17592186044415 := Nat.le_trans (dig_len_mono hgn) hn
    have hcom := common_any K hov va vb m n
    have hov1 := hov
    obtain ⟨a, c, rfl⟩ := ha.cases
    have hml : (((dig m).length : Int) == 0) = false := by
      have : (dig m).length ≠ 0 := by rw [Ne, dig_len_pos]; exact h0
      rw [beq_eq_false_iff_ne]; omega
    have HS := Lib.hid hs; have HCOM := Lib.hid hcom; have HOV := Lib.hid hov1; have HA := Lib.hid ha; have HB := Lib.hid hb
    have HN := Lib.hid hn0; have HM := Lib.hid h0
    clear hs hcom hov hov1 ha hb hn0 h0
    generalize hg : Nat.gcd m n = g at *
    have hg1 := (show g ≠ 0 by omega)
    have hgK : g < K := by omega
    have HG := Lib.hid hg; clear hg
    by_cases hg2 : g = 1
    · subst hg2
      have e1 : m / 1 = m := Nat.div_one _
      have e2 : n / 1 = n := Nat.div_one _
      have HE1 := Lib.hid e1; have HE2 := Lib.hid e2; clear e1 e2 hg1 hgp
      go_enter Tryz.func91, Tryz.ntmps91
      go_wp2_with fail
      refine (HCOM.out _ (HA.out.below ((Below.refl _ _).alloc (Nat.le_refl _) _) (Nat.le_refl _)) (HB.out.below ((Below.refl _ _).alloc (Nat.le_refl _) _) (Nat.le_refl _)) hm hn hK).mono ?_
      rintro e w1 ⟨⟨v1, rfl, h1⟩, hb1⟩
      obtain ⟨a1, c1, hv1⟩ := h1.cases
      have hc1 : Cells w1 a1 (dgs (dig 1)) := by
        obtain ⟨a2, c2, hv2, h2, _⟩ := h1
        rw [hv1] at hv2; simp at hv2; rw [hv2.1]; exact h2
      rw [dig_1] at hv1 hc1
      subst hv1
      obtain ⟨b, off, rfl⟩ := hc1.addr (by simp [dgs])
      have c0 : w1.cell? ⟨b, off, none⟩ = some (.int .u64 1) := hc1.at (j := 0) rfl
      clear h1 hc1
      have q0 : w1.cell? ⟨w.heap.size, 0, none⟩ = some (.bool false) := box_keep hb1 (by simp) 0
      have q1 : w1.cell? ⟨w.heap.size, 1, none⟩ = some (.slice none 0 0) := box_keep hb1 (by simp) 1
      have q2 : w1.cell? ⟨w.heap.size, 2, none⟩ = some (.slice none 0 0) := box_keep hb1 (by simp) 2
      have f0 := box_free hb1 (by simp) 0
      have f1 := box_free hb1 (by simp) 1
      have f2 := box_free hb1 (by simp) 2
      obtain ⟨ab, cb, hvb⟩ := HB.out.cases
      subst hvb
      go_wp2
      refine bodyPost_ret (v := .agg #[.bool s, .slice a (dig m).length c, .slice ab (dig n).length cb]) (by simp [results, Tryz.results91, go_sem, q0, q1, q2]) rfl ?_
      have hbw : Below w.heap.size w w1 := ((Below.refl _ _).alloc (Nat.le_refl _) _).trans (hb1.mono (by simp))
      refine ⟨⟨_, rfl, ?_⟩, ((hbw.setCell (Nat.le_refl _) _).setCell (Nat.le_refl _) _).setCell (Nat.le_refl _) _⟩
      rw [HS.out, HE1.out, HE2.out]
      exact ⟨_, _, rfl, (HA.out.below hbw (Nat.le_refl _)).box3 q0 q1 q2 trivial trivial trivial, (HB.out.below hbw (Nat.le_refl _)).box3 q0 q1 q2 trivial trivial trivial⟩
    · have hg3 : 2 ≤ g := by omega
      go_enter Tryz.func91, Tryz.ntmps91
      go_wp2_with fail
      refine (HCOM.out _ (HA.out.below ((Below.refl _ _).alloc (Nat.le_refl _) _) (Nat.le_refl _)) (HB.out.below ((Below.refl _ _).alloc (Nat.le_refl _) _) (Nat.le_refl _)) hm hn hK).mono ?_
      rintro e w1 ⟨⟨v1, rfl, h1⟩, hb1⟩
      have H1 := Lib.hid h1
      obtain ⟨a1, c1, hv1, hc1, _⟩ := h1
      subst hv1
      have hlp : (dig g).length ≠ 0 := by rw [Ne, dig_len_pos]; exact hg1
      obtain ⟨b, off, rfl⟩ := hc1.addr (dgs_ne (by omega))
      obtain ⟨x, hx⟩ := get_of_lt (show 0 < (dig g).length by omega)
      have c0 : w1.cell? ⟨b, off, none⟩ = some (.int .u64 (x : Nat)) := hc1.dgs hx
      have hx1 : (dig g).length = 1 → 1 < x := by
        intro hl
        have hgs := val_dig g
        obtain ⟨y, hy⟩ : ∃ y, dig g = [y] := by
          match h : dig g, hl with
          | [y], _ => exact ⟨y, rfl⟩
        rw [hy] at hx hgs; simp at hx; subst hx; simp [val] at hgs; omega
      have hbw : Below w.heap.size w w1 := ((Below.refl _ _).alloc (Nat.le_refl _) _).trans (hb1.mono (by simp))
      have hbx := hb1
      have HC1 := Lib.hid hc1; clear hc1 hx
      have HB1 := Lib.hid hb1; clear hb1
      by_cases hl1 : 1 < (dig g).length
      · have hlI : (1 : Int) < (dig g).length := by omega
        clear hx1
        go_wp2_with fail
        refine (HOV.out _ _ m g w1 (HA.out.below hbw (Nat.le_refl _)) H1.out hm hgl hg1 hgK).mono ?_
        rintro e w2 ⟨⟨vq, vr, rfl, hq, _⟩, hb2⟩
        have HQ := Lib.hid hq; clear hq
        have hbw2 : Below w.heap.size w w2 := hbw.trans (hb2.mono hbw.size)
        have hbx2 := hbx.trans (hb2.mono hbx.size)
        have H12 := Lib.hid (H1.out.below hb2 (Nat.le_refl _))
        clear hb2
        go_wp2_with fail
        refine (HOV.out _ _ n g w2 (HB.out.below hbw2 (Nat.le_refl _)) H12.out hn hgl hg1 hgK).mono ?_
        rintro e w3 ⟨⟨vq2, vr2, rfl, hq2, _⟩, hb3⟩
        have HQ1 := Lib.hid (HQ.out.below hb3 (Nat.le_refl _))
        have HQ2 := Lib.hid hq2; clear hq2
        have hbw3 : Below w.heap.size w w3 := hbw2.trans (hb3.mono hbw2.size)
        have hbx3 := hbx2.trans (hb3.mono hbx2.size)
        clear hb3
        have q0 : w3.cell? ⟨w.heap.size, 0, none⟩ = some (.bool false) := box_keep hbx3 (by simp) 0
        have q1 : w3.cell? ⟨w.heap.size, 1, none⟩ = some (.slice none 0 0) := box_keep hbx3 (by simp) 1
        have q2 : w3.cell? ⟨w.heap.size, 2, none⟩ = some (.slice none 0 0) := box_keep hbx3 (by simp) 2
        have f0 := box_free hbx3 (by simp) 0
        have f1 := box_free hbx3 (by simp) 1
        have f2 := box_free hbx3 (by simp) 2
        obtain ⟨aq, cq, hvq⟩ := HQ1.out.cases
        obtain ⟨aq2, cq2, hvq2⟩ := HQ2.out.cases
        subst hvq hvq2
        clear hbx hbx2 hbx3
        go_wp2
        refine bodyPost_ret (v := .agg #[.bool s, .slice aq (dig (m / g)).length cq, .slice aq2 (dig (n / g)).length cq2]) (by simp [results, Tryz.results91, go_sem, q0, q1, q2]) rfl ?_
        refine ⟨⟨_, rfl, ?_⟩, ((hbw3.setCell (Nat.le_refl _) _).setCell (Nat.le_refl _) _).setCell (Nat.le_refl _) _⟩
        rw [HS.out]
        exact ⟨_, _, rfl, HQ1.out.box3 q0 q1 q2 trivial trivial trivial, HQ2.out.box3 q0 q1 q2 trivial trivial trivial⟩
      · have hlI : ¬ (1 : Int) < (dig g).length := by omega
        have hx2 : 1 < x := hx1 (by omega)
        have hlp2 : (0 : Int) < (dig g).length := by omega
        clear hx1
        go_wp2_with fail
        refine (HOV.out _ _ m g w1 (HA.out.below hbw (Nat.le_refl _)) H1.out hm hgl hg1 hgK).mono ?_
        rintro e w2 ⟨⟨vq, vr, rfl, hq, _⟩, hb2⟩
        have HQ := Lib.hid hq; clear hq
        have hbw2 : Below w.heap.size w w2 := hbw.trans (hb2.mono hbw.size)
        have hbx2 := hbx.trans (hb2.mono hbx.size)
        have H12 := Lib.hid (H1.out.below hb2 (Nat.le_refl _))
        clear hb2
        go_wp2_with fail
        refine (HOV.out _ _ n g w2 (HB.out.below hbw2 (Nat.le_refl _)) H12.out hn hgl hg1 hgK).mono ?_
        rintro e w3 ⟨⟨vq2, vr2, rfl, hq2, _⟩, hb3⟩
        have HQ1 := Lib.hid (HQ.out.below hb3 (Nat.le_refl _))
        have HQ2 := Lib.hid hq2; clear hq2
        have hbw3 : Below w.heap.size w w3 := hbw2.trans (hb3.mono hbw2.size)
        have hbx3 := hbx2.trans (hb3.mono hbx2.size)
        clear hb3
        have q0 : w3.cell? ⟨w.heap.size, 0, none⟩ = some (.bool false) := box_keep hbx3 (by simp) 0
        have q1 : w3.cell? ⟨w.heap.size, 1, none⟩ = some (.slice none 0 0) := box_keep hbx3 (by simp) 1
        have q2 : w3.cell? ⟨w.heap.size, 2, none⟩ = some (.slice none 0 0) := box_keep hbx3 (by simp) 2
        have f0 := box_free hbx3 (by simp) 0
        have f1 := box_free hbx3 (by simp) 1
        have f2 := box_free hbx3 (by simp) 2
        obtain ⟨aq, cq, hvq⟩ := HQ1.out.cases
        obtain ⟨aq2, cq2, hvq2⟩ := HQ2.out.cases
        subst hvq hvq2
        clear hbx hbx2 hbx3
        go_wp2
        refine bodyPost_ret (v := .agg #[.bool s, .slice aq (dig (m / g)).length cq, .slice aq2 (dig (n / g)).length cq2]) (by simp [results, Tryz.results91, go_sem, q0, q1, q2]) rfl ?_
        refine ⟨⟨_, rfl, ?_⟩, ((hbw3.setCell (Nat.le_refl _) _).setCell (Nat.le_refl _) _).setCell (Nat.le_refl _) _⟩
        rw [HS.out]
        exact ⟨_, _, rfl, HQ1.out.box3 q0 q1 q2 trivial trivial trivial, HQ2.out.box3 q0 q1 q2 trivial trivial trivial⟩
end Go.Proofs.YtoochleabcjljaaGreatDoor

/- Numbers of package num: whole, plain. -/
namespace Go.Proofs.YtoochleabcjljaaGreatDoor
open Go.RowKit

/-- a struct that is a complex number -/
def ValV (w : World) (v : Value) (s1 : Bool) (n1 d1 : Nat) (s2 : Bool) (n2 d2 : Nat) : Prop := ∃ a b c d, v = .agg #[.bool s1, a, b, .bool s2, c, d] ∧ NatV w a n1 ∧ NatV w b d1 ∧ NatV w c n2 ∧ NatV w d d2
theorem ValV.below {w w' : World} {B : Nat} {v : Value} {s1 s2 : Bool} {n1 d1 n2 d2 : Nat} (h : ValV w v s1 n1 d1 s2 n2 d2) (hb : Below B w w') (hB : w.heap.size ≤ B) : ValV w' v s1 n1 d1 s2 n2 d2 := by
  obtain ⟨a, b, c, d, h1, h2, h3, h4, h5⟩ := h
  exact ⟨a, b, c, d, h1, h2.below hb hB, h3.below hb hB, h4.below hb hB, h5.below hb hB⟩

theorem box_keep2 {w w1 : World} {o : Obj} {cs : Array Value} {T : TypeId} {B : Nat} (hb : Below B ((w.alloc (.cells cs T)).alloc o) w1) (hB : w.heap.size < B) (i : Nat) : w1.cell? ⟨w.heap.size, i, none⟩ = cs[i]? := by
  rw [hb.cell (p := ⟨w.heap.size, i, none⟩) hB]; simp
theorem box_keep1 {w w1 : World} {o : Obj} {cs : Array Value} {T : TypeId} {B : Nat} (hb : Below B ((w.alloc o).alloc (.cells cs T)) w1) (hB : w.heap.size + 1 < B) (i : Nat) : w1.cell? ⟨w.heap.size + 1, i, none⟩ = cs[i]? := by
  have := box_keep (w := w.alloc o) hb (by simpa using hB) i
  simpa using this
theorem box_free1 {w w1 : World} {o : Obj} {cs : Array Value} {T : TypeId} {B : Nat} (hb : Below B ((w.alloc o).alloc (.cells cs T)) w1) (hB : w.heap.size + 1 < B) (i : Nat) : w1.frozen? ⟨w.heap.size + 1, i, none⟩ = false := by
  have := box_free (w := w.alloc o) hb (by simpa using hB) i
  simpa using this

theorem bel_undrew {B : Nat} {a w : World} (h : Below B a.drew w) : Below B a w := ⟨h.os, h.tape, h.output, h.size, h.block⟩

theorem NatV.box6 {w : World} {v : Value} {n b : Nat} {x0 x1 x2 x3 x4 x5 u0 u1 u2 u3 u4 u5 : Value} (h : NatV w v n) (q0 : w.cell? ⟨b, 0, none⟩ = some x0) (q1 : w.cell? ⟨b, 1, none⟩ = some x1) (q2 : w.cell? ⟨b, 2, none⟩ = some x2)
    (q3 : w.cell? ⟨b, 3, none⟩ = some x3) (q4 : w.cell? ⟨b, 4, none⟩ = some x4) (q5 : w.cell? ⟨b, 5, none⟩ = some x5)
    (n0 : NoNum x0) (n1 : NoNum x1) (n2 : NoNum x2) (n3 : NoNum x3) (n4 : NoNum x4) (n5 : NoNum x5) :
    NatV ((((((w.setCell ⟨b, 0, none⟩ u0).setCell ⟨b, 1, none⟩ u1).setCell ⟨b, 2, none⟩ u2).setCell ⟨b, 3, none⟩ u3).setCell ⟨b, 4, none⟩ u4).setCell ⟨b, 5, none⟩ u5) v n := by
  refine (((h.box3 q0 q1 q2 n0 n1 n2).set (v0 := x3) ?_ n3).set (v0 := x4) ?_ n4).set (v0 := x5) ?_ n5
  all_goals
    repeat (rw [World.cell?_setCell_other _ _ _ _ (by simp)])
    assumption

set_option maxRecDepth 100000 in
theorem plain_any (s : Bool) (n d : Nat) (vx : Value) (w : World) (hx : RatV w vx s n d) :
    Calls Tryz.prog 90 #[vx] w fun e w' => (∃ v, e = .returned v ∧ ValV w' v s n d false 0 1) ∧ Below w.heap.size w w' := by
  obtain ⟨vn, vd, rfl, hn, hd⟩ := hx
  have HN := Lib.hid hn; have HD := Lib.hid hd
  obtain ⟨an, cn, rfl⟩ := hn.cases
  obtain ⟨ad, cd, rfl⟩ := hd.cases
  clear hn hd
  go_enter Tryz.func90, Tryz.ntmps90
  go_wp2_with fail
  go_region_with (go_at_call 137; refine (one_any _).mono ?_; rintro e w1 ⟨⟨v1, rfl, h1⟩, hb1⟩; have hb2 := bel_undrew hb1; have p0 : w1.cell? ⟨w.heap.size, 0, none⟩ = some (.bool s) := box_keep2 hb2 (by simp; omega) 0; have p1 : w1.cell? ⟨w.heap.size, 1, none⟩ = some (.slice an (dig n).length cn) := box_keep2 hb2 (by simp; omega) 1; have p2 : w1.cell? ⟨w.heap.size, 2, none⟩ = some (.slice ad (dig d).length cd) := box_keep2 hb2 (by simp; omega) 2; have q0 : w1.cell? ⟨w.heap.size + 1, 0, none⟩ = some (.bool false) := box_keep1 hb2 (by simp) 0; have q1 : w1.cell? ⟨w.heap.size + 1, 1, none⟩ = some (.slice none 0 0) := box_keep1 hb2 (by simp) 1; have q2 : w1.cell? ⟨w.heap.size + 1, 2, none⟩ = some (.slice none 0 0) := box_keep1 hb2 (by simp) 2; have q3 : w1.cell? ⟨w.heap.size + 1, 3, none⟩ = some (.bool false) := box_keep1 hb2 (by simp) 3; have q4 : w1.cell? ⟨w.heap.size + 1, 4, none⟩ = some (.slice none 0 0) := box_keep1 hb2 (by simp) 4; have q5 : w1.cell? ⟨w.heap.size + 1, 5, none⟩ = some (.slice none 0 0) := box_keep1 hb2 (by simp) 5; have f0 := box_free1 hb2 (by simp) 0; have f1 := box_free1 hb2 (by simp) 1; have f2 := box_free1 hb2 (by simp) 2; have f3 := box_free1 hb2 (by simp) 3; have f4 := box_free1 hb2 (by simp) 4; have f5 := box_free1 hb2 (by simp) 5; obtain ⟨a1, c1, hv1⟩ := h1.cases; rw [dig_1] at hv1; subst hv1)
  all_goals
    have H1 := Lib.hid h1; clear h1
    have hbw : Below w.heap.size w w1 := (((Below.refl _ _).alloc (Nat.le_refl _) _).alloc (by simp) _).trans (hb2.mono (by simp; omega))
    clear hb1 hb2
    go_wp2
    refine bodyPost_ret (v := .agg #[.bool s, .slice an (dig n).length cn, .slice ad (dig d).length cd, .bool false, .slice none 0 0, .slice a1 1 c1]) (by simp [results, Tryz.results90, go_sem, q0, q1, q2, q3, q4, q5]) rfl ?_
    refine ⟨⟨_, rfl, ?_⟩, ?_⟩
    · exact ⟨_, _, _, _, rfl, (HN.out.below hbw (Nat.le_refl _)).box6 q0 q1 q2 q3 q4 q5 trivial trivial trivial trivial trivial trivial, (HD.out.below hbw (Nat.le_refl _)).box6 q0 q1 q2 q3 q4 q5 trivial trivial trivial trivial trivial trivial, (natV_nil w1).box6 q0 q1 q2 q3 q4 q5 trivial trivial trivial trivial trivial trivial, H1.out.box6 q0 q1 q2 q3 q4 q5 trivial trivial trivial trivial trivial trivial⟩
    · exact (((((hbw.setCell (p := ⟨w.heap.size + 1, 0, none⟩) (by simp) _).setCell (p := ⟨w.heap.size + 1, 1, none⟩) (by simp) _).setCell (p := ⟨w.heap.size + 1, 2, none⟩) (by simp) _).setCell (p := ⟨w.heap.size + 1, 3, none⟩) (by simp) _).setCell (p := ⟨w.heap.size + 1, 4, none⟩) (by simp) _).setCell (p := ⟨w.heap.size + 1, 5, none⟩) (by simp) _
end Go.Proofs.YtoochleabcjljaaGreatDoor

/- strconv.FormatUint at one digit; size, big, text of small numbers. -/
namespace Go.Proofs.YtoochleabcjljaaGreatDoor
open Go.RowKit

/-- the text of a digit -/
def digB (n : Nat) : ByteArray := ⟨#[(48 + n).toUInt8]⟩
theorem digs_ext (n : Nat) (h : n < 10) : (⟨#[48, 49, 50, 51, 52, 53, 54, 55, 56, 57, 97, 98, 99, 100, 101, 102, 103, 104, 105, 106, 107, 108, 109, 110, 111, 112, 113, 114, 115, 116, 117, 118, 119, 120, 121, 122]⟩ : ByteArray).extract n (n + 1) = digB n := by
  match n, h with
  | 0, _ => rfl
  | 1, _ => rfl
  | 2, _ => rfl
  | 3, _ => rfl
  | 4, _ => rfl
  | 5, _ => rfl
  | 6, _ => rfl
  | 7, _ => rfl
  | 8, _ => rfl
  | 9, _ => rfl

theorem ret_string {a b : ByteArray} (h : a = b) : Ending.returned (.string a) = .returned (.string b) := by rw [h]

set_option maxRecDepth 100000 in
theorem small_dig (n : Nat) (w : World) (h : n < 10) :
    Calls Tryz.prog 253 #[.int .i64 (n : Nat)] w fun e w' => e = .returned (.string (digB n)) ∧ w = w' := by
  have hn : (n : Int) < 10 := by omega
  go_enter Tryz.func253, Tryz.ntmps253
  go_wp2
  go_ret
  exact ⟨ret_string (digs_ext n h), rfl⟩

set_option maxRecDepth 100000 in
theorem fmtU_dig (n : Nat) (w : World) (h : n < 10) :
    Calls Tryz.prog 222 #[.int .u64 (n : Nat), .int .i64 10] w fun e w' => e = .returned (.string (digB n)) ∧ w = w' := by
  have hn : (n : Int) < 100 := by omega
  have hi : Calls Tryz.prog 242 #[.int .u64 (n : Nat), .int .i64 10] w fun e w' => e = .returned (.string (digB n)) ∧ w = w' := by
    go_enter Tryz.func242, Tryz.ntmps242
    go_wp2_with (go_at_call 253; refine (small_dig n _ h).mono ?_; rintro e w' ⟨rfl, rfl⟩)
    go_ret
    exact ⟨rfl, rfl⟩
  have HI := Lib.hid hi; clear hi
  go_enter Tryz.func222, Tryz.ntmps222
  go_wp2_with (go_at_call 242; refine HI.out.mono ?_; rintro e w' ⟨rfl, rfl⟩)
  go_ret
  exact ⟨rfl, rfl⟩

/-- nat.size at one digit -/
theorem size_dig (v : Value) (n : Nat) (w : World) (hv : NatV w v n) (h : n < 10) :
    Calls Tryz.prog 186 #[v] w fun e w' => e = .returned (.int .i64 1) ∧ w = w' := by
  by_cases h0 : n = 0
  · subst h0
    obtain ⟨a, c, rfl⟩ := hv.cases
    have hl0 : (dig 0).length = 0 := by rw [dig_zero]; rfl
    rw [hl0]
    clear hv hl0
    go_enter Tryz.func186, Tryz.ntmps186
    go_wp2
    go_ret
    exact ⟨rfl, rfl⟩
  · obtain ⟨a, c, rfl, hc, _⟩ := hv
    rw [dig_one h0 (by simp only [B]; omega)] at hc ⊢
    obtain ⟨b, off, rfl⟩ := hc.addr (by simp [dgs])
    have c0 : w.cell? ⟨b, off, none⟩ = some (.int .u64 (n : Nat)) := hc.at (j := 0) rfl
    clear hc
    have hs : (digB n).size = 1 := rfl
    go_enter Tryz.func186, Tryz.ntmps186
    go_wp2_with (go_at_call 222; refine (fmtU_dig n _ h).mono ?_; rintro e w' ⟨rfl, rfl⟩)
    go_ret
    exact ⟨rfl, rfl⟩

/-- rational.big at one digit -/
theorem big_dig (v : Value) (s : Bool) (n d : Nat) (w : World) (hv : RatV w v s n d) (h : n < 10) (h2 : d < 10) :
    Calls Tryz.prog 138 #[v] w fun e w' => e = .returned (.bool false) ∧ Below w.heap.size w w' := by
  obtain ⟨vn, vd, rfl, hn, hd⟩ := hv
  have HN := Lib.hid hn; have HD := Lib.hid hd
  obtain ⟨an, cn, rfl⟩ := hn.cases
  obtain ⟨ad, cd, rfl⟩ := hd.cases
  clear hn hd
  go_enter Tryz.func138, Tryz.ntmps138
  go_wp2_with fail
  refine (size_dig _ n _ (HN.out.below ((Below.refl _ _).alloc (Nat.le_refl _) _) (Nat.le_refl _)) h).mono ?_
  rintro e w1 ⟨rfl, rfl⟩
  go_wp2_with fail
  refine (size_dig _ d _ (HD.out.below ((Below.refl _ _).alloc (Nat.le_refl _) _) (Nat.le_refl _)) h2).mono ?_
  rintro e w1 ⟨rfl, rfl⟩
  go_wp2
  go_ret
  exact ⟨rfl, (Below.refl _ _).alloc (Nat.le_refl _) _⟩
end Go.Proofs.YtoochleabcjljaaGreatDoor
