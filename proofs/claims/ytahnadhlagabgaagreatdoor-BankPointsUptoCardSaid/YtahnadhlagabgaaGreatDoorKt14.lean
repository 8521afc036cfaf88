/- Parts of a proof, in build order: Zf, Zg, O4, O5, O6, O1. -/
import Derived.Test.YtahnadhlagabgaaGreatDoorKt13

namespace Go.Proofs.YtahnadhlagabgaaGreatDoor.Z4
open Go.RowKit
def CR (w : World) (v : Value) (s : Bool) (n d : Nat) : Prop := ∃ vn vd v0 v1, v = .agg #[.bool s, vn, .bool false, vd, .bool false, v0, .bool false, v1] /\ MV w vn n /\ MV w vd d /\ MV w v0 0 /\ MV w v1 1
theorem MV.set {w : World} {v : Value} {n : Nat} {p : Addr} {v0 u : Value} (h : MV w v n) (hp : w.cell? p = some v0) (hn : NoNum v0) : MV (w.setCell p u) v n := by
 obtain ⟨a, c, h1, h2, h3⟩ := h
 refine ⟨a, c, h1, h2.set hp ?_, h3⟩
 intro x hx e
 simp only [zs, List.mem_map] at hx
 obtain ⟨d, _, rfl⟩ := hx
 subst e; exact hn
theorem MV.box8 {w : World} {v : Value} {n b : Nat} {x0 x1 x2 x3 x4 x5 x6 x7 u0 u1 u2 u3 u4 u5 u6 u7 : Value} (h : MV w v n) (q0 : w.cell? ⟨b, 0, none⟩ = some x0) (q1 : w.cell? ⟨b, 1, none⟩ = some x1) (q2 : w.cell? ⟨b, 2, none⟩ = some x2) (q3 : w.cell? ⟨b, 3, none⟩ = some x3) (q4 : w.cell? ⟨b, 4, none⟩ = some x4) (q5 : w.cell? ⟨b, 5, none⟩ = some x5) (q6 : w.cell? ⟨b, 6, none⟩ = some x6) (q7 : w.cell? ⟨b, 7, none⟩ = some x7) (n0 : NoNum x0) (n1 : NoNum x1) (n2 : NoNum x2) (n3 : NoNum x3) (n4 : NoNum x4) (n5 : NoNum x5) (n6 : NoNum x6) (n7 : NoNum x7) : MV ((((((((w.setCell ⟨b, 0, none⟩ u0).setCell ⟨b, 1, none⟩ u1).setCell ⟨b, 2, none⟩ u2).setCell ⟨b, 3, none⟩ u3).setCell ⟨b, 4, none⟩ u4).setCell ⟨b, 5, none⟩ u5).setCell ⟨b, 6, none⟩ u6).setCell ⟨b, 7, none⟩ u7) v n := by
 refine (((((((h.set q0 n0).set (v0 := x1) ?_ n1).set (v0 := x2) ?_ n2).set (v0 := x3) ?_ n3).set (v0 := x4) ?_ n4).set (v0 := x5) ?_ n5).set (v0 := x6) ?_ n6).set (v0 := x7) ?_ n7
 · rw [World.cell?_setCell_other _ _ _ _ (by simp)]; exact q1
 · rw [World.cell?_setCell_other _ _ _ _ (by simp), World.cell?_setCell_other _ _ _ _ (by simp)]; exact q2
 · rw [World.cell?_setCell_other _ _ _ _ (by simp), World.cell?_setCell_other _ _ _ _ (by simp), World.cell?_setCell_other _ _ _ _ (by simp)]; exact q3
 · rw [World.cell?_setCell_other _ _ _ _ (by simp), World.cell?_setCell_other _ _ _ _ (by simp), World.cell?_setCell_other _ _ _ _ (by simp), World.cell?_setCell_other _ _ _ _ (by simp)]; exact q4
 · rw [World.cell?_setCell_other _ _ _ _ (by simp), World.cell?_setCell_other _ _ _ _ (by simp), World.cell?_setCell_other _ _ _ _ (by simp), World.cell?_setCell_other _ _ _ _ (by simp), World.cell?_setCell_other _ _ _ _ (by simp)]; exact q5
 · rw [World.cell?_setCell_other _ _ _ _ (by simp), World.cell?_setCell_other _ _ _ _ (by simp), World.cell?_setCell_other _ _ _ _ (by simp), World.cell?_setCell_other _ _ _ _ (by simp), World.cell?_setCell_other _ _ _ _ (by simp), World.cell?_setCell_other _ _ _ _ (by simp)]; exact q6
 · rw [World.cell?_setCell_other _ _ _ _ (by simp), World.cell?_setCell_other _ _ _ _ (by simp), World.cell?_setCell_other _ _ _ _ (by simp), World.cell?_setCell_other _ _ _ _ (by simp), World.cell?_setCell_other _ _ _ _ (by simp), World.cell?_setCell_other _ _ _ _ (by simp), World.cell?_setCell_other _ _ _ _ (by simp)]; exact q7
set_option maxRecDepth 100000 in
theorem real_any (v : Value) (s : Bool) (n d : Nat) (w : World) (hv : QV w v s n d) :
 Calls Tryz.prog 74 #[v] w fun e w' => (∃ v', e = .returned v' /\ CR w' v' s n d) /\ Below w.heap.size w w' := by
 obtain ⟨vn, vd, rfl, hn, hd⟩ := hv
 have hbw := ((Below.refl w.heap.size w).alloc lc (.cells #[.bool s, vn, .bool false, vd] 129)).alloc (by simp) (.cells #[.bool false, .slice none 0 0, .bool false, .slice none 0 0, .bool false, .slice none 0 0, .bool false, .slice none 0 0] 135)
 have HN := hG hn; have HD := hG hd; have HBW := hG hbw
 obtain ⟨an, cn, rfl⟩ := hn.cases
 obtain ⟨ad, cd, rfl⟩ := hd.cases
 clear hn hd hbw
 have hq := fun W => qInt_any 0 W (by omega) (by omega)
 have HQ := hG hq
 clear hq
 go_enter Tryz.func74, Tryz.ntmps74
 go_wp2_with fail
 have z0 : ((w.alloc (.cells #[.bool s, .slice an (dig n).length cn, .bool false, .slice ad (dig d).length cd] 129)).alloc (.cells #[.bool false, .slice none 0 0, .bool false, .slice none 0 0, .bool false, .slice none 0 0, .bool false, .slice none 0 0] 135)).cell? ⟨w.heap.size, 0, none⟩ = some (.bool s) := by simp
 generalize hW : ((w.alloc (.cells #[.bool s, .slice an (dig n).length cn, .bool false, .slice ad (dig d).length cd] 129)).alloc (.cells #[.bool false, .slice none 0 0, .bool false, .slice none 0 0, .bool false, .slice none 0 0, .bool false, .slice none 0 0] 135)) = W at *
 have hbox : ∀ (B : Nat) (w1 : World), Below B W w1 -> w.heap.size + 1 < B -> (∀ i, w1.cell? ⟨w.heap.size, i, none⟩ = #[Value.bool s, .slice an (dig n).length cn, .bool false, .slice ad (dig d).length cd][i]?) /\ (∀ i, w1.cell? ⟨w.heap.size + 1, i, none⟩ = #[Value.bool false, .slice none 0 0, .bool false, .slice none 0 0, .bool false, .slice none 0 0, .bool false, .slice none 0 0][i]?) /\ (∀ i, w1.frozen? ⟨w.heap.size + 1, i, none⟩ = false) := fun B w1 hb hB => by
  subst hW
  exact ⟨fun i => box_keep2 hb (by omega) i, fun i => box_keep1 hb (by omega) i, fun i => box_free1 hb (by omega) i⟩
 have HBX := hG hbox
 have hsz0 : w.heap.size + 2 <= W.heap.size := by subst hW; simp
 have HSZ := hG hsz0
 clear hbox hW hsz0
 have hsz : w.heap.size + 2 <= W.heap.size := HSZ.out
 obtain ⟨z, -, -⟩ := HBX.out (w.heap.size + 2) W bg (by omega)
 have y0 := z 0
 have y1 := z 1
 have y2 := z 2
 have y3 := z 3
 simp only [List.getElem?_toArray, List.getElem?_cons_succ, List.getElem?_cons_zero] at y0 y1 y2 y3
 clear z z0
 go_region_with (go_at_call 70; refine (HQ.out _).mono ?_; rintro e w1 ⟨⟨vq, rfl, hvq⟩, hb1⟩; have hbz : Below (w.heap.size + 2) W w1 := ((Below.refl _ W).drew).trans (hb1.mono hsz); obtain ⟨z, t, f⟩ := HBX.out _ w1 hbz (by omega); have x0 := z 0; have x1 := z 1; have x2 := z 2; have x3 := z 3; have t0 := t 0; have t1 := t 1; have t2 := t 2; have t3 := t 3; have t4 := t 4; have t5 := t 5; have t6 := t 6; have t7 := t 7; have f0 := f 0; have f1 := f 1; have f2 := f 2; have f3 := f 3; have f4 := f 4; have f5 := f 5; have f6 := f 6; have f7 := f 7; simp only [List.getElem?_toArray, List.getElem?_cons_succ, List.getElem?_cons_zero] at x0 x1 x2 x3 t0 t1 t2 t3 t4 t5 t6 t7; obtain ⟨a0, a1, rfl, hm0, hm1⟩ := hvq; obtain ⟨b0, c0, rfl⟩ := hm0.cases; obtain ⟨b1, c1, rfl⟩ := hm1.cases; have HM0 := hG hm0; have HM1 := hG hm1; clear hm0 hm1 z t f)
 all_goals
  have hbw := HBW.out.trans (hbz.mono (by omega))
  have hle : w.heap.size <= w.heap.size + 1 := by omega
  have HN1 := hG ((HN.out.below HBW.out lc).below (((Below.refl W.heap.size W).drew).trans hb1) lc)
  have HD1 := hG ((HD.out.below HBW.out lc).below (((Below.refl W.heap.size W).drew).trans hb1) lc)
  go_wp2
  refine bodyPost_ret (v := .agg #[.bool s, .slice an (dig n).length cn, .bool false, .slice ad (dig d).length cd, .bool (decide ((0 : Int) < 0)), .slice b0 (dig (0 : Int).natAbs).length c0, .bool false, .slice b1 (dig 1).length c1]) (by simp [results, Tryz.results74, go_sem, t0, t1, t2, t3, t4, t5, t6, t7]) rfl ?_
  exact ⟨⟨_, rfl, _, _, _, _, rfl, HN1.out.box8 t0 t1 t2 t3 t4 t5 t6 t7 trivial trivial trivial trivial trivial trivial trivial trivial, HD1.out.box8 t0 t1 t2 t3 t4 t5 t6 t7 trivial trivial trivial trivial trivial trivial trivial trivial, HM0.out.box8 t0 t1 t2 t3 t4 t5 t6 t7 trivial trivial trivial trivial trivial trivial trivial trivial, HM1.out.box8 t0 t1 t2 t3 t4 t5 t6 t7 trivial trivial trivial trivial trivial trivial trivial trivial⟩, ((((((((hbw.setCell hle _).setCell hle _).setCell hle _).setCell hle _).setCell hle _).setCell hle _).setCell hle _).setCell hle _)⟩
theorem qZero_any (v : Value) (s : Bool) (n d : Nat) (w : World) (hv : QV w v s n d) :
 Calls Tryz.prog 160 #[v] w fun e w' => e = .returned (.bool (decide (n = 0))) /\ Below w.heap.size w w' := by
 obtain ⟨vn, vd, rfl, hn, hd⟩ := hv
 obtain ⟨an, cn, rfl⟩ := hn.cases
 obtain ⟨ad, cd, rfl⟩ := hd.cases
 have hl : decide (n = 0) = (((dig n).length : Int) == 0) := by
  rw [Bool.eq_iff_iff, decide_eq_true_iff, beq_iff_eq, <- dig_len_pos]; omega
 have HL := hG hl; clear hl hn hd
 go_enter Tryz.func160, Tryz.ntmps160
 go_wp2
 go_ret
 exact ⟨ret_bool HL.out.symm, bg.alloc lc _⟩
theorem CR.below {w w' : World} {B : Nat} {v : Value} {s : Bool} {n d : Nat} (h : CR w v s n d) (hb : Below B w w') (hB : w.heap.size <= B) : CR w' v s n d := by
 obtain ⟨a, b, c, e, rfl, h1, h2, h3, h4⟩ := h
 exact ⟨a, b, c, e, rfl, h1.below hb hB, h2.below hb hB, h3.below hb hB, h4.below hb hB⟩
set_option maxRecDepth 100000 in
theorem refText_any (v : Value) (s : Bool) (n d : Nat) (w : World) (hv : CR w v s n d) (hd : d ≠ 0) (hl : (dig n).length <= 549755813888) (hl2 : (dig d).length <= 549755813888) :
 Calls Tryz.prog 123 #[v] w fun e w' => e = .returned (.string (qT s n d)) /\ Below w.heap.size w w' := by
 obtain ⟨va, vb, vc, vd, rfl, ha, hb, hc, hdd⟩ := hv
 have HA := hG ha; have HB := hG hb; have HC := hG hc; have HD := hG hdd
 obtain ⟨aa, ca, rfl⟩ := ha.cases
 obtain ⟨ab, cb, rfl⟩ := hb.cases
 obtain ⟨ac, cc, rfl⟩ := hc.cases
 obtain ⟨ad, cd, rfl⟩ := hdd.cases
 clear ha hb hc hdd
 have HN := hG hd; clear hd
 go_enter Tryz.func123, Tryz.ntmps123
 go_wp2_with fail
 refine (qZero_any _ false 0 1 _ ⟨_, _, rfl, HC.out.below (bg.alloc lc _) lc, HD.out.below (bg.alloc lc _) lc⟩).mono ?_
 rintro e w1 ⟨rfl, hb1⟩
 have hbw : Below w.heap.size w w1 := (bg.alloc lc _).trans (hb1.mono (by simp))
 have q0 : w1.cell? ⟨w.heap.size, 0, none⟩ = some (.bool s) := box_keep hb1 (by simp) 0
 have q1 : w1.cell? ⟨w.heap.size, 1, none⟩ = some (.slice aa (dig n).length ca) := box_keep hb1 (by simp) 1
 have q2 : w1.cell? ⟨w.heap.size, 2, none⟩ = some (.bool false) := box_keep hb1 (by simp) 2
 have q3 : w1.cell? ⟨w.heap.size, 3, none⟩ = some (.slice ab (dig d).length cb) := box_keep hb1 (by simp) 3
 go_wp2_with fail
 refine (qText_any _ s n d _ ⟨_, _, rfl, HA.out.below hbw lc, HB.out.below hbw lc⟩ HN.out hl hl2).mono ?_
 rintro e w2 ⟨rfl, hb2⟩
 go_wp2
 go_ret
 exact ⟨rfl, hbw.trans (hb2.mono hbw.size)⟩
def bigZ (n d : Nat) : Bool := decide (2000 < Lib.nDigits n) || decide (2000 < Lib.nDigits d)
set_option maxRecDepth 100000 in
theorem refBig_small (v : Value) (s : Bool) (n d : Nat) (w : World) (hv : CR w v s n d) (hl : (dig n).length <= 549755813888) (hl2 : (dig d).length <= 549755813888) (h1 : Lib.nDigits n <= 2000) (h2 : Lib.nDigits d <= 2000) :
 Calls Tryz.prog 122 #[v] w fun e w' => e = .returned (.bool false) /\ Below w.heap.size w w' := by
 obtain ⟨va, vb, vc, vd, rfl, ha, hb, hc, hdd⟩ := hv
 have HA := hG ha; have HB := hG hb; have HC := hG hc; have HD := hG hdd
 obtain ⟨aa, ca, rfl⟩ := ha.cases
 obtain ⟨ab, cb, rfl⟩ := hb.cases
 obtain ⟨ac, cc, rfl⟩ := hc.cases
 obtain ⟨ad, cd, rfl⟩ := hdd.cases
 clear ha hb hc hdd
 have k1 : decide (2000 < Lib.nDigits n) = false := decide_eq_false (by omega)
 have k2 : decide (2000 < Lib.nDigits d) = false := decide_eq_false (by omega)
 have k3 : decide (2000 < Lib.nDigits 0) = false := by rw [Lib.nDigits_small (by decide)]; rfl
 have k4 : decide (2000 < Lib.nDigits 1) = false := by rw [Lib.nDigits_small (by decide)]; rfl
 have l3 : (dig 0).length <= 549755813888 := by rw [dig_zero]; simp
 have l4 : (dig 1).length <= 549755813888 := by rw [dig_small (by decide) (by decide)]; simp
 have hg := fun (s : Bool) (vd : Value) (n : Nat) (W : World) => long_any s vd n W
 have HG := hG hg
 have g1 := fun W (h : MV W (.slice aa (dig n).length ca) n) => by have := HG.out s _ n W h hl; rwa [k1] at this
 have g2 := fun W (h : MV W (.slice ab (dig d).length cb) d) => by have := HG.out false _ d W h hl2; rwa [k2] at this
 have g3 := fun W (h : MV W (.slice ac (dig 0).length cc) 0) => by have := HG.out false _ 0 W h l3; rwa [k3] at this
 have g4 := fun W (h : MV W (.slice ad (dig 1).length cd) 1) => by have := HG.out false _ 1 W h l4; rwa [k4] at this
 have G1 := hG g1; have G2 := hG g2; have G3 := hG g3; have G4 := hG g4
 clear hg g1 g2 g3 g4 k1 k2 k3 k4 l3 l4 h1 h2
 have hal := (Below.refl w.heap.size w).alloc lc (.cells #[.bool s, .slice aa (dig n).length ca, .bool false, .slice ab (dig d).length cb, .bool false, .slice ac (dig 0).length cc, .bool false, .slice ad (dig 1).length cd] 135)
 go_enter Tryz.func122, Tryz.ntmps122
 go_wp2_with fail
 refine (G1.out _ (HA.out.below hal lc)).mono ?_
 rintro e w1 ⟨rfl, hb1⟩
 have hbw := hal.trans (hb1.mono (by simp))
 have q2 : w1.cell? ⟨w.heap.size, 2, none⟩ = some (.bool false) := box_keep hb1 (by simp) 2
 have q3 : w1.cell? ⟨w.heap.size, 3, none⟩ = some (.slice ab (dig d).length cb) := box_keep hb1 (by simp) 3
 go_wp2_with fail
 refine (G2.out _ (HB.out.below hbw lc)).mono ?_
 rintro e w2 ⟨rfl, hb2⟩
 have hbx := hb1.trans (hb2.mono hb1.size)
 have hbw2 := hbw.trans (hb2.mono hbw.size)
 clear q2 q3
 have q4 : w2.cell? ⟨w.heap.size, 4, none⟩ = some (.bool false) := box_keep hbx (by simp) 4
 have q5 : w2.cell? ⟨w.heap.size, 5, none⟩ = some (.slice ac (dig 0).length cc) := box_keep hbx (by simp) 5
 go_wp2_with fail
 refine (G3.out _ (HC.out.below hbw2 lc)).mono ?_
 rintro e w3 ⟨rfl, hb3⟩
 have hbx2 := hbx.trans (hb3.mono hbx.size)
 have hbw3 := hbw2.trans (hb3.mono hbw2.size)
 clear q4 q5
 have q6 : w3.cell? ⟨w.heap.size, 6, none⟩ = some (.bool false) := box_keep hbx2 (by simp) 6
 have q7 : w3.cell? ⟨w.heap.size, 7, none⟩ = some (.slice ad (dig 1).length cd) := box_keep hbx2 (by simp) 7
 go_wp2_with fail
 refine (G4.out _ (HD.out.below hbw3 lc)).mono ?_
 rintro e w4 ⟨rfl, hb4⟩
 go_wp2
 go_ret
 exact ⟨rfl, hbw3.trans (hb4.mono hbw3.size)⟩
set_option maxRecDepth 100000 in
theorem refPut_small (v : Value) (s : Bool) (n d : Nat) (w : World) (hv : CR w v s n d) (hd : d ≠ 0) (hl : (dig n).length <= 549755813888) (hl2 : (dig d).length <= 549755813888) (h1 : Lib.nDigits n <= 2000) (h2 : Lib.nDigits d <= 2000) :
 Calls Tryz.prog 73 #[v] w fun e w' => e = .returned (.tuple #[.string (qT s n d), .int .i64 0]) /\ Below w.heap.size w w' := by
 obtain ⟨va, vb, vc, vd, rfl, ha, hb, hc, hdd⟩ := hv
 have HCR : Hid (CR w (.agg #[.bool s, va, .bool false, vb, .bool false, vc, .bool false, vd]) s n d) := ⟨va, vb, vc, vd, rfl, ha, hb, hc, hdd⟩
 obtain ⟨aa, ca, rfl⟩ := ha.cases
 obtain ⟨ab, cb, rfl⟩ := hb.cases
 obtain ⟨ac, cc, rfl⟩ := hc.cases
 obtain ⟨ad, cd, rfl⟩ := hdd.cases
 clear ha hb hc hdd
 have HN := hG hd; clear hd
 have hal := (Below.refl w.heap.size w).alloc lc (.cells #[.bool s, .slice aa (dig n).length ca, .bool false, .slice ab (dig d).length cb, .bool false, .slice ac (dig 0).length cc, .bool false, .slice ad (dig 1).length cd] 135)
 go_enter Tryz.func73, Tryz.ntmps73
 go_wp2_with fail
 refine (refBig_small _ s n d _ (HCR.out.below hal lc) hl hl2 h1 h2).mono ?_
 rintro e w1 ⟨rfl, hb1⟩
 have hbw := hal.trans (hb1.mono (by simp))
 have q0 : w1.cell? ⟨w.heap.size, 0, none⟩ = some (.bool s) := box_keep hb1 (by simp) 0
 have q1 : w1.cell? ⟨w.heap.size, 1, none⟩ = some (.slice aa (dig n).length ca) := box_keep hb1 (by simp) 1
 have q2 : w1.cell? ⟨w.heap.size, 2, none⟩ = some (.bool false) := box_keep hb1 (by simp) 2
 have q3 : w1.cell? ⟨w.heap.size, 3, none⟩ = some (.slice ab (dig d).length cb) := box_keep hb1 (by simp) 3
 have q4 : w1.cell? ⟨w.heap.size, 4, none⟩ = some (.bool false) := box_keep hb1 (by simp) 4
 have q5 : w1.cell? ⟨w.heap.size, 5, none⟩ = some (.slice ac (dig 0).length cc) := box_keep hb1 (by simp) 5
 have q6 : w1.cell? ⟨w.heap.size, 6, none⟩ = some (.bool false) := box_keep hb1 (by simp) 6
 have q7 : w1.cell? ⟨w.heap.size, 7, none⟩ = some (.slice ad (dig 1).length cd) := box_keep hb1 (by simp) 7
 go_wp2_with fail
 refine (refText_any _ s n d _ (HCR.out.below hbw lc) HN.out hl hl2).mono ?_
 rintro e w2 ⟨rfl, hb2⟩
 go_wp2
 go_ret2
 exact ⟨rfl, hbw.trans (hb2.mono hbw.size)⟩
theorem zv_nat {w : World} {a : Option Addr} {n c : Nat} (h : MV w (.slice a (dig n).length c) n) : ZV w (.agg #[.bool false, .slice a (dig n).length c]) (n : Nat) := by
 obtain ⟨a', c', e, h1, h2, h3⟩ := h
 cases e
 exact ⟨a, c, by rw [decide_eq_false (by omega), Int.natAbs_natCast], by rw [Int.natAbs_natCast]; exact h1, by rw [Int.natAbs_natCast]; exact h2, h3⟩
set_option maxRecDepth 100000 in
set_option maxHeartbeats 4000000 in
theorem part_any (s : ByteArray) (w : World) (hs : s.size <= 9223372036854775807) :
 Calls Tryz.prog 227 #[.string s] w fun e w' => (∃ v r, e = .returned (.tuple #[v, .string r]) /\ QV w' v false (partN s.data.toList).1 (partN s.data.toList).2.1 /\ r.data.toList = (partN s.data.toList).2.2) /\ Below w.heap.size w w' := by
 obtain ⟨l, hl⟩ : ∃ l, l = s.data.toList := ⟨_, rfl⟩
 have hsl : s.size = l.length := by rw [hl]; rfl
 have hnu := fun W => number_any s W hs
 rw [<- hl] at hnu
 rw [<- hl]
 have HL := hG hl; have HSL := hG hsl
 have hpl := pfx_le l
 have hlr : (numT l).length = l.length - pfx l := by unfold numT; rw [List.length_drop]
 have hl1 : l.length <= 9223372036854775807 := by omega
 obtain ⟨W0, hW0⟩ : ∃ W0, w.alloc (.cells #[.bool false, .slice none 0 0, .bool false, .slice none 0 0] 129) = W0 := ⟨_, rfl⟩
 have hb0 : Below w.heap.size w W0 := by rw [<- hW0]; exact (Below.refl _ w).alloc lc _
 have q0 : Blk W0 w.heap.size 129 #[.bool false, .slice none 0 0, .bool false, .slice none 0 0] := by rw [<- hW0]; exact heap_alloc_new w _
 have hsz0 : W0.heap.size = w.heap.size + 1 := by rw [<- hW0]; simp
 have HB0 := hG hb0; have HQ0 := hG q0; have HW0 := hG hW0; have HNU := hG hnu
 clear hl hsl hb0 q0 hW0 hnu
 go_enter Tryz.func227, Tryz.ntmps227
 go_wp2_with fail
 rw [HW0.out]
 refine (HNU.out W0).mono ?_
 rintro e w1 ⟨⟨v1, r1, rfl, hv1, hr1⟩, hb1⟩
 obtain ⟨x1, rfl, hm1⟩ := hv1.mv
 rw [decide_eq_false (by omega : ¬ ((numN l : Nat) : Int) < 0)]
 rw [Int.natAbs_natCast] at hm1
 obtain ⟨a1, c1, rfl⟩ := hm1.cases
 have hr1s : r1.size = l.length - pfx l := by rw [<- hlr, <- hr1]; rfl
 have HM1 := hG hm1; have HR1 := hG hr1; have HB1 := hG hb1; have HR1S := hG hr1s
 clear hv1 hm1 hr1 hb1 hr1s
 by_cases hp : pfx l = 0
 · have e1 : ((r1.size : Int) == (s.size : Int)) = true := by rw [beq_iff_eq, HR1S.out, HSL.out]; omega
   have hpt : partN l = (1, 1, l) := by unfold partN; rw [if_pos hp]
   have HPT := hG hpt
   clear hpt hlr
   go_wp2_with fail
   refine (qInt_any 1 _ (by omega) (by omega)).mono ?_
   rintro e w3 ⟨⟨v3, rfl, vn, vd, rfl, hn, hd⟩, hb3⟩
   obtain ⟨an, cn, rfl⟩ := hn.cases
   obtain ⟨ad, cd, rfl⟩ := hd.cases
   have HN := hG hn; have HD := hG hd
   have hbx : Below W0.heap.size W0 w3 := (HB1.out.alloc HB1.out.size _).trans (hb3.mono (by simp; have := HB1.out.size; omega))
   clear hn hd hb3 e1
   rw [decide_eq_false (by omega : ¬ ((1 : Int) < 0))]
   have hq := HQ0.out.below hbx (by omega)
   have k0 := hq.cell 0
   have k1 := hq.cell 1
   have k2 := hq.cell 2
   have k3 := hq.cell 3
   have f0 := hq.free 0
   have f1 := hq.free 1
   have f2 := hq.free 2
   have f3 := hq.free 3
   simp only [List.getElem?_toArray, List.getElem?_cons_succ, List.getElem?_cons_zero] at k0 k1 k2 k3
   clear hq
   have hbf := HB0.out.trans (hbx.mono HB0.out.size)
   go_wp2_with fail
   refine bodyPost_ret (v := .tuple #[.agg #[.bool false, .slice an (dig (1 : Int).natAbs).length cn, .bool false, .slice ad (dig 1).length cd], .string s]) (by simp [results, Tryz.results227, go_sem, k0, k1, k2, k3]) rfl ?_
   rw [HPT.out]
   exact ⟨⟨_, _, rfl, ⟨_, _, rfl, HN.out.box4 k0 k1 k2 k3, HD.out.box4 k0 k1 k2 k3⟩, HL.out.symm⟩, (((hbf.setCell lc _).setCell lc _).setCell lc _).setCell lc _⟩
 · have e1 : ((r1.size : Int) == (s.size : Int)) = false := by rw [Bool.eq_false_iff]; intro h; rw [beq_iff_eq, HR1S.out, HSL.out] at h; omega
   obtain ⟨wx, hwx⟩ : ∃ wx, w1.alloc (.cells #[.bool false, .slice a1 (dig (numN l)).length c1] 127) = wx := ⟨_, rfl⟩
   have hsx : wx.heap.size = w1.heap.size + 1 := by rw [<- hwx]; simp
   have hz0 : Blk wx w1.heap.size 127 #[.bool false, .slice a1 (dig (numN l)).length c1] := by rw [<- hwx]; exact heap_alloc_new w1 _
   have hbz : Below w1.heap.size w1 wx := by rw [<- hwx]; exact (Below.refl w1.heap.size w1).alloc lc _
   have HZ1 : Hid (∀ W, Below wx.heap.size wx W -> Blk W w1.heap.size 127 #[.bool false, .slice a1 (dig (numN l)).length c1] /\ MV W (.slice a1 (dig (numN l)).length c1) (numN l) /\ Below W0.heap.size W0 W) := hG (fun W h => by
    have h2 := hbz.trans (h.mono hbz.size)
    exact ⟨hz0.below h (by omega), HM1.out.below h2 lc, HB1.out.trans (h2.mono HB1.out.size)⟩)
   have HWX := hG hwx
   clear hwx hz0 hbz
   rcases hT : numT l with _ | ⟨c, r⟩
   · have h0 : r1.size = 0 := by rw [HR1S.out, <- hlr, hT]; rfl
     have e2 : ¬ ((0 : Int) < (r1.size : Int)) := by omega
     have hpt : partN l = (numN l, 1, []) := by unfold partN; rw [if_neg hp, hT]
     rw [hT] at HR1
     have HPT := hG hpt
     clear hpt h0 hT hlr
     go_wp2_with fail
     rw [HWX.out]
     clear e1 e2
     obtain ⟨hz, -, -⟩ := HZ1.out wx bg
     have z0 := hz.cell 0
     have z1 := hz.cell 1
     simp only [List.getElem?_toArray, List.getElem?_cons_succ, List.getElem?_cons_zero] at z0 z1
     clear hz
     go_region_with (go_at_call 118; refine (zOf_any 1 _ (by omega) (by omega)).mono ?_; rintro e w5 ⟨⟨v5, rfl, hv5⟩, hb5⟩; obtain ⟨x5, rfl, hm5⟩ := hv5.mv; obtain ⟨a5, c5, rfl⟩ := hm5.cases; have hb6 := ((Below.refl wx.heap.size wx).drew).trans hb5; obtain ⟨hz, hn5, hbx⟩ := HZ1.out w5 hb6; have hq := HQ0.out.below hbx (by omega); have k0 := hq.cell 0; have k1 := hq.cell 1; have k2 := hq.cell 2; have k3 := hq.cell 3; have f0 := hq.free 0; have f1 := hq.free 1; have f2 := hq.free 2; have f3 := hq.free 3; have y0 := hz.cell 0; have y1 := hz.cell 1; simp only [List.getElem?_toArray, List.getElem?_cons_succ, List.getElem?_cons_zero] at k0 k1 k2 k3 y0 y1; have HD := hG hm5; have HN := hG hn5; have HBX := hG hbx; clear hm5 hv5 hb5 hb6 hbx hq hz hn5)
     all_goals
      have hbf := HB0.out.trans (HBX.out.mono HB0.out.size)
      go_wp2_with fail
      refine bodyPost_ret (v := .tuple #[.agg #[.bool false, .slice a1 (dig (numN l)).length c1, .bool false, .slice a5 (dig (1 : Int).natAbs).length c5], .string r1]) (by simp [results, Tryz.results227, go_sem, k0, k1, k2, k3]) rfl ?_
      rw [HPT.out]
      exact ⟨⟨_, _, rfl, ⟨_, _, rfl, HN.out.box4 k0 k1 k2 k3, HD.out.box4 k0 k1 k2 k3⟩, HR1.out⟩, (((hbf.setCell lc _).setCell lc _).setCell lc _).setCell lc _⟩
   · have hr1c : 0 < r1.size := by rw [HR1S.out, <- hlr, hT]; simp
     obtain ⟨c', hc1, hc2⟩ := byte_get (t := r1) (i := 0) hr1c
     rw [HR1.out, hT] at hc1
     obtain rfl : c = c' := by simpa using hc1
     have e2 : (0 : Int) < (r1.size : Int) := by omega
     by_cases hc47 : c = 47
     · subst hc47
       have e3 : ((r1[0].toNat : Int) == 47) = true := by rw [hc2]; rfl
       have he2 : (r1.extract 1 r1.size).data.toList = r := by
        have : (r1.extract 1 r1.size).data.toList = (r1.data.toList.drop 1).take (r1.size - 1) := by simp [ByteArray.data_extract]
        rw [this, HR1.out, hT, List.drop_succ_cons, List.drop_zero, List.take_of_length_le]
        have := HR1S.out
        rw [<- hlr, hT, List.length_cons] at this
        omega
       have hes : (r1.extract 1 r1.size).size <= r1.size := by
        have : (r1.extract 1 r1.size).size = r.length := by rw [<- he2]; rfl
        have h2 := HR1S.out
        rw [<- hlr, hT, List.length_cons] at h2
        omega
       have hnu := fun W => number_any (r1.extract 1 r1.size) W (by have := HR1S.out; omega)
       rw [he2] at hnu
       have HNU2 := hG hnu
       have i1 : (1 : Int) <= (r1.size : Int) := by omega
       have HT := hG hT; have HLR := hG hlr
       clear hc1 hc2 he2 hes hnu hT hlr
       go_wp2_with fail
       rw [HWX.out]
       refine (HNU2.out wx).mono ?_
       rintro e w3 ⟨⟨v2, r2, rfl, hv2, hr2⟩, hb3⟩
       obtain ⟨x2, rfl, hm2⟩ := hv2.mv
       rw [decide_eq_false (by omega : ¬ ((numN r : Nat) : Int) < 0)]
       rw [Int.natAbs_natCast] at hm2
       obtain ⟨a2, c2, rfl⟩ := hm2.cases
       obtain ⟨wy, hwy⟩ : ∃ wy, w3.alloc (.cells #[.bool false, .slice a2 (dig (numN r)).length c2] 127) = wy := ⟨_, rfl⟩
       have hsy : wy.heap.size = w3.heap.size + 1 := by rw [<- hwy]; simp
       have hz0 : Blk wy w3.heap.size 127 #[.bool false, .slice a2 (dig (numN r)).length c2] := by rw [<- hwy]; exact heap_alloc_new w3 _
       have hbz : Below w3.heap.size w3 wy := by rw [<- hwy]; exact (Below.refl w3.heap.size w3).alloc lc _
       have hbxy := hb3.trans (hbz.mono hb3.size)
       have HZ2 : Hid (∀ W, Below wy.heap.size wy W -> (Blk W w1.heap.size 127 #[.bool false, .slice a1 (dig (numN l)).length c1] /\ MV W (.slice a1 (dig (numN l)).length c1) (numN l) /\ Below W0.heap.size W0 W) /\ Blk W w3.heap.size 127 #[.bool false, .slice a2 (dig (numN r)).length c2] /\ MV W (.slice a2 (dig (numN r)).length c2) (numN r)) := hG (fun W h => by
        have h2 := hbz.trans (h.mono hbz.size)
        exact ⟨HZ1.out W (hbxy.trans (h.mono hbxy.size)), hz0.below h (by omega), hm2.below h2 lc⟩)
       have hn0 : (decide ((0 : Int) < ((dig (numN r)).length : Int))) = decide (numN r ≠ 0) := by
        rw [Bool.eq_iff_iff, decide_eq_true_iff, decide_eq_true_iff, ne_eq, <- dig_len_pos]; omega
       have HWY := hG hwy; have HR2 := hG hr2
       clear hwy hz0 hbz hbxy hm2 hv2 hb3 hr2 e1 e2 e3 i1
       by_cases hnr : numN r = 0
       · have e4 : ¬ ((0 : Int) < ((dig (numN r)).length : Int)) := by have := dig_len_pos.2 hnr; omega
         have hpt : partN l = (numN l, 1, 47 :: r) := by unfold partN; rw [if_neg hp, HT.out]; show (if _ then _ else _) = _; rw [if_neg (fun h => h.2 hnr)]
         have HPT := hG hpt
         rw [HT.out] at HR1
         clear hpt hnr hn0
         go_wp2_with fail
         rw [HWY.out]
         clear e4
         obtain ⟨⟨hz, -, -⟩, -⟩ := HZ2.out wy bg
         have z0 := hz.cell 0
         have z1 := hz.cell 1
         simp only [List.getElem?_toArray, List.getElem?_cons_succ, List.getElem?_cons_zero] at z0 z1
         clear hz
         go_region_with (go_at_call 118; refine (zOf_any 1 _ (by omega) (by omega)).mono ?_; rintro e w5 ⟨⟨v5, rfl, hv5⟩, hb5⟩; obtain ⟨x5, rfl, hm5⟩ := hv5.mv; obtain ⟨a5, c5, rfl⟩ := hm5.cases; have hb6 := ((Below.refl wy.heap.size wy).drew).trans hb5; obtain ⟨⟨hz, hn5, hbx⟩, -⟩ := HZ2.out w5 hb6; have hq := HQ0.out.below hbx (by omega); have k0 := hq.cell 0; have k1 := hq.cell 1; have k2 := hq.cell 2; have k3 := hq.cell 3; have f0 := hq.free 0; have f1 := hq.free 1; have f2 := hq.free 2; have f3 := hq.free 3; have y0 := hz.cell 0; have y1 := hz.cell 1; simp only [List.getElem?_toArray, List.getElem?_cons_succ, List.getElem?_cons_zero] at k0 k1 k2 k3 y0 y1; have HD := hG hm5; have HN := hG hn5; have HBX := hG hbx; clear hm5 hv5 hb5 hb6 hbx hq hz hn5)
         all_goals
          have hbf := HB0.out.trans (HBX.out.mono HB0.out.size)
          go_wp2_with fail
          refine bodyPost_ret (v := .tuple #[.agg #[.bool false, .slice a1 (dig (numN l)).length c1, .bool false, .slice a5 (dig (1 : Int).natAbs).length c5], .string r1]) (by simp [results, Tryz.results227, go_sem, k0, k1, k2, k3]) rfl ?_
          rw [HPT.out]
          exact ⟨⟨_, _, rfl, ⟨_, _, rfl, HN.out.box4 k0 k1 k2 k3, HD.out.box4 k0 k1 k2 k3⟩, HR1.out⟩, (((hbf.setCell lc _).setCell lc _).setCell lc _).setCell lc _⟩
       · have e4 : (0 : Int) < ((dig (numN r)).length : Int) := by have := mt dig_len_pos.1 hnr; omega
         have hpt : partN l = (numN l / Nat.gcd (numN l) (numN r), numN r / Nat.gcd (numN l) (numN r), numT r) := by unfold partN; rw [if_neg hp, HT.out]; show (if _ then _ else _) = _; rw [if_pos ⟨rfl, hnr⟩]
         have HPT := hG hpt
         have hl1 := dig_501 (numN_lt l)
         have hl2 := dig_501 (numN_lt r)
         have hqo := fun W (h : Below wy.heap.size wy W) => qOf_pos (.agg #[.bool false, .slice a1 (dig (numN l)).length c1]) (.agg #[.bool false, .slice a2 (dig (numN r)).length c2]) (numN l : Nat) (numN r) W (zv_nat (HZ2.out W h).1.2.1) (zv_nat (HZ2.out W h).2.2) hnr (by rw [Int.natAbs_natCast]; omega) (by omega)
         have HQO := hG hqo
         obtain ⟨⟨hz, -, -⟩, hz2, -⟩ := HZ2.out wy bg
         have z0 := hz.cell 0
         have z1 := hz.cell 1
         have y0 := hz2.cell 0
         have y1 := hz2.cell 1
         simp only [List.getElem?_toArray, List.getElem?_cons_succ, List.getElem?_cons_zero] at z0 z1 y0 y1
         rw [<- HWY.out] at z0 z1 y0 y1
         clear hpt hn0 hqo hl1 hl2 hz hz2
         go_wp2_with fail
         rw [HWY.out]
         clear z0 z1 y0 y1
         refine (HQO.out wy bg).mono ?_
         rintro e w5 ⟨⟨v5, rfl, vn, vd, rfl, hn, hd⟩, hb5⟩
         rw [Int.natAbs_natCast] at hn hd
         rw [decide_eq_false (by omega : ¬ ((numN l : Nat) : Int) < 0)]
         obtain ⟨an, cn, rfl⟩ := hn.cases
         obtain ⟨ad, cd, rfl⟩ := hd.cases
         obtain ⟨⟨-, -, hbx⟩, -⟩ := HZ2.out w5 hb5
         have HN := hG hn; have HD := hG hd
         clear hn hd hb5 e4
         have hq := HQ0.out.below hbx (by omega)
         have k0 := hq.cell 0
         have k1 := hq.cell 1
         have k2 := hq.cell 2
         have k3 := hq.cell 3
         have f0 := hq.free 0
         have f1 := hq.free 1
         have f2 := hq.free 2
         have f3 := hq.free 3
         simp only [List.getElem?_toArray, List.getElem?_cons_succ, List.getElem?_cons_zero] at k0 k1 k2 k3
         clear hq
         have hbf := HB0.out.trans (hbx.mono HB0.out.size)
         go_wp2_with fail
         refine bodyPost_ret (v := .tuple #[.agg #[.bool false, .slice an (dig (numN l / Nat.gcd (numN l) (numN r))).length cn, .bool false, .slice ad (dig (numN r / Nat.gcd (numN l) (numN r))).length cd], .string r2]) (by simp [results, Tryz.results227, go_sem, k0, k1, k2, k3]) rfl ?_
         rw [HPT.out]
         exact ⟨⟨_, _, rfl, ⟨_, _, rfl, HN.out.box4 k0 k1 k2 k3, HD.out.box4 k0 k1 k2 k3⟩, HR2.out⟩, (((hbf.setCell lc _).setCell lc _).setCell lc _).setCell lc _⟩
     · have e3 : ((r1[0].toNat : Int) == 47) = false := by
        rw [Bool.eq_false_iff, ne_eq, beq_iff_eq, hc2]
        intro h
        exact hc47 (UInt8.toNat_inj.1 (by show c.toNat = 47; omega))
       have hpt : partN l = (numN l, 1, c :: r) := by unfold partN; rw [if_neg hp, hT]; show (if _ then _ else _) = _; rw [if_neg (fun h => hc47 h.1)]
       have HPT := hG hpt
       rw [hT] at HR1
       clear hpt hc1 hc2 hc47 hT hlr
       go_wp2_with fail
       rw [HWX.out]
       clear e1 e2 e3
       obtain ⟨hz, -, -⟩ := HZ1.out wx bg
       have z0 := hz.cell 0
       have z1 := hz.cell 1
       simp only [List.getElem?_toArray, List.getElem?_cons_succ, List.getElem?_cons_zero] at z0 z1
       clear hz
       go_region_with (go_at_call 118; refine (zOf_any 1 _ (by omega) (by omega)).mono ?_; rintro e w5 ⟨⟨v5, rfl, hv5⟩, hb5⟩; obtain ⟨x5, rfl, hm5⟩ := hv5.mv; obtain ⟨a5, c5, rfl⟩ := hm5.cases; have hb6 := ((Below.refl wx.heap.size wx).drew).trans hb5; obtain ⟨hz, hn5, hbx⟩ := HZ1.out w5 hb6; have hq := HQ0.out.below hbx (by omega); have k0 := hq.cell 0; have k1 := hq.cell 1; have k2 := hq.cell 2; have k3 := hq.cell 3; have f0 := hq.free 0; have f1 := hq.free 1; have f2 := hq.free 2; have f3 := hq.free 3; have y0 := hz.cell 0; have y1 := hz.cell 1; simp only [List.getElem?_toArray, List.getElem?_cons_succ, List.getElem?_cons_zero] at k0 k1 k2 k3 y0 y1; have HD := hG hm5; have HN := hG hn5; have HBX := hG hbx; clear hm5 hv5 hb5 hb6 hbx hq hz hn5)
       all_goals
        have hbf := HB0.out.trans (HBX.out.mono HB0.out.size)
        go_wp2_with fail
        refine bodyPost_ret (v := .tuple #[.agg #[.bool false, .slice a1 (dig (numN l)).length c1, .bool false, .slice a5 (dig (1 : Int).natAbs).length c5], .string r1]) (by simp [results, Tryz.results227, go_sem, k0, k1, k2, k3]) rfl ?_
        rw [HPT.out]
        exact ⟨⟨_, _, rfl, ⟨_, _, rfl, HN.out.box4 k0 k1 k2 k3, HD.out.box4 k0 k1 k2 k3⟩, HR1.out⟩, (((hbf.setCell lc _).setCell lc _).setCell lc _).setCell lc _⟩
set_option maxRecDepth 100000 in
set_option maxHeartbeats 4000000 in
theorem signed_any (s : ByteArray) (w : World) (hs : s.size <= 9223372036854775807) :
 Calls Tryz.prog 212 #[.string s] w fun e w' => (∃ v r, e = .returned (.tuple #[v, .string r]) /\ QV w' v (signN s.data.toList).1 (signN s.data.toList).2.1 (signN s.data.toList).2.2.1 /\ r.data.toList = (signN s.data.toList).2.2.2) /\ Below w.heap.size w w' := by
 obtain ⟨l, hl⟩ : ∃ l, l = s.data.toList := ⟨_, rfl⟩
 have hsl : s.size = l.length := by rw [hl]; rfl
 have hps := fun W => part_any s W hs
 rw [<- hl] at hps
 rw [<- hl]
 obtain ⟨W0, hW0⟩ : ∃ W0, w.alloc (.cells #[.bool false, .slice none 0 0, .bool false, .slice none 0 0] 129) = W0 := ⟨_, rfl⟩
 have hb0 : Below w.heap.size w W0 := by rw [<- hW0]; exact (Below.refl _ w).alloc lc _
 have q0 : Blk W0 w.heap.size 129 #[.bool false, .slice none 0 0, .bool false, .slice none 0 0] := by rw [<- hW0]; exact heap_alloc_new w _
 have hsz0 : W0.heap.size = w.heap.size + 1 := by rw [<- hW0]; simp
 have HB0 := hG hb0; have HQ0 := hG q0; have HW0 := hG hW0; have HPS := hG hps
 clear hb0 q0 hW0 hps
 rcases l with _ | ⟨c, r⟩
 · have e1 : ¬ ((0 : Int) < (s.size : Int)) := by rw [hsl]; simp
   obtain ⟨P, hP⟩ : ∃ P, P = partN [] := ⟨_, rfl⟩
   have hsp : signN [] = (false, P) := by rw [hP]; rfl
   have HSP := hG hsp
   rw [<- hP] at HPS
   clear hsp hP hsl hl
   go_enter Tryz.func212, Tryz.ntmps212
   go_wp2_with fail
   rw [HW0.out]
   refine (HPS.out W0).mono ?_
   rintro e w1 ⟨⟨v1, r1, rfl, ⟨vn, vd, rfl, hn, hd⟩, hr1⟩, hb1⟩
   obtain ⟨an, cn, rfl⟩ := hn.cases
   obtain ⟨ad, cd, rfl⟩ := hd.cases
   have HN := hG hn; have HD := hG hd; have HR := hG hr1
   clear hn hd hr1
   have hq := HQ0.out.below hb1 (by omega)
   have k0 := hq.cell 0
   have k1 := hq.cell 1
   have k2 := hq.cell 2
   have k3 := hq.cell 3
   have f0 := hq.free 0
   have f1 := hq.free 1
   have f2 := hq.free 2
   have f3 := hq.free 3
   simp only [List.getElem?_toArray, List.getElem?_cons_succ, List.getElem?_cons_zero] at k0 k1 k2 k3
   clear hq
   have hbf := HB0.out.trans (hb1.mono HB0.out.size)
   clear hb1
   go_wp2_with fail
   refine bodyPost_ret (v := .tuple #[.agg #[.bool false, .slice an (dig P.1).length cn, .bool false, .slice ad (dig P.2.1).length cd], .string r1]) (by simp [results, Tryz.results212, go_sem, k0, k1, k2, k3]) rfl ?_
   rw [HSP.out]
   exact ⟨⟨_, _, rfl, ⟨_, _, rfl, HN.out.box4 k0 k1 k2 k3, HD.out.box4 k0 k1 k2 k3⟩, HR.out⟩, (((hbf.setCell lc _).setCell lc _).setCell lc _).setCell lc _⟩
 · have hpos : 0 < s.size := by rw [hsl]; simp
   obtain ⟨c', hc1, hc2⟩ := byte_get (t := s) (i := 0) hpos
   rw [<- hl] at hc1
   obtain rfl : c = c' := by simpa using hc1
   have e1 : (0 : Int) < (s.size : Int) := by omega
   have i1 : (1 : Int) <= (s.size : Int) := by omega
   have he2 : (s.extract 1 s.size).data.toList = r := by
    have : (s.extract 1 s.size).data.toList = (s.data.toList.drop 1).take (s.size - 1) := by simp [ByteArray.data_extract]
    rw [this, <- hl, List.drop_succ_cons, List.drop_zero, List.take_of_length_le]
    rw [hsl, List.length_cons]; omega
   have hes : (s.extract 1 s.size).size <= s.size := by
    have : (s.extract 1 s.size).size = r.length := by rw [<- he2]; rfl
    rw [this, hsl, List.length_cons]; omega
   have hpr := fun W => part_any (s.extract 1 s.size) W (by omega)
   rw [he2] at hpr
   have HPR := hG hpr
   clear hpr he2 hes hsl hl hc1
   by_cases h45 : c = 45
   · have e3 : ((s[0].toNat : Int) == 45) = true := by rw [hc2, h45]; rfl
     obtain ⟨P, hP⟩ : ∃ P, P = partN r := ⟨_, rfl⟩
     have hsp : signN (c :: r) = (decide (P.1 ≠ 0), P) := by rw [hP]; show (if c = 45 then _ else _) = _; rw [if_pos h45]
     have HSP := hG hsp
     rw [<- hP] at HPR
     clear hsp hP HPS hc2 h45
     go_enter Tryz.func212, Tryz.ntmps212
     go_wp2_with fail
     rw [HW0.out]
     refine (HPR.out W0).mono ?_
     rintro e w1 ⟨⟨v1, r1, rfl, hv1, hr1⟩, hb1⟩
     have hng := fun W (h : Below w1.heap.size w1 W) => qNeg_any v1 (P.1 : Nat) P.2.1 W (by rw [decide_eq_false (by omega : ¬ ((P.1 : Nat) : Int) < 0), Int.natAbs_natCast]; exact hv1.below h lc)
     obtain ⟨vn, vd, rfl, hn, hd⟩ := hv1
     obtain ⟨an, cn, rfl⟩ := hn.cases
     obtain ⟨ad, cd, rfl⟩ := hd.cases
     have HNG := hG hng; have HR := hG hr1
     clear hng hr1 hn hd
     go_wp2_with fail
     refine (HNG.out _ ((Below.refl w1.heap.size w1).alloc lc _)).mono ?_
     rintro e w2 ⟨⟨v2, rfl, vn, vd, rfl, hn, hd⟩, hb2⟩
     have hz : decide (-((P.1 : Nat) : Int) < 0) = decide (P.1 ≠ 0) := by rw [Bool.eq_iff_iff, decide_eq_true_iff, decide_eq_true_iff]; omega
     rw [hz]
     rw [Int.natAbs_neg, Int.natAbs_natCast] at hn
     obtain ⟨an, cn, rfl⟩ := hn.cases
     obtain ⟨ad, cd, rfl⟩ := hd.cases
     have HN := hG hn; have HD := hG hd
     have hbx : Below W0.heap.size W0 w2 := (hb1.alloc hb1.size _).trans (hb2.mono (by simp; have := hb1.size; omega))
     clear hn hd hb1 hb2 hz
     have hq := HQ0.out.below hbx (by omega)
     have k0 := hq.cell 0
     have k1 := hq.cell 1
     have k2 := hq.cell 2
     have k3 := hq.cell 3
     have f0 := hq.free 0
     have f1 := hq.free 1
     have f2 := hq.free 2
     have f3 := hq.free 3
     simp only [List.getElem?_toArray, List.getElem?_cons_succ, List.getElem?_cons_zero] at k0 k1 k2 k3
     clear hq
     have hbf := HB0.out.trans (hbx.mono HB0.out.size)
     clear hbx
     go_wp2_with fail
     refine bodyPost_ret (v := .tuple #[.agg #[.bool (decide (P.1 ≠ 0)), .slice an (dig P.1).length cn, .bool false, .slice ad (dig P.2.1).length cd], .string r1]) (by simp [results, Tryz.results212, go_sem, k0, k1, k2, k3]) rfl ?_
     rw [HSP.out]
     exact ⟨⟨_, _, rfl, ⟨_, _, rfl, HN.out.box4 k0 k1 k2 k3, HD.out.box4 k0 k1 k2 k3⟩, HR.out⟩, (((hbf.setCell lc _).setCell lc _).setCell lc _).setCell lc _⟩
   · have e3 : ((s[0].toNat : Int) == 45) = false := by
      rw [Bool.eq_false_iff, ne_eq, beq_iff_eq, hc2]
      intro h
      exact h45 (UInt8.toNat_inj.1 (by show c.toNat = 45; omega))
     by_cases h43 : c = 43
     · have e4 : ((s[0].toNat : Int) == 43) = true := by rw [hc2, h43]; rfl
       obtain ⟨P, hP⟩ : ∃ P, P = partN r := ⟨_, rfl⟩
       have hsp : signN (c :: r) = (false, P) := by rw [hP]; show (if c = 45 then _ else _) = _; rw [if_neg h45, if_pos h43]
       have HSP := hG hsp
       rw [<- hP] at HPR
       clear hsp hP HPS hc2 h45 h43
       go_enter Tryz.func212, Tryz.ntmps212
       go_wp2_with fail
       rw [HW0.out]
       refine (HPR.out W0).mono ?_
       rintro e w1 ⟨⟨v1, r1, rfl, ⟨vn, vd, rfl, hn, hd⟩, hr1⟩, hb1⟩
       obtain ⟨an, cn, rfl⟩ := hn.cases
       obtain ⟨ad, cd, rfl⟩ := hd.cases
       have HN := hG hn; have HD := hG hd; have HR := hG hr1
       clear hn hd hr1
       have hq := HQ0.out.below hb1 (by omega)
       have k0 := hq.cell 0
       have k1 := hq.cell 1
       have k2 := hq.cell 2
       have k3 := hq.cell 3
       have f0 := hq.free 0
       have f1 := hq.free 1
       have f2 := hq.free 2
       have f3 := hq.free 3
       simp only [List.getElem?_toArray, List.getElem?_cons_succ, List.getElem?_cons_zero] at k0 k1 k2 k3
       clear hq
       have hbf := HB0.out.trans (hb1.mono HB0.out.size)
       clear hb1
       go_wp2_with fail
       refine bodyPost_ret (v := .tuple #[.agg #[.bool false, .slice an (dig P.1).length cn, .bool false, .slice ad (dig P.2.1).length cd], .string r1]) (by simp [results, Tryz.results212, go_sem, k0, k1, k2, k3]) rfl ?_
       rw [HSP.out]
       exact ⟨⟨_, _, rfl, ⟨_, _, rfl, HN.out.box4 k0 k1 k2 k3, HD.out.box4 k0 k1 k2 k3⟩, HR.out⟩, (((hbf.setCell lc _).setCell lc _).setCell lc _).setCell lc _⟩
     · have e4 : ((s[0].toNat : Int) == 43) = false := by
        rw [Bool.eq_false_iff, ne_eq, beq_iff_eq, hc2]
        intro h
        exact h43 (UInt8.toNat_inj.1 (by show c.toNat = 43; omega))
       obtain ⟨P, hP⟩ : ∃ P, P = partN (c :: r) := ⟨_, rfl⟩
       have hsp : signN (c :: r) = (false, P) := by rw [hP]; show (if c = 45 then _ else _) = _; rw [if_neg h45, if_neg h43]
       have HSP := hG hsp
       rw [<- hP] at HPS
       clear hsp hP HPR hc2 h45 h43
       go_enter Tryz.func212, Tryz.ntmps212
       go_wp2_with fail
       rw [HW0.out]
       refine (HPS.out W0).mono ?_
       rintro e w1 ⟨⟨v1, r1, rfl, ⟨vn, vd, rfl, hn, hd⟩, hr1⟩, hb1⟩
       obtain ⟨an, cn, rfl⟩ := hn.cases
       obtain ⟨ad, cd, rfl⟩ := hd.cases
       have HN := hG hn; have HD := hG hd; have HR := hG hr1
       clear hn hd hr1
       have hq := HQ0.out.below hb1 (by omega)
       have k0 := hq.cell 0
       have k1 := hq.cell 1
       have k2 := hq.cell 2
       have k3 := hq.cell 3
       have f0 := hq.free 0
       have f1 := hq.free 1
       have f2 := hq.free 2
       have f3 := hq.free 3
       simp only [List.getElem?_toArray, List.getElem?_cons_succ, List.getElem?_cons_zero] at k0 k1 k2 k3
       clear hq
       have hbf := HB0.out.trans (hb1.mono HB0.out.size)
       clear hb1
       go_wp2_with fail
       refine bodyPost_ret (v := .tuple #[.agg #[.bool false, .slice an (dig P.1).length cn, .bool false, .slice ad (dig P.2.1).length cd], .string r1]) (by simp [results, Tryz.results212, go_sem, k0, k1, k2, k3]) rfl ?_
       rw [HSP.out]
       exact ⟨⟨_, _, rfl, ⟨_, _, rfl, HN.out.box4 k0 k1 k2 k3, HD.out.box4 k0 k1 k2 k3⟩, HR.out⟩, (((hbf.setCell lc _).setCell lc _).setCell lc _).setCell lc _⟩
def CG (w : World) (v : Value) (s : Bool) (n d : Nat) (t : Bool) (m e : Nat) : Prop := ∃ va vb vc vd, v = .agg #[.bool s, va, .bool false, vb, .bool t, vc, .bool false, vd] /\ MV w va n /\ MV w vb d /\ MV w vc m /\ MV w vd e
theorem CG.below {w w' : World} {B : Nat} {v : Value} {s t : Bool} {n d m e : Nat} (h : CG w v s n d t m e) (hb : Below B w w') (hB : w.heap.size <= B) : CG w' v s n d t m e := by
 obtain ⟨a, b, c, e', rfl, h1, h2, h3, h4⟩ := h
 exact ⟨a, b, c, e', rfl, h1.below hb hB, h2.below hb hB, h3.below hb hB, h4.below hb hB⟩
theorem CG.cr {w : World} {v : Value} {s : Bool} {n d : Nat} (h : CG w v s n d false 0 1) : CR w v s n d := by
 obtain ⟨a, b, c, e, rfl, h1, h2, h3, h4⟩ := h
 exact ⟨a, b, c, e, rfl, h1, h2, h3, h4⟩
set_option maxRecDepth 100000 in
set_option maxHeartbeats 2000000 in
theorem refBigG_any (v : Value) (s t : Bool) (n d m e : Nat) (w : World) (hv : CG w v s n d t m e) (hl : (dig n).length <= 549755813888) (hl2 : (dig d).length <= 549755813888) (hl3 : (dig m).length <= 549755813888) (hl4 : (dig e).length <= 549755813888) :
 Calls Tryz.prog 122 #[v] w fun x w' => x = .returned (.bool (bigZ n d || bigZ m e)) /\ Below w.heap.size w w' := by
 obtain ⟨va, vb, vc, vd, rfl, ha, hb, hc, hdd⟩ := hv
 have HA := hG ha; have HB := hG hb; have HC := hG hc; have HD := hG hdd
 obtain ⟨aa, ca, rfl⟩ := ha.cases
 obtain ⟨ab, cb, rfl⟩ := hb.cases
 obtain ⟨ac, cc, rfl⟩ := hc.cases
 obtain ⟨ad, cd, rfl⟩ := hdd.cases
 clear ha hb hc hdd
 have g1 := fun W (h : MV W (.slice aa (dig n).length ca) n) => long_any s _ n W h hl
 have g2 := fun W (h : MV W (.slice ab (dig d).length cb) d) => long_any false _ d W h hl2
 have g3 := fun W (h : MV W (.slice ac (dig m).length cc) m) => long_any t _ m W h hl3
 have g4 := fun W (h : MV W (.slice ad (dig e).length cd) e) => long_any false _ e W h hl4
 have hR : (bigZ n d || bigZ m e) = (decide (2000 < Lib.nDigits n) || (decide (2000 < Lib.nDigits d) || (decide (2000 < Lib.nDigits m) || decide (2000 < Lib.nDigits e)))) := by unfold bigZ; rw [Bool.or_assoc]
 rw [hR]
 clear hR
 generalize decide (2000 < Lib.nDigits n) = k1 at *
 generalize decide (2000 < Lib.nDigits d) = k2 at *
 generalize decide (2000 < Lib.nDigits m) = k3 at *
 generalize decide (2000 < Lib.nDigits e) = k4 at *
 have G1 := hG g1; have G2 := hG g2; have G3 := hG g3; have G4 := hG g4
 clear g1 g2 g3 g4
 have hal := (Below.refl w.heap.size w).alloc lc (.cells #[.bool s, .slice aa (dig n).length ca, .bool false, .slice ab (dig d).length cb, .bool t, .slice ac (dig m).length cc, .bool false, .slice ad (dig e).length cd] 135)
 cases k1 with
 | true =>
   go_enter Tryz.func122, Tryz.ntmps122
   go_wp2_with fail
   refine (G1.out _ (HA.out.below hal lc)).mono ?_
   rintro e w1 ⟨rfl, hb1⟩
   have hbw := hal.trans (hb1.mono (by simp))
   go_wp2
   go_ret
   exact ⟨rfl, hbw⟩
 | false =>
   cases k2 with
   | true =>
     go_enter Tryz.func122, Tryz.ntmps122
     go_wp2_with fail
     refine (G1.out _ (HA.out.below hal lc)).mono ?_
     rintro e w1 ⟨rfl, hb1⟩
     have hbw := hal.trans (hb1.mono (by simp))
     have q2 : w1.cell? ⟨w.heap.size, 2, none⟩ = some (.bool false) := box_keep hb1 (by simp) 2
     have q3 : w1.cell? ⟨w.heap.size, 3, none⟩ = some (.slice ab (dig d).length cb) := box_keep hb1 (by simp) 3
     go_wp2_with fail
     refine (G2.out _ (HB.out.below hbw lc)).mono ?_
     rintro e w2 ⟨rfl, hb2⟩
     have hbw2 := hbw.trans (hb2.mono hbw.size)
     go_wp2
     go_ret
     exact ⟨rfl, hbw2⟩
   | false =>
     cases k3 with
     | true =>
       go_enter Tryz.func122, Tryz.ntmps122
       go_wp2_with fail
       refine (G1.out _ (HA.out.below hal lc)).mono ?_
       rintro e w1 ⟨rfl, hb1⟩
       have hbw := hal.trans (hb1.mono (by simp))
       have q2 : w1.cell? ⟨w.heap.size, 2, none⟩ = some (.bool false) := box_keep hb1 (by simp) 2
       have q3 : w1.cell? ⟨w.heap.size, 3, none⟩ = some (.slice ab (dig d).length cb) := box_keep hb1 (by simp) 3
       go_wp2_with fail
       refine (G2.out _ (HB.out.below hbw lc)).mono ?_
       rintro e w2 ⟨rfl, hb2⟩
       have hbx := hb1.trans (hb2.mono hb1.size)
       have hbw2 := hbw.trans (hb2.mono hbw.size)
       clear q2 q3
       have q4 : w2.cell? ⟨w.heap.size, 4, none⟩ = some (.bool t) := box_keep hbx (by simp) 4
       have q5 : w2.cell? ⟨w.heap.size, 5, none⟩ = some (.slice ac (dig m).length cc) := box_keep hbx (by simp) 5
       go_wp2_with fail
       refine (G3.out _ (HC.out.below hbw2 lc)).mono ?_
       rintro e w3 ⟨rfl, hb3⟩
       have hbw3 := hbw2.trans (hb3.mono hbw2.size)
       go_wp2
       go_ret
       exact ⟨rfl, hbw3⟩
     | false =>
       go_enter Tryz.func122, Tryz.ntmps122
       go_wp2_with fail
       refine (G1.out _ (HA.out.below hal lc)).mono ?_
       rintro e w1 ⟨rfl, hb1⟩
       have hbw := hal.trans (hb1.mono (by simp))
       have q2 : w1.cell? ⟨w.heap.size, 2, none⟩ = some (.bool false) := box_keep hb1 (by simp) 2
       have q3 : w1.cell? ⟨w.heap.size, 3, none⟩ = some (.slice ab (dig d).length cb) := box_keep hb1 (by simp) 3
       go_wp2_with fail
       refine (G2.out _ (HB.out.below hbw lc)).mono ?_
       rintro e w2 ⟨rfl, hb2⟩
       have hbx := hb1.trans (hb2.mono hb1.size)
       have hbw2 := hbw.trans (hb2.mono hbw.size)
       clear q2 q3
       have q4 : w2.cell? ⟨w.heap.size, 4, none⟩ = some (.bool t) := box_keep hbx (by simp) 4
       have q5 : w2.cell? ⟨w.heap.size, 5, none⟩ = some (.slice ac (dig m).length cc) := box_keep hbx (by simp) 5
       go_wp2_with fail
       refine (G3.out _ (HC.out.below hbw2 lc)).mono ?_
       rintro e w3 ⟨rfl, hb3⟩
       have hbx2 := hbx.trans (hb3.mono hbx.size)
       have hbw3 := hbw2.trans (hb3.mono hbw2.size)
       clear q4 q5
       have q6 : w3.cell? ⟨w.heap.size, 6, none⟩ = some (.bool false) := box_keep hbx2 (by simp) 6
       have q7 : w3.cell? ⟨w.heap.size, 7, none⟩ = some (.slice ad _ cd) := box_keep hbx2 (by simp) 7
       go_wp2_with fail
       refine (G4.out _ (HD.out.below hbw3 lc)).mono ?_
       rintro e w4 ⟨rfl, hb4⟩
       go_wp2
       go_ret
       exact ⟨rfl, hbw3.trans (hb4.mono hbw3.size)⟩
def yT (Y : ByteArray) : ByteArray := if (Y.toList == [49]) = true then ⟨#[]⟩ else if (Y.toList == [45, 49]) = true then ⟨#[45]⟩ else Y
def cT (X Y : ByteArray) (z t : Bool) : ByteArray := (if z = true then ⟨#[]⟩ else if t = true then X else X ++ ⟨#[43]⟩) ++ yT Y ++ ⟨#[105]⟩
theorem cT_i (X Y : ByteArray) (z t : Bool) : Lib.hasSuffix (cT X Y z t).data.toList [105] = true := by
 unfold Lib.hasSuffix cT
 rw [List.isSuffixOf_iff_suffix]
 exact ⟨_, by rw [ByteArray.data_append, Array.toList_append]⟩
theorem qT_size {s : Bool} {n d : Nat} (h : (dig n).length <= 501) (h2 : (dig d).length <= 501) : (qT s n d).size <= 4398046511108 := by
 have a := digits_bd (n := n) (by omega)
 have b := digits_bd (n := d) (by omega)
 have c := zT_size s n
 have e := dcB_size d
 unfold qT
 split
 · omega
 · rw [ByteArray.size_append, ByteArray.size_append, e]
   have : (⟨#[47]⟩ : ByteArray).size = 1 := rfl
   omega
set_option maxRecDepth 100000 in
set_option maxHeartbeats 2000000 in
theorem refTextG_any (v : Value) (s t : Bool) (n d m e : Nat) (w : World) (hv : CG w v s n d t m e) (hm : m ≠ 0) (hd : d ≠ 0) (he : e ≠ 0) (hl : (dig n).length <= 501) (hl2 : (dig d).length <= 501) (hl3 : (dig m).length <= 501) (hl4 : (dig e).length <= 501) :
 Calls Tryz.prog 123 #[v] w fun x w' => x = .returned (.string (cT (qT s n d) (qT t m e) (decide (n = 0)) t)) /\ Below w.heap.size w w' := by
 obtain ⟨va, vb, vc, vd, rfl, ha, hb, hc, hdd⟩ := hv
 have HA := hG ha; have HB := hG hb; have HC := hG hc; have HD := hG hdd
 obtain ⟨aa, ca, rfl⟩ := ha.cases
 obtain ⟨ab, cb, rfl⟩ := hb.cases
 obtain ⟨ac, cc, rfl⟩ := hc.cases
 obtain ⟨ad, cd, rfl⟩ := hdd.cases
 clear ha hb hc hdd
 have hzX := fun W (h : Below w.heap.size w W) => qZero_any (.agg #[.bool s, .slice aa (dig n).length ca, .bool false, .slice ab (dig d).length cb]) s n d W ⟨_, _, rfl, HA.out.below h lc, HB.out.below h lc⟩
 have hzY := fun W (h : Below w.heap.size w W) => qZero_any (.agg #[.bool t, .slice ac (dig m).length cc, .bool false, .slice ad (dig e).length cd]) t m e W ⟨_, _, rfl, HC.out.below h lc, HD.out.below h lc⟩
 have htX := fun W (h : Below w.heap.size w W) => qText_any (.agg #[.bool s, .slice aa (dig n).length ca, .bool false, .slice ab (dig d).length cb]) s n d W ⟨_, _, rfl, HA.out.below h lc, HB.out.below h lc⟩ hd (by omega) (by omega)
 have htY := fun W (h : Below w.heap.size w W) => qText_any (.agg #[.bool t, .slice ac (dig m).length cc, .bool false, .slice ad (dig e).length cd]) t m e W ⟨_, _, rfl, HC.out.below h lc, HD.out.below h lc⟩ he (by omega) (by omega)
 rw [decide_eq_false hm] at hzY
 have HZX := hG hzX; have HZY := hG hzY; have HTX := hG htX; have HTY := hG htY
 have sX := qT_size (s := s) hl hl2
 have sY := qT_size (s := t) hl3 hl4
 have s43 : (⟨#[43]⟩ : ByteArray).size = 1 := rfl
 have s45 : (⟨#[45]⟩ : ByteArray).size = 1 := rfl
 have s105 : (⟨#[105]⟩ : ByteArray).size = 1 := rfl
 have s0 : (⟨#[]⟩ : ByteArray).size = 0 := rfl
 generalize qT s n d = X at *
 generalize qT t m e = Y at *
 generalize hk : decide (n = 0) = kn at *
 clear hzX hzY htX htY hk hm hd he HA HB HC HD
 obtain ⟨W0, hW0⟩ : ∃ W0, W0 = w.alloc (.cells #[.bool s, .slice aa (dig n).length ca, .bool false, .slice ab (dig d).length cb, .bool t, .slice ac (dig m).length cc, .bool false, .slice ad (dig e).length cd] 135) := ⟨_, rfl⟩
 have hal : Below w.heap.size w W0 := by rw [hW0]; exact (Below.refl _ w).alloc lc _
 have hs0 : W0.heap.size = w.heap.size + 1 := by rw [hW0]; simp
 have r0 : Blk W0 w.heap.size 135 #[.bool s, .slice aa (dig n).length ca, .bool false, .slice ab (dig d).length cb, .bool t, .slice ac (dig m).length cc, .bool false, .slice ad (dig e).length cd] := by rw [hW0]; exact heap_alloc_new w _
 have HK : Hid (∀ W, Below W0.heap.size W0 W -> (W.cell? ⟨w.heap.size, 0, none⟩ = some (.bool s) /\ W.cell? ⟨w.heap.size, 1, none⟩ = some (.slice aa (dig n).length ca) /\ W.cell? ⟨w.heap.size, 2, none⟩ = some (.bool false) /\ W.cell? ⟨w.heap.size, 3, none⟩ = some (.slice ab (dig d).length cb) /\ W.cell? ⟨w.heap.size, 4, none⟩ = some (.bool t) /\ W.cell? ⟨w.heap.size, 5, none⟩ = some (.slice ac (dig m).length cc) /\ W.cell? ⟨w.heap.size, 6, none⟩ = some (.bool false) /\ W.cell? ⟨w.heap.size, 7, none⟩ = some (.slice ad (dig e).length cd)) /\ Below w.heap.size w W) := hG (fun W h => by
  have hq := r0.below h (by omega)
  exact ⟨⟨hq.cell 0, hq.cell 1, hq.cell 2, hq.cell 3, hq.cell 4, hq.cell 5, hq.cell 6, hq.cell 7⟩, hal.trans (h.mono (by omega))⟩)
 have HW0 := hG hW0
 clear hW0 hal hs0 r0
 generalize (dig n).length = l1 at *
 generalize (dig d).length = l2 at *
 generalize (dig m).length = l3 at *
 generalize (dig e).length = l4 at *
 cases kn
 · cases t
   all_goals
    obtain ⟨⟨q0, q1, q2, q3, q4, q5, q6, q7⟩, hbw⟩ := HK.out W0 bg
    rw [HW0.out] at q0 q1 q2 q3 q4 q5 q6 q7
    go_enter Tryz.func123, Tryz.ntmps123
    go_wp2_with fail
    rw [<- HW0.out]
    refine (HZY.out W0 hbw).mono ?_
    rintro e w1 ⟨rfl, hb1⟩
    clear q0 q1 q2 q3 q4 q5 q6 q7
    obtain ⟨⟨q0, q1, q2, q3, q4, q5, q6, q7⟩, hbw⟩ := HK.out w1 hb1
    go_wp2_with fail
    refine (HZX.out w1 hbw).mono ?_
    rintro e w2 ⟨rfl, hb2⟩
    have hb2 := hb1.trans (hb2.mono hb1.size)
    clear q0 q1 q2 q3 q4 q5 q6 q7 hbw
    obtain ⟨⟨q0, q1, q2, q3, q4, q5, q6, q7⟩, hbw⟩ := HK.out w2 hb2
    go_wp2_with fail
    refine (HTX.out w2 hbw).mono ?_
    rintro e w3 ⟨rfl, hb3⟩
    have hb3 := hb2.trans (hb3.mono hb2.size)
    clear q0 q1 q2 q3 q4 q5 q6 q7 hbw
    obtain ⟨⟨q0, q1, q2, q3, q4, q5, q6, q7⟩, hbw⟩ := HK.out w3 hb3
    go_wp2_with fail
    refine (HTY.out w3 hbw).mono ?_
    rintro e w4 ⟨rfl, hb4⟩
    have hbw4 := hbw.trans (hb4.mono hbw.size)
    go_wp2_with fail
    all_goals
     go_ret
     refine ⟨?_, hbw4⟩
     unfold cT yT
     simp_all
 ·
  obtain ⟨⟨q0, q1, q2, q3, q4, q5, q6, q7⟩, hbw⟩ := HK.out W0 bg
  rw [HW0.out] at q0 q1 q2 q3 q4 q5 q6 q7
  go_enter Tryz.func123, Tryz.ntmps123
  go_wp2_with fail
  rw [<- HW0.out]
  refine (HZY.out W0 hbw).mono ?_
  rintro e w1 ⟨rfl, hb1⟩
  clear q0 q1 q2 q3 q4 q5 q6 q7
  obtain ⟨⟨q0, q1, q2, q3, q4, q5, q6, q7⟩, hbw⟩ := HK.out w1 hb1
  go_wp2_with fail
  refine (HZX.out w1 hbw).mono ?_
  rintro e w2 ⟨rfl, hb2⟩
  have hb2 := hb1.trans (hb2.mono hb1.size)
  clear q0 q1 q2 q3 q4 q5 q6 q7 hbw
  obtain ⟨⟨q0, q1, q2, q3, q4, q5, q6, q7⟩, hbw⟩ := HK.out w2 hb2
  go_wp2_with fail
  refine (HTY.out w2 hbw).mono ?_
  rintro e w4 ⟨rfl, hb4⟩
  have hbw4 := hbw.trans (hb4.mono hbw.size)
  go_wp2_with fail
  all_goals
   go_ret
   refine ⟨?_, hbw4⟩
   unfold cT yT
   simp_all
end Go.Proofs.YtahnadhlagabgaaGreatDoor.Z4

namespace Go.Proofs.YtahnadhlagabgaaGreatDoor
open Go.RowKit
def cutB : List UInt8 -> List (List UInt8)
 | [] => [[]]
 | c :: r => if c = 47 then [] :: cutB r else (match cutB r with | x :: xs => (c :: x) :: xs | [] => [[c]])
theorem cutB_ne (l : List UInt8) : cutB l ≠ [] := by
 cases l with
 | nil => simp [cutB]
 | cons c r => simp only [cutB]; split <;> (try split) <;> simp
theorem cutB_none : ∀ {l : List UInt8}, (∀ b ∈ l, b ≠ 47) -> cutB l = [l] := by
 intro l
 induction l with
 | nil => intro _; rfl
 | cons c r ih =>
   intro h
   rw [cutB, if_neg (h c (by simp)), ih (fun b hb => h b (by simp [hb]))]
theorem cutB_some : ∀ {l m : List UInt8}, (∀ b ∈ l, b ≠ 47) -> cutB (l ++ 47 :: m) = l :: cutB m := by
 intro l
 induction l with
 | nil => intro m _; simp [cutB]
 | cons c r ih =>
   intro m h
   rw [List.cons_append, cutB, if_neg (h c (by simp)), ih (fun b hb => h b (by simp [hb]))]
def natS (l : List UInt8) : Option Nat := if l.length < 1 ∨ 6 < l.length ∨ (l.head? = some 48 /\ 1 < l.length) ∨ l.all isDg = false then none else some (dval l)
theorem dec_head10 : ∀ (n : Nat), 0 < n -> ∃ c r, Lib.decDigits n = c :: r /\ c ≠ 48 := by
 intro n
 induction n using Nat.strongRecOn with
 | ind n ih =>
   intro hn
   rw [Lib.decDigits]
   split
   · rename_i h
     refine ⟨_, [], rfl, ?_⟩
     intro h2
     have h3 := congrArg UInt8.toNat h2
     rw [(dg_of n h).2] at h3
     have : (48 : UInt8).toNat = 48 := rfl
     omega
   · obtain ⟨c, r, h1, h2⟩ := ih (n / 10) (by omega) (by omega)
     exact ⟨c, r ++ [UInt8.ofNat (48 + n % 10)], by rw [h1]; rfl, h2⟩
theorem dec_head {n : Nat} (h : 1 < (Lib.decDigits n).length) : (Lib.decDigits n).head? ≠ some 48 := by
 have hn : 0 < n := by
  apply Nat.pos_of_ne_zero
  rintro rfl
  rw [Lib.decDigits_one (by decide)] at h
  simp at h
 obtain ⟨c, r, h1, h2⟩ := dec_head10 n hn
 rw [h1]
 simpa using h2
theorem natS_dec (n : Nat) : natS (Lib.decDigits n) = if Lib.nDigits n <= 6 then some n else none := by
 obtain ⟨h1, h2, h3⟩ := dec_read n
 have h4 : 0 < (Lib.decDigits n).length := List.length_pos_iff.2 h3
 have h5 := Lib.decDigits_length n
 unfold natS
 split
 · rename_i hc
   rw [if_neg]
   rcases hc with hc | hc | ⟨hc, hc2⟩ | hc
   · omega
   · omega
   · exact absurd hc (dec_head hc2)
   · rw [h1] at hc; cases hc
 · rename_i hc
   rw [if_pos (by omega), h2]
def barQ (s : ByteArray) (b : Bool) : Option (Nat × Nat) :=
 match cutB s.data.toList with
 | [x] => if b = true then (match natS x with | some n => if n <= 1 then some (n, 1) else none | none => none) else none
 | [x, y] => if b = true then (match natS x, natS y with | some n, some d => if n <= d then some (n, d) else none | _, _ => none) else none
 | _ => none
def IsNum (s : ByteArray) (b : Bool) : Prop :=
 (b = true -> (∃ sg n d, s = ratT sg n d /\ d ≠ 0 /\ Nat.gcd n d = 1 /\ (n = 0 -> sg = false) /\ bigQ n d = false) ∨ Lib.hasSuffix s.data.toList [105] = true) /\
 ((Z4.signN s.data.toList).2.2.2 = [] -> s = ratT (Z4.signN s.data.toList).1 (Z4.signN s.data.toList).2.1 (Z4.signN s.data.toList).2.2.1 -> bigQ (Z4.signN s.data.toList).2.1 (Z4.signN s.data.toList).2.2.1 = false -> b = true)
theorem cutB_last : ∀ {l : List UInt8}, l.getLast? = some 105 -> ∃ y, (cutB l).getLast? = some y /\ (105 : UInt8) ∈ y := by
 intro l
 induction l with
 | nil => intro h; cases h
 | cons c r ih =>
   intro h
   rcases hr : r with _ | ⟨d, q⟩
   · subst hr
     simp at h; subst h
     exact ⟨[105], by decide, by simp⟩
   · have h2 : r.getLast? = some 105 := by rw [hr] at h ⊢; rwa [List.getLast?_cons_cons] at h
     obtain ⟨y, h3, h4⟩ := ih h2
     rw [<- hr, cutB]
     split
     · refine ⟨y, ?_, h4⟩
       rcases hc : cutB r with _ | ⟨a, t⟩
       · exact absurd hc (cutB_ne r)
       · rw [List.getLast?_cons_cons, <- hc]; exact h3
     · rcases hc : cutB r with _ | ⟨a, t⟩
       · exact absurd hc (cutB_ne r)
       · rcases ht : t with _ | ⟨b, u⟩
         · rw [hc, ht] at h3
           simp at h3; subst h3
           exact ⟨c :: a, rfl, by simp [h4]⟩
         · rw [hc, ht, List.getLast?_cons_cons] at h3
           exact ⟨y, by simp only [List.getLast?_cons_cons]; exact h3, h4⟩
theorem natS_no {l : List UInt8} {c : UInt8} (h : c ∈ l) (hc : isDg c = false) : natS l = none := by
 unfold natS
 rw [if_pos]
 refine .inr (.inr (.inr ?_))
 rw [Bool.eq_false_iff]
 intro h2
 rw [List.all_eq_true.1 h2 c h] at hc
 cases hc
theorem pfx_dec {n : Nat} {t : List UInt8} (h : Lib.nDigits n <= 6) (ht : t = [] ∨ ∃ c r, t = c :: r /\ isDg c = false) : Z4.pfx (Lib.decDigits n ++ t) = (Lib.decDigits n).length := by
 have hl := Lib.decDigits_length n
 refine Z4.pfx_is (by rw [List.length_append]; omega) (by omega) (by rw [List.take_left]; exact (dec_read n).1) ?_
 rcases ht with rfl | ⟨c, r, rfl, hc⟩
 · left; simp
 · right; right; exact ⟨c, by rw [List.getElem?_append_right lc]; simp, hc⟩
theorem numN_dec {n : Nat} {t : List UInt8} (h : Lib.nDigits n <= 6) (ht : t = [] ∨ ∃ c r, t = c :: r /\ isDg c = false) : Z4.numN (Lib.decDigits n ++ t) = n /\ Z4.numT (Lib.decDigits n ++ t) = t := by
 unfold Z4.numN Z4.numT
 rw [pfx_dec h ht, List.take_left, List.drop_left]
 exact ⟨(dec_read n).2.1, rfl⟩
theorem sign_own {N D : Nat} (hD : D ≠ 0) (hg : Nat.gcd N D = 1) (h1 : Lib.nDigits N <= 6) (h2 : Lib.nDigits D <= 6) : Z4.signN (ratT false N D).data.toList = (false, N, D, []) := by
 have hlp : 0 < (Lib.decDigits N).length := List.length_pos_iff.2 (dec_read N).2.2
 obtain ⟨t, ht⟩ : ∃ t, t = (if D = 1 then [] else 47 :: Lib.decDigits D) := ⟨_, rfl⟩
 have ht2 : t = [] ∨ ∃ c r, t = c :: r /\ isDg c = false := by
  rw [ht]
  split
  · exact .inl rfl
  · exact .inr ⟨_, _, rfl, by decide⟩
 have hl : (ratT false N D).data.toList = Lib.decDigits N ++ t := by rw [ratT_list, ht]; rfl
 have hp : Z4.partN (Lib.decDigits N ++ t) = (N, D, []) := by
  unfold Z4.partN
  rw [if_neg (by rw [pfx_dec h1 ht2]; omega), (numN_dec h1 ht2).2, (numN_dec h1 ht2).1]
  rw [ht]
  by_cases hd : D = 1
  · rw [if_pos hd, hd]
  · have e := numN_dec (t := []) h2 (.inl rfl)
    rw [List.append_nil] at e
    rw [if_neg hd]
    show (if (47 : UInt8) = 47 /\ Z4.numN (Lib.decDigits D) ≠ 0 then _ else _) = _
    rw [e.1, e.2, if_pos ⟨rfl, hD⟩, hg, Nat.div_one, Nat.div_one]
 rw [hl]
 obtain ⟨c, r, hcr⟩ : ∃ c r, Lib.decDigits N ++ t = c :: r := by
  rcases hx : Lib.decDigits N with _ | ⟨c, r⟩
  · rw [hx] at hlp; simp at hlp
  · exact ⟨c, r ++ t, rfl⟩
 have hc : isDg c = true := by
  have h3 : (Lib.decDigits N ++ t)[0]? = some c := by rw [hcr]; rfl
  rw [List.getElem?_append_left hlp] at h3
  exact dec_dg N c (List.mem_of_getElem? h3)
 have hc2 := dg_ne hc
 have hc3 : c ≠ 43 := by rintro rfl; revert hc; decide
 rw [hcr] at hp ⊢
 unfold Z4.signN
 simp only
 rw [if_neg hc2.2.1, if_neg hc3, hp]
theorem barQ_is {s : ByteArray} {b : Bool} (h : IsNum s b) : barQ s b = barS s := by
 cases b with
 | false =>
   have e : barQ s false = none := by unfold barQ; split <;> rfl
   rw [e]
   rcases hb : barS s with _ | ⟨N, D⟩
   · rfl
   · exfalso
     have h6 : Lib.nDigits N <= 6 /\ Lib.nDigits D <= 6 := by
      unfold barS at hb
      split at hb
      · rename_i hr
        obtain ⟨_, sg, N', D', hx⟩ := realB_true hr
        rw [hx] at hb
        simp only at hb
        split at hb
        · rename_i hc
          cases hb
          exact ⟨hc.2.1, hc.2.2.1⟩
        · cases hb
      · cases hb
     obtain ⟨_, hg, _, _, _, hD⟩ := barS_some hb
     obtain ⟨hs, hq, _, hgc, _⟩ := getR_text hg
     have h2 := h.2
     have e2 := sign_own hD hgc h6.1 h6.2
     rw [<- hs] at e2
     rw [e2] at h2
     exact Bool.noConfusion (h2 rfl hs hq)
 | true =>
   rcases h.1 rfl with ⟨sg, n, d, hs, hd, hg, hz, hq⟩ | hi
   · have hgr := getR_own hd hg hz hq
     have hni := ratT_noI sg n d
     have hre : realB s = true := by
      unfold realB
      rw [hs, hni, hgr]; rfl
     unfold barS
     rw [if_pos hre, hs, hgr]
     simp only
     have hnone : ∀ b ∈ (if sg = true then [45] else []) ++ Lib.decDigits n, b ≠ (47 : UInt8) := by
      intro b hb
      rcases List.mem_append.1 hb with h | h
      · split at h
        · rw [List.mem_singleton.1 h]; decide
        · cases h
      · exact (dg_ne (dec_dg n b h)).1
     have hnat : natS ((if sg = true then [45] else []) ++ Lib.decDigits n) = if sg = false /\ Lib.nDigits n <= 6 then some n else none := by
      cases sg with
      | true =>
        rw [if_neg (fun h : (true = false /\ _) => Bool.noConfusion h.1)]
        exact natS_no (c := 45) (List.mem_append_left _ (by rw [if_pos rfl]; exact List.mem_singleton.2 rfl)) (by decide)
      | false =>
        show natS (Lib.decDigits n) = _
        rw [natS_dec]
        simp
     unfold barQ
     rw [ratT_list, <- List.append_assoc]
     by_cases hd1 : d = 1
     · subst hd1
       rw [if_pos rfl, List.append_nil, cutB_none hnone]
       simp only [if_true, hnat]
       have h11 : Lib.nDigits 1 = 1 := Lib.nDigits_small (by decide)
       by_cases hc : sg = false /\ Lib.nDigits n <= 6
       · rw [if_pos hc]
         simp only
         by_cases hc2 : n <= 1
         · rw [if_pos hc2, if_pos ⟨hc.1, hc.2, by omega, hc2⟩]
         · rw [if_neg hc2, if_neg (fun h => hc2 h.2.2.2)]
       · rw [if_neg hc, if_neg (fun h => hc ⟨h.1, h.2.1⟩)]
     · rw [if_neg hd1, cutB_some hnone, cutB_none (fun b hb => (dg_ne (dec_dg d b hb)).1)]
       simp only [if_true, hnat, natS_dec]
       by_cases hc : sg = false /\ Lib.nDigits n <= 6
       · rw [if_pos hc]
         by_cases hc3 : Lib.nDigits d <= 6
         · rw [if_pos hc3]
           simp only
           by_cases hc2 : n <= d
           · rw [if_pos hc2, if_pos ⟨hc.1, hc.2, hc3, hc2⟩]
           · rw [if_neg hc2, if_neg (fun h => hc2 h.2.2.2)]
         · rw [if_neg hc3, if_neg (fun h => hc3 h.2.2.1)]
       · rw [if_neg hc, if_neg (fun h : (sg = false /\ Lib.nDigits n <= 6 /\ Lib.nDigits d <= 6 /\ n <= d) => hc ⟨h.1, h.2.1⟩)]
   · have hre : realB s = false := by unfold realB; rw [hi]; rfl
     have e : barS s = none := by unfold barS; rw [hre]; rfl
     rw [e]
     have hl : s.data.toList.getLast? = some 105 := by
      unfold Lib.hasSuffix at hi
      obtain ⟨t, ht⟩ := List.isSuffixOf_iff_suffix.1 hi
      rw [<- ht]; simp
     obtain ⟨y, h1, h2⟩ := cutB_last hl
     unfold barQ
     split
     · rename_i x hx
       rw [hx] at h1
       simp at h1; subst h1
       rw [natS_no h2 (by decide), if_pos rfl]
     · rename_i x z hx
       rw [hx] at h1
       simp at h1; subst h1
       rw [natS_no h2 (by decide), if_pos rfl]
       cases natS x <;> rfl
     · rfl
end Go.Proofs.YtahnadhlagabgaaGreatDoor
