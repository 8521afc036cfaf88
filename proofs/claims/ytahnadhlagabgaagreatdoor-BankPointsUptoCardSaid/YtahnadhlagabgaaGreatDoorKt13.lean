/- Parts of a proof, in build order: Z8, Z9, Zj, Zk, Zl, O0, O2, O3, Za, Zb, Zc, Zd, Ze. -/
import Derived.Test.YtahnadhlagabgaaGreatDoorKt12
import Derived.Lib.ItoaNum
import Derived.Lib.ItoaLen

namespace Go.Proofs.YtahnadhlagabgaaGreatDoor.Z4
open Go.RowKit
theorem MV.zbox {w : World} {v : Value} {n b : Nat} {x0 : Bool} {a1 : Option Addr} {n1 c1 : Nat} {u0 u1 : Value} (h : MV w v n) (q0 : w.cell? ⟨b, 0, none⟩ = some (.bool x0)) (q1 : w.cell? ⟨b, 1, none⟩ = some (.slice a1 n1 c1)) : MV ((w.setCell ⟨b, 0, none⟩ u0).setCell ⟨b, 1, none⟩ u1) v n := by
 obtain ⟨a, c, h1, h2, h3⟩ := h
 exact ⟨a, c, h1, Z4.zbox h2 q0 q1, h3⟩
theorem ZV.mv {w : World} {v : Value} {n : Int} (h : ZV w v n) : ∃ vd, v = .agg #[.bool (decide (n < 0)), vd] /\ MV w vd n.natAbs := by
 obtain ⟨a, c, h1, h2, h3⟩ := h
 exact ⟨_, h1, a, c, rfl, h2, h3⟩
theorem ZV.of {w : World} {vd : Value} {n : Int} (h : MV w vd n.natAbs) : ZV w (.agg #[.bool (decide (n < 0)), vd]) n := by
 obtain ⟨a, c, h1, h2, h3⟩ := h
 exact ⟨a, c, by rw [h1], h2, h3⟩
set_option maxRecDepth 100000 in
set_option maxHeartbeats 2000000 in
theorem zGcd_any (s1 s2 : Bool) (va vb : Value) (m n : Nat) (w : World) (ha : MV w va m) (hb : MV w vb n) (hl : (dig m).length <= 549755813888) (hl2 : (dig n).length <= 549755813888) :
 Calls Tryz.prog 189 #[.agg #[.bool s1, va], .agg #[.bool s2, vb]] w fun e w' => (∃ v, e = .returned (.agg #[.bool false, v]) /\ MV w' v (Nat.gcd m n)) /\ Below w.heap.size w w' := by
 obtain ⟨aa, ca, rfl⟩ := ha.cases
 obtain ⟨ab, cb, rfl⟩ := hb.cases
 have hbw : Below w.heap.size w (((w.alloc (.cells #[.bool s1, .slice aa (dig m).length ca] 127)).alloc (.cells #[.bool s2, .slice ab (dig n).length cb] 127)).alloc (.cells #[.bool false, .slice none 0 0] 127)) := (((Below.refl w.heap.size w).alloc lc _).alloc (by simp) _).alloc (by simp; omega) _
 have HA := hG (ha.below hbw lc); have HB := hG (hb.below hbw lc); have HBW := hG hbw
 have HL := hG hl; have HL2 := hG hl2
 obtain ⟨q0, q1, q2, f2⟩ := boxes3 (B := w.heap.size + 3) (Below.refl _ (((w.alloc (.cells #[.bool s1, .slice aa (dig m).length ca] 127)).alloc (.cells #[.bool s2, .slice ab (dig n).length cb] 127)).alloc (.cells #[.bool false, .slice none 0 0] 127))) (by omega)
 have q01 := q0 1
 have q11 := q1 1
 simp only [List.getElem?_toArray, List.getElem?_cons_succ, List.getElem?_cons_zero] at q01 q11
 clear ha hb hbw hl hl2 q0 q1 q2 f2
 go_enter Tryz.func189, Tryz.ntmps189
 go_wp2
 go_quiet (fail)
 go_wp2
 go_loopg [5, 6] n (fun b x y wr => ∃ p q : Nat, q <= b /\ MV wr x p /\ MV wr y q /\ Nat.gcd p q = Nat.gcd m n /\ (dig p).length <= 549755813888 /\ (dig q).length <= 549755813888 /\ Below (w.heap.size + 3) (((w.alloc (.cells #[.bool s1, .slice aa (dig m).length ca] 127)).alloc (.cells #[.bool s2, .slice ab (dig n).length cb] 127)).alloc (.cells #[.bool false, .slice none 0 0] 127)) wr)
 case atStart => exact ⟨m, n, Nat.le_refl _, HA.out, HB.out, rfl, HL.out, HL2.out, bel_drewN bg _⟩
 case round =>
  clear HA HB q01 q11
  obtain ⟨p, q, hqb, hp, hq, hg, hpl, hql, hbe⟩ := hrel
  have HP := hG hp; have HQ := hG hq
  have hq2 := hq
  obtain ⟨aq, cq, rfl, hqc, hqc2⟩ := hq
  have hsz := hbe.size
  simp only [World.size_alloc] at hsz
  by_cases h0 : q = 0
  · subst h0
    have he : p = Nat.gcd m n := by rw [<- hg, Nat.gcd_zero_right]
    have hl0 : (dig 0).length = 0 := by rw [dig_zero]; rfl
    rw [hl0]
    obtain ⟨-, -, q2, f2⟩ := boxes3 hbe (by omega)
    have q20 := q2 0
    have q21 := q2 1
    simp only [List.getElem?_toArray, List.getElem?_cons_succ, List.getElem?_cons_zero] at q20 q21
    have f0 := f2 0
    have f1 := f2 1
    obtain ⟨ap, cp, rfl⟩ := hp.cases
    have HE := hG he; clear he hg hq2 hp hqc hqc2 hl0 q2 f2
    have hbw := HBW.out.trans (hbe.mono (by omega))
    go_wp2
    refine bodyPost_ret (v := .agg #[.bool false, .slice ap (dig p).length cp]) (by simp [results, Tryz.results189, go_sem, q20, q21]) rfl ?_
    exact ⟨⟨_, rfl, by rw [<- HE.out]; exact HP.out.zbox q20 q21⟩, (hbw.setCell (by show w.heap.size <= w.heap.size + 1 + 1; omega) _).setCell (by show w.heap.size <= w.heap.size + 1 + 1; omega) _⟩
  · have hlp : 0 < ((dig q).length : Int) := by
     have : (dig q).length ≠ 0 := by rw [Ne, dig_len_pos]; exact h0
     omega
    have hov := divide_any _ _ p q wr hp hq2 h0 hpl hql
    have hlt : p % q < q := Nat.mod_lt _ (by omega)
    have hg2 : Nat.gcd q (p % q) = Nat.gcd m n := by rw [<- hg, Nat.gcd_comm q, <- Nat.gcd_rec, Nat.gcd_comm]
    have hml : (dig (p % q)).length <= 549755813888 := Nat.le_trans (dig_len_mono (Nat.le_of_lt hlt)) hql
    have HO := hG hov; have HG := hG hg2
    clear hov hg hg2 hp hq2 hqc hqc2
    go_wp2_with fail
    refine HO.out.mono ?_
    rintro e w1 ⟨⟨vq, vr, rfl, _, hr⟩, hb1⟩
    have HR := hG hr; clear hr
    go_wp2
    go_roundg (p % q)
    case measure => omega
    case rel => exact ⟨q, p % q, Nat.le_refl _, HQ.out.below hb1 lc, HR.out, HG.out, hql, hml, hbe.trans (hb1.mono (by omega))⟩
theorem made_mv (s : Bool) (vd : Value) (n : Nat) (w : World) (h : MV w vd n) :
 Calls Tryz.prog 155 #[.bool s, vd] w fun e w' => e = .returned (.agg #[.bool (s && decide (0 < (dig n).length)), vd]) /\ Below w.heap.size w w' := by
 obtain ⟨a, c, rfl, h1, h2, h3⟩ := h
 have := made_any s a (dig n) c w h1 (sm_dig _) (by omega) h2 h3
 rwa [val_dig] at this
theorem MV.box4 {w : World} {v : Value} {n b : Nat} {x0 x2 : Bool} {a1 a3 : Option Addr} {n1 c1 n3 c3 : Nat} {u0 u1 u2 u3 : Value} (h : MV w v n) (q0 : w.cell? ⟨b, 0, none⟩ = some (.bool x0)) (q1 : w.cell? ⟨b, 1, none⟩ = some (.slice a1 n1 c1)) (q2 : w.cell? ⟨b, 2, none⟩ = some (.bool x2)) (q3 : w.cell? ⟨b, 3, none⟩ = some (.slice a3 n3 c3)) :
 MV ((((w.setCell ⟨b, 0, none⟩ u0).setCell ⟨b, 1, none⟩ u1).setCell ⟨b, 2, none⟩ u2).setCell ⟨b, 3, none⟩ u3) v n := by
 obtain ⟨a, c, h1, h2, h3⟩ := h
 refine ⟨a, c, h1, ?_, h3⟩
 have hn : ∀ (y : Value), (∀ z, y ≠ .int .i64 z) -> ∀ x ∈ zs (dig n), x ≠ y := fun y hy x hx e => by
  simp only [zs, List.mem_map] at hx; obtain ⟨d, _, rfl⟩ := hx; exact hy _ e.symm
 refine (((h2.set q0 (hn _ (fun z e => by cases e))).set (v0 := .slice a1 n1 c1) ?_ (hn _ (fun z e => by cases e))).set (v0 := .bool x2) ?_ (hn _ (fun z e => by cases e))).set (v0 := .slice a3 n3 c3) ?_ (hn _ (fun z e => by cases e))
 · rw [World.cell?_setCell_other _ _ _ _ (by simp)]; exact q1
 · rw [World.cell?_setCell_other _ _ _ _ (by simp), World.cell?_setCell_other _ _ _ _ (by simp)]; exact q2
 · rw [World.cell?_setCell_other _ _ _ _ (by simp), World.cell?_setCell_other _ _ _ _ (by simp), World.cell?_setCell_other _ _ _ _ (by simp)]; exact q3
def QV (w : World) (v : Value) (s : Bool) (n d : Nat) : Prop := ∃ vn vd, v = .agg #[.bool s, vn, .bool false, vd] /\ MV w vn n /\ MV w vd d
theorem QV.below {w w' : World} {B : Nat} {v : Value} {s : Bool} {n d : Nat} (h : QV w v s n d) (hb : Below B w w') (hB : w.heap.size <= B) : QV w' v s n d := by
 obtain ⟨a, c, h1, h2, h3⟩ := h
 exact ⟨a, c, h1, h2.below hb hB, h3.below hb hB⟩
set_option maxRecDepth 100000 in
set_option maxHeartbeats 2000000 in
theorem qOf_pos (va vb : Value) (n : Int) (d : Nat) (w : World) (ha : ZV w va n) (hb : ZV w vb d) (hd : d ≠ 0) (hl : (dig n.natAbs).length <= 549755813888) (hl2 : (dig d).length <= 549755813888) :
 Calls Tryz.prog 156 #[va, vb] w fun e w' => (∃ v, e = .returned v /\ QV w' v (decide (n < 0)) (n.natAbs / Nat.gcd n.natAbs d) (d / Nat.gcd n.natAbs d)) /\ Below w.heap.size w w' := by
 have hma := ha.mv
 have hmb := hb.mv
 clear ha hb
 obtain ⟨xa, rfl, ha⟩ := hma
 obtain ⟨xb, rfl, hb⟩ := hmb
 rw [Int.natAbs_natCast] at hb
 rw [decide_eq_false (show ¬ (d : Int) < 0 by omega)]
 obtain ⟨s, hs⟩ : ∃ s, s = decide (n < 0) := ⟨_, rfl⟩
 obtain ⟨N, hN⟩ : ∃ N, N = n.natAbs := ⟨_, rfl⟩
 have hs0 : s = true -> N ≠ 0 := fun h => by rw [hs] at h; have := of_decide_eq_true h; omega
 rw [<- hs, <- hN]
 rw [<- hN] at ha hl
 clear hs hN
 obtain ⟨g, hg⟩ : ∃ g, g = Nat.gcd N d := ⟨_, rfl⟩
 have hg0 : g ≠ 0 := by rw [hg]; have := Nat.gcd_pos_of_pos_right N (show 0 < d by omega); omega
 have hgd : g ∣ N := by rw [hg]; exact Nat.gcd_dvd_left _ _
 have hgl : (dig g).length <= 549755813888 := Nat.le_trans (dig_len_mono (by rw [hg]; exact Nat.le_of_dvd (by omega) (Nat.gcd_dvd_right N d))) hl2
 have hsn : (s && decide (0 < (dig (N / g)).length)) = s := by
  cases hsv : s with
  | false => rfl
  | true =>
    have h1 : N / g ≠ 0 := by
     have := hs0 hsv
     have h2 := Nat.div_pos (Nat.le_of_dvd (by omega) hgd) (by omega)
     omega
    have h3 := mt dig_len_pos.1 h1
    rw [decide_eq_true (by omega)]; rfl
 obtain ⟨aa, ca, rfl⟩ := ha.cases
 obtain ⟨ab, cb, rfl⟩ := hb.cases
 have hbw : Below w.heap.size w (((w.alloc (.cells #[.bool s, .slice aa (dig N).length ca] 127)).alloc (.cells #[.bool false, .slice ab (dig d).length cb] 127)).alloc (.cells #[.bool false, .slice none 0 0, .bool false, .slice none 0 0] 129)) := (((Below.refl w.heap.size w).alloc lc _).alloc (by simp) _).alloc (by simp; omega) _
 obtain ⟨W3, hW3⟩ : ∃ W3, W3 = (((w.alloc (.cells #[.bool s, .slice aa (dig N).length ca] 127)).alloc (.cells #[.bool false, .slice ab (dig d).length cb] 127)).alloc (.cells #[.bool false, .slice none 0 0, .bool false, .slice none 0 0] 129)) := ⟨_, rfl⟩
 have hz3 : W3.heap.size = w.heap.size + 3 := by rw [hW3]; simp
 have HBX : Hid (∀ {B : Nat} {w1 : World}, Below B W3 w1 -> w.heap.size + 2 < B -> (∀ i, w1.cell? ⟨w.heap.size, i, none⟩ = #[Value.bool s, .slice aa (dig N).length ca][i]?) /\ (∀ i, w1.cell? ⟨w.heap.size + 1, i, none⟩ = #[Value.bool false, .slice ab (dig d).length cb][i]?) /\ (∀ i, w1.cell? ⟨w.heap.size + 2, i, none⟩ = #[Value.bool false, .slice none 0 0, .bool false, .slice none 0 0][i]?) /\ (∀ i, w1.frozen? ⟨w.heap.size + 2, i, none⟩ = false)) := fun hb hB => by rw [hW3] at hb; exact boxes3 hb hB
 rw [<- hW3] at hbw
 have hgc := zGcd_any s false _ _ N d W3 (ha.below hbw lc) (hb.below hbw lc) hl hl2
 rw [<- hg] at hgc ⊢
 have hda := fun W x (h1 : MV W (.slice aa (dig N).length ca) N) (h2 : MV W x g) => divide_any _ x N g W h1 h2 hg0 hl hgl
 have hdb := fun W x (h1 : MV W (.slice ab (dig d).length cb) d) (h2 : MV W x g) => divide_any _ x d g W h1 h2 hg0 hl2 hgl
 have HGC := hG hgc; have HDA := hG hda; have HDB := hG hdb; have HA := hG (ha.below hbw lc); have HB := hG (hb.below hbw lc); have HBW := hG hbw; have HSN := hG hsn
 obtain ⟨q0, q1, -, -⟩ := HBX.out (Below.refl (w.heap.size + 3) W3) (by omega)
 have q00 := q0 0
 have q01 := q0 1
 have q10 := q1 0
 have q11 := q1 1
 simp only [List.getElem?_toArray, List.getElem?_cons_succ, List.getElem?_cons_zero] at q00 q01 q10 q11
 clear hgc hda hdb ha hb hbw hsn q0 q1 hg hgd hs0
 rw [hW3] at q00 q01 q10 q11 HGC
 go_enter Tryz.func156, Tryz.ntmps156
 go_wp2_with fail
 refine HGC.out.mono ?_
 rintro e w1 ⟨⟨vg, rfl, hvg⟩, hb1⟩
 rw [<- hW3] at hb1
 obtain ⟨ag, cg, rfl⟩ := hvg.cases
 have hbx1 : Below (w.heap.size + 3) W3 w1 := (Below.refl _ W3).trans (hb1.mono (by omega))
 have hz1 := hbx1.size
 have hal := (Below.refl w1.heap.size w1).alloc lc (.cells #[.bool false, .slice ag (dig g).length cg] 127)
 have hbx4 := hbx1.trans (hal.mono (by omega))
 have hg4 := hvg.below hal lc
 have ha4 := HA.out.below (hbx4.mono (by omega : W3.heap.size <= w.heap.size + 3) |> fun h => hb1.trans (hal.mono hb1.size)) lc
 have hdv := HDA.out _ _ ha4 hg4
 obtain ⟨q0, q1, -, -⟩ := HBX.out hbx4 (by omega)
 have q41 := q0 1
 simp only [List.getElem?_toArray, List.getElem?_cons_succ, List.getElem?_cons_zero] at q41
 have r41 : (w1.alloc (.cells #[.bool false, .slice ag (dig g).length cg] 127)).cell? ⟨w1.heap.size, 1, none⟩ = some (.slice ag (dig g).length cg) := by simp
 have HDV := hG hdv; have HG4 := hG hg4; have HX4 := hG hbx4; have HB14 := hG (hb1.trans (hal.mono hb1.size))
 clear q00 q01 q10 q11 hdv hg4 ha4 hbx1 hbx4 q0 q1 hvg hb1 hal HGC
 clear hW3
 go_wp2_with fail
 refine HDV.out.mono ?_
 rintro e w5 ⟨⟨vq, vr, rfl, hvq, -⟩, hb5⟩
 have hz5 := hb5.size
 simp only [World.size_alloc] at hz5
 have hb5' : Below (w1.heap.size + 1) (w1.alloc (.cells #[.bool false, .slice ag (dig g).length cg] 127)) w5 := hb5.mono (by simp)
 have hbx5 := HX4.out.trans (hb5'.mono (by omega))
 obtain ⟨q0, q1, -, -⟩ := HBX.out hbx5 (by omega)
 have q51 := q1 1
 have q50 := q0 0
 simp only [List.getElem?_toArray, List.getElem?_cons_succ, List.getElem?_cons_zero] at q51 q50
 have r51 : w5.cell? ⟨w1.heap.size, 1, none⟩ = some (.slice ag (dig g).length cg) := box_keep hb5' (by omega) 1
 have hw35 := HB14.out.trans (hb5.mono (by simp; omega))
 have hdv := HDB.out w5 _ (HB.out.below hw35 lc) (HG4.out.below hb5 lc)
 have HDV2 := hG hdv; have HVQ := hG hvq; have HX5 := hG hbx5; have HW35 := hG hw35
 obtain ⟨aq, cq, rfl⟩ := hvq.cases
 clear q41 r41 hdv hvq hbx5 q0 q1 hb5 hb5' hw35 q50
 go_wp2_with fail
 refine HDV2.out.mono ?_
 rintro e w6 ⟨⟨vp, vr2, rfl, hvp, -⟩, hb6⟩
 have hz6 := hb6.size
 have hbx6 := HX5.out.trans (hb6.mono (by omega))
 obtain ⟨q0, -, -, -⟩ := HBX.out hbx6 (by omega)
 have q60 := q0 0
 simp only [List.getElem?_toArray, List.getElem?_cons_zero] at q60
 obtain ⟨ap, cp, rfl⟩ := hvp.cases
 have HVQ6 := hG (HVQ.out.below hb6 lc); have HVP := hG hvp; have HX6 := hG hbx6
 have HM1 := hG (made_mv s _ _ w6 HVQ6.out)
 clear q51 r51 hvp hbx6 q0 hb6
 go_wp2_with fail
 refine HM1.out.mono ?_
 rw [HSN.out]
 rintro e w7 ⟨rfl, hb7⟩
 have hz7 := hb7.size
 have HVP7 := hG (HVP.out.below hb7 lc); have HVQ7 := hG (HVQ6.out.below hb7 lc)
 have HM2 := hG (made_mv false _ _ w7 HVP7.out)
 have HX7 := hG (HX6.out.trans (hb7.mono (by omega)))
 clear q60 hb7
 go_wp2_with fail
 refine HM2.out.mono ?_
 rintro e w8 ⟨rfl, hb8⟩
 have hbx8 := HX7.out.trans (hb8.mono (by omega))
 have HVP8 := hG (HVP7.out.below hb8 lc); have HVQ8 := hG (HVQ7.out.below hb8 lc)
 obtain ⟨-, -, q2, f2⟩ := HBX.out hbx8 (by omega)
 have q20 := q2 0
 have q21 := q2 1
 have q22 := q2 2
 have q23 := q2 3
 simp only [List.getElem?_toArray, List.getElem?_cons_succ, List.getElem?_cons_zero] at q20 q21 q22 q23
 have f0 := f2 0
 have f1 := f2 1
 have f3 := f2 2
 have f4 := f2 3
 have hbw8 := HBW.out.trans (hbx8.mono (by omega))
 clear hb8
 go_wp2
 refine bodyPost_ret (v := .agg #[.bool s, .slice aq (dig (N / g)).length cq, .bool false, .slice ap (dig (d / g)).length cp]) (by simp [results, Tryz.results156, go_sem, q20, q21, q22, q23]) rfl ?_
 have hle : w.heap.size <= w.heap.size + 1 + 1 := by omega
 exact ⟨⟨_, rfl, _, _, rfl, HVQ8.out.box4 q20 q21 q22 q23, HVP8.out.box4 q20 q21 q22 q23⟩, (((hbw8.setCell hle _).setCell hle _).setCell hle _).setCell hle _⟩
theorem QV.zn {w : World} {v : Value} {N : Int} {d : Nat} (h : QV w v (decide (N < 0)) N.natAbs d) : ∃ a b n1 c1 n2 c2, v = .agg #[.bool (decide (N < 0)), .slice a n1 c1, .bool false, .slice b n2 c2] /\ ZV w (.agg #[.bool (decide (N < 0)), .slice a n1 c1]) N /\ ZV w (.agg #[.bool false, .slice b n2 c2]) (d : Int) := by
 obtain ⟨vn, vd, rfl, ⟨a, c1, rfl, h1, h2, h3⟩, ⟨b, c2, rfl, h4, h5, h6⟩⟩ := h
 exact ⟨a, b, _, c1, _, c2, rfl, ⟨a, c1, rfl, h1, h2, h3⟩, ⟨b, c2, by rw [decide_eq_false (show ¬ (d : Int) < 0 by omega)]; rfl, h4, h5, h6⟩⟩
theorem two_box {w w0 : World} {B n : Nat} {z0 z1 u0 u1 : Value} (q0 : w.cell? ⟨B, 0, none⟩ = some z0) (q1 : w.cell? ⟨B, 1, none⟩ = some z1) (hb : Below n w0 w) (hB : n <= B) :
 ((w.setCell ⟨B, 0, none⟩ u0).setCell ⟨B, 1, none⟩ u1).cell? ⟨B, 0, none⟩ = some u0 /\ ((w.setCell ⟨B, 0, none⟩ u0).setCell ⟨B, 1, none⟩ u1).cell? ⟨B, 1, none⟩ = some u1 /\ Below n w0 ((w.setCell ⟨B, 0, none⟩ u0).setCell ⟨B, 1, none⟩ u1) := by
 refine ⟨?_, ?_, (hb.setCell hB _).setCell hB _⟩
 · rw [World.cell?_setCell_other _ _ _ _ (by simp)]; exact World.cell?_setCell_same' _ _ _ (by rw [q0]; rfl)
 · exact World.cell?_setCell_same' _ _ _ (by rw [World.cell?_setCell_other _ _ _ _ (by simp), q1]; rfl)
theorem new_box2 {w w0 : World} {n : Nat} {u0 u1 : Value} {T : TypeId} (hb : Below n w0 w) (hB : n <= w.heap.size) :
 (w.alloc (.cells #[u0, u1] T)).cell? ⟨w.heap.size, 0, none⟩ = some u0 /\ (w.alloc (.cells #[u0, u1] T)).cell? ⟨w.heap.size, 1, none⟩ = some u1 /\ Below n w0 (w.alloc (.cells #[u0, u1] T)) :=
 ⟨(cell_of_row _ _ 0 _ _ _ (heap_alloc_new w _)).trans rfl, (cell_of_row _ _ 1 _ _ _ (heap_alloc_new w _)).trans rfl, hb.alloc hB _⟩
def zcm (r : Int) : Int := if r = 0 then 0 else if r < 0 then -1 else 1
set_option maxRecDepth 100000 in
set_option maxHeartbeats 4000000 in
theorem zCmp_any (va vb : Value) (m n : Int) (w : World) (ha : ZV w va m) (hb : ZV w vb n) (hl : (dig m.natAbs).length <= 1099511627776) (hl2 : (dig n.natAbs).length <= 1099511627776) :
 Calls Tryz.prog 120 #[va, vb] w fun e w' => e = .returned (.int .i64 (zcm (m - n))) /\ Below w.heap.size w w' := by
 have za := ha
 have zb := hb
 obtain ⟨aa, ca, rfl, -, -, -⟩ := ha
 obtain ⟨ab, cb, rfl, -, -, -⟩ := hb
 have hng := fun W (h : Below w.heap.size w W) => zNeg_any _ n W (zb.below h lc)
 have had := fun v W (h : Below w.heap.size w W) h2 => zAdd_any _ v m (-n) W (za.below h lc) h2 hl (by rw [Int.natAbs_neg]; exact hl2)
 rw [show m + -n = m - n by omega] at had
 have HNG := hG hng; have HAD := hG had
 clear za zb hng had hl hl2
 generalize m - n = R at *
 have hr1 : R = 0 -> (dig R.natAbs).length = 0 := fun h => by rw [h]; simp [dig_zero]
 have hr2 : R ≠ 0 -> 0 < (dig R.natAbs).length := fun h => (len_ne R).2 h
 generalize (dig m.natAbs).length = lm at *
 generalize (dig n.natAbs).length = ln at *
 generalize decide (m < 0) = s1 at *
 generalize decide (n < 0) = s2 at *
 obtain ⟨W0, hW0⟩ : ∃ W0, W0 = ((w.alloc (.cells #[.bool s1, .slice aa lm ca] 127)).alloc (.cells #[.bool s2, .slice ab ln cb] 127)) := ⟨_, rfl⟩
 have hB0 : Below w.heap.size w W0 := by rw [hW0]; exact (bg.alloc lc _).alloc (by simp) _
 have hs2 : W0.heap.size = w.heap.size + 2 := by rw [hW0]; simp
 replace hs2 : w.heap.size + 2 <= W0.heap.size := Nat.le_of_eq hs2.symm
 have x0 : W0.cell? ⟨w.heap.size, 0, none⟩ = some (.bool s1) := by rw [hW0]; exact (cell_of_row _ _ 0 _ _ _ (heap_alloc2_old w _ _)).trans rfl
 have x1 : W0.cell? ⟨w.heap.size, 1, none⟩ = some (.slice aa lm ca) := by rw [hW0]; exact (cell_of_row _ _ 1 _ _ _ (heap_alloc2_old w _ _)).trans rfl
 have y0 : W0.cell? ⟨w.heap.size + 1, 0, none⟩ = some (.bool s2) := by rw [hW0]; exact (cell_of_row _ _ 0 _ _ _ (heap_alloc2_new w _ _)).trans rfl
 have y1 : W0.cell? ⟨w.heap.size + 1, 1, none⟩ = some (.slice ab ln cb) := by rw [hW0]; exact (cell_of_row _ _ 1 _ _ _ (heap_alloc2_new w _ _)).trans rfl
 have xd0 : W0.drew.cell? ⟨w.heap.size, 0, none⟩ = some (.bool s1) := x0
 have xd1 : W0.drew.cell? ⟨w.heap.size, 1, none⟩ = some (.slice aa lm ca) := x1
 have yd0 : W0.drew.cell? ⟨w.heap.size + 1, 0, none⟩ = some (.bool s2) := y0
 have yd1 : W0.drew.cell? ⟨w.heap.size + 1, 1, none⟩ = some (.slice ab ln cb) := y1
 have HB0 := hG hB0; have HW0 := hG hW0; have HR1 := hG hr1; have HR2 := hG hr2
 clear hB0 hW0 hr1 hr2
 go_enter Tryz.func120, Tryz.ntmps120
 go_wp2_with fail
 rw [<- HW0.out]
 go_region_held3 (fun w' => w'.cell? ⟨w.heap.size, 0, none⟩ = some (.bool s1) /\ w'.cell? ⟨w.heap.size, 1, none⟩ = some (.slice aa lm ca) /\ w'.cell? ⟨w.heap.size + 1, 0, none⟩ = some (.bool s2) /\ w'.cell? ⟨w.heap.size + 1, 1, none⟩ = some (.slice ab ln cb))
  (first | with_reducible exact ⟨x0, x1, y0, y1⟩ | with_reducible exact ⟨xd0, xd1, yd0, yd1⟩ | with_reducible exact ⟨px0, px1, py0, py1⟩ | with_reducible exact ⟨rx0, rx1, ry0, ry1⟩ | (refine ⟨?_, ?_, ?_, ?_⟩ <;> (repeat rw [World.cell?_setCell_other _ _ _ _ (by simp <;> omega)]) <;> assumption) | go_keep)
  (first | (go_at_call 158; (with_reducible refine Calls.mono (HNG.out W0.drew HB0.out.drew) ?_); rintro e w4 ⟨⟨v4, rfl, h4⟩, hb4⟩; have hbz : Below W0.heap.size W0 w4 := ((Below.refl W0.heap.size W0).drew).trans hb4; have HB4 := hG hbz; have HV4 := hG h4; have hs4 : w.heap.size + 2 <= w4.heap.size := Nat.le_trans hs2 hbz.size; have px0 := cell_keep x0 hbz lc; have px1 := cell_keep x1 hbz lc; have py0 := cell_keep y0 hbz lc; have py1 := cell_keep y1 hbz lc; clear h4 hb4 hbz) | (go_at_call 158; (with_reducible refine Calls.mono (HNG.out ((W0.alloc (.cells #[.bool false, .slice none 0 0] 127)).drew) ((HB0.out.alloc (by omega) _).drew)) ?_); rintro e w4 ⟨⟨v4, rfl, h4⟩, hb4⟩; have hbz : Below W0.heap.size W0 w4 := (((Below.refl W0.heap.size W0).alloc lc _).drew).trans (hb4.mono (by show W0.heap.size <= (W0.alloc _).heap.size; simp)); have HB4 := hG hbz; have HV4 := hG h4; have hs4 : w.heap.size + 2 <= w4.heap.size := Nat.le_trans hs2 hbz.size; have px0 := cell_keep x0 hbz lc; have px1 := cell_keep x1 hbz lc; have py0 := cell_keep y0 hbz lc; have py1 := cell_keep y1 hbz lc; have HBKA := hG ((hb4.block W0.heap.size (by show W0.heap.size < (W0.alloc _).heap.size; simp)).trans (heap_alloc_new W0 (.cells #[.bool false, .slice none 0 0] 127))); clear h4 hb4 hbz) | (go_at_call 157; (with_reducible refine Calls.mono (HAD.out _ w4 (HB0.out.trans (HB4.out.mono HB0.out.size)) HV4.out) ?_); rintro e w5 ⟨⟨v5, rfl, h5⟩, hb5⟩; have hbz : Below W0.heap.size W0 w5 := HB4.out.trans (hb5.mono HB4.out.size); have HB5 := hG hbz; have hs5 : w.heap.size + 2 <= w5.heap.size := Nat.le_trans hs2 hbz.size; obtain ⟨g, cg, rfl, -, -, -⟩ := h5; have rx0 := cell_keep x0 hbz lc; have rx1 := cell_keep x1 hbz lc; have ry0 := cell_keep y0 hbz lc; have ry1 := cell_keep y1 hbz lc; have hbk5 := (hb5.block W0.heap.size (Array.getElem?_eq_some_iff.1 HBKA.out).1).trans HBKA.out; have z0 := (cell_of_row w5 _ 0 _ _ _ hbk5).trans rfl; have z1 := (cell_of_row w5 _ 1 _ _ _ hbk5).trans rfl; have zf0 := frozen_of_row w5 _ 0 _ _ hbk5; have zf1 := frozen_of_row w5 _ 1 _ _ hbk5; clear hbk5; clear hb5 hbz) | (go_at_call 157; (with_reducible refine Calls.mono (HAD.out _ w4 (HB0.out.trans (HB4.out.mono HB0.out.size)) HV4.out) ?_); rintro e w5 ⟨⟨v5, rfl, h5⟩, hb5⟩; have hbz : Below W0.heap.size W0 w5 := HB4.out.trans (hb5.mono HB4.out.size); have HB5 := hG hbz; have hs5 : w.heap.size + 2 <= w5.heap.size := Nat.le_trans hs2 hbz.size; obtain ⟨g, cg, rfl, -, -, -⟩ := h5; have rx0 := cell_keep x0 hbz lc; have rx1 := cell_keep x1 hbz lc; have ry0 := cell_keep y0 hbz lc; have ry1 := cell_keep y1 hbz lc; clear hb5 hbz) | (go_at_call 157; (with_reducible refine Calls.mono (HAD.out _ (w4.alloc (.cells #[.bool false, .slice none 0 0] 127)) ((HB0.out.trans (HB4.out.mono HB0.out.size)).alloc (by omega) _) (HV4.out.below ((Below.refl w4.heap.size w4).alloc lc _) lc)) ?_); rintro e w5 ⟨⟨v5, rfl, h5⟩, hb5⟩; have hbz : Below W0.heap.size W0 w5 := (HB4.out.alloc HB4.out.size _).trans (hb5.mono (by have := HB4.out.size; simp; omega)); have HB5 := hG hbz; have hs5 : w.heap.size + 2 <= w5.heap.size := Nat.le_trans hs2 hbz.size; obtain ⟨g, cg, rfl, -, -, -⟩ := h5; have rx0 := cell_keep x0 hbz lc; have rx1 := cell_keep x1 hbz lc; have ry0 := cell_keep y0 hbz lc; have ry1 := cell_keep y1 hbz lc; have hbk5 := (hb5.block w4.heap.size (by simp)).trans (heap_alloc_new w4 (.cells #[.bool false, .slice none 0 0] 127)); have z0 := (cell_of_row w5 _ 0 _ _ _ hbk5).trans rfl; have z1 := (cell_of_row w5 _ 1 _ _ _ hbk5).trans rfl; have zf0 := frozen_of_row w5 _ 0 _ _ hbk5; have zf1 := frozen_of_row w5 _ 1 _ _ hbk5; clear hbk5; clear hb5 hbz))
 all_goals (have hbw := HB0.out.trans (HB5.out.mono (by omega)))
 all_goals (first
  | (revert z0; intro z0; obtain ⟨q0, q1, hbF⟩ := two_box (u0 := .bool (decide (R < 0))) (u1 := .slice g (dig R.natAbs).length cg) z0 z1 hbw (by omega))
  | (obtain ⟨q0, q1, hbF⟩ := new_box2 (T := 127) (u0 := .bool (decide (R < 0))) (u1 := .slice g (dig R.natAbs).length cg) hbw (by omega)))
 all_goals
  by_cases hp : R = 0
  · have hd := HR1.out hp
    have HH : Hid (zcm R = 0) := by unfold zcm; rw [if_pos hp]; exact hG rfl
    rw [hd] at q1 hbF ⊢
    clear hp hd
    go_wp2
    go_ret
    exact ⟨by rw [HH.out]; rfl, hbF⟩
  · have hd := HR2.out hp
    have hd1 : ((((dig R.natAbs).length : Nat) : Int) == 0) = false := by rw [beq_eq_false_iff_ne]; omega
    by_cases hn : R < 0
    · have HH : Hid (zcm R = -1) := by unfold zcm; rw [if_neg hp, if_pos hn]; exact hG rfl
      rw [decide_eq_true hn] at q0 hbF ⊢
      clear hp hn
      go_wp2
      go_ret
      exact ⟨by rw [HH.out]; rfl, hbF⟩
    · have HH : Hid (zcm R = 1) := by unfold zcm; rw [if_neg hp, if_neg hn]; exact hG rfl
      rw [decide_eq_false hn] at q0 hbF ⊢
      clear hp hn
      go_wp2
      go_ret
      exact ⟨by rw [HH.out]; rfl, hbF⟩
set_option maxRecDepth 100000 in
set_option maxHeartbeats 4000000 in
theorem qNeg_any (va : Value) (N : Int) (d : Nat) (w : World) (ha : QV w va (decide (N < 0)) N.natAbs d) :
 Calls Tryz.prog 228 #[va] w fun e w' => (∃ v, e = .returned v /\ QV w' v (decide (-N < 0)) (-N).natAbs d) /\ Below w.heap.size w w' := by
 obtain ⟨vn, vd, rfl, ⟨a1, c1, rfl, h1, h2, h3⟩, ⟨b1, e1, rfl, h4, h5, h6⟩⟩ := ha
 have za : ZV w (.agg #[.bool (decide (N < 0)), .slice a1 (dig N.natAbs).length c1]) N := ⟨a1, c1, rfl, h1, h2, h3⟩
 have hmd : MV w (.slice b1 (dig d).length e1) d := ⟨b1, e1, rfl, h4, h5, h6⟩
 have hng := fun W (h : Below w.heap.size w W) => zNeg_any _ N W (za.below h lc)
 have HNG := hG hng; have HMD := hG hmd
 clear za hmd hng h1 h2 h3 h4 h5 h6
 generalize -N = M at *
 generalize (dig N.natAbs).length = n1 at *
 generalize decide (N < 0) = s1 at *
 obtain ⟨m1, hm1⟩ : ∃ m1, (dig d).length = m1 := ⟨_, rfl⟩
 rw [hm1] at HMD ⊢
 obtain ⟨W0, hW0⟩ : ∃ W0, W0 = ((w.alloc (.cells #[.bool s1, .slice a1 n1 c1, .bool false, .slice b1 m1 e1] 129)).alloc (.cells #[.bool false, .slice none 0 0, .bool false, .slice none 0 0] 129)) := ⟨_, rfl⟩
 have hB0 : Below w.heap.size w W0 := by rw [hW0]; exact (bg.alloc lc _).alloc (by simp) _
 have hs2 : W0.heap.size = w.heap.size + 2 := by rw [hW0]; simp
 have x0 : W0.cell? ⟨w.heap.size, 0, none⟩ = some (.bool s1) := by rw [hW0]; exact (cell_of_row _ _ 0 _ _ _ (heap_alloc2_old w _ _)).trans rfl
 have x1 : W0.cell? ⟨w.heap.size, 1, none⟩ = some (.slice a1 n1 c1) := by rw [hW0]; exact (cell_of_row _ _ 1 _ _ _ (heap_alloc2_old w _ _)).trans rfl
 have x2 : W0.cell? ⟨w.heap.size, 2, none⟩ = some (.bool false) := by rw [hW0]; exact (cell_of_row _ _ 2 _ _ _ (heap_alloc2_old w _ _)).trans rfl
 have x3 : W0.cell? ⟨w.heap.size, 3, none⟩ = some (.slice b1 m1 e1) := by rw [hW0]; exact (cell_of_row _ _ 3 _ _ _ (heap_alloc2_old w _ _)).trans rfl
 have xd0 : W0.drew.cell? ⟨w.heap.size, 0, none⟩ = some (.bool s1) := x0
 have xd1 : W0.drew.cell? ⟨w.heap.size, 1, none⟩ = some (.slice a1 n1 c1) := x1
 have xd2 : W0.drew.cell? ⟨w.heap.size, 2, none⟩ = some (.bool false) := x2
 have xd3 : W0.drew.cell? ⟨w.heap.size, 3, none⟩ = some (.slice b1 m1 e1) := x3
 have hq := fun (B : Nat) (w1 : World) (h : Below B W0 w1) (h2 : w.heap.size + 1 < B) (i : Nat) => box_keep1 (w := w) (by rw [hW0] at h; exact h) h2 i
 have hf := fun (B : Nat) (w1 : World) (h : Below B W0 w1) (h2 : w.heap.size + 1 < B) (i : Nat) => box_free1 (w := w) (by rw [hW0] at h; exact h) h2 i
 have HQ := hG hq; have HF := hG hf; have HB0 := hG hB0
 have HBC := hG ((Below.refl W0.heap.size W0).drew)
 obtain ⟨wc, hwc⟩ : ∃ wc, wc = W0.drew := ⟨_, rfl⟩
 rw [<- hwc] at HBC
 clear hq hf hB0
 go_enter Tryz.func228, Tryz.ntmps228
 go_wp2_with fail
 rw [<- hW0]
 clear hW0
 go_region_held3 (fun w' => w'.cell? ⟨w.heap.size, 0, none⟩ = some (.bool s1) /\ w'.cell? ⟨w.heap.size, 1, none⟩ = some (.slice a1 n1 c1) /\ w'.cell? ⟨w.heap.size, 2, none⟩ = some (.bool false) /\ w'.cell? ⟨w.heap.size, 3, none⟩ = some (.slice b1 m1 e1))
  (first | with_reducible exact ⟨px0, px1, px2, px3⟩ | with_reducible exact ⟨x0, x1, x2, x3⟩ | with_reducible exact ⟨xd0, xd1, xd2, xd3⟩ | (refine ⟨?_, ?_, ?_, ?_⟩ <;> (repeat rw [World.cell?_setCell_other _ _ _ _ (by simp)]) <;> assumption) | go_keep)
  (first
   | (go_at_call 158; (try rw [<- hwc]); (with_reducible refine Calls.mono (HNG.out wc (HB0.out.trans (HBC.out.mono HB0.out.size))) ?_); rintro e wc ⟨⟨v5, rfl, hv5⟩, hbc⟩; obtain ⟨g, cg, rfl, hg1, hg2, hg3⟩ := hv5; have HG1 := hG hg1; have HBC := hG (HBC.out.trans (hbc.mono HBC.out.size)); have px0 := cell_keep x0 HBC.out lc; have px1 := cell_keep x1 HBC.out lc; have px2 := cell_keep x2 HBC.out lc; have px3 := cell_keep x3 HBC.out lc; have q20 := HQ.out _ _ HBC.out (by omega) 0; have q21 := HQ.out _ _ HBC.out (by omega) 1; have q22 := HQ.out _ _ HBC.out (by omega) 2; have q23 := HQ.out _ _ HBC.out (by omega) 3; simp only [List.getElem?_toArray, List.getElem?_cons_succ, List.getElem?_cons_zero] at q20 q21 q22 q23; have f0 := HF.out _ _ HBC.out (by omega) 0; have f1 := HF.out _ _ HBC.out (by omega) 1; have f2 := HF.out _ _ HBC.out (by omega) 2; have f3 := HF.out _ _ HBC.out (by omega) 3; clear hbc hg1))
 all_goals
  have hbw := HB0.out.trans (HBC.out.mono HB0.out.size)
  have hle : w.heap.size <= w.heap.size + 1 := by omega
  have HM := hG (HMD.out.below hbw lc)
  have HV : Hid (MV wc (.slice g (dig M.natAbs).length cg) M.natAbs) := ⟨g, cg, rfl, HG1.out, hg2, hg3⟩
  go_wp2
  refine bodyPost_ret (v := .agg #[.bool (decide (M < 0)), .slice g (dig M.natAbs).length cg, .bool false, .slice b1 m1 e1]) (by simp [results, Tryz.results228, go_sem, q20, q21, q22, q23]) rfl ?_
  exact ⟨⟨_, rfl, _, _, rfl, HV.out.box4 q20 q21 q22 q23, HM.out.box4 q20 q21 q22 q23⟩, (((hbw.setCell hle _).setCell hle _).setCell hle _).setCell hle _⟩
set_option maxRecDepth 100000 in
set_option maxHeartbeats 4000000 in
theorem qCmp_any (va vb : Value) (N1 N2 : Int) (d1 d2 : Nat) (w : World) (ha : QV w va (decide (N1 < 0)) N1.natAbs d1) (hb : QV w vb (decide (N2 < 0)) N2.natAbs d2)
 (l1 : (dig N1.natAbs).length <= 1073741824) (l2 : (dig N2.natAbs).length <= 1073741824) (l3 : (dig d1).length <= 1073741824) (l4 : (dig d2).length <= 1073741824)
 (l5 : (dig (N1 * d2).natAbs).length <= 549755813888) (l6 : (dig (N2 * d1).natAbs).length <= 549755813888) :
 Calls Tryz.prog 72 #[va, vb] w fun e w' => e = .returned (.int .i64 (zcm (N1 * d2 - N2 * d1))) /\ Below w.heap.size w w' := by
 obtain ⟨a1, b1, n1, c1, m1, e1, rfl, za, zb⟩ := ha.zn
 obtain ⟨a2, b2, n2, c2, m2, e2, rfl, zc, zd⟩ := hb.zn
 have hm1 := fun W (h : Below w.heap.size w W) => zMul_any _ _ N1 d2 W (za.below h lc) (zd.below h lc) (by rw [Int.natAbs_natCast]; omega)
 have hm2 := fun W (h : Below w.heap.size w W) => zMul_any _ _ N2 d1 W (zc.below h lc) (zb.below h lc) (by rw [Int.natAbs_natCast]; omega)
 have had := fun v1 v2 W g1 g2 => zCmp_any v1 v2 (N1 * d2) (N2 * d1) W g1 g2 (by omega) (by omega)
 have HM1 := hG hm1; have HM2 := hG hm2; have HAD := hG had
 clear ha hb hm1 hm2 had za zb zc zd l1 l2 l3 l4 l5 l6
 generalize N1 * (d2 : Int) = P1 at *
 generalize N2 * (d1 : Int) = P2 at *
 generalize decide (N1 < 0) = s1 at *
 generalize decide (N2 < 0) = s2 at *
 obtain ⟨W0, hW0⟩ : ∃ W0, W0 = ((w.alloc (.cells #[.bool s1, .slice a1 n1 c1, .bool false, .slice b1 m1 e1] 129)).alloc (.cells #[.bool s2, .slice a2 n2 c2, .bool false, .slice b2 m2 e2] 129)) := ⟨_, rfl⟩
 have hB0 : Below w.heap.size w W0 := by rw [hW0]; exact (bg.alloc lc _).alloc (by simp) _
 have x0 : W0.cell? ⟨w.heap.size, 0, none⟩ = some (.bool s1) := by rw [hW0]; exact (cell_of_row _ _ 0 _ _ _ (heap_alloc2_old w _ _)).trans rfl
 have x1 : W0.cell? ⟨w.heap.size, 1, none⟩ = some (.slice a1 n1 c1) := by rw [hW0]; exact (cell_of_row _ _ 1 _ _ _ (heap_alloc2_old w _ _)).trans rfl
 have x2 : W0.cell? ⟨w.heap.size, 2, none⟩ = some (.bool false) := by rw [hW0]; exact (cell_of_row _ _ 2 _ _ _ (heap_alloc2_old w _ _)).trans rfl
 have x3 : W0.cell? ⟨w.heap.size, 3, none⟩ = some (.slice b1 m1 e1) := by rw [hW0]; exact (cell_of_row _ _ 3 _ _ _ (heap_alloc2_old w _ _)).trans rfl
 have y0 : W0.cell? ⟨w.heap.size + 1, 0, none⟩ = some (.bool s2) := by rw [hW0]; exact (cell_of_row _ _ 0 _ _ _ (heap_alloc2_new w _ _)).trans rfl
 have y1 : W0.cell? ⟨w.heap.size + 1, 1, none⟩ = some (.slice a2 n2 c2) := by rw [hW0]; exact (cell_of_row _ _ 1 _ _ _ (heap_alloc2_new w _ _)).trans rfl
 have y2 : W0.cell? ⟨w.heap.size + 1, 2, none⟩ = some (.bool false) := by rw [hW0]; exact (cell_of_row _ _ 2 _ _ _ (heap_alloc2_new w _ _)).trans rfl
 have y3 : W0.cell? ⟨w.heap.size + 1, 3, none⟩ = some (.slice b2 m2 e2) := by rw [hW0]; exact (cell_of_row _ _ 3 _ _ _ (heap_alloc2_new w _ _)).trans rfl
 have xd0 : W0.drew.cell? ⟨w.heap.size, 0, none⟩ = some (.bool s1) := x0
 have xd1 : W0.drew.cell? ⟨w.heap.size, 1, none⟩ = some (.slice a1 n1 c1) := x1
 have xd2 : W0.drew.cell? ⟨w.heap.size, 2, none⟩ = some (.bool false) := x2
 have xd3 : W0.drew.cell? ⟨w.heap.size, 3, none⟩ = some (.slice b1 m1 e1) := x3
 have yd0 : W0.drew.cell? ⟨w.heap.size + 1, 0, none⟩ = some (.bool s2) := y0
 have yd1 : W0.drew.cell? ⟨w.heap.size + 1, 1, none⟩ = some (.slice a2 n2 c2) := y1
 have yd2 : W0.drew.cell? ⟨w.heap.size + 1, 2, none⟩ = some (.bool false) := y2
 have yd3 : W0.drew.cell? ⟨w.heap.size + 1, 3, none⟩ = some (.slice b2 m2 e2) := y3
 have HB0 := hG hB0
 have HBC := hG ((Below.refl W0.heap.size W0).drew)
 obtain ⟨wc, hwc⟩ : ∃ wc, wc = W0.drew := ⟨_, rfl⟩
 rw [<- hwc] at HBC
 clear hB0
 go_enter Tryz.func72, Tryz.ntmps72
 go_wp2_with fail
 rw [<- hW0]
 clear hW0
 go_region_held3 (fun w' => w'.cell? ⟨w.heap.size, 0, none⟩ = some (.bool s1) /\ w'.cell? ⟨w.heap.size, 1, none⟩ = some (.slice a1 n1 c1) /\ w'.cell? ⟨w.heap.size, 2, none⟩ = some (.bool false) /\ w'.cell? ⟨w.heap.size, 3, none⟩ = some (.slice b1 m1 e1) /\ w'.cell? ⟨w.heap.size + 1, 0, none⟩ = some (.bool s2) /\ w'.cell? ⟨w.heap.size + 1, 1, none⟩ = some (.slice a2 n2 c2) /\ w'.cell? ⟨w.heap.size + 1, 2, none⟩ = some (.bool false) /\ w'.cell? ⟨w.heap.size + 1, 3, none⟩ = some (.slice b2 m2 e2))
  (first | with_reducible exact ⟨px0, px1, px2, px3, py0, py1, py2, py3⟩ | with_reducible exact ⟨x0, x1, x2, x3, y0, y1, y2, y3⟩ | with_reducible exact ⟨xd0, xd1, xd2, xd3, yd0, yd1, yd2, yd3⟩ | (refine ⟨?_, ?_, ?_, ?_, ?_, ?_, ?_, ?_⟩ <;> (repeat rw [World.cell?_setCell_other _ _ _ _ (by simp)]) <;> assumption) | go_keep)
  (first
   | (go_at_call 121; (try rw [<- hwc]); (with_reducible refine Calls.mono (HM1.out wc (HB0.out.trans (HBC.out.mono HB0.out.size))) ?_); rintro e wc ⟨⟨v1, rfl, hv1⟩, hbc⟩; (try have HV2 := hG (HV2.out.below hbc lc)); have HV1 := hG hv1; have HBC := hG (HBC.out.trans (hbc.mono HBC.out.size)); have px0 := cell_keep x0 HBC.out lc; have px1 := cell_keep x1 HBC.out lc; have px2 := cell_keep x2 HBC.out lc; have px3 := cell_keep x3 HBC.out lc; have py0 := cell_keep y0 HBC.out lc; have py1 := cell_keep y1 HBC.out lc; have py2 := cell_keep y2 HBC.out lc; have py3 := cell_keep y3 HBC.out lc; clear hbc hv1)
   | (go_at_call 121; (try rw [<- hwc]); (with_reducible refine Calls.mono (HM2.out wc (HB0.out.trans (HBC.out.mono HB0.out.size))) ?_); rintro e wc ⟨⟨v2, rfl, hv2⟩, hbc⟩; (try have HV1 := hG (HV1.out.below hbc lc)); have HV2 := hG hv2; have HBC := hG (HBC.out.trans (hbc.mono HBC.out.size)); have px0 := cell_keep x0 HBC.out lc; have px1 := cell_keep x1 HBC.out lc; have px2 := cell_keep x2 HBC.out lc; have px3 := cell_keep x3 HBC.out lc; have py0 := cell_keep y0 HBC.out lc; have py1 := cell_keep y1 HBC.out lc; have py2 := cell_keep y2 HBC.out lc; have py3 := cell_keep y3 HBC.out lc; clear hbc hv2)
   | (go_at_call 120; (with_reducible refine Calls.mono (HAD.out _ _ wc HV1.out HV2.out) ?_); rintro e wc ⟨rfl, hbc⟩; have HBC := hG (HBC.out.trans (hbc.mono HBC.out.size)); have px0 := cell_keep x0 HBC.out lc; have px1 := cell_keep x1 HBC.out lc; have px2 := cell_keep x2 HBC.out lc; have px3 := cell_keep x3 HBC.out lc; have py0 := cell_keep y0 HBC.out lc; have py1 := cell_keep y1 HBC.out lc; have py2 := cell_keep y2 HBC.out lc; have py3 := cell_keep y3 HBC.out lc; clear hbc))
 all_goals
  have hbw := HB0.out.trans (HBC.out.mono HB0.out.size)
  go_wp2
  go_ret
  exact ⟨rfl, hbw⟩
theorem chunk4 {l : List UInt8} {ds : List Nat} {k j n : Nat} (hj : j <= k) (hn : n = dval ((l.drop j).take (k - j))) (hd : l.length - k = 4 * ds.length) (hv : val ds = dval (l.drop k)) :
 val (ds ++ [n]) = dval (l.drop j) := by
 have e : l.drop j = (l.drop j).take (k - j) ++ l.drop k := by
  conv => lhs; rw [<- List.take_append_drop (k - j) (l.drop j)]
  rw [List.drop_drop, show j + (k - j) = k from by omega]
 have hB : B ^ ds.length = 10 ^ (4 * ds.length) := by rw [Nat.pow_mul]; rfl
 rw [e, dval_append, List.length_drop, <- hv, <- hn, val_snoc, hd, hB, Nat.mul_comm n]
 omega
def pfx (l : List UInt8) : Nat := ((l.take 2001).takeWhile isDg).length
def numN (l : List UInt8) : Nat := dval (l.take (pfx l))
def numT (l : List UInt8) : List UInt8 := l.drop (pfx l)
def partN (l : List UInt8) : Nat × Nat × List UInt8 :=
 if pfx l = 0 then (1, 1, l)
 else match numT l with
  | [] => (numN l, 1, [])
  | c :: r => if c = 47 /\ numN r ≠ 0 then (numN l / Nat.gcd (numN l) (numN r), numN r / Nat.gcd (numN l) (numN r), numT r) else (numN l, 1, c :: r)
def signN (l : List UInt8) : Bool × Nat × Nat × List UInt8 :=
 match l with
 | [] => (false, 1, 1, [])
 | c :: r => if c = 45 then (decide ((partN r).1 ≠ 0), partN r) else if c = 43 then (false, partN r) else (false, partN (c :: r))
theorem pfx_le (l : List UInt8) : pfx l <= l.length /\ pfx l <= 2001 := by
 unfold pfx
 have h1 := (List.takeWhile_prefix (p := isDg) (l := l.take 2001)).length_le
 rw [List.length_take] at h1
 omega
theorem takeWhile_take {p : UInt8 -> Bool} : ∀ (l : List UInt8), l.take (l.takeWhile p).length = l.takeWhile p := by
 intro l
 induction l with
 | nil => rfl
 | cons x r ih =>
   rw [List.takeWhile_cons]
   split
   · rw [List.length_cons, List.take_succ_cons, ih]
   · rfl
theorem pfx_take (l : List UInt8) : l.take (pfx l) = (l.take 2001).takeWhile isDg := by
 have h := takeWhile_take (p := isDg) (l.take 2001)
 rw [List.take_take] at h
 have h2 := (pfx_le l).2
 rw [Nat.min_eq_left (by unfold pfx at h2; exact h2)] at h
 exact h
theorem pfx_dg (l : List UInt8) : (l.take (pfx l)).all isDg = true := by
 rw [pfx_take, List.all_eq_true]
 intro x hx
 have : ∀ (m : List UInt8), ∀ x ∈ m.takeWhile isDg, isDg x = true := by
  intro m
  induction m with
  | nil => simp
  | cons y r ih =>
    intro x hx
    rw [List.takeWhile_cons] at hx
    split at hx
    · rename_i hy
      rcases List.mem_cons.1 hx with rfl | hx
      · exact hy
      · exact ih x hx
    · simp at hx
 exact this _ x hx
theorem pfx_is {l : List UInt8} {i : Nat} (hi : i <= l.length) (h2 : i <= 2001) (ha : (l.take i).all isDg = true) (hend : i = l.length ∨ i = 2001 ∨ ∃ c, l[i]? = some c /\ isDg c = false) : pfx l = i := by
 have key : ∀ (l : List UInt8) (m i : Nat), i <= l.length -> i <= m -> (l.take i).all isDg = true -> (i = l.length ∨ i = m ∨ ∃ c, l[i]? = some c /\ isDg c = false) -> ((l.take m).takeWhile isDg).length = i := by
  intro l
  induction l with
  | nil => intro m i h1 _ _ _; simp at h1; subst h1; simp
  | cons x r ih =>
    intro m i h1 h2 h3 h4
    cases m with
    | zero => obtain rfl : i = 0 := by omega
              simp
    | succ m =>
      rw [List.take_succ_cons, List.takeWhile_cons]
      cases i with
      | zero =>
        rcases h4 with h4 | h4 | ⟨c, h4, h5⟩
        · simp at h4
        · omega
        · simp at h4; subst h4; rw [h5]; rfl
      | succ i =>
        rw [List.take_succ_cons, List.all_cons, Bool.and_eq_true] at h3
        rw [h3.1, if_pos rfl, List.length_cons, ih m i (by simpa using h1) (by omega) h3.2 ?_]
        rcases h4 with h4 | h4 | ⟨c, h4, h5⟩
        · left; simpa using h4
        · right; left; omega
        · right; right; exact ⟨c, by simpa using h4, h5⟩
 exact key l 2001 i hi h2 ha hend
theorem ten_pow (n : Nat) : 10 ^ (4 * n) = B ^ n := by rw [Nat.pow_mul]; rfl
theorem one_lt_pow (k : Nat) : 1 < B ^ (k + 1) := Nat.one_lt_pow (Nat.succ_ne_zero k) (by decide)
def e501 : Nat := 501
theorem one_lt_pow' {k : Nat} (h : k ≠ 0) : 1 < B ^ k := Nat.one_lt_pow h (by decide)
theorem one_lt_B : 1 < B ^ e501 := one_lt_pow' (by decide)
theorem numN_lt (l : List UInt8) : numN l < B ^ e501 := by
 refine Nat.lt_of_lt_of_le (dval_lt _ (pfx_dg l)) ?_
 refine Nat.le_trans (Nat.pow_le_pow_right (by decide) (?_ : _ <= 4 * e501)) (Nat.le_of_eq (ten_pow e501))
 rw [List.length_take]
 have := (pfx_le l).2
 unfold e501
 omega
theorem partN_bd (l : List UInt8) : (partN l).1 < B ^ e501 /\ (partN l).2.1 < B ^ e501 /\ (partN l).2.1 ≠ 0 /\ Nat.gcd (partN l).1 (partN l).2.1 = 1 := by
 have h1 := one_lt_B
 unfold partN
 split
 · exact ⟨h1, h1, Nat.one_ne_zero, Nat.gcd_one_right _⟩
 · split
   · exact ⟨numN_lt l, h1, Nat.one_ne_zero, Nat.gcd_one_right _⟩
   · rename_i c r hr
     split
     · rename_i hc
       have hg : 0 < Nat.gcd (numN l) (numN r) := Nat.gcd_pos_of_pos_right _ (by omega)
       refine ⟨Nat.lt_of_le_of_lt (Nat.div_le_self _ _) (numN_lt l), Nat.lt_of_le_of_lt (Nat.div_le_self _ _) (numN_lt r), ?_, Nat.gcd_div_gcd_div_gcd_of_pos_right (by omega)⟩
       have := Nat.div_pos (Nat.le_of_dvd (by omega) (Nat.gcd_dvd_right (numN l) (numN r))) hg
       show numN r / _ ≠ 0
       omega
     · exact ⟨numN_lt l, h1, Nat.one_ne_zero, Nat.gcd_one_right _⟩
theorem signN_bd (l : List UInt8) : (signN l).2.1 < B ^ e501 /\ (signN l).2.2.1 < B ^ e501 /\ (signN l).2.2.1 ≠ 0 /\ Nat.gcd (signN l).2.1 (signN l).2.2.1 = 1 /\ ((signN l).2.1 = 0 -> (signN l).1 = false) := by
 have h1 := one_lt_B
 unfold signN
 split
 · exact ⟨h1, h1, Nat.one_ne_zero, Nat.gcd_one_right _, fun _ => rfl⟩
 · rename_i c r
   split
   · obtain ⟨a, b, e, f⟩ := partN_bd r
     exact ⟨a, b, e, f, fun h => by show decide ((partN r).1 ≠ 0) = false; rw [decide_eq_false]; simpa using h⟩
   · split
     · obtain ⟨a, b, e, f⟩ := partN_bd r
       exact ⟨a, b, e, f, fun _ => rfl⟩
     · obtain ⟨a, b, e, f⟩ := partN_bd (c :: r)
       exact ⟨a, b, e, f, fun _ => rfl⟩
theorem dig_501 {n : Nat} (h : n < B ^ e501) : (dig n).length <= 501 := by
 apply Nat.le_of_not_lt
 intro hc
 have hn : n ≠ 0 := by rintro rfl; simp [dig_zero] at hc
 have h1 := pow_len_le hn
 have h2 : B ^ e501 <= B ^ ((dig n).length - 1) := Nat.pow_le_pow_right B_pos (by unfold e501; omega)
 exact absurd (Nat.lt_of_lt_of_le h (Nat.le_trans h2 h1)) (Nat.lt_irrefl _)
theorem sm_snoc4 {ds : List Nat} {n : Nat} (h : Sm ds) (hn : n < B) : Sm (ds ++ [n]) := by
 intro d hd
 rcases List.mem_append.1 hd with h1 | h1
 · exact h d h1
 · rw [List.mem_singleton.1 h1]; exact hn
set_option maxRecDepth 100000 in
set_option maxHeartbeats 2000000 in
theorem zRead_any (s : ByteArray) (w : World) (hs : s.size <= 2001) (hd : s.data.toList.all isDg = true) :
 Calls Tryz.prog 246 #[.string s] w fun e w' => (∃ v, e = .returned v /\ ZV w' v (dval s.data.toList : Nat)) /\ Below w.heap.size w w' := by
 obtain ⟨i0, hi, hz0, hz1, hz2⟩ := info_parts Tryz.infoInt
 obtain ⟨l, hl⟩ : ∃ l, l = s.data.toList := ⟨_, rfl⟩
 have hsl : s.size = l.length := by rw [hl]; rfl
 rw [<- hl] at hd ⊢
 have HL := hG hl; have HD := hG hd; have HSL := hG hsl
 have hl1 : l.length <= 2001 := by omega
 have hets : (s.size : Int) = (l.length : Int) := by omega
 have hgetc : ∀ i, i < l.length -> ∃ c, l[i]? = some c /\ isDg c = true /\ ∃ h : i < s.size, s[i] = c := fun i h => by
  obtain ⟨c, h1, h2⟩ := byte_get (t := s) (i := i) (by omega)
  rw [<- hl] at h1
  exact ⟨c, h1, List.all_eq_true.1 hd c (List.mem_of_getElem? h1), by omega, h2⟩
 have HGC := hG hgetc
 have hbw0 := (Below.refl w.heap.size w).alloc lc (.cells #[.bool false, .slice none 0 0] 127)
 have HBW0 := hG hbw0; clear hbw0 hl hd hgetc hsl
 go_enter Tryz.func246, Tryz.ntmps246
 go_wp2_with fail
 clear hets
 go_loopw [3, 4] (fun dv tv wr => ∃ (ds : List Nat) (k : Int), tv = .int .i64 k /\ -3 <= k /\ k <= l.length /\ (l.length : Int) - k = 4 * (ds.length : Int) /\ val ds = dval (l.drop k.toNat) /\ Sm ds /\ wr.ownsRow (w.heap.size + 1) 3 1 dv ds.length (zs ds) /\ Below (w.heap.size + 1) (w.alloc (.cells #[.bool false, .slice none 0 0] 127)) wr) (fun _ tv _ => (intOf tv).toNat)
 case atStart => exact ⟨[], l.length, by first | rfl | rw [HSL.out], by omega, by omega, by simp, by rw [Int.toNat_natCast, List.drop_length]; rfl, fun d hd => by simp at hd, World.ownsRow_nil _ _ _ _, Below.refl _ _⟩
 case round =>
  obtain ⟨ds, k, rfl, hk1, hk2, hk4, hv, hsm, hown, hb⟩ := hrel
  have hsz := hb.size
  simp only [World.size_alloc] at hsz
  by_cases h0 : k <= 0
  · have hk0 : k.toNat = 0 := by omega
    rw [hk0, List.drop_zero] at hv
    obtain ⟨g, c, rfl, hcs, hc1, hc2⟩ := own_cap hown
    unfold maxLen at hc2
    have hmd := made_any false g ds c wr hcs hsm (by omega) hc1 hc2
    have hlen := dig_len_val hsm
    have hcs2 := strip_cells ds hcs hsm
    rw [hv] at hmd hcs2 hlen
    have HMD := hG hmd; have HCS := hG hcs2
    clear hmd hcs hcs2 hown hv hsm hk4 hk0
    go_wp2_with fail
    refine HMD.out.mono ?_
    rintro e w1 ⟨rfl, hb1⟩
    have hbx := hb.trans (hb1.mono hsz)
    have hbw := HBW0.out.trans (hbx.mono (by omega))
    have q0 : w1.cell? ⟨w.heap.size, 0, none⟩ = some (.bool false) := box_keep hbx (by omega) 0
    have q1 : w1.cell? ⟨w.heap.size, 1, none⟩ = some (.slice none 0 0) := box_keep hbx (by omega) 1
    have f0 := box_free hbx (by omega) 0
    have f1 := box_free hbx (by omega) 1
    have HC1 := hG (HCS.out.below hb1 lc)
    go_wp2
    refine bodyPost_ret (v := .agg #[.bool false, .slice g (dig (dval l)).length c]) (by simp [results, Tryz.results246, go_sem, q0, q1]) rfl ?_
    have hz : ZV (((w1.setCell ⟨w.heap.size, 0, none⟩ (.bool false)).setCell ⟨w.heap.size, 1, none⟩ (.slice g (dig (dval l)).length c))) (.agg #[.bool false, .slice g (dig (dval l)).length c]) ((dval l : Nat) : Int) := by
     refine ⟨g, c, ?_, ?_, ?_, hc2⟩
     · rw [decide_eq_false (by omega), Int.natAbs_natCast]
     · rw [Int.natAbs_natCast]; exact zbox HC1.out q0 q1
     · rw [Int.natAbs_natCast]; omega
    exact ⟨⟨_, rfl, hz⟩, (hbw.setCell lc _).setCell lc _⟩
  · obtain ⟨kn, rfl⟩ : ∃ kn : Nat, k = (kn : Int) := ⟨k.toNat, by omega⟩
    rw [Int.toNat_natCast] at hv
    obtain ⟨j, hj⟩ : ∃ j, j = kn - 4 := ⟨_, rfl⟩
    have hjk : j <= kn := by omega
    have hkj : kn - j <= 4 := by omega
    have hkl : kn <= l.length := by omega
    have emax : max (0 : Int) ((kn : Int) - 4) = (j : Int) := by omega
    have ewr : IntKind.i64.wrap ((kn : Int) - 4) = (kn : Int) - 4 := IntWalk.i64_in _ (by omega)
    have hds : ds.length <= 501 := by omega
    have HJ := hG hj; have HV := hG hv; have HK4 := hG hk4; have HSM := hG hsm
    clear hj hv hk4 hsm
    go_wp2_with fail
    clear emax
    go_loop [5, 6] (fun nv iv => ∃ i n : Nat, j <= i /\ i <= kn /\ iv = .int .i64 i /\ nv = .int .i64 n /\ n = dval ((l.drop j).take (i - j))) (fun _ iv => kn - (intOf iv).toNat)
    case atStart => exact ⟨j, 0, Nat.le_refl _, hjk, rfl, rfl, by rw [Nat.sub_self, List.take_zero]; rfl⟩
    case round =>
     obtain ⟨i, n, hji, hik, rfl, rfl, hn⟩ := hrel
     have hn4 : n < 10000 := by
      have h1 := dval_lt ((l.drop j).take (i - j)) (by
       rw [List.all_eq_true]; intro x hx
       exact List.all_eq_true.1 HD.out x (List.mem_of_mem_drop (List.mem_of_mem_take hx)))
      rw [<- hn] at h1
      have h2 : ((l.drop j).take (i - j)).length <= 4 := by rw [List.length_take]; omega
      have h3 := Nat.pow_le_pow_right (n := 10) (by decide) h2
      omega
     by_cases hlt : i < kn
     · obtain ⟨c, hlc, hcd, hit, rfl⟩ := HGC.out i (by omega)
       have hc8 : (s[i].toNat : Int) <= 255 := by have := s[i].toNat_lt; omega
       have htk : (l.drop j).take (i + 1 - j) = (l.drop j).take (i - j) ++ [s[i]] := by
        rw [show i + 1 - j = (i - j) + 1 from by omega, List.take_add_one, List.getElem?_drop, show j + (i - j) = i from by omega, hlc]; rfl
       have HTK := hG htk; have HN := hG hn
       clear hlc htk hn
       have i1 : (i : Int) < (kn : Int) := by omega
       have i2 : (0 : Int) <= (i : Int) := by omega
       have i3 : (i : Int) < (s.size : Int) := by omega
       simp only [isDg, Bool.and_eq_true, decide_eq_true_eq] at hcd
       have hd3 : (48 : Int) <= (s[i].toNat : Int) /\ (s[i].toNat : Int) <= 57 := by omega
       obtain ⟨d1, d2⟩ := hd3
       have en : (10 * (n : Int) + ((s[i].toNat : Int) - 48)) = ((10 * n + (s[i].toNat - 48) : Nat) : Int) := by omega
       have EN := hG en
       clear hcd en
       go_wp2_with fail
       go_round
       case rel => exact ⟨i + 1, 10 * n + (s[i].toNat - 48), by omega, by omega, by go_num, by rw [EN.out], by rw [HTK.out, dval_snoc, HN.out]⟩
       case measure => simp [intOf]; omega
     · obtain rfl : i = kn := by omega
       have hv2 := chunk4 hji hn (by have := HK4.out; omega) HV.out
       have hsm2 := sm_snoc4 HSM.out (show n < B by simp only [B]; omega)
       have HV2 := hG hv2; have HSM2 := hG hsm2
       have HOB : Hid (∀ j, u3.ownBlock = some j -> w.heap.size + 1 <= j) := fun j e => (hown.lt j e).1
       have i1 : ¬ ((i : Int) < (i : Int)) := by omega
       clear hn hv2 hsm2
       go_wp2_with (at_builtin; refine wpList_append_own _ rfl _ _ 43 rfl (w.heap.size + 1) 3 i0 (.int .i64 0) 1 8 Tryz.underlying43 hi hz0 hz1 hz2 rfl (by decide) _ _ _ rfl (hown.alloc _) ⟨wr.heap.size, 0, none⟩ 1 1 [.int .i64 (n : Nat)] rfl rfl (news1 _ _ _) (by simp [Value.oneCell']) (by unfold maxLen; omega) (by omega) (by simp; omega) ?_; intro v1 wz hown1 hgrow _)
       have hfin := hown1
       rw [show zs ds ++ [.int .i64 (n : Nat)] = zs (ds ++ [n]) from by rw [zs_append]; rfl] at hfin
       have hbz := (hb.alloc hsz (.cells #[.int .i64 (n : Nat)] 3)).grown hgrow (by simp; omega) HOB.out
       clear hown1 hgrow hown
       have HFIN := hG hfin; clear hfin
       go_wp2_with fail
       go_roundw
       case rel => exact ⟨ds ++ [n], (i : Int) - 4, by first | rfl | rw [ewr], by omega, by omega, by have := HK4.out; rw [List.length_append, List.length_singleton]; omega, by rw [show ((i : Int) - 4).toNat = j by have := HJ.out; omega]; exact HV2.out, HSM2.out, by simpa using HFIN.out, hbz⟩
       case measure => simp [intOf]; omega
set_option maxRecDepth 100000 in
set_option maxHeartbeats 2000000 in
theorem number_any (s : ByteArray) (w : World) (hs : s.size <= 9223372036854775807) :
 Calls Tryz.prog 236 #[.string s] w fun e w' => (∃ v r, e = .returned (.tuple #[v, .string r]) /\ ZV w' v (numN s.data.toList : Nat) /\ r.data.toList = numT s.data.toList) /\ Below w.heap.size w w' := by
 obtain ⟨l, hl⟩ : ∃ l, l = s.data.toList := ⟨_, rfl⟩
 have hsl : s.size = l.length := by rw [hl]; rfl
 rw [<- hl]
 have HL := hG hl; have HSL := hG hsl
 have hl1 : l.length <= 9223372036854775807 := by omega
 have hets : (s.size : Int) = (l.length : Int) := by omega
 have hgetc : ∀ i, i < l.length -> ∃ c, l[i]? = some c /\ ∃ h : i < s.size, s[i] = c := fun i h => by
  obtain ⟨c, h1, h2⟩ := byte_get (t := s) (i := i) (by omega)
  rw [<- hl] at h1
  exact ⟨c, h1, by omega, h2⟩
 have HGC := hG hgetc
 obtain ⟨W0, hW0⟩ : ∃ W0, w.alloc (.cells #[.bool false, .slice none 0 0] 127) = W0 := ⟨_, rfl⟩
 have hb0 : Below w.heap.size w W0 := by rw [<- hW0]; exact (Below.refl _ w).alloc lc _
 have q0 : Blk W0 w.heap.size 127 #[.bool false, .slice none 0 0] := by rw [<- hW0]; exact heap_alloc_new w _
 have hsz0 : W0.heap.size = w.heap.size + 1 := by rw [<- hW0]; simp
 have HB0 := hG hb0; have HQ0 := hG q0; have HW0 := hG hW0; have HSZ0 := hG hsz0
 clear hl hgetc hsl hb0 q0 hsz0 hW0
 go_enter Tryz.func236, Tryz.ntmps236
 go_wp2_with fail
 rw [HW0.out]
 go_loop [4] (fun v => ∃ i : Nat, i <= l.length /\ i <= 2001 /\ v = .int .i64 i /\ (l.take i).all isDg = true) (fun v => 2001 - (intOf v).toNat)
 case atStart => exact ⟨0, Nat.zero_le _, Nat.zero_le _, rfl, rfl⟩
 case round =>
  obtain ⟨i, hi, hi2, rfl, ha⟩ := hrel
  have HA := hG ha; clear ha
  have key : (i < l.length /\ i <= 2000 /\ ∃ c, l[i]? = some c /\ isDg c = true /\ ∃ h : i < s.size, s[i] = c) ∨ (pfx l = i /\ (i = l.length ∨ (i < l.length /\ i = 2001) ∨ (i < l.length /\ i <= 2000 /\ ∃ c, isDg c = false /\ ∃ h : i < s.size, s[i] = c))) := by
   rcases Nat.lt_or_ge i l.length with hlt | hge
   · obtain ⟨c, h1, h2, h3⟩ := HGC.out i hlt
     rcases Nat.lt_or_ge 2000 i with h4 | h4
     · obtain rfl : i = 2001 := by omega
       exact .inr ⟨pfx_is hi lc HA.out (.inr (.inl rfl)), .inr (.inl ⟨hlt, rfl⟩)⟩
     · cases hc : isDg c with
       | true => exact .inl ⟨hlt, h4, c, h1, hc, h2, h3⟩
       | false => exact .inr ⟨pfx_is hi (by omega) HA.out (.inr (.inr ⟨c, h1, hc⟩)), .inr (.inr ⟨hlt, h4, c, hc, h2, h3⟩)⟩
   · obtain rfl : i = l.length := by omega
     exact .inr ⟨pfx_is hi (by omega) HA.out (.inl rfl), .inl rfl⟩
  rcases key with ⟨hlt, h2000, c, hlc, hcd, hit, rfl⟩ | ⟨hp, hend⟩
  · have htk : (l.take (i + 1)).all isDg = true := by rw [take_get hlc, List.all_append, HA.out, List.all_cons, hcd]; rfl
    have HTK := hG htk
    simp only [isDg, Bool.and_eq_true, decide_eq_true_eq] at hcd
    have d1 : (48 : Int) <= (s[i].toNat : Int) := by omega
    have d2 : (s[i].toNat : Int) <= 57 := by omega
    have i1 : (i : Int) < (l.length : Int) := by omega
    have i2 : (0 : Int) <= (i : Int) := by omega
    have i3 : (i : Int) <= 2000 := by omega
    clear hlc hcd htk
    go_wp2_with fail
    go_round
    case rel => exact ⟨i + 1, by omega, by omega, by go_num, HTK.out⟩
    case measure => simp [intOf]; omega
  · have hzr := fun W => zRead_any (s.extract 0 i) W
    have he1 : (s.extract 0 i).data.toList = l.take i := by
     have : (s.extract 0 i).data.toList = s.data.toList.take i := by simp [ByteArray.data_extract]
     rw [this, <- HL.out]
    have he2 : (s.extract i s.size).data.toList = l.drop i := by
     have : (s.extract i s.size).data.toList = (s.data.toList.drop i).take (s.size - i) := by simp [ByteArray.data_extract]
     rw [this, <- HL.out, HSL.out, List.take_of_length_le (by rw [List.length_drop]; omega)]
    have hes : (s.extract 0 i).size = i := by
     have : (s.extract 0 i).size = (s.extract 0 i).data.toList.length := rfl
     rw [this, he1, List.length_take]; omega
    have hzr := fun W => zRead_any (s.extract 0 i) W (by omega) (by rw [he1]; exact HA.out)
    rw [he1] at hzr
    have hn : numN l = dval (l.take i) := by unfold numN; rw [hp]
    have ht : numT l = l.drop i := by unfold numT; rw [hp]
    rw [<- hn] at hzr
    rw [<- ht] at he2
    have HZR := hG hzr; have HE2 := hG he2
    clear hzr he1 he2 hes hn ht hp
    have i2 : (0 : Int) <= (i : Int) := by omega
    have i3 : (i : Int) <= (l.length : Int) := by omega
    have hend2 : i = l.length ∨ (i < l.length /\ i = 2001) ∨ (i < l.length /\ i <= 2000 /\ ∃ h : i < s.size, (s[i].toNat : Int) < 48) ∨ (i < l.length /\ i <= 2000 /\ ∃ h : i < s.size, 48 <= (s[i].toNat : Int) /\ 57 < (s[i].toNat : Int)) := by
     rcases hend with h | h | ⟨h1, h2, c, hc, hit, rfl⟩
     · exact .inl h
     · exact .inr (.inl h)
     · simp only [isDg, Bool.and_eq_false_iff, decide_eq_false_iff_not] at hc
       by_cases h5 : (s[i].toNat : Int) < 48
       · exact .inr (.inr (.inl ⟨h1, h2, hit, h5⟩))
       · exact .inr (.inr (.inr ⟨h1, h2, hit, by omega, by omega⟩))
    clear hend
    have HLN : Hid (i <= l.length) := hG hi
    rcases hend2 with h1 | ⟨h1, h2⟩ | ⟨h1, h2, hit, h3⟩ | ⟨h1, h2, hit, h3, h4⟩
    all_goals
     have j1 : (i : Int) < (l.length : Int) ∨ ¬ ((i : Int) < (l.length : Int)) := by omega
     have j2 : (i : Int) <= 2000 ∨ ¬ ((i : Int) <= 2000) := by omega
     rcases j1 with j1 | j1 <;> rcases j2 with j2 | j2 <;> (try (exfalso; omega))
     all_goals
      clear h1
      try clear h2
      go_wp2_with fail
      go_region_with (go_at_call 246; refine (HZR.out _).mono ?_; rintro e w1 ⟨⟨v, rfl, va, vc, rfl, hv1, hv2, hv3⟩, hb1⟩; have hb2 := ((Below.refl W0.heap.size W0).drew).trans hb1; have hq := HQ0.out.below hb2 (by have := HSZ0.out; omega); have k0 := hq.cell 0; have k1 := hq.cell 1; have f0 := hq.free 0; have f1 := hq.free 1; have HV1 := hG hv1; have HB2 := hG hb2; clear hv1 hb1 hb2 hq)
      have hbw := HB0.out.trans (HB2.out.mono HB0.out.size)
      go_wp2_with fail
      refine bodyPost_ret (v := .tuple #[.agg #[.bool (decide ((numN l : Int) < 0)), .slice va (dig (numN l : Int).natAbs).length vc], .string (s.extract i s.size)]) (by simp [results, Tryz.results236, go_sem, k0, k1]) rfl ?_
      exact ⟨⟨_, _, rfl, ⟨va, vc, rfl, zbox HV1.out k0 k1, hv2, hv3⟩, HE2.out⟩, (hbw.setCell lc _).setCell lc _⟩
def chB (d : Nat) : ByteArray := ⟨#[UInt8.ofNat (48 + d)]⟩
theorem rune_string (d : Nat) (h : d < 10) (W : World) : Sem.run Tryz.prog (convert 21 9 (.int .i32 ((48 : Int) + (d : Nat)))) W = .ok (.string (chB d)) W := by
 obtain rfl | rfl | rfl | rfl | rfl | rfl | rfl | rfl | rfl | rfl : d = 0 ∨ d = 1 ∨ d = 2 ∨ d = 3 ∨ d = 4 ∨ d = 5 ∨ d = 6 ∨ d = 7 ∨ d = 8 ∨ d = 9 := by omega
 all_goals simp [convert, go_sem, chB]
 all_goals rfl
theorem chB_size (d : Nat) : (chB d).size = 1 := rfl
set_option maxRecDepth 100000 in
theorem decimal_any (n : Nat) (w : World) (hn : n < 9223372036854775808) :
 Calls Tryz.prog 215 #[.int .i64 (n : Nat)] w fun e w' => e = .returned (.string ⟨(Lib.decDigits n).toArray⟩) /\ w = w' := by
 by_cases h0 : n = 0
 · subst h0
   have hd : Lib.decDigits 0 = [48] := Lib.decDigits_one (by decide)
   rw [hd]
   go_enter Tryz.func215, Tryz.ntmps215
   go_wp2
   go_ret
   exact ⟨rfl, rfl⟩
 · have hne : ((n : Int) == 0) = false := by rw [beq_eq_false_iff_ne]; omega
   have hlt : ¬ (n : Int) < 0 := by omega
   have hlen : (Lib.decDigits n).length <= 20 := by rw [Lib.decDigits_length]; exact Lib.nDigits_le20 n (by omega)
   have HLEN := hG hlen; clear hlen
   go_enter Tryz.func215, Tryz.ntmps215
   go_wp2
   go_loop [0, 3] (fun kv sv => ∃ (k : Nat) (st : ByteArray), k <= n /\ kv = .int .i64 k /\ sv = .string st /\ (k ≠ 0 -> Lib.decDigits n = Lib.decDigits k ++ st.data.toList) /\ (k = 0 -> Lib.decDigits n = st.data.toList)) (fun kv _ => (intOf kv).toNat)
   case atStart => exact ⟨n, ⟨#[]⟩, Nat.le_refl _, rfl, rfl, fun _ => by simp, fun h => absurd h h0⟩
   case round =>
    obtain ⟨k, st, hk, rfl, rfl, h1, h2⟩ := hrel
    by_cases hk0 : k = 0
    · subst hk0
      have hst : st = ⟨(Lib.decDigits n).toArray⟩ := by rw [h2 rfl]
      have HST := hG hst
      clear h1 h2 hst
      go_wp2
      go_ret
      exact ⟨by rw [<- HST.out]; rfl, rfl⟩
    · have h3 := h1 hk0
      have hsz : st.size <= 20 := by
       have h4 := HLEN.out
       have h5 : st.data.toList.length = st.data.size := Array.length_toList
       rw [h3, List.length_append] at h4
       show st.data.size <= 20
       omega
      have hd := rune_string (k % 10)  (by omega)
      have hq : k / 10 < k := by omega
      have hs1 := chB_size (k % 10)
      have hnext : (k / 10 ≠ 0 -> Lib.decDigits n = Lib.decDigits (k / 10) ++ (chB (k % 10) ++ st).data.toList) /\ (k / 10 = 0 -> Lib.decDigits n = (chB (k % 10) ++ st).data.toList) := by
       have h4 : (chB (k % 10) ++ st).data.toList = [UInt8.ofNat (48 + k % 10)] ++ st.data.toList := by simp [chB, ByteArray.data_append]
       rw [h4]
       refine ⟨fun h5 => ?_, fun h5 => ?_⟩
       · rw [h3, Lib.decDigits, dif_neg (show ¬ k < 10 by omega), List.append_assoc]
       · rw [h3, Lib.decDigits_one (show k < 10 by omega), Nat.mod_eq_of_lt (show k < 10 by omega)]
      have hq9 : k % 10 < 10 := by omega
      have e1 : (k : Int) % 10 = ((k % 10 : Nat) : Int) := by omega
      have e2 : (k : Int) / 10 = ((k / 10 : Nat) : Int) := by omega
      have e1' : (k : Int).tmod 10 = ((k % 10 : Nat) : Int) := by rw [Int.tmod_eq_emod_of_nonneg (by omega)]; exact e1
      have e2' : (k : Int).tdiv 10 = ((k / 10 : Nat) : Int) := by rw [Int.tdiv_eq_ediv_of_nonneg (by omega)]; exact e2
      have HN := hG hnext
      clear h1 h2 h3 hnext
      generalize k % 10 = d at *
      generalize k / 10 = q at *
      have e3 : ¬ ((d : Nat) : Int) < 0 := by omega
      have e4 : IntKind.i32.wrap ((48 : Int) + (d : Nat)) = (48 : Int) + (d : Nat) := by have := IntKind.wrap_i32 ((48 : Int) + (d : Nat)); omega
      have hkne : ((k : Int) == 0) = false := by rw [beq_eq_false_iff_ne]; omega
      go_wp2
      go_round
      case rel => exact ⟨q, _, by omega, rfl, rfl, HN.out.1, HN.out.2⟩
      case measure => simp [intOf]; omega
theorem val_drop {l : List Nat} {i x : Nat} (hx : l[i]? = some x) : val (l.drop i) = x + B * val (l.drop (i + 1)) := by
 have hi : i < l.length := (List.getElem?_eq_some_iff.1 hx).1
 rw [List.drop_eq_getElem_cons hi, val_cons]
 rw [List.getElem?_eq_getElem hi] at hx
 cases hx
 rfl
theorem top_pos {n t : Nat} (h : (dig n)[(dig n).length - 1]? = some t) : 0 < t := by
 have h1 := last_dig n
 rw [List.getLast?_eq_getElem?, h] at h1
 rcases Nat.eq_zero_or_pos t with h2 | h2
 · subst h2; exact absurd rfl h1
 · exact h2
theorem drop_pos {l : List Nat} {t : Nat} (h : l[l.length - 1]? = some t) (ht : 0 < t) (i : Nat) (hi : i < l.length) : 0 < val (l.drop i) := by
 rcases Nat.eq_zero_or_pos (val (l.drop i)) with h0 | h0
 · exfalso
   have h1 := val_eq_zero.1 h0 t (List.mem_iff_getElem?.2 ⟨l.length - 1 - i, by rw [List.getElem?_drop, show i + (l.length - 1 - i) = l.length - 1 from by omega]; exact h⟩)
   omega
 · exact h0
theorem val_top {l : List Nat} {t : Nat} (h : l[l.length - 1]? = some t) : val (l.drop (l.length - 1)) = t := by
 have hi := (List.getElem?_eq_some_iff.1 h).1
 rw [val_drop h, List.drop_of_length_le (by omega)]
 simp [val]
theorem B_pow (k : Nat) : B ^ k = 10 ^ (4 * k) := by
 rw [Nat.pow_mul]; rfl
theorem size_dig_eq {n t : Nat} (h : (dig n)[(dig n).length - 1]? = some t) : Lib.nDigits n = 4 * ((dig n).length - 1) + Lib.nDigits t := by
 have ht := top_pos h
 have h1 := val_split h
 have hi := (List.getElem?_eq_some_iff.1 h).1
 rw [val_dig, List.drop_of_length_le (by omega)] at h1
 simp only [val, Nat.mul_zero, Nat.add_zero] at h1
 have h2 : val ((dig n).take ((dig n).length - 1)) < B ^ ((dig n).length - 1) := by
  have h3 := val_lt (xs := (dig n).take ((dig n).length - 1)) (fun d hd => sm_dig n d (List.mem_of_mem_take hd))
  rwa [List.length_take, Nat.min_eq_left (by omega)] at h3
 rw [B_pow] at h1 h2
 generalize 4 * ((dig n).length - 1) = k at *
 generalize val ((dig n).take ((dig n).length - 1)) = lo at *
 rw [h1, Nat.add_comm lo, Nat.mul_comm, nDigits_shift k t lo ht h2]
 omega
theorem dec_digit {h x : Nat} (hh : 0 < h) (hx : x < B) : Lib.decDigits (x + B * h) = Lib.decDigits h ++ padD 4 x /\ Lib.decDigits (10000 + x) = 49 :: padD 4 x := by
 have hx' : x < 10 ^ 4 := hx
 refine ⟨?_, ?_⟩
 · rw [<- dec_shift 4 h x hh hx', show x + B * h = h * 10 ^ 4 + x from by simp only [B]; omega]
 · have := dec_shift 4 1 x (by omega) hx'
   rw [Nat.one_mul] at this
   rw [show (10000 : Nat) + x = 10 ^ 4 + x from rfl, this, Lib.decDigits_one (by decide)]
   rfl
theorem cat_tail {st dt : ByteArray} {x : Nat} (h : dt = ⟨(49 :: padD 4 x).toArray⟩) : (st ++ dt.extract 1 5).data.toList = st.data.toList ++ padD 4 x := by
 have h1 : (padD 4 x).length = 4 := padD_length 4 x
 have h2 : (dt.extract 1 5).data.toList = padD 4 x := by
  subst h
  rw [ByteArray.data_extract]
  simp only [Array.toList_extract, List.extract_eq_take_drop, List.drop_succ_cons, List.drop_zero]
  exact List.take_of_length_le (by omega)
 rw [ByteArray.data_append, Array.toList_append, h2]
set_option maxRecDepth 100000 in
theorem many_any (v : Value) (n : Nat) (w : World) (hv : MV w v n) (hl : (dig n).length <= 549755813888) :
 Calls Tryz.prog 194 #[v] w fun e w' => e = .returned (.int .i64 (Lib.nDigits n)) /\ w = w' := by
 by_cases h0 : n = 0
 · subst h0
   obtain ⟨a, c, rfl⟩ := hv.cases
   have hl0 : (dig 0).length = 0 := by rw [dig_zero]; rfl
   rw [hl0]
   clear hv hl0
   go_enter Tryz.func194, Tryz.ntmps194
   go_wp2
   go_ret
   exact ⟨by rw [Lib.nDigits_small (by decide)]; rfl, rfl⟩
 · obtain ⟨a, c, rfl, hc, _⟩ := hv
   obtain ⟨L, hL⟩ : ∃ L, (dig n).length = L + 1 := ⟨(dig n).length - 1, by have := mt dig_len_pos.1 h0; omega⟩
   obtain ⟨t, htd⟩ := get_of_lt (show L < (dig n).length by omega)
   have hsz := size_dig_eq (n := n) (t := t) (by rw [hL]; exact htd)
   have htb : t <= 9999 := sm_get (sm_dig n) htd
   obtain ⟨b, off, rfl⟩ := hc.addr (zs_ne (by omega))
   have c0 : w.cell? ⟨b, off + L, none⟩ = some (.int .i64 (t : Nat)) := zcell hc htd
   rw [hL] at hsz hl ⊢
   simp only [Nat.add_sub_cancel] at hsz
   have hn9 := nDigits_le 8 t (by omega)
   have hff := decimal_any t w (by omega)
   have hs : (⟨(Lib.decDigits t).toArray⟩ : ByteArray).size = Lib.nDigits t := by rw [<- Lib.decDigits_length]; simp [ByteArray.size]
   have e1 : IntKind.i64.wrap (((L + 1 : Nat) : Int) - 1) = (L : Int) := by rw [show ((L + 1 : Nat) : Int) - 1 = (L : Int) from by omega]; exact IntWalk.i64_in _ (by omega)
   have e2 : (L : Int).toNat = L := by omega
   have e3 : IntKind.i64.wrap (4 * (L : Int)) = 4 * (L : Int) := IntWalk.i64_in _ (by omega)
   have e4 : IntKind.i64.wrap (4 * (L : Int) + (Lib.nDigits t : Int)) = (Lib.nDigits n : Int) := by rw [show 4 * (L : Int) + (Lib.nDigits t : Int) = (Lib.nDigits n : Int) from by omega]; exact IntWalk.i64_in _ (by omega)
   have HFF := hG hff
   clear hff hc htd hsz hL
   go_enter Tryz.func194, Tryz.ntmps194
   go_wp2_with (go_at_call 215; refine HFF.out.mono ?_; rintro e w' ⟨rfl, rfl⟩)
   go_ret
   exact ⟨rfl, rfl⟩
set_option maxRecDepth 100000 in
set_option maxHeartbeats 1000000 in
theorem digits_any (v : Value) (n : Nat) (w : World) (hv : MV w v n) (hl : (dig n).length <= 549755813888) :
 Calls Tryz.prog 216 #[v] w fun e w' => e = .returned (.string ⟨(Lib.decDigits n).toArray⟩) /\ w = w' := by
 by_cases h0 : n = 0
 · subst h0
   obtain ⟨a, c, rfl⟩ := hv.cases
   have hl0 : (dig 0).length = 0 := by rw [dig_zero]; rfl
   have hd : Lib.decDigits 0 = [48] := Lib.decDigits_one (by decide)
   rw [hl0, hd]
   clear hv hl0
   go_enter Tryz.func216, Tryz.ntmps216
   go_wp2
   go_ret
   exact ⟨rfl, rfl⟩
 · obtain ⟨a, c, rfl, hc, _⟩ := hv
   obtain ⟨L, hL⟩ : ∃ L, (dig n).length = L + 1 := ⟨(dig n).length - 1, by have := mt dig_len_pos.1 h0; omega⟩
   obtain ⟨t, htd⟩ := get_of_lt (show L < (dig n).length by omega)
   have htd' : (dig n)[(dig n).length - 1]? = some t := by rw [hL]; exact htd
   have hvt := val_top htd'
   have hdp := drop_pos htd' (top_pos htd')
   have hszn := size_dig_eq htd'
   have htb : t <= 9999 := sm_get (sm_dig n) htd
   have hn9 := nDigits_le 8 t (by omega)
   obtain ⟨b, off, rfl⟩ := hc.addr (zs_ne (by omega))
   have c0 : w.cell? ⟨b, off + L, none⟩ = some (.int .i64 (t : Nat)) := zcell hc htd
   rw [hL] at hl hvt hdp hszn ⊢
   simp only [Nat.add_sub_cancel] at hvt hszn
   have hff := decimal_any t w (by omega)
   have e1 : IntKind.i64.wrap (((L + 1 : Nat) : Int) - 1) = (L : Int) := by rw [show ((L + 1 : Nat) : Int) - 1 = (L : Int) from by omega]; exact IntWalk.i64_in _ (by omega)
   have e2 : (L : Int).toNat = L := by omega
   have e3 : IntKind.i64.wrap (((L + 1 : Nat) : Int) - 2) = (L : Int) - 1 := by rw [show ((L + 1 : Nat) : Int) - 2 = (L : Int) - 1 from by omega]; exact IntWalk.i64_in _ (by omega)
   have HFF := hG hff; have HC := hG hc; have HVT := hG hvt; have HDP := hG hdp; have HL := hG hL
   clear hff hc htd htd' hvt hdp hL
   go_enter Tryz.func216, Tryz.ntmps216
   go_wp2_with (go_at_call 215; refine HFF.out.mono ?_; rintro e w' ⟨rfl, rfl⟩; refine Hid.out ?_)
   refine hG ?_
   go_wp2
   go_loop [3, 4] (fun sv iv => ∃ (j : Nat) (st : ByteArray), j <= L /\ iv = .int .i64 ((j : Int) - 1) /\ sv = .string st /\ st.data.toList = Lib.decDigits (val ((dig n).drop j))) (fun _ iv => (intOf iv + 1).toNat)
   case atStart => exact ⟨L, _, Nat.le_refl _, congrArg (Value.int .i64) (by omega), rfl, by rw [HVT.out]⟩
   case round =>
    clear c0
    obtain ⟨j, st, hj, rfl, rfl, hst⟩ := hrel
    rcases Nat.eq_zero_or_pos j with hj0 | hj0
    · subst hj0
      rw [List.drop_zero, val_dig] at hst
      have hs : st = ⟨(Lib.decDigits n).toArray⟩ := by rw [<- hst]
      have HST := hG hs
      clear hs hst
      go_wp2
      go_ret
      exact ⟨by rw [<- HST.out]; rfl, rfl⟩
    · obtain ⟨i, rfl⟩ : ∃ i, j = i + 1 := ⟨j - 1, by omega⟩
      obtain ⟨x, hx⟩ := get_of_lt (show i < (dig n).length by rw [HL.out]; omega)
      have hxb : x <= 9999 := sm_get (sm_dig n) hx
      have hdv := val_drop hx
      have hhp := HDP.out (i + 1) (by omega)
      obtain ⟨hdd, hd1⟩ := dec_digit hhp (show x < B by simp only [B]; omega)
      have c0 : w.cell? ⟨b, off + i, none⟩ = some (.int .i64 (x : Nat)) := zcell HC.out hx
      have hff := decimal_any (10000 + x) w (by omega)
      rw [hd1] at hff
      obtain ⟨dt, hdt⟩ : ∃ dt : ByteArray, dt = ⟨(49 :: padD 4 x).toArray⟩ := ⟨_, rfl⟩
      rw [<- hdt] at hff
      have hds : dt.size = 5 := by rw [hdt]; show (49 :: padD 4 x).toArray.size = 5; simp [padD_length]
      have hst4 : st.size <= 4398046511104 := by
       have h4 : st.data.toList.length = st.data.size := Array.length_toList
       have h5 : val ((dig n).drop (i + 1)) < 10 ^ (4 * L) := by
        have h6 := val_lt (xs := (dig n).drop (i + 1)) (fun d hd => sm_dig n d (List.mem_of_mem_drop hd))
        rw [B_pow, List.length_drop, HL.out] at h6
        exact Nat.lt_of_lt_of_le h6 (Nat.pow_le_pow_right (by decide) (by omega))
       have h7 := nDigits_le (4 * L - 1) _ (by rw [show 4 * L - 1 + 1 = 4 * L from by omega]; exact h5)
       rw [hst, Lib.decDigits_length] at h4
       show st.data.size <= _
       omega
      have e1 : (((i + 1 : Nat) : Int) - 1) = (i : Int) := by omega
      have e2 : (i : Int).toNat = i := by omega
      have e4 : (0 : Int) <= i := by omega
      have e5 : (i : Int) < ((L + 1 : Nat) : Int) := by omega
      have e6 : IntKind.i64.wrap ((10000 : Int) + (x : Int)) = ((10000 + x : Nat) : Int) := by rw [show (10000 : Int) + (x : Int) = ((10000 + x : Nat) : Int) from by omega]; exact IntWalk.i64_in _ (by omega)
      have e7 : IntKind.i64.wrap ((i : Int) - 1) = (i : Int) - 1 := IntWalk.i64_in _ (by omega)
      rw [e1]
      have HFF := hG hff; have HDD := hG hdd; have HDV := hG hdv; have HST := hG hst; have HDT := hG hdt
      clear hff hdd hdv hx e1 hhp hst hdt hd1
      go_wp2_with fail
      refine HFF.out.mono ?_
      rintro e w3 ⟨rfl, rfl⟩
      go_wp2
      go_round
      case rel => exact ⟨i, _, by omega, rfl, rfl, by rw [HDV.out, HDD.out, cat_tail HDT.out, HST.out]⟩
      case measure => simp [intOf]
def dcB (n : Nat) : ByteArray := ⟨(Lib.decDigits n).toArray⟩
theorem dcB_size (n : Nat) : (dcB n).size = Lib.nDigits n := by
 rw [<- Lib.decDigits_length]; simp [dcB, ByteArray.size]
def zT (s : Bool) (n : Nat) : ByteArray := if s = true then ⟨#[45]⟩ ++ dcB n else dcB n
theorem digits_bd {n : Nat} (h : (dig n).length <= 549755813888) : Lib.nDigits n <= 2199023255552 := by
 by_cases h0 : n = 0
 · subst h0; rw [Lib.nDigits_small (by decide)]; omega
 · have hp : 0 < (dig n).length := by have := mt dig_len_pos.1 h0; omega
   have h1 := lt_pow_len n
   rw [B_pow] at h1
   have := nDigits_le (4 * (dig n).length - 1) n (by rw [show 4 * (dig n).length - 1 + 1 = 4 * (dig n).length from by omega]; exact h1)
   omega
theorem digits_mv (v : Value) (n : Nat) (w : World) (hv : MV w v n) (hl : (dig n).length <= 549755813888) :
 Calls Tryz.prog 216 #[v] w fun e w' => e = .returned (.string (dcB n)) /\ w = w' := digits_any v n w hv hl
set_option maxRecDepth 100000 in
theorem zText_any (s : Bool) (vd : Value) (n : Nat) (w : World) (hv : MV w vd n) (hl : (dig n).length <= 549755813888) :
 Calls Tryz.prog 195 #[.agg #[.bool s, vd]] w fun e w' => e = .returned (.string (zT s n)) /\ Below w.heap.size w w' := by
 have hbw := (Below.refl w.heap.size w).alloc lc (.cells #[.bool s, vd] 127)
 have hdg := digits_mv vd n _ (hv.below hbw lc) hl
 have hsz := dcB_size n
 have hnd := digits_bd hl
 have hs4 : (⟨#[45]⟩ : ByteArray).size = 1 := rfl
 obtain ⟨a, c, rfl⟩ := hv.cases
 have HDG := hG hdg; have HBW := hG hbw
 clear hdg hbw hv hl
 generalize hdc : dcB n = dt at *
 have hzt : zT s n = if s = true then ⟨#[45]⟩ ++ dt else dt := by unfold zT; rw [hdc]
 have HZT := hG hzt
 clear hzt hdc
 cases s
 · go_enter Tryz.func195, Tryz.ntmps195
   go_wp2_with fail
   refine HDG.out.mono ?_
   rintro e w1 ⟨rfl, rfl⟩
   go_wp2
   go_ret
   rw [HZT.out]
   exact ⟨rfl, HBW.out⟩
 · go_enter Tryz.func195, Tryz.ntmps195
   go_wp2_with fail
   refine HDG.out.mono ?_
   rintro e w1 ⟨rfl, rfl⟩
   go_wp2
   go_ret
   rw [HZT.out]
   exact ⟨rfl, HBW.out⟩
set_option maxRecDepth 100000 in
theorem long_any (s : Bool) (vd : Value) (n : Nat) (w : World) (hv : MV w vd n) (hl : (dig n).length <= 549755813888) :
 Calls Tryz.prog 159 #[.agg #[.bool s, vd]] w fun e w' => e = .returned (.bool (decide (2000 < Lib.nDigits n))) /\ Below w.heap.size w w' := by
 have hbw := (Below.refl w.heap.size w).alloc lc (.cells #[.bool s, vd] 127)
 have hmn := many_any vd n _ (hv.below hbw lc) hl
 have hb : decide (2000 < Lib.nDigits n) = decide ((2000 : Int) < (Lib.nDigits n : Nat)) := by
  rw [Bool.eq_iff_iff, decide_eq_true_iff, decide_eq_true_iff]; omega
 obtain ⟨a, c, rfl⟩ := hv.cases
 have HMN := hG hmn; have HBW := hG hbw; have HB := hG hb
 clear hmn hbw hv hl hb
 go_enter Tryz.func159, Tryz.ntmps159
 go_wp2_with fail
 refine HMN.out.mono ?_
 rintro e w1 ⟨rfl, rfl⟩
 go_wp2
 go_ret
 rw [HB.out]
 exact ⟨rfl, HBW.out⟩
def qT (s : Bool) (n d : Nat) : ByteArray := if d = 1 then zT s n else zT s n ++ ⟨#[47]⟩ ++ dcB d
theorem zT_size (s : Bool) (n : Nat) : (zT s n).size <= Lib.nDigits n + 1 := by
 unfold zT
 split
 · rw [ByteArray.size_append, dcB_size, show (⟨#[45]⟩ : ByteArray).size = 1 from rfl]; omega
 · rw [dcB_size]; omega
theorem dig_one_iff {d : Nat} (hd : d ≠ 0) : d = 1 ↔ ((dig (d / B)).length = 0 /\ d % B = 1) := by
 rw [dig_len_pos]
 constructor
 · rintro rfl; decide
 · rintro ⟨h5, h6⟩
   have := Nat.div_add_mod d B
   rw [h5, h6] at this
   omega
set_option maxRecDepth 100000 in
set_option maxHeartbeats 1000000 in
theorem qText_any (v : Value) (s : Bool) (n d : Nat) (w : World) (hv : QV w v s n d) (hd : d ≠ 0) (hl : (dig n).length <= 549755813888) (hl2 : (dig d).length <= 549755813888) :
 Calls Tryz.prog 161 #[v] w fun e w' => e = .returned (.string (qT s n d)) /\ Below w.heap.size w w' := by
 obtain ⟨vn, vd, rfl, hn, hdv⟩ := hv
 have hD1 := dig_one_iff hd
 have hdp := dig_pos hd
 have hdl : (dig d).length = (dig (d / B)).length + 1 := by rw [hdp]; rfl
 have hsz1 := zT_size s n
 have hsz2 := dcB_size d
 have hz2 : zT false d = dcB d := rfl
 have hnd := digits_bd hl
 have hnd2 := digits_bd hl2
 have htn := fun W (h : Below w.heap.size w W) => zText_any s vn n W (hn.below h lc) hl
 have htd := fun W (h : Below w.heap.size w W) => zText_any false vd d W (hdv.below h lc) hl2
 rw [hz2] at htd
 have hs4 : (⟨#[47]⟩ : ByteArray).size = 1 := rfl
 have hbw := (Below.refl w.heap.size w).alloc lc (.cells #[.bool s, vn, .bool false, vd] 129)
 obtain ⟨an, cn, rfl⟩ := hn.cases
 obtain ⟨ad, cd, rfl, hdc, _⟩ := hdv
 obtain ⟨b, off, rfl⟩ := hdc.addr (zs_ne (l := dig d) (by omega))
 have h0d : (dig d)[0]? = some (d % B) := by rw [hdp]; rfl
 have c0 := zcell (hdc.below hbw lc) h0d
 rw [Nat.add_zero] at c0
 have hqt : qT s n d = if (dig (d / B)).length = 0 /\ d % B = 1 then zT s n else zT s n ++ ⟨#[47]⟩ ++ dcB d := by
  unfold qT; by_cases h5 : d = 1
  · rw [if_pos h5, if_pos (hD1.1 h5)]
  · rw [if_neg h5, if_neg (fun h6 => h5 (hD1.2 h6))]
 have HTN := hG htn; have HTD := hG htd; have HBW := hG hbw; have HQT := hG hqt
 clear htn htd hbw hqt hn hdc hz2 hD1 h0d hdp hl hl2
 rw [hdl] at *
 clear hdl
 generalize (dig (d / B)).length = M at *
 generalize d % B = x at *
 generalize zT s n = tn at *
 generalize dcB d = td at *
 by_cases hM : M = 0
 · subst hM
   rw [Nat.zero_add] at *
   by_cases hx : x = 1
   · subst hx
     go_enter Tryz.func161, Tryz.ntmps161
     go_wp2_with fail
     refine (HTN.out _ HBW.out).mono ?_
     rintro e w1 ⟨rfl, hb1⟩
     go_wp2
     go_ret
     rw [HQT.out, if_pos (by simp)]
     exact ⟨rfl, HBW.out.trans (hb1.mono HBW.out.size)⟩
   · have i1 : ((x : Int) == 1) = false := by rw [beq_eq_false_iff_ne]; omega
     have z0 : (w.alloc (.cells #[.bool s, .slice an (dig n).length cn, .bool false, .slice (some ⟨b, off, none⟩) 1 cd] 129)).cell? ⟨w.heap.size, 0, none⟩ = some (.bool s) := by simp
     have z1 : (w.alloc (.cells #[.bool s, .slice an (dig n).length cn, .bool false, .slice (some ⟨b, off, none⟩) 1 cd] 129)).cell? ⟨w.heap.size, 1, none⟩ = some (.slice an (dig n).length cn) := by simp
     have z2 : (w.alloc (.cells #[.bool s, .slice an (dig n).length cn, .bool false, .slice (some ⟨b, off, none⟩) 1 cd] 129)).cell? ⟨w.heap.size, 2, none⟩ = some (.bool false) := by simp
     have z3 : (w.alloc (.cells #[.bool s, .slice an (dig n).length cn, .bool false, .slice (some ⟨b, off, none⟩) 1 cd] 129)).cell? ⟨w.heap.size, 3, none⟩ = some (.slice (some ⟨b, off, none⟩) 1 cd) := by simp
     go_enter Tryz.func161, Tryz.ntmps161
     go_wp2_with fail
     generalize (w.alloc (.cells #[.bool s, .slice an (dig n).length cn, .bool false, .slice (some ⟨b, off, none⟩) 1 cd] 129)) = W3 at *
     refine wp_region_quiet (C := fun w' => Below W3.heap.size W3 w') (by kernel_rfl) (by kernel_rfl) (Below.refl _ W3).drew ?_
     simp only
     repeat
      (refine wpQuiet_step (fun K hK => ?_)
       go_simp
       first
        | (refine hK _ ?_; clear hK K)
        | (apply Exists.intro
           refine ⟨fun w' hw' => ?_, hK _ ?_⟩
           (first
            | rfl
            | (rw [if_neg (by omega)]; exact ⟨rfl, rfl⟩)
            | (rw [if_neg (by simp only [ByteArray.size_append]; omega)]; exact ⟨rfl, rfl⟩)
            | (have z0' := cell_keep z0 hw' lc; have z1' := cell_keep z1 hw' lc; go_simp; rfl)
            | (have z2' := cell_keep z2 hw' lc; have z3' := cell_keep z3 hw' lc; go_simp; rfl)
            | (with_reducible refine Calls.mono (HTN.out w' (HBW.out.trans (hw'.mono HBW.out.size))) ?_; exact fun e w'' ⟨he, hb⟩ => ⟨he, hw'.trans (hb.mono hw'.size)⟩)
            | (with_reducible refine Calls.mono (HTD.out w' (HBW.out.trans (hw'.mono HBW.out.size))) ?_; exact fun e w'' ⟨he, hb⟩ => ⟨he, hw'.trans (hb.mono hw'.size)⟩))
           clear hK K))
     refine wpQuiet_nil ?_
     intro w4 hb4
     go_wp2
     go_ret
     rw [HQT.out, if_neg (by omega)]
     exact ⟨rfl, HBW.out.trans (hb4.mono HBW.out.size)⟩
 · have i1 : (((M + 1 : Nat) : Int) == 1) = false := by rw [beq_eq_false_iff_ne]; omega
   have i2 : ¬ ((M : Int) + 1 = 1) := by omega
   have z0 : (w.alloc (.cells #[.bool s, .slice an (dig n).length cn, .bool false, .slice (some ⟨b, off, none⟩) (M + 1) cd] 129)).cell? ⟨w.heap.size, 0, none⟩ = some (.bool s) := by simp
   have z1 : (w.alloc (.cells #[.bool s, .slice an (dig n).length cn, .bool false, .slice (some ⟨b, off, none⟩) (M + 1) cd] 129)).cell? ⟨w.heap.size, 1, none⟩ = some (.slice an (dig n).length cn) := by simp
   have z2 : (w.alloc (.cells #[.bool s, .slice an (dig n).length cn, .bool false, .slice (some ⟨b, off, none⟩) (M + 1) cd] 129)).cell? ⟨w.heap.size, 2, none⟩ = some (.bool false) := by simp
   have z3 : (w.alloc (.cells #[.bool s, .slice an (dig n).length cn, .bool false, .slice (some ⟨b, off, none⟩) (M + 1) cd] 129)).cell? ⟨w.heap.size, 3, none⟩ = some (.slice (some ⟨b, off, none⟩) (M + 1) cd) := by simp
   go_enter Tryz.func161, Tryz.ntmps161
   go_wp2_with fail
   generalize (w.alloc (.cells #[.bool s, .slice an (dig n).length cn, .bool false, .slice (some ⟨b, off, none⟩) (M + 1) cd] 129)) = W3 at *
   refine wp_region_quiet (C := fun w' => Below W3.heap.size W3 w') (by kernel_rfl) (by kernel_rfl) (Below.refl _ W3).drew ?_
   simp only
   repeat
    (refine wpQuiet_step (fun K hK => ?_)
     go_simp
     first
      | (refine hK _ ?_; clear hK K)
      | (apply Exists.intro
         refine ⟨fun w' hw' => ?_, hK _ ?_⟩
         (first
          | rfl
          | (rw [if_neg (by omega)]; exact ⟨rfl, rfl⟩)
          | (rw [if_neg (by simp only [ByteArray.size_append]; omega)]; exact ⟨rfl, rfl⟩)
          | (have z0' := cell_keep z0 hw' lc; have z1' := cell_keep z1 hw' lc; go_simp; rfl)
          | (have z2' := cell_keep z2 hw' lc; have z3' := cell_keep z3 hw' lc; go_simp; rfl)
          | (with_reducible refine Calls.mono (HTN.out w' (HBW.out.trans (hw'.mono HBW.out.size))) ?_; exact fun e w'' ⟨he, hb⟩ => ⟨he, hw'.trans (hb.mono hw'.size)⟩)
          | (with_reducible refine Calls.mono (HTD.out w' (HBW.out.trans (hw'.mono HBW.out.size))) ?_; exact fun e w'' ⟨he, hb⟩ => ⟨he, hw'.trans (hb.mono hw'.size)⟩))
         clear hK K))
   refine wpQuiet_nil ?_
   intro w4 hb4
   go_wp2
   go_ret
   rw [HQT.out, if_neg (by omega)]
   exact ⟨rfl, HBW.out.trans (hb4.mono HBW.out.size)⟩
set_option maxRecDepth 100000 in
theorem qInt_any (n : Int) (w : World) (h1 : -9223372036854775808 <= n) (h2 : n <= 9223372036854775807) :
 Calls Tryz.prog 70 #[.int .i64 n] w fun e w' => (∃ v, e = .returned v /\ QV w' v (decide (n < 0)) n.natAbs 1) /\ Below w.heap.size w w' := by
 have hz := fun W => zOf_any n W h1 h2
 have ho := fun W => zOf_any 1 W (by omega) (by omega)
 have HZ := hG hz; have HO := hG ho
 clear hz ho h1 h2
 have hbw := (Below.refl w.heap.size w).alloc lc (.cells #[.bool false, .slice none 0 0, .bool false, .slice none 0 0] 129)
 have HBW := hG hbw; clear hbw
 go_enter Tryz.func70, Tryz.ntmps70
 go_wp2_with fail
 refine (HZ.out _).mono ?_
 rintro e w1 ⟨⟨v1, rfl, hv1⟩, hb1⟩
 obtain ⟨x1, rfl, hm1⟩ := hv1.mv
 obtain ⟨a1, c1, rfl⟩ := hm1.cases
 have HM1 := hG hm1; clear hv1 hm1
 go_wp2_with fail
 refine (HO.out _).mono ?_
 rintro e w2 ⟨⟨v2, rfl, hv2⟩, hb2⟩
 obtain ⟨x2, rfl, hm2⟩ := hv2.mv
 obtain ⟨a2, c2, rfl⟩ := hm2.cases
 have HM2 := hG hm2; clear hv2 hm2
 have hbx := hb1.trans (hb2.mono hb1.size)
 have q0 := box_keep hbx (by simp) 0
 have q1 := box_keep hbx (by simp) 1
 have q2 := box_keep hbx (by simp) 2
 have q3 := box_keep hbx (by simp) 3
 simp only [List.getElem?_toArray, List.getElem?_cons_succ, List.getElem?_cons_zero] at q0 q1 q2 q3
 have f0 := box_free hbx (by simp) 0
 have f1 := box_free hbx (by simp) 1
 have f2 := box_free hbx (by simp) 2
 have f3 := box_free hbx (by simp) 3
 have hle : w.heap.size <= w.heap.size := Nat.le_refl _
 have hb := HBW.out.trans (hbx.mono (by simp))
 have HM1' := hG (HM1.out.below hb2 lc)
 go_wp2
 refine bodyPost_ret (v := .agg #[.bool (decide (n < 0)), .slice a1 (dig n.natAbs).length c1, .bool false, .slice a2 (dig (1 : Int).natAbs).length c2]) (by simp [results, Tryz.results70, go_sem, q0, q1, q2, q3]) rfl ?_
 exact ⟨⟨_, rfl, _, _, rfl, HM1'.out.box4 q0 q1 q2 q3, HM2.out.box4 q0 q1 q2 q3⟩, (((hb.setCell hle _).setCell hle _).setCell hle _).setCell hle _⟩
end Go.Proofs.YtahnadhlagabgaaGreatDoor.Z4
