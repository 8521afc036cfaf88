/- Parts of a proof, in build order: Md, Me, Mn, Mf, Mg, Mi, Co. -/
import Derived.Test.YtdpjdifoonfcdaaGreatDoorKh5

namespace Go.Proofs.YtdpjdifoonfcdaaGreatDoor
open Go.RowKit
theorem dig_mul_len (a b : Nat) : (dig (a * b)).length <= (dig a).length + (dig b).length := by
 refine dig_len_lt ?_
 rw [Nat.pow_add]
 exact Nat.mul_lt_mul'' (lt_pow_len a) (lt_pow_len b)
theorem dig_add_len {a b k : Nat} (ha : (dig a).length <= k) (hb : (dig b).length <= k) : (dig (a + b)).length <= k + 1 := by
 refine dig_len_lt ?_
 have h1 := Nat.lt_of_lt_of_le (lt_pow_len a) (Nat.pow_le_pow_right B_pos ha)
 have h2 := Nat.lt_of_lt_of_le (lt_pow_len b) (Nat.pow_le_pow_right B_pos hb)
 rw [Nat.pow_succ]
 have : B ^ k * 2 <= B ^ k * B := Nat.mul_le_mul_left _ (by decide)
 omega
theorem boxes3 {w w1 : World} {A1 A2 A3 : Array Value} {T1 T2 T3 : TypeId} {B : Nat} (hb : Below B (((w.alloc (.cells A1 T1)).alloc (.cells A2 T2)).alloc (.cells A3 T3)) w1) (hB : w.heap.size + 2 < B) :
 (∀ i, w1.cell? ⟨w.heap.size, i, none⟩ = A1[i]?) /\ (∀ i, w1.cell? ⟨w.heap.size + 1, i, none⟩ = A2[i]?) /\ (∀ i, w1.cell? ⟨w.heap.size + 2, i, none⟩ = A3[i]?) /\ (∀ i, w1.frozen? ⟨w.heap.size + 2, i, none⟩ = false) := by
 refine ⟨fun i => ?_, fun i => ?_, fun i => ?_, fun i => ?_⟩
 · rw [hb.cell (p := ⟨w.heap.size, i, none⟩) (show w.heap.size < B by omega), World.cell?_alloc_old _ _ _ (by simp; omega), World.cell?_alloc_old _ _ _ (by simp)]; simp
 · rw [hb.cell (p := ⟨w.heap.size + 1, i, none⟩) (show w.heap.size + 1 < B by omega)]
   have := box_keep (w := w.alloc (.cells A1 T1)) (B := w.heap.size + 3) (Below.refl _ ((((w.alloc (.cells A1 T1)).alloc (.cells A2 T2)))) ) (by simp) i
   rw [World.cell?_alloc_old _ _ _ (by simp)]
   rw [World.size_alloc] at this
   exact this
 · have := box_keep (w := (w.alloc (.cells A1 T1)).alloc (.cells A2 T2)) hb (by simp; omega) i
   simpa using this
 · have := box_free (w := (w.alloc (.cells A1 T1)).alloc (.cells A2 T2)) hb (by simp; omega) i
   simpa using this
def rpU (s1 : Bool) (n1 d1 : Nat) (s2 : Bool) (n2 d2 : Nat) : Nat := adN s1 (n1 * d2) s2 (n2 * d1)
def rpS (s1 : Bool) (n1 d1 : Nat) (s2 : Bool) (n2 d2 : Nat) : Bool := adS s1 (n1 * d2) s2 (n2 * d1) && decide (rpU s1 n1 d1 s2 n2 d2 ≠ 0)
def rpN (s1 : Bool) (n1 d1 : Nat) (s2 : Bool) (n2 d2 : Nat) : Nat := rpU s1 n1 d1 s2 n2 d2 / Nat.gcd (rpU s1 n1 d1 s2 n2 d2) (d1 * d2)
def rpD (s1 : Bool) (n1 d1 : Nat) (s2 : Bool) (n2 d2 : Nat) : Nat := d1 * d2 / Nat.gcd (rpU s1 n1 d1 s2 n2 d2) (d1 * d2)
def RatRes (s : Bool) (n d : Nat) (w : World) (e : Ending) (w' : World) : Prop := (∃ v, e = .returned v /\ RatV w' v s n d) /\ Below w.heap.size w w'
theorem RatV.slices {w : World} {v : Value} {s : Bool} {n d : Nat} (h : RatV w v s n d) : ∃ a c a2 c2, v = .agg #[.bool s, .slice a (dig n).length c, .slice a2 (dig d).length c2] /\ NatV w (.slice a (dig n).length c) n /\ NatV w (.slice a2 (dig d).length c2) d := by
 obtain ⟨va, vb, rfl, ha, hb⟩ := h
 obtain ⟨aa, ca, rfl⟩ := ha.cases
 obtain ⟨ab, cb, rfl⟩ := hb.cases
 exact ⟨_, _, _, _, rfl, ha, hb⟩
set_option maxRecDepth 100000 in
set_option maxHeartbeats 4000000 in
theorem ratPlus_any (v1 v2 : Value) (s1 : Bool) (n1 d1 : Nat) (s2 : Bool) (n2 d2 : Nat) (w : World) (h1 : RatV w v1 s1 n1 d1) (h2 : RatV w v2 s2 n2 d2) (hd1 : d1 ≠ 0) (hd2 : d2 ≠ 0)
 (l1 : (dig n1).length <= 1000000000) (l2 : (dig d1).length <= 1000000000) (l3 : (dig n2).length <= 1000000000) (l4 : (dig d2).length <= 1000000000) :
 Calls Tryz.prog 162 #[v1, v2] w (RatRes (rpS s1 n1 d1 s2 n2 d2) (rpN s1 n1 d1 s2 n2 d2) (rpD s1 n1 d1 s2 n2 d2) w) := by
 obtain ⟨a1, c1, a2, c2, rfl, k1, k2⟩ := h1.slices
 obtain ⟨a3, c3, a4, c4, rfl, k3, k4⟩ := h2.slices
 have m1 := dig_mul_len n1 d2
 have m2 := dig_mul_len n2 d1
 have m3 := dig_mul_len d1 d2
 have m4 := dig_len_mono (adN_le s1 (n1 * d2) s2 (n2 * d1))
 have m5 := dig_add_len (a := n1 * d2) (b := n2 * d1) (k := 2000000000) (by omega) (by omega)
 have m6 : (dig (rpU s1 n1 d1 s2 n2 d2)).length <= 2000000001 := Nat.le_trans m4 m5
 have hd0 : d1 * d2 ≠ 0 := Nat.mul_ne_zero hd1 hd2
 have hal : Below w.heap.size w (((w.alloc (.cells #[.bool s1, .slice a1 (dig n1).length c1, .slice a2 (dig d1).length c2] 146)).alloc (.cells #[.bool s2, .slice a3 (dig n2).length c3, .slice a4 (dig d2).length c4] 146)).alloc (.cells #[.bool false, .slice none 0 0, .slice none 0 0] 146)) := (((Below.refl w.heap.size w).alloc (Nat.le_refl _) _).alloc (by simp) _).alloc (by simp; omega) _
 obtain ⟨W3, hW3⟩ : ∃ W3, W3 = (((w.alloc (.cells #[.bool s1, .slice a1 (dig n1).length c1, .slice a2 (dig d1).length c2] 146)).alloc (.cells #[.bool s2, .slice a3 (dig n2).length c3, .slice a4 (dig d2).length c4] 146)).alloc (.cells #[.bool false, .slice none 0 0, .slice none 0 0] 146)) := ⟨_, rfl⟩
 have hz3 : W3.heap.size = w.heap.size + 3 := by rw [hW3]; simp
 have HBX : Hid (∀ {B : Nat} {w1 : World}, Below B W3 w1 -> w.heap.size + 2 < B -> (∀ i, w1.cell? ⟨w.heap.size, i, none⟩ = #[Value.bool s1, .slice a1 (dig n1).length c1, .slice a2 (dig d1).length c2][i]?) /\ (∀ i, w1.cell? ⟨w.heap.size + 1, i, none⟩ = #[Value.bool s2, .slice a3 (dig n2).length c3, .slice a4 (dig d2).length c4][i]?) /\ (∀ i, w1.cell? ⟨w.heap.size + 2, i, none⟩ = #[Value.bool false, .slice none 0 0, .slice none 0 0][i]?) /\ (∀ i, w1.frozen? ⟨w.heap.size + 2, i, none⟩ = false)) := fun hb hB => by rw [hW3] at hb; exact boxes3 hb hB
 rw [<- hW3] at hal
 have HT1 : Hid (∀ W, Below W3.heap.size W3 W -> Calls Tryz.prog 221 #[.slice a1 (dig n1).length c1, .slice a4 (dig d2).length c4] W fun e w' => (∃ v, e = .returned v /\ NatV w' v (n1 * d2)) /\ Below W.heap.size W w') := fun W hb => natTimes_any _ _ n1 d2 W ((k1.below hal (Nat.le_refl _)).below hb (Nat.le_refl _)) ((k4.below hal (Nat.le_refl _)).below hb (Nat.le_refl _)) (by omega)
 have HT2 : Hid (∀ W, Below W3.heap.size W3 W -> Calls Tryz.prog 221 #[.slice a3 (dig n2).length c3, .slice a2 (dig d1).length c2] W fun e w' => (∃ v, e = .returned v /\ NatV w' v (n2 * d1)) /\ Below W.heap.size W w') := fun W hb => natTimes_any _ _ n2 d1 W ((k3.below hal (Nat.le_refl _)).below hb (Nat.le_refl _)) ((k2.below hal (Nat.le_refl _)).below hb (Nat.le_refl _)) (by omega)
 have HT3 : Hid (∀ W, Below W3.heap.size W3 W -> Calls Tryz.prog 221 #[.slice a2 (dig d1).length c2, .slice a4 (dig d2).length c4] W fun e w' => (∃ v, e = .returned v /\ NatV w' v (d1 * d2)) /\ Below W.heap.size W w') := fun W hb => natTimes_any _ _ d1 d2 W ((k2.below hal (Nat.le_refl _)).below hb (Nat.le_refl _)) ((k4.below hal (Nat.le_refl _)).below hb (Nat.le_refl _)) (by omega)
 have HAD : Hid (∀ va vb W, NatV W va (n1 * d2) -> NatV W vb (n2 * d1) -> Calls Tryz.prog 224 #[.bool s1, va, .bool s2, vb] W (AddedRes s1 (n1 * d2) s2 (n2 * d1) W)) := fun va vb W ha hb => added_any s1 s2 va vb _ _ W ha hb (by omega) (by omega)
 have HRD : Hid (∀ va vb W, NatV W va (adN s1 (n1 * d2) s2 (n2 * d1)) -> NatV W vb (d1 * d2) -> Calls Tryz.prog 85 #[.bool (adS s1 (n1 * d2) s2 (n2 * d1)), va, vb] W fun e w' => (∃ v, e = .returned v /\ RatV w' v (rpS s1 n1 d1 s2 n2 d2) (rpN s1 n1 d1 s2 n2 d2) (rpD s1 n1 d1 s2 n2 d2)) /\ Below W.heap.size W w') := fun va vb W ha hb => reduced_any (d1 * d2 + 1) (overOK_all _) _ va vb _ _ W ha hb (Nat.le_trans m6 (by decide)) (by omega) (by omega) hd0
 obtain ⟨ps, hps⟩ : ∃ ps, ps = rpS s1 n1 d1 s2 n2 d2 := ⟨_, rfl⟩
 obtain ⟨pn, hpn⟩ : ∃ pn, pn = rpN s1 n1 d1 s2 n2 d2 := ⟨_, rfl⟩
 obtain ⟨pd, hpd⟩ : ∃ pd, pd = rpD s1 n1 d1 s2 n2 d2 := ⟨_, rfl⟩
 rw [<- hps, <- hpn, <- hpd] at HRD ⊢
 have HBW := Lib.hid hal
 obtain ⟨q0, q1, q2, -⟩ := HBX.out (Below.refl (w.heap.size + 3) W3) (by omega)
 have q00 := q0 0
 have q01 := q0 1
 have q02 := q0 2
 have q10 := q1 0
 have q11 := q1 1
 have q12 := q1 2
 simp only [List.getElem?_toArray, List.getElem?_cons_succ, List.getElem?_cons_zero] at q00 q01 q02 q10 q11 q12
 clear q0 q1 q2 hal h1 h2 k1 k2 k3 k4 m1 m2 m3 m4 m5 m6 hd0 hd1 hd2 hps hpn hpd
 go_enter Tryz.func162, Tryz.ntmps162
 go_wp2_with fail
 rw [<- hW3]
 have HW3 := Lib.hid hW3
 clear hW3
 go_region_held3 (fun w' => w'.cell? ⟨w.heap.size, 0, none⟩ = some (.bool s1) /\ w'.cell? ⟨w.heap.size, 1, none⟩ = some (.slice a1 (dig n1).length c1) /\ w'.cell? ⟨w.heap.size, 2, none⟩ = some (.slice a2 (dig d1).length c2) /\ w'.cell? ⟨w.heap.size + 1, 0, none⟩ = some (.bool s2) /\ w'.cell? ⟨w.heap.size + 1, 1, none⟩ = some (.slice a3 (dig n2).length c3) /\ w'.cell? ⟨w.heap.size + 1, 2, none⟩ = some (.slice a4 (dig d2).length c4))
  (first | exact ⟨q00, q01, q02, q10, q11, q12⟩ | exact ⟨cell_keep q00 hbz (Nat.le_refl _), cell_keep q01 hbz (Nat.le_refl _), cell_keep q02 hbz (Nat.le_refl _), cell_keep q10 hbz (Nat.le_refl _), cell_keep q11 hbz (Nat.le_refl _), cell_keep q12 hbz (Nat.le_refl _)⟩ | go_keep)
  (first
   | (go_at_call 221; (with_reducible refine Calls.mono (HT1.out W3.drew ((Below.refl W3.heap.size W3).drew)) ?_); rintro e w4 ⟨⟨v4, rfl, h4⟩, hb4⟩; obtain ⟨a5, c5, rfl⟩ := h4.cases; have hbz : Below W3.heap.size W3 w4 := ((Below.refl W3.heap.size W3).drew).trans hb4; have HB4 := Lib.hid hbz; have H4 := Lib.hid h4; clear h4 hb4)
   | (go_at_call 221; (with_reducible refine Calls.mono (HT2.out w4 HB4.out) ?_); rintro e w5 ⟨⟨v5, rfl, h5⟩, hb5⟩; obtain ⟨a6, c6, rfl⟩ := h5.cases; have hbz : Below W3.heap.size W3 w5 := HB4.out.trans (hb5.mono HB4.out.size); have HB5 := Lib.hid hbz; have H45 := Lib.hid (H4.out.below hb5 (Nat.le_refl _)); have H5 := Lib.hid h5; clear h5 hb5)
   | (go_at_call 224; (with_reducible refine Calls.mono (HAD.out _ _ w5 H45.out H5.out) ?_); rintro e w6 ⟨⟨v6, rfl, h6⟩, hb6⟩; obtain ⟨a7, c7, rfl⟩ := h6.cases; have hbz : Below W3.heap.size W3 w6 := HB5.out.trans (hb6.mono HB5.out.size); have HB6 := Lib.hid hbz; have H6 := Lib.hid h6; clear h6 hb6))
 clear hbz q00 q01 q02 q10 q11 q12
 obtain ⟨q0, q1, -, -⟩ := HBX.out HB6.out (by omega)
 have q02 := q0 2
 have q12 := q1 2
 simp only [List.getElem?_toArray, List.getElem?_cons_succ, List.getElem?_cons_zero] at q02 q12
 clear q0 q1
 go_wp2_with fail
 clear q02 q12
 refine (HT3.out w6 HB6.out).mono ?_
 rintro e w7 ⟨⟨v7, rfl, h7⟩, hb7⟩
 have HB7 := Lib.hid (HB6.out.trans (hb7.mono HB6.out.size))
 have H67 := Lib.hid (H6.out.below hb7 (Nat.le_refl _))
 clear hb7
 go_wp2_with fail
 refine (HRD.out _ _ w7 H67.out h7).mono ?_
 rintro e w8 ⟨⟨v8, rfl, h8⟩, hb8⟩
 have HB8 := Lib.hid (HB7.out.trans (hb8.mono HB7.out.size))
 obtain ⟨a8, c8, a9, c9, rfl, k8, k9⟩ := h8.slices
 have K8 := Lib.hid k8; have K9 := Lib.hid k9
 clear h8 h7 hb8 k8 k9
 obtain ⟨-, -, q2, f2⟩ := HBX.out HB8.out (by omega)
 have q20 := q2 0
 have q21 := q2 1
 have q22 := q2 2
 simp only [List.getElem?_toArray, List.getElem?_cons_succ, List.getElem?_cons_zero] at q20 q21 q22
 have f0 := f2 0
 have f1 := f2 1
 have f3 := f2 2
 clear q2 f2
 have hbw := HBW.out.trans (HB8.out.mono (by omega))
 have hle : w.heap.size <= w.heap.size + 1 + 1 := by omega
 go_wp2
 refine bodyPost_ret (v := .agg #[.bool ps, .slice a8 (dig pn).length c8, .slice a9 (dig pd).length c9]) (by simp [results, Tryz.results162, go_sem, q20, q21, q22]) rfl ?_
 exact ⟨⟨_, rfl, _, _, rfl, K8.out.box3 q20 q21 q22 trivial trivial trivial, K9.out.box3 q20 q21 q22 trivial trivial trivial⟩, ((hbw.setCell hle _).setCell hle _).setCell hle _⟩
end Go.Proofs.YtdpjdifoonfcdaaGreatDoor

namespace Go.Proofs.YtdpjdifoonfcdaaGreatDoor
open Go.RowKit
theorem ValV.slices {w : World} {v : Value} {s : Bool} {n d : Nat} (h : ValV w v s n d false 0 1) : ∃ a1 c1 a2 c2 a3 c3 a4 c4, v = .agg #[.bool s, .slice a1 (dig n).length c1, .slice a2 (dig d).length c2, .bool false, .slice a3 (dig 0).length c3, .slice a4 (dig 1).length c4] /\ NatV w (.slice a1 (dig n).length c1) n /\ NatV w (.slice a2 (dig d).length c2) d /\ NatV w (.slice a3 (dig 0).length c3) 0 /\ NatV w (.slice a4 (dig 1).length c4) 1 := by
 obtain ⟨va, vb, vc, vd, rfl, ha, hb, hc, hd⟩ := h
 obtain ⟨aa, ca, rfl⟩ := ha.cases
 obtain ⟨ab, cb, rfl⟩ := hb.cases
 obtain ⟨ac, cc, rfl⟩ := hc.cases
 obtain ⟨ad, cd, rfl⟩ := hd.cases
 exact ⟨_, _, _, _, _, _, _, _, rfl, ha, hb, hc, hd⟩
def ValRes (s : Bool) (n d : Nat) (w : World) (e : Ending) (w' : World) : Prop := (∃ v, e = .returned v /\ ValV w' v s n d false 0 1) /\ Below w.heap.size w w'
theorem rp_zero : rpS false 0 1 false 0 1 = false /\ rpN false 0 1 false 0 1 = 0 /\ rpD false 0 1 false 0 1 = 1 := by decide
set_option maxRecDepth 100000 in
set_option maxHeartbeats 4000000 in
theorem valPlus_any (v1 v2 : Value) (s1 : Bool) (n1 d1 : Nat) (s2 : Bool) (n2 d2 : Nat) (w : World) (h1 : ValV w v1 s1 n1 d1 false 0 1) (h2 : ValV w v2 s2 n2 d2 false 0 1) (hd1 : d1 ≠ 0) (hd2 : d2 ≠ 0)
 (l1 : (dig n1).length <= 1000000000) (l2 : (dig d1).length <= 1000000000) (l3 : (dig n2).length <= 1000000000) (l4 : (dig d2).length <= 1000000000) :
 Calls Tryz.prog 138 #[v1, v2] w (ValRes (rpS s1 n1 d1 s2 n2 d2) (rpN s1 n1 d1 s2 n2 d2) (rpD s1 n1 d1 s2 n2 d2) w) := by
 obtain ⟨a1, c1, a2, c2, a3, c3, a4, c4, rfl, k1, k2, k3, k4⟩ := h1.slices
 obtain ⟨b1, e1, b2, e2, b3, e3, b4, e4, rfl, j1, j2, j3, j4⟩ := h2.slices
 have hal : Below w.heap.size w (((w.alloc (.cells #[.bool s1, .slice a1 (dig n1).length c1, .slice a2 (dig d1).length c2, .bool false, .slice a3 (dig 0).length c3, .slice a4 (dig 1).length c4] 148)).alloc (.cells #[.bool s2, .slice b1 (dig n2).length e1, .slice b2 (dig d2).length e2, .bool false, .slice b3 (dig 0).length e3, .slice b4 (dig 1).length e4] 148)).alloc (.cells #[.bool false, .slice none 0 0, .slice none 0 0, .bool false, .slice none 0 0, .slice none 0 0] 148)) := (((Below.refl w.heap.size w).alloc (Nat.le_refl _) _).alloc (by simp) _).alloc (by simp; omega) _
 obtain ⟨W3, hW3⟩ : ∃ W3, W3 = (((w.alloc (.cells #[.bool s1, .slice a1 (dig n1).length c1, .slice a2 (dig d1).length c2, .bool false, .slice a3 (dig 0).length c3, .slice a4 (dig 1).length c4] 148)).alloc (.cells #[.bool s2, .slice b1 (dig n2).length e1, .slice b2 (dig d2).length e2, .bool false, .slice b3 (dig 0).length e3, .slice b4 (dig 1).length e4] 148)).alloc (.cells #[.bool false, .slice none 0 0, .slice none 0 0, .bool false, .slice none 0 0, .slice none 0 0] 148)) := ⟨_, rfl⟩
 have hz3 : W3.heap.size = w.heap.size + 3 := by rw [hW3]; simp
 have HBX : Hid (∀ {B : Nat} {w1 : World}, Below B W3 w1 -> w.heap.size + 2 < B -> (∀ i, w1.cell? ⟨w.heap.size, i, none⟩ = #[Value.bool s1, .slice a1 (dig n1).length c1, .slice a2 (dig d1).length c2, .bool false, .slice a3 (dig 0).length c3, .slice a4 (dig 1).length c4][i]?) /\ (∀ i, w1.cell? ⟨w.heap.size + 1, i, none⟩ = #[Value.bool s2, .slice b1 (dig n2).length e1, .slice b2 (dig d2).length e2, .bool false, .slice b3 (dig 0).length e3, .slice b4 (dig 1).length e4][i]?) /\ (∀ i, w1.cell? ⟨w.heap.size + 2, i, none⟩ = #[Value.bool false, .slice none 0 0, .slice none 0 0, .bool false, .slice none 0 0, .slice none 0 0][i]?) /\ (∀ i, w1.frozen? ⟨w.heap.size + 2, i, none⟩ = false)) := fun hb hB => by rw [hW3] at hb; exact boxes3 hb hB
 rw [<- hW3] at hal
 have HP1 : Hid (∀ W, Below W3.heap.size W3 W -> Calls Tryz.prog 162 #[.agg #[.bool s1, .slice a1 (dig n1).length c1, .slice a2 (dig d1).length c2], .agg #[.bool s2, .slice b1 (dig n2).length e1, .slice b2 (dig d2).length e2]] W (RatRes (rpS s1 n1 d1 s2 n2 d2) (rpN s1 n1 d1 s2 n2 d2) (rpD s1 n1 d1 s2 n2 d2) W)) := fun W hb => ratPlus_any _ _ s1 n1 d1 s2 n2 d2 W ⟨_, _, rfl, (k1.below hal (Nat.le_refl _)).below hb (Nat.le_refl _), (k2.below hal (Nat.le_refl _)).below hb (Nat.le_refl _)⟩ ⟨_, _, rfl, (j1.below hal (Nat.le_refl _)).below hb (Nat.le_refl _), (j2.below hal (Nat.le_refl _)).below hb (Nat.le_refl _)⟩ hd1 hd2 l1 l2 l3 l4
 have HP2 : Hid (∀ W, Below W3.heap.size W3 W -> Calls Tryz.prog 162 #[.agg #[.bool false, .slice a3 (dig 0).length c3, .slice a4 (dig 1).length c4], .agg #[.bool false, .slice b3 (dig 0).length e3, .slice b4 (dig 1).length e4]] W (RatRes false 0 1 W)) := fun W hb => by
  have := ratPlus_any _ _ false 0 1 false 0 1 W ⟨_, _, rfl, (k3.below hal (Nat.le_refl _)).below hb (Nat.le_refl _), (k4.below hal (Nat.le_refl _)).below hb (Nat.le_refl _)⟩ ⟨_, _, rfl, (j3.below hal (Nat.le_refl _)).below hb (Nat.le_refl _), (j4.below hal (Nat.le_refl _)).below hb (Nat.le_refl _)⟩ (by decide) (by decide) (by rw [dig_zero]; simp) (by rw [dig_1]; simp) (by rw [dig_zero]; simp) (by rw [dig_1]; simp)
  rwa [rp_zero.1, rp_zero.2.1, rp_zero.2.2] at this
 obtain ⟨ps, hps⟩ : ∃ ps, ps = rpS s1 n1 d1 s2 n2 d2 := ⟨_, rfl⟩
 obtain ⟨pn, hpn⟩ : ∃ pn, pn = rpN s1 n1 d1 s2 n2 d2 := ⟨_, rfl⟩
 obtain ⟨pd, hpd⟩ : ∃ pd, pd = rpD s1 n1 d1 s2 n2 d2 := ⟨_, rfl⟩
 rw [<- hps, <- hpn, <- hpd] at HP1 ⊢
 have HBW := Lib.hid hal
 obtain ⟨f0, f1, -, -⟩ := HBX.out (Below.refl (w.heap.size + 3) W3) (by omega)
 have x0 := f0 0
 have x1 := f0 1
 have x2 := f0 2
 have x3 := f0 3
 have x4 := f0 4
 have x5 := f0 5
 have y0 := f1 0
 have y1 := f1 1
 have y2 := f1 2
 have y3 := f1 3
 have y4 := f1 4
 have y5 := f1 5
 simp only [List.getElem?_toArray, List.getElem?_cons_succ, List.getElem?_cons_zero] at x0 x1 x2 x3 x4 x5 y0 y1 y2 y3 y4 y5
 clear f0 f1 hal h1 h2 k1 k2 k3 k4 j1 j2 j3 j4 hd1 hd2 hps hpn hpd
 go_enter Tryz.func138, Tryz.ntmps138
 go_wp2_with fail
 rw [<- hW3]
 have HW3 := Lib.hid hW3
 clear hW3
 have xd0 : W3.drew.cell? ⟨w.heap.size, 0, none⟩ = some (.bool s1) := x0
 have xd1 : W3.drew.cell? ⟨w.heap.size, 1, none⟩ = some (.slice a1 (dig n1).length c1) := x1
 have xd2 : W3.drew.cell? ⟨w.heap.size, 2, none⟩ = some (.slice a2 (dig d1).length c2) := x2
 have xd3 : W3.drew.cell? ⟨w.heap.size, 3, none⟩ = some (.bool false) := x3
 have xd4 : W3.drew.cell? ⟨w.heap.size, 4, none⟩ = some (.slice a3 (dig 0).length c3) := x4
 have xd5 : W3.drew.cell? ⟨w.heap.size, 5, none⟩ = some (.slice a4 (dig 1).length c4) := x5
 have yd0 : W3.drew.cell? ⟨w.heap.size + 1, 0, none⟩ = some (.bool s2) := y0
 have yd1 : W3.drew.cell? ⟨w.heap.size + 1, 1, none⟩ = some (.slice b1 (dig n2).length e1) := y1
 have yd2 : W3.drew.cell? ⟨w.heap.size + 1, 2, none⟩ = some (.slice b2 (dig d2).length e2) := y2
 have yd3 : W3.drew.cell? ⟨w.heap.size + 1, 3, none⟩ = some (.bool false) := y3
 have yd4 : W3.drew.cell? ⟨w.heap.size + 1, 4, none⟩ = some (.slice b3 (dig 0).length e3) := y4
 have yd5 : W3.drew.cell? ⟨w.heap.size + 1, 5, none⟩ = some (.slice b4 (dig 1).length e4) := y5
 go_region_held3 (fun w' => w'.cell? ⟨w.heap.size, 0, none⟩ = some (.bool s1) /\ w'.cell? ⟨w.heap.size, 1, none⟩ = some (.slice a1 (dig n1).length c1) /\ w'.cell? ⟨w.heap.size, 2, none⟩ = some (.slice a2 (dig d1).length c2) /\ w'.cell? ⟨w.heap.size, 3, none⟩ = some (.bool false) /\ w'.cell? ⟨w.heap.size, 4, none⟩ = some (.slice a3 (dig 0).length c3) /\ w'.cell? ⟨w.heap.size, 5, none⟩ = some (.slice a4 (dig 1).length c4) /\ w'.cell? ⟨w.heap.size + 1, 0, none⟩ = some (.bool s2) /\ w'.cell? ⟨w.heap.size + 1, 1, none⟩ = some (.slice b1 (dig n2).length e1) /\ w'.cell? ⟨w.heap.size + 1, 2, none⟩ = some (.slice b2 (dig d2).length e2) /\ w'.cell? ⟨w.heap.size + 1, 3, none⟩ = some (.bool false) /\ w'.cell? ⟨w.heap.size + 1, 4, none⟩ = some (.slice b3 (dig 0).length e3) /\ w'.cell? ⟨w.heap.size + 1, 5, none⟩ = some (.slice b4 (dig 1).length e4))
  (first | with_reducible exact ⟨x0, x1, x2, x3, x4, x5, y0, y1, y2, y3, y4, y5⟩ | with_reducible exact ⟨xd0, xd1, xd2, xd3, xd4, xd5, yd0, yd1, yd2, yd3, yd4, yd5⟩ | with_reducible exact ⟨px0, px1, px2, px3, px4, px5, py0, py1, py2, py3, py4, py5⟩ | with_reducible exact ⟨rx0, rx1, rx2, rx3, rx4, rx5, ry0, ry1, ry2, ry3, ry4, ry5⟩ | (refine ⟨?_, ?_, ?_, ?_, ?_, ?_, ?_, ?_, ?_, ?_, ?_, ?_⟩ <;> (repeat rw [World.cell?_setCell_other _ _ _ _ (by simp)]) <;> assumption) | go_keep)
  (first
   | (go_at_call 162; (with_reducible refine Calls.mono (HP1.out W3.drew ((Below.refl W3.heap.size W3).drew)) ?_); rintro e w4 ⟨⟨v4, rfl, h4⟩, hb4⟩; obtain ⟨g1, i1, g2, i2, rfl, m1, m2⟩ := h4.slices; have hbz : Below W3.heap.size W3 w4 := ((Below.refl W3.heap.size W3).drew).trans hb4; have HB4 := Lib.hid hbz; have px0 := cell_keep x0 hbz (Nat.le_refl _); have px1 := cell_keep x1 hbz (Nat.le_refl _); have px2 := cell_keep x2 hbz (Nat.le_refl _); have px3 := cell_keep x3 hbz (Nat.le_refl _); have px4 := cell_keep x4 hbz (Nat.le_refl _); have px5 := cell_keep x5 hbz (Nat.le_refl _); have py0 := cell_keep y0 hbz (Nat.le_refl _); have py1 := cell_keep y1 hbz (Nat.le_refl _); have py2 := cell_keep y2 hbz (Nat.le_refl _); have py3 := cell_keep y3 hbz (Nat.le_refl _); have py4 := cell_keep y4 hbz (Nat.le_refl _); have py5 := cell_keep y5 hbz (Nat.le_refl _); have M1 := Lib.hid m1; have M2 := Lib.hid m2; clear h4 hb4 m1 m2)
   | (go_at_call 162; (with_reducible refine Calls.mono (HP2.out w4 HB4.out) ?_); rintro e w5 ⟨⟨v5, rfl, h5⟩, hb5⟩; obtain ⟨g3, i3, g4, i4, rfl, m3, m4⟩ := h5.slices; have hbz : Below W3.heap.size W3 w5 := HB4.out.trans (hb5.mono HB4.out.size); have HB5 := Lib.hid hbz; have rx0 := cell_keep x0 hbz (Nat.le_refl _); have rx1 := cell_keep x1 hbz (Nat.le_refl _); have rx2 := cell_keep x2 hbz (Nat.le_refl _); have rx3 := cell_keep x3 hbz (Nat.le_refl _); have rx4 := cell_keep x4 hbz (Nat.le_refl _); have rx5 := cell_keep x5 hbz (Nat.le_refl _); have ry0 := cell_keep y0 hbz (Nat.le_refl _); have ry1 := cell_keep y1 hbz (Nat.le_refl _); have ry2 := cell_keep y2 hbz (Nat.le_refl _); have ry3 := cell_keep y3 hbz (Nat.le_refl _); have ry4 := cell_keep y4 hbz (Nat.le_refl _); have ry5 := cell_keep y5 hbz (Nat.le_refl _); have N1 := Lib.hid (M1.out.below hb5 (Nat.le_refl _)); have N2 := Lib.hid (M2.out.below hb5 (Nat.le_refl _)); have N3 := Lib.hid m3; have N4 := Lib.hid m4; obtain ⟨-, -, f2, ff⟩ := HBX.out HB5.out (by omega); have z0 := f2 0; have z1 := f2 1; have z2 := f2 2; have z3 := f2 3; have z4 := f2 4; have z5 := f2 5; simp only [List.getElem?_toArray, List.getElem?_cons_succ, List.getElem?_cons_zero] at z0 z1 z2 z3 z4 z5; have t0 := ff 0; have t1 := ff 1; have t2 := ff 2; have t3 := ff 3; have t4 := ff 4; have t5 := ff 5; clear h5 hb5 m3 m4 f2 ff))
 have hbw := HBW.out.trans (HB5.out.mono (by omega))
 have hle : w.heap.size <= w.heap.size + 1 + 1 := by omega
 go_wp2_with fail
 refine bodyPost_ret (v := .agg #[.bool ps, .slice g1 (dig pn).length i1, .slice g2 (dig pd).length i2, .bool false, .slice g3 (dig 0).length i3, .slice g4 (dig 1).length i4]) (by simp [results, Tryz.results138, go_sem, z0, z1, z2, z3, z4, z5]) rfl ?_
 exact ⟨⟨_, rfl, _, _, _, _, rfl, N1.out.box6 z0 z1 z2 z3 z4 z5 trivial trivial trivial trivial trivial trivial, N2.out.box6 z0 z1 z2 z3 z4 z5 trivial trivial trivial trivial trivial trivial, N3.out.box6 z0 z1 z2 z3 z4 z5 trivial trivial trivial trivial trivial trivial, N4.out.box6 z0 z1 z2 z3 z4 z5 trivial trivial trivial trivial trivial trivial⟩, (((((hbw.setCell hle _).setCell hle _).setCell hle _).setCell hle _).setCell hle _).setCell hle _⟩
end Go.Proofs.YtdpjdifoonfcdaaGreatDoor

namespace Go.Proofs.YtdpjdifoonfcdaaGreatDoor
open Go.RowKit
def NIB (w : World) (v : Value) : Prop := ∀ g, v.ownBlock = some g -> ∀ cs T fr, w.heap[g]? = some (.cells cs T fr) -> ∀ u ∈ cs.toList, NoNum u
theorem NIB.none (w : World) : NIB w (.slice none 0 0) := fun g h => by simp [Value.ownBlock] at h
theorem NIB.below {w w' : World} {B : Nat} {v : Value} (h : NIB w v) (hb : Below B w w') (hv : ∀ g, v.ownBlock = some g -> g < B) : NIB w' v := fun g hg cs T fr hc => by
 rw [hb.block g (hv g hg)] at hc
 exact h g hg cs T fr hc
theorem cells_grown_nib {w w' : World} {ao : Option Addr} {l : List Nat} {ov : Value} (h : Cells w ao (dgs l)) (hn : NIB w ov) (hg : w.grownBy w' ov.ownBlock) : Cells w' ao (dgs l) := by
 refine h.grown hg ?_
 rintro b off rfl hne hb
 obtain ⟨c, cs, hcs⟩ := List.exists_cons_of_ne_nil hne
 have h1 := h.at (j := 0) (u := c) (by rw [hcs]; rfl)
 have hlt := World.block_lt_of_cell? w _ h1
 have hint : ∃ d : Nat, c = .int .u64 d := by
  have : c ∈ dgs l := by rw [hcs]; simp
  obtain ⟨d, _, rfl⟩ := List.mem_map.1 this
  exact ⟨d, rfl⟩
 obtain ⟨d, rfl⟩ := hint
 unfold World.cell? at h1
 cases hh : w.heap[b]? with
 | none => simp [hh] at h1
 | some o =>
   cases o with
   | cells arr T fr =>
     simp only [hh] at h1
     have h2 : arr[off + 0]? = some (.int .u64 d) := by simpa using h1
     have := hn b hb.symm arr T fr hh (.int .u64 d) (by
      have := Array.mem_of_getElem? h2
      simpa using this)
     exact this
   | _ => simp [hh] at h1
theorem NatV.grown_nib {w w' : World} {v : Value} {n : Nat} {ov : Value} (h : NatV w v n) (hn : NIB w ov) (hg : w.grownBy w' ov.ownBlock) : NatV w' v n := by
 obtain ⟨a, c, h1, h2, h3⟩ := h
 exact ⟨a, c, h1, cells_grown_nib h2 hn hg, h3⟩
theorem zero_mem {z : Array Value} {n : Nat} {u : Value} (h : u ∈ (Builtin.zeroCells z n).toList) : u ∈ z.toList := by
 unfold Builtin.zeroCells at h
 simp at h
 obtain ⟨k, hk, rfl⟩ := h
 have hz : 0 < z.size := by
  rcases Nat.eq_zero_or_pos z.size with h0 | h0
  · rw [h0] at hk; simp at hk
  · exact h0
 have hm : k % z.size < z.size := Nat.mod_lt _ hz
 rw [getElem!_pos z (k % z.size) hm]
 simp
section
variable {P : Program} (w : World)
theorem run_append_nib (base : Nat) (t ty e : TypeId) (i : TypeInfo) (z : Value) (size bytes : Nat) (ht : P.underlying t = some (.slice e)) (hi : P.info? e = some i) (hz : i.zero = some z)
 (hsize : i.size = size) (hby : i.bytes = bytes) (hzs : z.cells.size = size) (hsz : 0 < size)
 (v : Value) (n : Nat) (xs : List Value) (hown : w.ownsRow base e size v n xs)
 (a : Addr) (m c : Nat) (news : List Value) (hl : news.length = m * size) (hnews : ∀ j u, news[j]? = some u -> w.cell? (a.add j) = some u) (h1 : ∀ u ∈ news, u.oneCell' = true)
 (h63 : n + m <= maxLen) (hbytes : (n + m) * bytes <= 140737488355328) (hbase : base <= w.heap.size)
 (hn : NIB w v) (hzn : ∀ u ∈ z.cells.toList, NoNum u) (hnn : ∀ u ∈ news, NoNum u) :
 ∃ v' w', (Builtin.append_ #[t, t] ty #[v, .slice (some a) m c]).run P w = .ok v' w' /\ w'.ownsRow base e size v' (n + m) (xs ++ news) /\ w.grownBy w' v.ownBlock /\ NIB w' v' := by
 obtain ⟨v', w', hr, h2, h3, _⟩ := run_append_own (P := P) w base t ty e i z size bytes ht hi hz hsize hby hzs hsz v n xs hown a m c news hl hnews h1 h63 hbytes hbase
 refine ⟨v', w', hr, h2, h3, ?_⟩
 subst hsize
 subst hby
 have hsmall : n + m <= 9223372036854775807 := by simp only [maxLen] at h63; omega
 have hxs : ∀ u ∈ xs, NoNum u := by
  rcases hown.2 with ⟨rfl, rfl⟩ | ⟨g, cap, cur, rfl, hbg, hg, hnc, hcm, hcs, htake⟩
  · intro u hu
    have hx : xs = [] := List.eq_nil_of_length_eq_zero (by simpa using hown.1)
    rw [hx] at hu; cases hu
  · intro u hu
    rw [<- htake] at hu
    exact hn g rfl cur e (0, 0) hg u (List.mem_of_mem_take hu)
 have hnew : ∀ (ys : List Value) (k : Nat), (∀ u ∈ ys, NoNum u) -> ∀ (W : World) (p q : Nat), NIB (W.alloc (.cells (ys.toArray ++ Builtin.zeroCells z.cells k) e)) (.slice (some ⟨W.heap.size, 0, none⟩) p q) := by
  intro ys k hys W p q g hg cs T fr hc u hu
  simp only [Value.ownBlock, Option.some.injEq] at hg
  subst hg
  rw [heap_alloc_new] at hc
  simp only [Option.some.injEq, Obj.cells.injEq] at hc
  obtain ⟨rfl, _⟩ := hc
  simp only [Array.toList_append, List.mem_append] at hu
  rcases hu with hu | hu
  · exact hys u hu
  · exact hzn u (zero_mem hu)
 rcases hown.2 with ⟨rfl, rfl⟩ | ⟨g, cap, cur, rfl, hbg, hg, hnc, hcm, hcs, htake⟩
 · by_cases hm : m = 0
   · subst hm
     have hr2 : (Builtin.append_ #[t, t] ty #[.slice none 0 0, .slice (some a) 0 c]).run P w = .ok (.slice none 0 0) w := by
      have hnl : news = [] := List.eq_nil_of_length_eq_zero (by simpa using hl)
      subst hnl
      simp [Builtin.append_, run_underlying ht, sizeOf, typeInfo, hi, Builtin.lenOf, Builtin.firstCells, loadCells, loadCellsFrom]
     rw [hr2] at hr
     cases hr
     exact NIB.none w
   · have hr2 := run_append_nil (P := P) w t ty e i z ht hi hz a m c news hl hnews (by omega) (by omega) (by have hb := hbytes; simp only [Nat.zero_add] at hb; omega)
     rw [hr2] at hr
     cases hr
     exact hnew news _ hnn w.drew _ _
 · by_cases hroom : n + m <= cap
   · have hfit : n * i.size + news.length <= cur.size := by rw [hl, hcs, <- Nat.add_mul]; exact Nat.mul_le_mul_right _ hroom
     have hr2 := run_append_room (P := P) w t ty e i ht hi g n cap cur hg a m c news hl hnews h1 hroom hfit
     rw [hr2] at hr
     cases hr
     intro g' hg' cs T fr hc u hu
     simp only [Value.ownBlock, Option.some.injEq] at hg'
     subst hg'
     rw [setRow_heap w g cur _ e _ hg] at hc
     simp only [Option.some.injEq, Obj.cells.injEq] at hc
     obtain ⟨rfl, _⟩ := hc
     simp only [List.mem_append] at hu
     have hcur := hn g rfl cur e (0, 0) hg
     rcases hu with (hu | hu) | hu
     · exact hcur u (List.mem_of_mem_take hu)
     · exact hnn u hu
     · exact hcur u (List.mem_of_mem_drop hu)
   · have holds : ∀ j u, xs[j]? = some u -> w.cell? ((⟨g, 0, none⟩ : Addr).add j) = some u := hown.cells (g := g) rfl
     have hr2 := run_append_grow (P := P) w t ty e i z ht hi hz ⟨g, 0, none⟩ n cap xs hown.1 holds a m c news hl hnews (by omega) (by omega) (growslice_fits (by omega) hbytes)
     rw [hr2] at hr
     cases hr
     have := hnew (xs ++ news) (grownCap w (n + m) cap e - (n + m)) (fun u hu => by rcases List.mem_append.1 hu with h | h; exact hxs u h; exact hnn u h) w.drew (n + m) (grownCap w (n + m) cap e)
     simpa using this
theorem wpList_append_nib {ops : Array Oper} {rest : List Oper} {o : Oper} {a : Act} {Q : Exit -> Act -> World -> Prop} (hgd : o.guard = none) (s x : Operand) (t : TypeId)
 (ho : o.op = .call { callee := .builtin .append, args := #[s, x], argTypes := #[t, t] })
 (base : Nat) (e : TypeId) (i : TypeInfo) (z : Value) (size bytes : Nat) (ht : P.underlying t = some (.slice e)) (hi : P.info? e = some i) (hz : i.zero = some z)
 (hsize : i.size = size) (hby : i.bytes = bytes) (hzs : z.cells.size = size) (hsz : 0 < size)
 (v : Value) (n : Nat) (xs : List Value) (hs : a.eval s = v) (hown : w.ownsRow base e size v n xs)
 (ad : Addr) (m c : Nat) (news : List Value) (hx : a.eval x = .slice (some ad) m c) (hl : news.length = m * size) (hnews : ∀ j u, news[j]? = some u -> w.cell? (ad.add j) = some u) (h1 : ∀ u ∈ news, u.oneCell' = true)
 (h63 : n + m <= maxLen) (hbytes : (n + m) * bytes <= 140737488355328) (hbase : base <= w.heap.size)
 (hn : NIB w v) (hzn : ∀ u ∈ z.cells.toList, NoNum u) (hnn : ∀ u ∈ news, NoNum u)
 (h : ∀ v' w', w'.ownsRow base e size v' (n + m) (xs ++ news) -> w.grownBy w' v.ownBlock -> NIB w' v' -> wpList P ops Q rest (a.put o.dst v') w') : wpList P ops Q (o :: rest) a w := by
 refine wpList_plain hgd fun K hK => ?_
 obtain ⟨v', w', hr, h2, h3, h4⟩ := run_append_nib (P := P) w base t o.type e i z size bytes ht hi hz hsize hby hzs hsz v n xs hown ad m c news hl hnews h1 h63 hbytes hbase hn hzn hnn
 unfold Oper.wp execOp
 simp only [ho, resolve, invoke, builtin, Sem.run_bind, Sem.run_pure, Result.andThen_ok, List.map_toArray, List.map_cons, List.map_nil, hs, hx, hr]
 exact hK _ _ (h v' w' h2 h3 h4)
end
end Go.Proofs.YtdpjdifoonfcdaaGreatDoor

namespace Go.Proofs.YtdpjdifoonfcdaaGreatDoor
open Go.RowKit
def getL : List ByteArray -> Option (List (Bool × Nat × Nat))
 | [] => some []
 | s :: r => match getR s with | none => none | some t => match getL r with | none => none | some l => some (t :: l)
theorem getL_none {ss : List ByteArray} {k : Nat} {s : ByteArray} (h : ss[k]? = some s) (hn : getR s = none) : getL ss = none := by
 induction ss generalizing k with
 | nil => simp at h
 | cons x r ih =>
   cases k with
   | zero =>
     simp at h; subst h
     simp [getL, hn]
   | succ k =>
     have := ih (by simpa using h)
     simp only [getL, this]
     split <;> rfl
theorem getL_snoc {xs : List ByteArray} {s : ByteArray} {l : List (Bool × Nat × Nat)} {t : Bool × Nat × Nat} (h : getL xs = some l) (hs : getR s = some t) : getL (xs ++ [s]) = some (l ++ [t]) := by
 induction xs generalizing l with
 | nil => simp only [getL, Option.some.injEq] at h; subst h; simp [getL, hs]
 | cons x r ih =>
   simp only [getL] at h
   cases hx : getR x with
   | none => rw [hx] at h; cases h
   | some u =>
     rw [hx] at h
     cases hr : getL r with
     | none => rw [hr] at h; cases h
     | some m =>
       rw [hr] at h
       simp only [Option.some.injEq] at h
       subst h
       simp [getL, hx, ih hr]
theorem getL_len {xs : List ByteArray} {l : List (Bool × Nat × Nat)} (h : getL xs = some l) : l.length = xs.length := by
 induction xs generalizing l with
 | nil => simp only [getL, Option.some.injEq] at h; subst h; rfl
 | cons x r ih =>
   simp only [getL] at h
   cases hx : getR x with
   | none => rw [hx] at h; cases h
   | some u =>
     rw [hx] at h
     cases hr : getL r with
     | none => rw [hr] at h; cases h
     | some m =>
       rw [hr] at h
       simp only [Option.some.injEq] at h
       subst h
       simp [ih hr]
def NCell (w : World) (c : List Value) (t : Bool × Nat × Nat) : Prop := ∃ a1 c1 a2 c2 a3 c3 a4 c4, c = [.bool t.1, .slice a1 (dig t.2.1).length c1, .slice a2 (dig t.2.2).length c2, .bool false, .slice a3 (dig 0).length c3, .slice a4 (dig 1).length c4] /\ NatV w (.slice a1 (dig t.2.1).length c1) t.2.1 /\ NatV w (.slice a2 (dig t.2.2).length c2) t.2.2 /\ NatV w (.slice a3 (dig 0).length c3) 0 /\ NatV w (.slice a4 (dig 1).length c4) 1
theorem NCell.below {w w' : World} {B : Nat} {c : List Value} {t : Bool × Nat × Nat} (h : NCell w c t) (hb : Below B w w') (hB : w.heap.size <= B) : NCell w' c t := by
 obtain ⟨a1, c1, a2, c2, a3, c3, a4, c4, rfl, h1, h2, h3, h4⟩ := h
 exact ⟨a1, c1, a2, c2, a3, c3, a4, c4, rfl, h1.below hb hB, h2.below hb hB, h3.below hb hB, h4.below hb hB⟩
theorem NCell.six {w : World} {c : List Value} {t : Bool × Nat × Nat} (h : NCell w c t) : c.length = 6 := by
 obtain ⟨a1, c1, a2, c2, a3, c3, a4, c4, rfl, _⟩ := h; rfl
def NRow (w : World) (cs : List (List Value)) (l : List (Bool × Nat × Nat)) : Prop := cs.length = l.length /\ ∀ (i : Nat) c t, cs[i]? = some c -> l[i]? = some t -> NCell w c t
theorem NRow.below {w w' : World} {B : Nat} {cs : List (List Value)} {l : List (Bool × Nat × Nat)} (h : NRow w cs l) (hb : Below B w w') (hB : w.heap.size <= B) : NRow w' cs l := ⟨h.1, fun i c t h1 h2 => (h.2 i c t h1 h2).below hb hB⟩
theorem NRow.snoc {w : World} {cs : List (List Value)} {l : List (Bool × Nat × Nat)} {c : List Value} {t : Bool × Nat × Nat} (h : NRow w cs l) (hc : NCell w c t) : NRow w (cs ++ [c]) (l ++ [t]) := by
 refine ⟨by simp [h.1], fun i d u h1 h2 => ?_⟩
 rcases Nat.lt_trichotomy i cs.length with hi | hi | hi
 · rw [List.getElem?_append_left hi] at h1
   rw [List.getElem?_append_left (by rw [<- h.1]; exact hi)] at h2
   exact h.2 i d u h1 h2
 · rw [List.getElem?_append_right (by omega), hi, Nat.sub_self] at h1
   rw [List.getElem?_append_right (by rw [<- h.1]; omega), <- h.1, hi, Nat.sub_self] at h2
   simp at h1 h2
   subst h1; subst h2; exact hc
 · rw [List.getElem?_eq_none (by simp; omega)] at h1; cases h1
theorem NRow.flat_len {w : World} {cs : List (List Value)} {l : List (Bool × Nat × Nat)} (h : NRow w cs l) : cs.flatten.length = l.length * 6 := by
 rw [<- h.1]
 have : ∀ c ∈ cs, c.length = 6 := fun c hc => by
  obtain ⟨i, hi⟩ := List.getElem?_of_mem hc
  obtain ⟨t, ht⟩ := get_of_lt (show i < l.length by rw [<- h.1]; exact (List.getElem?_eq_some_iff.1 hi).1)
  exact (h.2 i c t hi ht).six
 clear h
 induction cs with
 | nil => rfl
 | cons c r ih =>
   rw [List.flatten_cons, List.length_append, this c (by simp), ih (fun d hd => this d (by simp [hd])), List.length_cons]; omega
theorem NCell.grown_nib {w w' : World} {c : List Value} {t : Bool × Nat × Nat} {ov : Value} (h : NCell w c t) (hn : NIB w ov) (hg : w.grownBy w' ov.ownBlock) : NCell w' c t := by
 obtain ⟨a1, c1, a2, c2, a3, c3, a4, c4, rfl, h1, h2, h3, h4⟩ := h
 exact ⟨a1, c1, a2, c2, a3, c3, a4, c4, rfl, h1.grown_nib hn hg, h2.grown_nib hn hg, h3.grown_nib hn hg, h4.grown_nib hn hg⟩
theorem NRow.grown_nib {w w' : World} {cs : List (List Value)} {l : List (Bool × Nat × Nat)} {ov : Value} (h : NRow w cs l) (hn : NIB w ov) (hg : w.grownBy w' ov.ownBlock) : NRow w' cs l := ⟨h.1, fun i c t h1 h2 => (h.2 i c t h1 h2).grown_nib hn hg⟩
theorem own_succ {W : World} {base : Nat} {e : TypeId} {size : Nat} {v : Value} {k : Nat} {xs : List Value} (h : W.ownsRow base e size v (k + 1) xs) : ∃ g cap, v = .slice (some ⟨g, 0, none⟩) (k + 1) cap := by
 rcases h.2 with ⟨_, h0⟩ | ⟨g, cap, _, rfl, _⟩
 · omega
 · exact ⟨g, cap, rfl⟩
def AllRes (ss : List ByteArray) (w : World) (e : Ending) (w' : World) : Prop :=
 (match getL ss with
  | none => e = .returned (.tuple #[.slice none 0 0, .bool false])
  | some l => ∃ a c cs, e = .returned (.tuple #[.slice a l.length c, .bool true]) /\ Cells w' a cs.flatten /\ NRow w' cs l) /\ Below w.heap.size w w'
theorem allRes_none {ss : List ByteArray} {w w' : World} (h : getL ss = none) (hb : Below w.heap.size w w') : AllRes ss w (.returned (.tuple #[.slice none 0 0, .bool false])) w' := ⟨by rw [h], hb⟩
theorem allRes_some {ss : List ByteArray} {w w' : World} {l : List (Bool × Nat × Nat)} {a : Option Addr} {c n : Nat} {cs : List (List Value)} (h : getL ss = some l) (hn : n = l.length) (hc : Cells w' a cs.flatten) (hr : NRow w' cs l) (hb : Below w.heap.size w w') : AllRes ss w (.returned (.tuple #[.slice a n c, .bool true])) w' := ⟨by rw [h]; exact ⟨a, c, cs, by rw [hn], hc, hr⟩, hb⟩
theorem Tryz.infoVal : (Tryz.prog.info? 148).map (fun i => (i.zero, i.size, i.bytes)) = some (some (.agg #[.bool false, .slice none 0 0, .slice none 0 0, .bool false, .slice none 0 0, .slice none 0 0]), 6, 112) := by kernel_rfl
set_option maxRecDepth 100000 in
set_option maxHeartbeats 2000000 in
theorem all_get (ao : Option Addr) (ss : List ByteArray) (cap : Nat) (w : World) (ht : Tab w) (hc : Cells w ao (ss.map Value.string)) (hl : ss.length <= 1000000) (hs : ∀ s ∈ ss, s.size <= 1099511627776 /\ Lib.hasSuffix s.data.toList [105] = false) :
 Calls Tryz.prog 128 #[.slice ao ss.length cap, .func (.func 129) #[] #[]] w (AllRes ss w) := by
 obtain ⟨i0, hi, hz0, hz1, hz2⟩ := info_parts Tryz.infoVal
 have HC := Lib.hid hc; have HT := Lib.hid ht; have HS := Lib.hid hs
 clear hc ht hs
 go_enter Tryz.func128, Tryz.ntmps128
 go_wp2_with fail
 go_loopw [6, 13] (fun ov iv wr => ∃ (k : Nat) (l : List (Bool × Nat × Nat)) (cs : List (List Value)), k <= ss.length /\ iv = .int .i64 k /\ getL (ss.take k) = some l /\ NRow wr cs l /\ wr.ownsRow w.heap.size 148 6 ov k cs.flatten /\ NIB wr ov /\ Below w.heap.size w wr) (fun _ iv _ => ss.length - (intOf iv).toNat)
 case atStart => exact ⟨0, [], [], Nat.zero_le _, rfl, rfl, ⟨rfl, fun i c t h => by simp at h⟩, World.ownsRow_nil _ _ _ _, NIB.none _, Below.refl _ _⟩
 case round =>
  obtain ⟨k, l, cs, hk, rfl, hgl, hnr, hown, hnib, hb⟩ := hrel
  have hlk := getL_len hgl
  rw [List.length_take, Nat.min_eq_left hk] at hlk
  have HGL := Lib.hid hgl; have HNR := Lib.hid hnr; have HLK := Lib.hid hlk
  clear hgl hnr hlk
  have hsz := hb.size
  by_cases hlt : k < ss.length
  · obtain ⟨s, hs⟩ := get_of_lt hlt
    obtain ⟨b, off, rfl⟩ := HC.out.addr (by simpa using List.ne_nil_of_length_pos (by omega))
    have c0 := cell_keep (HC.out.at (j := k) (u := .string s) (by simp [hs])) hb (Nat.le_refl _)
    have hsm := HS.out s (List.mem_of_getElem? hs)
    have hg := get_noI s wr (HT.out.below hb (Nat.le_refl _)) (Nat.le_trans hsm.1 (by decide)) hsm.2
    have htk := take_get hs
    have HG := Lib.hid hg; have HTK := Lib.hid htk; have HHS := Lib.hid hs
    have j0 : (k : Int) < ss.length := by omega
    clear hsm hg htk hs
    go_wp2_with fail
    refine HG.out.mono ?_
    rintro e w1 ⟨hm, hb1⟩
    rcases hgr : getR s with _ | ⟨sb, n, d⟩
    · rw [hgr] at hm
      have HN := Lib.hid (getL_none HHS.out hgr)
      subst hm
      clear hgr
      go_wp2
      go_ret2
      exact allRes_none HN.out ((hb.trans (hb1.mono hsz)).alloc (Nat.le_trans hsz hb1.size) _)
    · rw [hgr] at hm
      obtain ⟨v, rfl, hv⟩ := hm
      have hgs := getL_snoc HGL.out hgr
      rw [<- HTK.out] at hgs
      have HGS := Lib.hid hgs
      obtain ⟨a1, c1, a2, c2, a3, c3, a4, c4, rfl, k1, k2, k3, k4⟩ := hv.slices
      have hnc : NCell w1 [.bool sb, .slice a1 (dig n).length c1, .slice a2 (dig d).length c2, .bool false, .slice a3 (dig 0).length c3, .slice a4 (dig 1).length c4] (sb, n, d) := ⟨a1, c1, a2, c2, a3, c3, a4, c4, rfl, k1, k2, k3, k4⟩
      have hns := (HNR.out.below hb1 (Nat.le_refl _)).snoc hnc
      have HNS := Lib.hid hns
      have hown1 := own_belowK hown hb1 (Nat.le_refl _)
      have hnib1 := hnib.below hb1 (fun g hg => (hown.lt g hg).2)
      have hbw1 := hb.trans (hb1.mono hsz)
      have hsz1 := hbw1.size
      have HOB : Hid (∀ j, u6.ownBlock = some j -> w.heap.size <= j) := fun j e => (hown.lt j e).1
      clear hgr hgs hv k1 k2 k3 k4 hnc hns hb1
      have hnn : ∀ u ∈ ([.bool sb, .slice a1 (dig n).length c1, .slice a2 (dig d).length c2, .bool false, .slice a3 (dig 0).length c3, .slice a4 (dig 1).length c4] : List Value), NoNum u := by
       intro u hu
       simp only [List.mem_cons, List.not_mem_nil, or_false] at hu
       rcases hu with rfl | rfl | rfl | rfl | rfl | rfl <;> trivial
      have hzz : ∀ u ∈ ((Value.agg #[.bool false, .slice none 0 0, .slice none 0 0, .bool false, .slice none 0 0, .slice none 0 0]).cells).toList, NoNum u := by
       intro u hu
       change u ∈ [Value.bool false, .slice none 0 0, .slice none 0 0, .bool false, .slice none 0 0, .slice none 0 0] at hu
       simp only [List.mem_cons, List.not_mem_nil, or_false] at hu
       rcases hu with rfl | rfl | rfl | rfl | rfl | rfl <;> trivial
      have hbb : Below w1.heap.size w1 ((w1.alloc (.cells #[Value.bool sb, .slice a1 (dig n).length c1, .slice a2 (dig d).length c2, .bool false, .slice a3 (dig 0).length c3, .slice a4 (dig 1).length c4] 148)).alloc (.cells #[Value.bool sb, .slice a1 (dig n).length c1, .slice a2 (dig d).length c2, .bool false, .slice a3 (dig 0).length c3, .slice a4 (dig 1).length c4] 148)) := ((Below.refl _ _).alloc (Nat.le_refl _) _).alloc (by simp) _
      have hnib2 := hnib1.below hbb (fun g hg => by have := (hown1.lt g hg).2; omega)
      have HNIB := Lib.hid hnib2; have HNN := Lib.hid hnn; have HZZ := Lib.hid hzz; have HBB := Lib.hid hbb
      clear hnib hnib1 hnib2 hnn hzz hbb
      go_wp2_with (at_builtin; refine wpList_append_nib _ rfl _ _ 227 rfl w.heap.size 148 i0 (.agg #[.bool false, .slice none 0 0, .slice none 0 0, .bool false, .slice none 0 0, .slice none 0 0]) 6 112 Tryz.underlying227 hi hz0 hz1 hz2 rfl (by decide) _ _ _ rfl ((hown1.alloc _).alloc _) ⟨w1.heap.size + 1, 0, none⟩ 1 1 [.bool sb, .slice a1 (dig n).length c1, .slice a2 (dig d).length c2, .bool false, .slice a3 (dig 0).length c3, .slice a4 (dig 1).length c4] rfl rfl (World.news_of_block (cs := #[Value.bool sb, .slice a1 (dig n).length c1, .slice a2 (dig d).length c2, .bool false, .slice a3 (dig 0).length c3, .slice a4 (dig 1).length c4]) (t := 148) (fr := (0, 0)) (by have := heap_alloc_new (w1.alloc (.cells #[Value.bool sb, .slice a1 (dig n).length c1, .slice a2 (dig d).length c2, .bool false, .slice a3 (dig 0).length c3, .slice a4 (dig 1).length c4] 148)) (.cells #[Value.bool sb, .slice a1 (dig n).length c1, .slice a2 (dig d).length c2, .bool false, .slice a3 (dig 0).length c3, .slice a4 (dig 1).length c4] 148); simpa using this)) (by simp [Value.oneCell']) (by unfold maxLen; omega) (by omega) (by simp; omega) HNIB.out HZZ.out HNN.out ?_; intro v1 wz hown2 hgrow hnib3)
      have hbz := ((hbw1.alloc hsz1 (.cells #[Value.bool sb, .slice a1 (dig n).length c1, .slice a2 (dig d).length c2, .bool false, .slice a3 (dig 0).length c3, .slice a4 (dig 1).length c4] 148)).alloc (by simp; omega) (.cells #[Value.bool sb, .slice a1 (dig n).length c1, .slice a2 (dig d).length c2, .bool false, .slice a3 (dig 0).length c3, .slice a4 (dig 1).length c4] 148)).grown hgrow (by simp; omega) HOB.out
      have hfl : cs.flatten ++ [.bool sb, .slice a1 (dig n).length c1, .slice a2 (dig d).length c2, .bool false, .slice a3 (dig 0).length c3, .slice a4 (dig 1).length c4] = (cs ++ [([.bool sb, .slice a1 (dig n).length c1, .slice a2 (dig d).length c2, .bool false, .slice a3 (dig 0).length c3, .slice a4 (dig 1).length c4] : List Value)]).flatten := by simp
      rw [hfl] at hown2
      have HFIN := Lib.hid hown2
      have hnz : NRow wz (cs ++ [([.bool sb, .slice a1 (dig n).length c1, .slice a2 (dig d).length c2, .bool false, .slice a3 (dig 0).length c3, .slice a4 (dig 1).length c4] : List Value)]) (l ++ [(sb, n, d)]) := (HNS.out.below HBB.out (Nat.le_refl _)).grown_nib HNIB.out hgrow
      have HNZ := Lib.hid hnz; have HN3 := Lib.hid hnib3
      clear hown2 hgrow hown hown1 hfl hnz hnib3
      obtain ⟨gg, cp, rfl⟩ := own_succ HFIN.out
      go_wp2
      go_roundw
      case rel => exact ⟨k + 1, _, _, by omega, by go_num, HGS.out, HNZ.out, by simpa using HFIN.out, HN3.out, hbz⟩
      case measure => simp [intOf]; omega
  · obtain rfl : k = ss.length := by omega
    have hg2 := HGL.out
    rw [List.take_length] at hg2
    have HG2 := Lib.hid hg2
    obtain ⟨g, c, rfl, hcs⟩ := own_cells hown
    have HCS := Lib.hid hcs
    clear hg2 hcs hown hnib
    go_wp2
    go_ret2
    exact allRes_some HG2.out HLK.out.symm HCS.out HNR.out hb
end Go.Proofs.YtdpjdifoonfcdaaGreatDoor

namespace Go.Proofs.YtdpjdifoonfcdaaGreatDoor
open Go.RowKit
theorem Blk.setAt {W : World} {B : Nat} {t : TypeId} {cs : Array Value} (h : Blk W B t cs) (i : Nat) (u : Value) : Blk (W.setCell ⟨B, i, none⟩ u) B t (cs.setIfInBounds i u) := by
 have := heap_setCell_same W B i cs t u h
 exact this
theorem Blk.cell {W : World} {B : Nat} {t : TypeId} {cs : Array Value} (h : Blk W B t cs) (i : Nat) : W.cell? ⟨B, i, none⟩ = cs[i]? := by simp [World.cell?, show W.heap[B]? = _ from h]
theorem flat_get {cs : List (List Value)} (h : ∀ c ∈ cs, c.length = 6) {k j : Nat} {c : List Value} {u : Value} (hk : cs[k]? = some c) (hj : c[j]? = some u) : cs.flatten[k * 6 + j]? = some u := by
 induction cs generalizing k with
 | nil => simp at hk
 | cons d r ih =>
   have hd := h d (by simp)
   cases k with
   | zero =>
     simp at hk; subst hk
     rw [Nat.zero_mul, Nat.zero_add, List.flatten_cons, List.getElem?_append_left (List.getElem?_eq_some_iff.1 hj).1]
     exact hj
   | succ k =>
     rw [List.flatten_cons, List.getElem?_append_right (by rw [hd]; omega), hd, show (k + 1) * 6 + j - 6 = k * 6 + j by omega]
     exact ih (fun x hx => h x (by simp [hx])) (by simpa using hk)
theorem NRow.six {w : World} {cs : List (List Value)} {l : List (Bool × Nat × Nat)} (h : NRow w cs l) : ∀ c ∈ cs, c.length = 6 := fun c hc => by
 obtain ⟨i, hi⟩ := List.getElem?_of_mem hc
 obtain ⟨t, ht⟩ := get_of_lt (show i < l.length by rw [<- h.1]; exact (List.getElem?_eq_some_iff.1 hi).1)
 exact (h.2 i c t hi ht).six
def sumStep (a t : Bool × Nat × Nat) : Bool × Nat × Nat := (rpS a.1 a.2.1 a.2.2 t.1 t.2.1 t.2.2, rpN a.1 a.2.1 a.2.2 t.1 t.2.1 t.2.2, rpD a.1 a.2.1 a.2.2 t.1 t.2.1 t.2.2)
def sumQ (l : List (Bool × Nat × Nat)) : Bool × Nat × Nat := l.foldl sumStep (false, 0, 1)
theorem sumQ_snoc (l : List (Bool × Nat × Nat)) (t : Bool × Nat × Nat) : sumQ (l ++ [t]) = sumStep (sumQ l) t := by simp [sumQ, List.foldl_append]
def Short (t : Bool × Nat × Nat) : Prop := (dig t.2.1).length <= 300 /\ (dig t.2.2).length <= 300 /\ t.2.2 ≠ 0
theorem rp_bd {s1 : Bool} {n1 d1 : Nat} {s2 : Bool} {n2 d2 k : Nat} (h1 : (dig n1).length <= k) (h2 : (dig d1).length <= k) (h3 : (dig n2).length <= 300) (h4 : (dig d2).length <= 300) (hd1 : d1 ≠ 0) (hd2 : d2 ≠ 0) :
 (dig (rpN s1 n1 d1 s2 n2 d2)).length <= k + 301 /\ (dig (rpD s1 n1 d1 s2 n2 d2)).length <= k + 301 /\ rpD s1 n1 d1 s2 n2 d2 ≠ 0 := by
 have m1 := dig_mul_len n1 d2
 have m2 := dig_mul_len n2 d1
 have m3 := dig_mul_len d1 d2
 have m4 := dig_len_mono (adN_le s1 (n1 * d2) s2 (n2 * d1))
 have m5 := dig_add_len (a := n1 * d2) (b := n2 * d1) (k := k + 300) (by omega) (by omega)
 have e1 : rpN s1 n1 d1 s2 n2 d2 <= rpU s1 n1 d1 s2 n2 d2 := Nat.div_le_self _ _
 have e2 : rpD s1 n1 d1 s2 n2 d2 <= d1 * d2 := Nat.div_le_self _ _
 have e3 := dig_len_mono e1
 have e4 := dig_len_mono e2
 have hd0 : d1 * d2 ≠ 0 := Nat.mul_ne_zero hd1 hd2
 refine ⟨by unfold rpU at e3; omega, by omega, ?_⟩
 have h5 : 0 < Nat.gcd (rpU s1 n1 d1 s2 n2 d2) (d1 * d2) := Nat.gcd_pos_of_pos_right _ (by omega)
 have := Nat.div_pos (Nat.le_of_dvd (by omega) (Nat.gcd_dvd_right (rpU s1 n1 d1 s2 n2 d2) (d1 * d2))) h5
 unfold rpD; omega
theorem sumQ_bd (l : List (Bool × Nat × Nat)) (h : ∀ t ∈ l, Short t) : ∀ k, k <= l.length -> (dig (sumQ (l.take k)).2.1).length <= 301 * k + 1 /\ (dig (sumQ (l.take k)).2.2).length <= 301 * k + 1 /\ (sumQ (l.take k)).2.2 ≠ 0 := by
 intro k
 induction k with
 | zero => intro _; exact ⟨by simp [sumQ, dig_zero], by simp [sumQ, dig_1], by simp [sumQ]⟩
 | succ k ih =>
   intro hk
   obtain ⟨i1, i2, i3⟩ := ih (by omega)
   obtain ⟨t, ht⟩ := get_of_lt (show k < l.length by omega)
   obtain ⟨t1, t2, t3⟩ := h t (List.mem_of_getElem? ht)
   rw [take_get ht, sumQ_snoc]
   have := rp_bd (s1 := (sumQ (l.take k)).1) (s2 := t.1) i1 i2 t1 t2 i3 t3
   exact ⟨by simp only [sumStep]; omega, by simp only [sumStep]; omega, this.2.2⟩
theorem bigQ_short {s : Bool} {n d : Nat} (h : bigQ n d = false) (hd : d ≠ 0) : Short (s, n, d) := by
 unfold bigQ at h
 rw [Bool.or_eq_false_iff, decide_eq_false_iff_not, decide_eq_false_iff_not] at h
 have h1 : ∀ m : Nat, Lib.nDigits m <= 2000 -> (dig m).length <= 300 := by
  intro m hm
  by_cases h0 : m = 0
  · subst h0; rw [dig_zero]; simp
  · have hp : 0 < (dig m).length := by have := mt dig_len_pos.1 h0; omega
    obtain ⟨t, ht⟩ := get_of_lt (show (dig m).length - 1 < (dig m).length by omega)
    have := size_dig_eq ht
    omega
 exact ⟨h1 n (by omega), h1 d (by omega), hd⟩
theorem getR_short {s : ByteArray} {t : Bool × Nat × Nat} (h : getR s = some t) : Short t := by
 unfold getR at h
 split at h
 · cases h
 · unfold ownD at h
   rcases hp : parseR s.data.toList with _ | ⟨m, n, d⟩
   · rw [hp] at h; cases h
   · rw [hp] at h
     simp only at h
     split at h
     · rename_i hc
       rw [<- Option.some.inj h]
       obtain ⟨_, _, hd0⟩ := parseR_bd hp
       refine bigQ_short hc.2 ?_
       have h3 : 0 < Nat.gcd n d := Nat.gcd_pos_of_pos_right _ (by omega)
       have := Nat.div_pos (Nat.le_of_dvd (by omega) (Nat.gcd_dvd_right n d)) h3
       omega
     · cases h
theorem getL_short {ss : List ByteArray} {l : List (Bool × Nat × Nat)} (h : getL ss = some l) : ∀ t ∈ l, Short t := by
 induction ss generalizing l with
 | nil => simp only [getL, Option.some.injEq] at h; subst h; simp
 | cons x r ih =>
   simp only [getL] at h
   cases hx : getR x with
   | none => rw [hx] at h; cases h
   | some u =>
     rw [hx] at h
     cases hr : getL r with
     | none => rw [hr] at h; cases h
     | some m =>
       rw [hr] at h
       simp only [Option.some.injEq] at h
       subst h
       intro t ht
       rcases List.mem_cons.1 ht with rfl | ht
       · exact getR_short hx
       · exact ih hr t ht
def SumRes (ss : List ByteArray) (w : World) (e : Ending) (w' : World) : Prop :=
 (match getL ss with
  | none => e = .returned (.tuple #[.string ⟨#[]⟩, .int .i64 10])
  | some l => e = .returned (.tuple #[.string (putT (sumQ l).1 (sumQ l).2.1 (sumQ l).2.2), .int .i64 (putE (sumQ l).2.1 (sumQ l).2.2)])) /\ Below w.heap.size w w'
theorem sumRes_none {ss : List ByteArray} {w w' : World} (h : getL ss = none) (hb : Below w.heap.size w w') : SumRes ss w (.returned (.tuple #[.string ⟨#[]⟩, .int .i64 10])) w' := ⟨by rw [h], hb⟩
theorem sumRes_some {ss : List ByteArray} {w w' : World} {l : List (Bool × Nat × Nat)} {q : Bool × Nat × Nat} (h : getL ss = some l) (hq : sumQ l = q) (hb : Below w.heap.size w w') : SumRes ss w (.returned (.tuple #[.string (putT q.1 q.2.1 q.2.2), .int .i64 (putE q.2.1 q.2.2)])) w' := ⟨by subst hq; rw [h], hb⟩
set_option maxRecDepth 100000 in
set_option maxHeartbeats 2000000 in
theorem sum_any (ao : Option Addr) (ss : List ByteArray) (cap : Nat) (w : World) (ht : Tab w) (hc : Cells w ao (ss.map Value.string)) (hl : ss.length <= 4096) (hs : ∀ s ∈ ss, s.size <= 1099511627776 /\ Lib.hasSuffix s.data.toList [105] = false) :
 Calls Tryz.prog 69 #[.slice ao ss.length cap] w (SumRes ss w) := by
 have hall := all_get ao ss cap w ht hc (by omega) hs
 have HALL := Lib.hid hall; have HT := Lib.hid ht
 clear hall ht hc hs
 go_enter Tryz.func69, Tryz.ntmps69
 go_wp2_with fail
 refine HALL.out.mono ?_
 rintro e w1 ⟨hm, hb1⟩
 rcases hgl : getL ss with _ | l
 · rw [hgl] at hm
   subst hm
   have HGL := Lib.hid hgl
   clear hgl
   go_wp2
   go_ret2
   exact sumRes_none HGL.out hb1
 · rw [hgl] at hm
   obtain ⟨a, c, cs, rfl, hcc, hnr⟩ := hm
   have hlen := getL_len hgl
   have hbd := sumQ_bd l (getL_short hgl)
   have hsh := getL_short hgl
   have h6 := hnr.six
   have HGL := Lib.hid hgl; have HCC := Lib.hid hcc; have HNR := Lib.hid hnr; have HBD := Lib.hid hbd; have HSH := Lib.hid hsh; have H6 := Lib.hid h6
   have hl2 : l.length <= 4096 := by omega
   clear hgl hcc hnr hbd hsh h6 hlen
   have hwh := fun W => whole_any 0 W (by omega) (by omega)
   have HWH : Hid (∀ W, Calls Tryz.prog 82 #[.int .i64 0] W fun e w' => (∃ v, e = .returned v /\ RatV w' v false 0 1) /\ Below W.heap.size W w') := hwh
   clear hwh
   go_wp2_with fail
   refine (HWH.out _).mono ?_
   rintro e w2 ⟨⟨v2, rfl, hv2⟩, hb2⟩
   obtain ⟨z1, y1, z2, y2, rfl, k1, k2⟩ := hv2.slices
   go_wp2_with fail
   refine (plain_any false 0 1 _ _ hv2).mono ?_
   rintro e w3 ⟨⟨v3, rfl, hv3⟩, hb3⟩
   clear hv2 k1 k2
   obtain ⟨b1, d1, b2, d2, b3, d3, b4, d4, rfl, j1, j2, j3, j4⟩ := hv3.slices
   have hb13 : Below w1.heap.size w1 w3 := hb2.trans (hb3.mono hb2.size)
   have hbk0 := Blk.new w3 148 #[Value.bool false, .slice b1 (dig 0).length d1, .slice b2 (dig 1).length d2, .bool false, .slice b3 (dig 0).length d3, .slice b4 (dig 1).length d4]
   have hal3 := (Below.refl w3.heap.size w3).alloc (Nat.le_refl _) (.cells #[Value.bool false, .slice b1 (dig 0).length d1, .slice b2 (dig 1).length d2, .bool false, .slice b3 (dig 0).length d3, .slice b4 (dig 1).length d4] 148)
   have hnc0 : NCell (w3.alloc (.cells #[Value.bool false, .slice b1 (dig 0).length d1, .slice b2 (dig 1).length d2, .bool false, .slice b3 (dig 0).length d3, .slice b4 (dig 1).length d4] 148)) [.bool false, .slice b1 (dig 0).length d1, .slice b2 (dig 1).length d2, .bool false, .slice b3 (dig 0).length d3, .slice b4 (dig 1).length d4] (sumQ (l.take 0)) := ⟨b1, d1, b2, d2, b3, d3, b4, d4, rfl, j1.below hal3 (Nat.le_refl _), j2.below hal3 (Nat.le_refl _), j3.below hal3 (Nat.le_refl _), j4.below hal3 (Nat.le_refl _)⟩
   have hb14 := hb13.alloc hb13.size (.cells #[Value.bool false, .slice b1 (dig 0).length d1, .slice b2 (dig 1).length d2, .bool false, .slice b3 (dig 0).length d3, .slice b4 (dig 1).length d4] 148)
   have HBK0 := Lib.hid hbk0; have HNC0 := Lib.hid hnc0; have HB14 := Lib.hid hb14
   have hsz3 := hb13.size
   clear hv3 j1 j2 j3 j4 hbk0 hnc0 hb14 hal3 hb13 hb2 hb3
   go_wp2_with fail
   go_loopw [23] (fun iv wr => ∃ (k : Nat) (cc : List Value), k <= l.length /\ iv = .int .i64 k /\ NCell wr cc (sumQ (l.take k)) /\ Blk wr w3.heap.size 148 cc.toArray /\ Below w1.heap.size w1 wr) (fun iv _ => l.length - (intOf iv).toNat)
   case atStart => exact ⟨0, _, Nat.zero_le _, rfl, HNC0.out, HBK0.out, HB14.out⟩
   case round =>
    clear HBK0 HNC0 HB14
    obtain ⟨k, cq, hk, rfl, hnc, hbk, hbw⟩ := hrel
    obtain ⟨i1, i2, i3⟩ := HBD.out k hk
    have hblt := hbk.lt
    obtain ⟨q, hq⟩ : ∃ q, sumQ (l.take k) = q := ⟨_, rfl⟩
    rw [hq] at hnc i1 i2 i3
    obtain ⟨sq, nq, dq⟩ := q
    have HQ := Lib.hid hq
    have hqv : ValV wr (.agg cq.toArray) sq nq dq false 0 1 := by
     obtain ⟨b1, d1, b2, d2, b3, d3, b4, d4, rfl, j1, j2, j3, j4⟩ := hnc
     exact ⟨_, _, _, _, rfl, j1, j2, j3, j4⟩
    obtain ⟨b1, d1, b2, d2, b3, d3, b4, d4, rfl, j1, j2, j3, j4⟩ := hnc
    simp only at hqv i1 i2 i3
    have HQV := Lib.hid hqv; have HBK := Lib.hid hbk
    have y0 : wr.cell? ⟨w3.heap.size, 0, none⟩ = some (.bool sq) := hbk.cell 0
    have y1 : wr.cell? ⟨w3.heap.size, 1, none⟩ = some (.slice b1 (dig nq).length d1) := hbk.cell 1
    have y2 : wr.cell? ⟨w3.heap.size, 2, none⟩ = some (.slice b2 (dig dq).length d2) := hbk.cell 2
    have y3 : wr.cell? ⟨w3.heap.size, 3, none⟩ = some (.bool false) := hbk.cell 3
    have y4 : wr.cell? ⟨w3.heap.size, 4, none⟩ = some (.slice b3 (dig 0).length d3) := hbk.cell 4
    have y5 : wr.cell? ⟨w3.heap.size, 5, none⟩ = some (.slice b4 (dig 1).length d4) := hbk.cell 5
    clear j1 j2 j3 j4 hqv hbk hq
    by_cases hlt : k < l.length
    · obtain ⟨t, ht⟩ := get_of_lt hlt
      obtain ⟨te, htc⟩ := get_of_lt (show k < cs.length by rw [HNR.out.1]; exact hlt)
      have hnce := (HNR.out.2 k te t htc ht).below hbw (Nat.le_refl _)
      obtain ⟨t1, t2, t3⟩ := HSH.out t (List.mem_of_getElem? ht)
      have htk := take_get ht
      obtain ⟨se, ne, de⟩ := t
      have hev : ValV wr (.agg te.toArray) se ne de false 0 1 := by
       obtain ⟨b1, d1, b2, d2, b3, d3, b4, d4, rfl, j1, j2, j3, j4⟩ := hnce
       exact ⟨_, _, _, _, rfl, j1, j2, j3, j4⟩
      obtain ⟨a1, c1, a2, c2, a3, c3, a4, c4, rfl, j1, j2, j3, j4⟩ := hnce
      simp only at hev t1 t2 t3
      have hfl := HNR.out.flat_len
      obtain ⟨ba, offa, rfl⟩ := HCC.out.addr (by intro h; rw [h] at hfl; simp at hfl; omega)
      have x0 : wr.cell? ⟨ba, offa + k * 6, none⟩ = some (.bool se) := by have := HCC.out.at (flat_get H6.out htc (j := 0) rfl); have := cell_keep this hbw (Nat.le_refl _); rwa [<- Nat.add_assoc] at this
      have x1 : wr.cell? ⟨ba, offa + k * 6 + 1, none⟩ = some (.slice a1 (dig ne).length c1) := by have := HCC.out.at (flat_get H6.out htc (j := 1) rfl); have := cell_keep this hbw (Nat.le_refl _); rwa [<- Nat.add_assoc] at this
      have x2 : wr.cell? ⟨ba, offa + k * 6 + 2, none⟩ = some (.slice a2 (dig de).length c2) := by have := HCC.out.at (flat_get H6.out htc (j := 2) rfl); have := cell_keep this hbw (Nat.le_refl _); rwa [<- Nat.add_assoc] at this
      have x3 : wr.cell? ⟨ba, offa + k * 6 + 3, none⟩ = some (.bool false) := by have := HCC.out.at (flat_get H6.out htc (j := 3) rfl); have := cell_keep this hbw (Nat.le_refl _); rwa [<- Nat.add_assoc] at this
      have x4 : wr.cell? ⟨ba, offa + k * 6 + 4, none⟩ = some (.slice a3 (dig 0).length c3) := by have := HCC.out.at (flat_get H6.out htc (j := 4) rfl); have := cell_keep this hbw (Nat.le_refl _); rwa [<- Nat.add_assoc] at this
      have x5 : wr.cell? ⟨ba, offa + k * 6 + 5, none⟩ = some (.slice a4 (dig 1).length c4) := by have := HCC.out.at (flat_get H6.out htc (j := 5) rfl); have := cell_keep this hbw (Nat.le_refl _); rwa [<- Nat.add_assoc] at this
      have hsn : sumQ (l.take (k + 1)) = (rpS sq nq dq se ne de, rpN sq nq dq se ne de, rpD sq nq dq se ne de) := by rw [htk, sumQ_snoc, HQ.out]; rfl
      have HSN := Lib.hid hsn; have HEV := Lib.hid hev
      have i0 : (k : Int) < l.length := by omega
      clear htk htc ht hev j1 j2 j3 j4 hfl hsn
      obtain ⟨ps, hps⟩ : ∃ ps, ps = rpS sq nq dq se ne de := ⟨_, rfl⟩
      obtain ⟨pn, hpn⟩ : ∃ pn, pn = rpN sq nq dq se ne de := ⟨_, rfl⟩
      obtain ⟨pd, hpd⟩ : ∃ pd, pd = rpD sq nq dq se ne de := ⟨_, rfl⟩
      have HPL : Hid (∀ W, Below wr.heap.size wr W -> Calls Tryz.prog 138 #[.agg #[.bool sq, .slice b1 (dig nq).length d1, .slice b2 (dig dq).length d2, .bool false, .slice b3 (dig 0).length d3, .slice b4 (dig 1).length d4], .agg #[.bool se, .slice a1 (dig ne).length c1, .slice a2 (dig de).length c2, .bool false, .slice a3 (dig 0).length c3, .slice a4 (dig 1).length c4]] W (ValRes ps pn pd W)) := fun W hb => by
       rw [hps, hpn, hpd]
       exact valPlus_any _ _ sq nq dq se ne de W (HQV.out.below hb (Nat.le_refl _)) (HEV.out.below hb (Nat.le_refl _)) i3 t3 (by omega) (by omega) (by omega) (by omega)
      rw [<- hps, <- hpn, <- hpd] at HSN
      clear hps hpn hpd
      have n1 : ¬ w3.heap.size = wr.heap.size := by omega
      go_wp2_with fail
      refine (HPL.out _ ((Below.refl _ _).alloc (Nat.le_refl _) _)).mono ?_
      rintro e w5 ⟨⟨v5, rfl, hv5⟩, hb5⟩
      have hbx : Below wr.heap.size wr w5 := ((Below.refl _ _).alloc (Nat.le_refl _) _).trans (hb5.mono (by simp))
      obtain ⟨g1, i1, g2, i2, g3, i3, g4, i4, rfl, m1, m2, m3, m4⟩ := hv5.slices
      have hbk5 := HBK.out.below hbx hblt
      have z0 : w5.cell? ⟨w3.heap.size, 0, none⟩ = some (.bool sq) := hbk5.cell 0
      have z1 : w5.cell? ⟨w3.heap.size, 1, none⟩ = some (.slice b1 (dig nq).length d1) := hbk5.cell 1
      have z2 : w5.cell? ⟨w3.heap.size, 2, none⟩ = some (.slice b2 (dig dq).length d2) := hbk5.cell 2
      have z3 : w5.cell? ⟨w3.heap.size, 3, none⟩ = some (.bool false) := hbk5.cell 3
      have z4 : w5.cell? ⟨w3.heap.size, 4, none⟩ = some (.slice b3 (dig 0).length d3) := hbk5.cell 4
      have z5 : w5.cell? ⟨w3.heap.size, 5, none⟩ = some (.slice b4 (dig 1).length d4) := hbk5.cell 5
      have f0 : w5.frozen? ⟨w3.heap.size, 0, none⟩ = false := hbk5.free 0
      have f1 : w5.frozen? ⟨w3.heap.size, 1, none⟩ = false := hbk5.free 1
      have f2 : w5.frozen? ⟨w3.heap.size, 2, none⟩ = false := hbk5.free 2
      have f3 : w5.frozen? ⟨w3.heap.size, 3, none⟩ = false := hbk5.free 3
      have f4 : w5.frozen? ⟨w3.heap.size, 4, none⟩ = false := hbk5.free 4
      have f5 : w5.frozen? ⟨w3.heap.size, 5, none⟩ = false := hbk5.free 5
      have hbf := (((((hbk5.setAt 0 (.bool ps)).setAt 1 (.slice g1 (dig pn).length i1)).setAt 2 (.slice g2 (dig pd).length i2)).setAt 3 (.bool false)).setAt 4 (.slice g3 (dig 0).length i3)).setAt 5 (.slice g4 (dig 1).length i4)
      have M1 := m1.box6 (u0 := .bool ps) (u1 := .slice g1 (dig pn).length i1) (u2 := .slice g2 (dig pd).length i2) (u3 := .bool false) (u4 := .slice g3 (dig 0).length i3) (u5 := .slice g4 (dig 1).length i4) z0 z1 z2 z3 z4 z5 trivial trivial trivial trivial trivial trivial
      have M2 := m2.box6 (u0 := .bool ps) (u1 := .slice g1 (dig pn).length i1) (u2 := .slice g2 (dig pd).length i2) (u3 := .bool false) (u4 := .slice g3 (dig 0).length i3) (u5 := .slice g4 (dig 1).length i4) z0 z1 z2 z3 z4 z5 trivial trivial trivial trivial trivial trivial
      have M3 := m3.box6 (u0 := .bool ps) (u1 := .slice g1 (dig pn).length i1) (u2 := .slice g2 (dig pd).length i2) (u3 := .bool false) (u4 := .slice g3 (dig 0).length i3) (u5 := .slice g4 (dig 1).length i4) z0 z1 z2 z3 z4 z5 trivial trivial trivial trivial trivial trivial
      have M4 := m4.box6 (u0 := .bool ps) (u1 := .slice g1 (dig pn).length i1) (u2 := .slice g2 (dig pd).length i2) (u3 := .bool false) (u4 := .slice g3 (dig 0).length i3) (u5 := .slice g4 (dig 1).length i4) z0 z1 z2 z3 z4 z5 trivial trivial trivial trivial trivial trivial
      have hbz := ((((((hbw.trans (hbx.mono hbw.size)).setCell (p := ⟨w3.heap.size, 0, none⟩) hsz3 (.bool ps)).setCell (p := ⟨w3.heap.size, 1, none⟩) hsz3 (.slice g1 (dig pn).length i1)).setCell (p := ⟨w3.heap.size, 2, none⟩) hsz3 (.slice g2 (dig pd).length i2)).setCell (p := ⟨w3.heap.size, 3, none⟩) hsz3 (.bool false)).setCell (p := ⟨w3.heap.size, 4, none⟩) hsz3 (.slice g3 (dig 0).length i3)).setCell (p := ⟨w3.heap.size, 5, none⟩) hsz3 (.slice g4 (dig 1).length i4)
      have HBF := Lib.hid hbf; have HM1 := Lib.hid M1; have HM2 := Lib.hid M2; have HM3 := Lib.hid M3; have HM4 := Lib.hid M4; have HBZ := Lib.hid hbz
      clear hbf M1 M2 M3 M4 hbz m1 m2 m3 m4 hv5 hb5 hbk5 hbx y0 y1 y2 y3 y4 y5 x0 x1 x2 x3 x4 x5 n1
      go_wp2_with fail
      go_roundw
      case rel => exact ⟨k + 1, _, by omega, by go_num, by rw [HSN.out]; exact ⟨g1, i1, g2, i2, g3, i3, g4, i4, rfl, HM1.out, HM2.out, HM3.out, HM4.out⟩, HBF.out, HBZ.out⟩
      case measure => simp [intOf]; omega
    · obtain rfl : k = l.length := by omega
      have hq2 : sumQ l = (sq, nq, dq) := by have := HQ.out; rwa [List.take_length] at this
      have HQ2 := Lib.hid hq2
      have hput := fun W h1 h2 => put_any (.agg #[.bool sq, .slice b1 (dig nq).length d1, .slice b2 (dig dq).length d2, .bool false, .slice b3 (dig 0).length d3, .slice b4 (dig 1).length d4]) sq nq dq false W h1 h2 (by omega) (by omega) i3
      have HPUT := Lib.hid hput
      have HTT := Lib.hid (HT.out.below (hb1.trans (hbw.mono hb1.size)) (Nat.le_refl _))
      have i0 : ¬ (l.length : Int) < l.length := by omega
      clear hq2 hput
      go_wp2_with fail
      refine (HPUT.out _ HQV.out HTT.out).mono ?_
      rintro e w5 ⟨rfl, hb5⟩
      have hbf := hb1.trans ((hbw.trans (hb5.mono hbw.size)).mono hb1.size)
      clear y0 y1 y2 y3 y4 y5
      go_wp2_with fail
      go_ret2
      exact sumRes_some HGL.out HQ2.out hbf
end Go.Proofs.YtdpjdifoonfcdaaGreatDoor

namespace Go.Proofs.YtdpjdifoonfcdaaGreatDoor
open Go.RowKit
theorem ib_none {l : List UInt8} (h : ∀ b ∈ l, b ≠ 47) : Lib.indexByte l 47 = -1 := by
 induction l with
 | nil => rfl
 | cons b l ih =>
   have h1 := ih (fun x hx => h x (by simp [hx]))
   have h2 : (b == 47) = false := by simpa using h b (by simp)
   rw [Lib.indexByte, h2, h1]; rfl
theorem ib_some {l r : List UInt8} (h : ∀ b ∈ l, b ≠ 47) : Lib.indexByte (l ++ 47 :: r) 47 = l.length := by
 induction l with
 | nil => rfl
 | cons b l ih =>
   have h1 := ih (fun x hx => h x (by simp [hx]))
   have h2 : (b == 47) = false := by simpa using h b (by simp)
   rw [List.cons_append, Lib.indexByte, h2, h1]
   have h3 : (((l.length : Nat) : Int) == -1) = false := by rw [beq_eq_false_iff_ne]; omega
   rw [h3, List.length_cons]
   simp
theorem cut_none {l : List UInt8} (h : ∀ b ∈ l, b ≠ 47) : Lib.cut l [47] = (l, [], false) := by
 unfold Lib.cut
 rw [Lib.index_one, ib_none h, if_neg (by omega)]
theorem cut_some {l r : List UInt8} (h : ∀ b ∈ l, b ≠ 47) : Lib.cut (l ++ 47 :: r) [47] = (l, r, true) := by
 unfold Lib.cut
 rw [Lib.index_one, ib_some h, if_pos (by omega)]
 simp
theorem dg_ne {b : UInt8} (h : isDg b = true) : b ≠ 47 /\ b ≠ 45 /\ b ≠ 105 := by
 simp only [isDg, Bool.and_eq_true, decide_eq_true_eq] at h
 refine ⟨?_, ?_, ?_⟩ <;> (rintro rfl; simp at h)
theorem dec_dg (n : Nat) : ∀ b ∈ Lib.decDigits n, isDg b = true := fun b hb => List.all_eq_true.1 (dec_read n).1 b hb
theorem ratT_list (s : Bool) (n d : Nat) : (ratT s n d).data.toList = (if s = true then [45] else []) ++ (Lib.decDigits n ++ if d = 1 then [] else 47 :: Lib.decDigits d) := by
 unfold ratT sgT decB
 cases s <;> by_cases hd : d = 1 <;> simp [hd, ByteArray.data_append]
theorem ratT_size (s : Bool) (n d : Nat) : (ratT s n d).size <= Lib.nDigits n + Lib.nDigits d + 2 := by
 have h : (ratT s n d).size = (ratT s n d).data.toList.length := rfl
 rw [h, ratT_list]
 have h1 := Lib.decDigits_length n
 have h2 := Lib.decDigits_length d
 simp only [List.length_append]
 split <;> split <;> simp <;> omega
theorem ratT_noI (s : Bool) (n d : Nat) : Lib.hasSuffix (ratT s n d).data.toList [105] = false := by
 rw [ratT_list]
 unfold Lib.hasSuffix
 have key : ∀ (p : List UInt8) (q : List UInt8), q ≠ [] -> (∀ b ∈ q, isDg b = true) -> [105].isSuffixOf (p ++ q) = false := by
  intro p q hq hd
  rw [Bool.eq_false_iff]
  intro h
  have h1 := List.isSuffixOf_iff_suffix.1 h
  obtain ⟨r, hr⟩ := h1
  have h2 := congrArg List.getLast? hr
  rw [List.getLast?_append, List.getLast?_append, List.getLast?_eq_some_getLast hq] at h2
  simp only [List.getLast?_singleton, Option.some_or, Option.some.injEq] at h2
  have h3 := List.getLast_mem hq
  rw [<- h2] at h3
  exact (dg_ne (hd _ h3)).2.2 rfl
 have hn := (dec_read n).2.2
 by_cases hd : d = 1
 · rw [if_pos hd, List.append_nil]
   exact key _ _ hn (dec_dg n)
 · rw [if_neg hd]
   have := key ((if s = true then [45] else []) ++ (Lib.decDigits n ++ [47])) (Lib.decDigits d) (dec_read d).2.2 (dec_dg d)
   simpa using this
theorem parseR_own (s : Bool) (n d : Nat) (hd : d ≠ 0) : parseR (ratT s n d).data.toList = some (s, n, d) := by
 rw [ratT_list]
 have hne : ∀ b ∈ Lib.decDigits n, b ≠ 47 := fun b hb => (dg_ne (dec_dg n b hb)).1
 have hpre : Lib.hasPrefix ((if s = true then [45] else []) ++ (Lib.decDigits n ++ if d = 1 then [] else 47 :: Lib.decDigits d)) [45] = s := by
  cases s
  · obtain ⟨c, r, hc⟩ := List.exists_cons_of_ne_nil (dec_read n).2.2
    have hc45 : c ≠ 45 := (dg_ne (dec_dg n c (by rw [hc]; simp))).2.1
    have : (45 == c) = false := by rw [beq_eq_false_iff_ne]; exact fun h => hc45 h.symm
    simp [Lib.hasPrefix, hc, List.isPrefixOf, this]
  · simp [Lib.hasPrefix, List.isPrefixOf]
 have htr : Lib.trimPrefix ((if s = true then [45] else []) ++ (Lib.decDigits n ++ if d = 1 then [] else 47 :: Lib.decDigits d)) [45] = Lib.decDigits n ++ if d = 1 then [] else 47 :: Lib.decDigits d := by
  unfold Lib.trimPrefix
  rw [hpre]
  cases s <;> simp
 unfold parseR
 rw [hpre, htr]
 by_cases h1 : d = 1
 · rw [if_pos h1, List.append_nil, cut_none hne, parseD]
   simp only [natP_dec]
   simp [h1]
 · rw [if_neg h1, cut_some hne, parseD]
   simp only [natP_dec]
   simp [hd]
theorem getR_own {s : Bool} {n d : Nat} (hd : d ≠ 0) (hg : Nat.gcd n d = 1) (hs : n = 0 -> s = false) (hb : bigQ n d = false) : getR (ratT s n d) = some (s, n, d) := by
 have hb2 := hb
 unfold bigQ at hb2
 rw [Bool.or_eq_false_iff, decide_eq_false_iff_not, decide_eq_false_iff_not] at hb2
 have hsz := ratT_size s n d
 unfold getR
 rw [if_neg (by omega), parseR_own s n d hd]
 have hss : (s && decide (n ≠ 0)) = s := by
  by_cases h0 : n = 0
  · rw [hs h0]; rfl
  · simp [h0]
 simp only [ownD, hss, hg, Nat.div_one]
 rw [if_pos ⟨trivial, hb⟩]
def redI (n : Int) (d : Nat) : Bool × Nat × Nat := (decide (n < 0), n.natAbs / Nat.gcd n.natAbs d, d / Nat.gcd n.natAbs d)
def sgI (s : Bool) (n : Nat) : Int := if s = true then -(n : Int) else (n : Int)
theorem redI_scale (n : Int) (d k : Nat) (hk : 0 < k) : redI (n * k) (d * k) = redI n d := by
 unfold redI
 have h1 : (n * (k : Int)).natAbs = n.natAbs * k := by rw [Int.natAbs_mul, Int.natAbs_natCast]
 have h2 : decide (n * (k : Int) < 0) = decide (n < 0) := by
  rw [Bool.eq_iff_iff, decide_eq_true_iff, decide_eq_true_iff]
  constructor
  · intro h
    rcases Int.lt_or_le n 0 with h3 | h3
    · exact h3
    · have := Int.mul_nonneg h3 (show (0 : Int) <= k by omega); omega
  · intro h; exact Int.mul_neg_of_neg_of_pos h (by omega)
 rw [h1, h2, Nat.gcd_mul_right]
 rw [Nat.mul_div_mul_right _ _ hk, Nat.mul_div_mul_right _ _ hk]
theorem redI_gcd {n : Int} {d : Nat} (hd : d ≠ 0) : (redI n d).2.2 ≠ 0 /\ Nat.gcd (redI n d).2.1 (redI n d).2.2 = 1 /\ ((redI n d).2.1 = 0 -> (redI n d).1 = false) /\ sgI (redI n d).1 (redI n d).2.1 * (Nat.gcd n.natAbs d : Nat) = n /\ (redI n d).2.2 * Nat.gcd n.natAbs d = d := by
 have hg : 0 < Nat.gcd n.natAbs d := Nat.gcd_pos_of_pos_right _ (by omega)
 have h1 := Nat.gcd_dvd_left n.natAbs d
 have h2 := Nat.gcd_dvd_right n.natAbs d
 have h3 : n.natAbs / Nat.gcd n.natAbs d * Nat.gcd n.natAbs d = n.natAbs := Nat.div_mul_cancel h1
 have h4 : d / Nat.gcd n.natAbs d * Nat.gcd n.natAbs d = d := Nat.div_mul_cancel h2
 refine ⟨?_, by show Nat.gcd (n.natAbs / Nat.gcd n.natAbs d) (d / Nat.gcd n.natAbs d) = 1; rw [Nat.gcd_div h1 h2, Nat.div_self hg], ?_, ?_, h4⟩
 · show d / Nat.gcd n.natAbs d ≠ 0
   intro h; rw [h] at h4; omega
 · intro h
   have h5 : n.natAbs / Nat.gcd n.natAbs d = 0 := h
   rw [h5] at h3
   show decide (n < 0) = false
   rw [decide_eq_false_iff_not]; omega
 · show sgI (decide (n < 0)) (n.natAbs / Nat.gcd n.natAbs d) * _ = n
   unfold sgI
   by_cases hn : n < 0
   · rw [if_pos (by simpa using hn), Int.neg_mul]
     have : ((n.natAbs / Nat.gcd n.natAbs d : Nat) : Int) * (Nat.gcd n.natAbs d : Nat) = (n.natAbs : Nat) := by rw [<- Int.natCast_mul, h3]
     rw [this]; omega
   · rw [if_neg (by simpa using hn)]
     have : ((n.natAbs / Nat.gcd n.natAbs d : Nat) : Int) * (Nat.gcd n.natAbs d : Nat) = (n.natAbs : Nat) := by rw [<- Int.natCast_mul, h3]
     rw [this]; omega
theorem ad_sg (s : Bool) (m : Nat) (t : Bool) (n : Nat) : sgI (adS s m t n) (adN s m t n) = sgI s m + sgI t n := by
 unfold sgI adS adN
 by_cases h : n <= m
 · cases s <;> cases t <;> simp [h] <;> omega
 · cases s <;> cases t <;> simp [h] <;> omega
theorem sgI_abs (s : Bool) (n : Nat) : (sgI s n).natAbs = n := by unfold sgI; split <;> omega
theorem sgI_neg (s : Bool) (n : Nat) : decide (sgI s n < 0) = (s && decide (n ≠ 0)) := by
 unfold sgI
 cases s
 · simp
 · rw [Bool.eq_iff_iff]; simp; omega
theorem rp_red (s1 : Bool) (n1 d1 : Nat) (s2 : Bool) (n2 d2 : Nat) : (rpS s1 n1 d1 s2 n2 d2, rpN s1 n1 d1 s2 n2 d2, rpD s1 n1 d1 s2 n2 d2) = redI (sgI s1 n1 * d2 + sgI s2 n2 * d1) (d1 * d2) := by
 have h : sgI (adS s1 (n1 * d2) s2 (n2 * d1)) (rpU s1 n1 d1 s2 n2 d2) = sgI s1 n1 * d2 + sgI s2 n2 * d1 := by
  unfold rpU
  rw [ad_sg]
  unfold sgI
  cases s1 <;> cases s2 <;> simp [Int.neg_mul]
 unfold redI
 rw [<- h, sgI_abs, sgI_neg]
 rfl
theorem redI_add {n1 : Int} {d1 : Nat} {n2 : Int} {d2 : Nat} (h1 : d1 ≠ 0) (h2 : d2 ≠ 0) :
 redI (sgI (redI n1 d1).1 (redI n1 d1).2.1 * (redI n2 d2).2.2 + sgI (redI n2 d2).1 (redI n2 d2).2.1 * (redI n1 d1).2.2) ((redI n1 d1).2.2 * (redI n2 d2).2.2) = redI (n1 * d2 + n2 * d1) (d1 * d2) := by
 obtain ⟨_, _, _, a1, a2⟩ := redI_gcd (n := n1) h1
 obtain ⟨_, _, _, b1, b2⟩ := redI_gcd (n := n2) h2
 have hg1 : 0 < Nat.gcd n1.natAbs d1 := Nat.gcd_pos_of_pos_right _ (by omega)
 have hg2 : 0 < Nat.gcd n2.natAbs d2 := Nat.gcd_pos_of_pos_right _ (by omega)
 generalize Nat.gcd n1.natAbs d1 = g1 at *
 generalize Nat.gcd n2.natAbs d2 = g2 at *
 generalize sgI (redI n1 d1).1 (redI n1 d1).2.1 = x1 at *
 generalize sgI (redI n2 d2).1 (redI n2 d2).2.1 = x2 at *
 generalize (redI n1 d1).2.2 = y1 at *
 generalize (redI n2 d2).2.2 = y2 at *
 rw [<- redI_scale _ _ (g1 * g2) (Nat.mul_pos hg1 hg2)]
 congr 1
 · rw [<- a1, <- b1, <- a2, <- b2]
   simp only [Int.natCast_mul]
   rw [Int.add_mul]
   congr 1 <;> ac_rfl
 · rw [<- a2, <- b2]; ac_rfl
end Go.Proofs.YtdpjdifoonfcdaaGreatDoor

namespace Go.Proofs.YtdpjdifoonfcdaaGreatDoor
open Go.RowKit
theorem ofT_red (n : Int) (d : Nat) : ofT n d = ratT (redI n d).1 (redI n d).2.1 (redI n d).2.2 := by
 have h : (ofS n d, ofN n d, ofD n d) = redI n d := by
  unfold redI ofS ofN ofD
  rw [Int.natAbs_natCast, decide_eq_false (show ¬ (d : Int) < 0 by omega)]
  congr 1
  by_cases hn : n < 0
  · rw [decide_eq_true hn, decide_eq_true (show n.natAbs ≠ 0 by omega)]; rfl
  · rw [decide_eq_false hn]; rfl
 unfold ofT
 rw [<- h]
theorem redI_small {n : Int} {d k : Nat} (h1 : n.natAbs < 10 ^ (k + 1)) (h2 : d < 10 ^ (k + 1)) (hk : k < 2000) : bigQ (redI n d).2.1 (redI n d).2.2 = false := by
 have e1 : (redI n d).2.1 <= n.natAbs := Nat.div_le_self _ _
 have e2 : (redI n d).2.2 <= d := Nat.div_le_self _ _
 have e3 := nDigits_le k (redI n d).2.1 (by omega)
 have e4 := nDigits_le k (redI n d).2.2 (by omega)
 unfold bigQ
 rw [Bool.or_eq_false_iff, decide_eq_false_iff_not, decide_eq_false_iff_not]
 omega
theorem getR_of {n : Int} {d : Nat} (hd : d ≠ 0) (h1 : n.natAbs < 10 ^ 21) (h2 : d < 10 ^ 21) : getR (ofT n d) = some (redI n d) := by
 obtain ⟨a, b, c, _, _⟩ := redI_gcd (n := n) hd
 rw [ofT_red]
 exact getR_own a b c (redI_small (k := 20) h1 h2 (by omega))
theorem ofT_size {n : Int} {d : Nat} (h1 : n.natAbs < 10 ^ 21) (h2 : d < 10 ^ 21) : (ofT n d).size <= 1099511627776 /\ Lib.hasSuffix (ofT n d).data.toList [105] = false := by
 rw [ofT_red]
 have hb := redI_small (k := 20) h1 h2 (by omega)
 unfold bigQ at hb
 rw [Bool.or_eq_false_iff, decide_eq_false_iff_not, decide_eq_false_iff_not] at hb
 have := ratT_size (redI n d).1 (redI n d).2.1 (redI n d).2.2
 exact ⟨by omega, ratT_noI _ _ _⟩
def frStep (a t : Int × Nat) : Int × Nat := (a.1 * t.2 + t.1 * a.2, a.2 * t.2)
def frSum (l : List (Int × Nat)) : Int × Nat := l.foldl frStep (0, 1)
theorem frSum_snoc (l : List (Int × Nat)) (t : Int × Nat) : frSum (l ++ [t]) = frStep (frSum l) t := by simp [frSum, List.foldl_append]
theorem sumStep_red (n1 : Int) (d1 : Nat) (n2 : Int) (d2 : Nat) (h1 : d1 ≠ 0) (h2 : d2 ≠ 0) : sumStep (redI n1 d1) (redI n2 d2) = redI (n1 * d2 + n2 * d1) (d1 * d2) := by
 unfold sumStep
 rw [rp_red, redI_add h1 h2]
theorem sumQ_red (l : List (Int × Nat)) (h : ∀ t ∈ l, t.2 ≠ 0) : sumQ (l.map fun t => redI t.1 t.2) = redI (frSum l).1 (frSum l).2 := by
 have h0 : ((false, 0, 1) : Bool × Nat × Nat) = redI 0 1 := by decide
 unfold sumQ
 rw [h0]
 suffices H : ∀ (l : List (Int × Nat)) (a : Int × Nat), a.2 ≠ 0 -> (∀ t ∈ l, t.2 ≠ 0) -> (l.map fun t => redI t.1 t.2).foldl sumStep (redI a.1 a.2) = redI (l.foldl frStep a).1 (l.foldl frStep a).2 from H l (0, 1) (by simp) h
 intro l
 induction l with
 | nil => intro a _ _; rfl
 | cons t r ih =>
   intro a ha ht
   rw [List.map_cons, List.foldl_cons, List.foldl_cons, sumStep_red _ _ _ _ ha (ht t (by simp))]
   exact ih (frStep a t) (Nat.mul_ne_zero ha (ht t (by simp))) (fun x hx => ht x (by simp [hx]))
theorem getL_map (l : List (Int × Nat)) (h : ∀ t ∈ l, t.2 ≠ 0 /\ t.1.natAbs < 10 ^ 21 /\ t.2 < 10 ^ 21) : getL (l.map fun t => ofT t.1 t.2) = some (l.map fun t => redI t.1 t.2) := by
 induction l with
 | nil => rfl
 | cons t r ih =>
   obtain ⟨h1, h2, h3⟩ := h t (by simp)
   simp only [List.map_cons, getL, getR_of h1 h2 h3, ih (fun x hx => h x (by simp [hx]))]
theorem frSum_bd (l : List (Int × Nat)) (h : ∀ t ∈ l, t.2 ≠ 0 /\ t.1.natAbs < 10 ^ 21 /\ t.2 < 10 ^ 21) : (frSum l).2 <= (10 ^ 21) ^ l.length /\ (frSum l).1.natAbs <= l.length * (10 ^ 21) ^ l.length := by
 suffices H : ∀ (n : Nat) (l : List (Int × Nat)), l.length = n -> (∀ t ∈ l, t.2 ≠ 0 /\ t.1.natAbs < 10 ^ 21 /\ t.2 < 10 ^ 21) -> (frSum l).2 <= (10 ^ 21) ^ n /\ (frSum l).1.natAbs <= n * (10 ^ 21) ^ n from H _ l rfl h
 generalize hX : 10 ^ 21 = X
 intro n
 induction n with
 | zero => intro l hl _; have : l = [] := List.eq_nil_of_length_eq_zero hl; subst this; simp [frSum]
 | succ n ih =>
   intro l hl hall
   have hne : l ≠ [] := by intro e; subst e; simp at hl
   obtain ⟨r, t, rfl⟩ : ∃ r x, l = r ++ [x] := ⟨l.dropLast, l.getLast hne, (List.dropLast_concat_getLast hne).symm⟩
   obtain ⟨i1, i2⟩ := ih r (by simpa using hl) (fun x hx => hall x (by simp [hx]))
   obtain ⟨t1, t2, t3⟩ := hall t (by simp)
   rw [frSum_snoc]
   have hp : X ^ (n + 1) = X ^ n * X := Nat.pow_succ _ _
   constructor
   · show (frSum r).2 * t.2 <= _
     rw [hp]; exact Nat.mul_le_mul i1 (by omega)
   · show ((frSum r).1 * (t.2 : Int) + t.1 * ((frSum r).2 : Int)).natAbs <= _
     have m1 : ((frSum r).1 * (t.2 : Int)).natAbs <= n * X ^ n * X := by rw [Int.natAbs_mul, Int.natAbs_natCast]; exact Nat.mul_le_mul i2 (by omega)
     have m2 : (t.1 * ((frSum r).2 : Int)).natAbs <= X * X ^ n := by rw [Int.natAbs_mul, Int.natAbs_natCast]; exact Nat.mul_le_mul (by omega) i1
     have m3 := Int.natAbs_add_le ((frSum r).1 * (t.2 : Int)) (t.1 * ((frSum r).2 : Int))
     have e : (n + 1) * X ^ (n + 1) = n * X ^ n * X + X * X ^ n := by rw [hp]; grind
     omega
theorem sum_of (l : List (Int × Nat)) (h : ∀ t ∈ l, t.2 ≠ 0 /\ t.1.natAbs < 10 ^ 21 /\ t.2 < 10 ^ 21) (hl : l.length <= 9) {w w' : World} {e : Ending} (hs : SumRes (l.map fun t => ofT t.1 t.2) w e w') :
 e = .returned (.tuple #[.string (ofT (frSum l).1 (frSum l).2), .int .i64 0]) /\ Below w.heap.size w w' := by
 obtain ⟨h1, h2⟩ := hs
 rw [getL_map l h] at h1
 simp only at h1
 rw [sumQ_red l (fun t ht => (h t ht).1)] at h1
 obtain ⟨b1, b2⟩ := frSum_bd l h
 have hp : (10 ^ 21) ^ l.length <= (10 ^ 21) ^ 9 := Nat.pow_le_pow_right (by decide) hl
 have hm : l.length * (10 ^ 21) ^ l.length <= 9 * (10 ^ 21) ^ 9 := Nat.mul_le_mul hl hp
 have hb : bigQ (redI (frSum l).1 (frSum l).2).2.1 (redI (frSum l).1 (frSum l).2).2.2 = false := by
  refine redI_small (k := 199) ?_ ?_ (by omega)
  · exact Nat.lt_of_le_of_lt (Nat.le_trans b2 hm) (by decide +kernel)
  · exact Nat.lt_of_le_of_lt (Nat.le_trans b1 hp) (by decide +kernel)
 rw [ofT_red]
 unfold putT putE at h1
 rw [hb] at h1
 exact ⟨h1, h2⟩
def prt (xs ds : List Int) (t a b : Nat) (sg : Int) : Int × Nat := if sqTo xs a (b - a) = 0 then (0, 1) else (sg * dotTo xs ds t a (b - a) * dotTo xs ds t a (b - a), (sqTo xs a (b - a)).toNat)
theorem partT_prt (xs ds : List Int) (t a b : Nat) (sg : Int) : partT xs ds t a b sg = ofT (prt xs ds t a b sg).1 (prt xs ds t a b sg).2 := by
 have h := sqTo_nn xs a (b - a)
 unfold partT prt
 split
 · rfl
 · simp only
   rw [Int.toNat_of_nonneg h]
theorem prt_bd {xs ds : List Int} (h1 : ∀ x ∈ xs, -127 <= x /\ x <= 127) (h2 : ∀ x ∈ ds, -32768 <= x /\ x <= 32768) (t a b : Nat) (hb : b <= 64) (sg : Int) (hsg : sg = 1 ∨ sg = -1) :
 (prt xs ds t a b sg).2 ≠ 0 /\ (prt xs ds t a b sg).1.natAbs < 10 ^ 21 /\ (prt xs ds t a b sg).2 < 10 ^ 21 := by
 have b1 := sqTo_bd h1 a (b - a)
 have b2 := dotTo_bd h1 h2 t a (b - a)
 unfold prt
 split
 · simp
 · simp only
   generalize dotTo xs ds t a (b - a) = d at *
   generalize sqTo xs a (b - a) = s at *
   have hsd : -266338304 <= sg * d /\ sg * d <= 266338304 := by rcases hsg with rfl | rfl <;> omega
   have hA : (sg * d).natAbs <= 266338304 := by omega
   have hB : d.natAbs <= 266338304 := by omega
   have h := Nat.mul_le_mul hA hB
   rw [<- Int.natAbs_mul] at h
   refine ⟨by omega, by omega, by omega⟩
def misL (xs ds : List Int) (t L k n : Nat) : List (Int × Nat) := prt xs ds t 0 L (-1) :: (List.range n).map fun i => prt xs ds t (i * k) ((i + 1) * k) 1
theorem misL_length (xs ds : List Int) (t L k n : Nat) : (misL xs ds t L k n).length = n + 1 := by simp [misL]
theorem misL_succ (xs ds : List Int) (t L k n : Nat) : misL xs ds t L k (n + 1) = misL xs ds t L k n ++ [prt xs ds t (n * k) ((n + 1) * k) 1] := by simp [misL, List.range_succ]
theorem misL_bd {xs ds : List Int} (h1 : ∀ x ∈ xs, -127 <= x /\ x <= 127) (h2 : ∀ x ∈ ds, -32768 <= x /\ x <= 32768) (t L k n : Nat) (hL : L <= 64) (hk : n * k <= 64) :
 ∀ u ∈ misL xs ds t L k n, u.2 ≠ 0 /\ u.1.natAbs < 10 ^ 21 /\ u.2 < 10 ^ 21 := by
 intro u hu
 simp only [misL, List.mem_cons, List.mem_map, List.mem_range] at hu
 rcases hu with rfl | ⟨i, hi, rfl⟩
 · exact prt_bd h1 h2 t 0 L hL _ (.inr rfl)
 · refine prt_bd h1 h2 t _ _ ?_ _ (.inl rfl)
   exact Nat.le_trans (Nat.mul_le_mul_right k (show i + 1 <= n by omega)) hk
def misE (L p q : Int) (ds : List Int) (t n : Int) : Int :=
 if waveOK L p q then (if silentB (wav L p q) then 4 else if dataOK ds then (if t < 0 ∨ (ds.length : Int) - L < t then 8 else if inB 1 n 8 && decide (L % n = 0) then 0 else 2) else 73) else 70
def misQ (L p q : Int) (ds : List Int) (t n : Int) : Int × Nat := frSum (misL (wav L p q) ds t.toNat L.toNat (L.toNat / n.toNat) n.toNat)
def misT (L p q : Int) (ds : List Int) (t n : Int) : ByteArray := if misE L p q ds t n = 0 then ofT (misQ L p q ds t n).1 (misQ L p q ds t n).2 else ⟨#[]⟩
end Go.Proofs.YtdpjdifoonfcdaaGreatDoor
