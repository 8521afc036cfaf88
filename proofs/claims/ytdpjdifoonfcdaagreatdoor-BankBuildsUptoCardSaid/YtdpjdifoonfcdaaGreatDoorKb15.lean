/- Parts of a proof, in build order: O6, O1, O7. -/
import Derived.Test.YtdpjdifoonfcdaaGreatDoorKb14

namespace Go.Proofs.YtdpjdifoonfcdaaGreatDoor.Z4
open Go.RowKit
def CG (w : World) (v : Value) (s : Bool) (n d : Nat) (t : Bool) (m e : Nat) : Prop := ∃ va vb vc vd, v = .agg #[.bool s, va, .bool false, vb, .bool t, vc, .bool false, vd] /\ MV w va n /\ MV w vb d /\ MV w vc m /\ MV w vd e
theorem CG.below {w w' : World} {B : Nat} {v : Value} {s t : Bool} {n d m e : Nat} (h : CG w v s n d t m e) (hb : Below B w w') (hB : w.heap.size <= B) : CG w' v s n d t m e := by
 obtain ⟨a, b, c, e', rfl, h1, h2, h3, h4⟩ := h
 exact ⟨a, b, c, e', rfl, h1.below hb hB, h2.below hb hB, h3.below hb hB, h4.below hb hB⟩
theorem CG.cr {w : World} {v : Value} {s : Bool} {n d : Nat} (h : CG w v s n d false 0 1) : CR w v s n d := by
 obtain ⟨a, b, c, e, rfl, h1, h2, h3, h4⟩ := h
 exact ⟨a, b, c, e, rfl, h1, h2, h3, h4⟩
set_option maxRecDepth 100000 in
set_option maxHeartbeats 2000000 in
theorem refBigG_any (v : Value) (s t : Bool) (n d m e : Nat) (w : World) (hv : CG w v s n d t m e) (hl : (dig n).length <= 549755813888) (hl2 : (dig d).length <= 549755813888) (hl3 : (dig m).length <= 549755813888) (hl4 : (dig e).length <= 549755813888) :
 Calls Tryz.prog 277 #[v] w fun x w' => x = .returned (.bool (bigZ n d || bigZ m e)) /\ Below w.heap.size w w' := by
 obtain ⟨va, vb, vc, vd, rfl, ha, hb, hc, hdd⟩ := hv
 have HA := Lib.hid ha; have HB := Lib.hid hb; have HC := Lib.hid hc; have HD := Lib.hid hdd
 obtain ⟨aa, ca, rfl⟩ := ha.cases
 obtain ⟨ab, cb, rfl⟩ := hb.cases
 obtain ⟨ac, cc, rfl⟩ := hc.cases
 obtain ⟨ad, cd, rfl⟩ := hdd.cases
 clear ha hb hc hdd
 have g1 := fun W (h : MV W (.slice aa (dig n).length ca) n) => long_any s _ n W h hl
 have g2 := fun W (h : MV W (.slice ab (dig d).length cb) d) => long_any false _ d W h hl2
 have g3 := fun W (h : MV W (.slice ac (dig m).length cc) m) => long_any t _ m W h hl3
 have g4 := fun W (h : MV W (.slice ad (dig e).length cd) e) => long_any false _ e W h hl4
 have hR : (bigZ n d || bigZ m e) = (decide (2000 < Lib.nDigits n) || (decide (2000 < Lib.nDigits d) || (decide (2000 < Lib.nDigits m) || decide (2000 < Lib.nDigits e)))) := by unfold bigZ; rw [Bool.or_assoc]
 rw [hR]
 clear hR
 generalize decide (2000 < Lib.nDigits n) = k1 at *
 generalize decide (2000 < Lib.nDigits d) = k2 at *
 generalize decide (2000 < Lib.nDigits m) = k3 at *
 generalize decide (2000 < Lib.nDigits e) = k4 at *
 have G1 := Lib.hid g1; have G2 := Lib.hid g2; have G3 := Lib.hid g3; have G4 := Lib.hid g4
 clear g1 g2 g3 g4
 have hal := (Below.refl w.heap.size w).alloc (Nat.le_refl _) (.cells #[.bool s, .slice aa (dig n).length ca, .bool false, .slice ab (dig d).length cb, .bool t, .slice ac (dig m).length cc, .bool false, .slice ad (dig e).length cd] 354)
 cases k1 with
 | true =>
   go_enter Tryz.func277, Tryz.ntmps277
   go_wp2_with fail
   refine (G1.out _ (HA.out.below hal (Nat.le_refl _))).mono ?_
   rintro e w1 ⟨rfl, hb1⟩
   have hbw := hal.trans (hb1.mono (by simp))
   go_wp2
   go_ret
   exact ⟨rfl, hbw⟩
 | false =>
   cases k2 with
   | true =>
     go_enter Tryz.func277, Tryz.ntmps277
     go_wp2_with fail
     refine (G1.out _ (HA.out.below hal (Nat.le_refl _))).mono ?_
     rintro e w1 ⟨rfl, hb1⟩
     have hbw := hal.trans (hb1.mono (by simp))
     have q2 : w1.cell? ⟨w.heap.size, 2, none⟩ = some (.bool false) := box_keep hb1 (by simp) 2
     have q3 : w1.cell? ⟨w.heap.size, 3, none⟩ = some (.slice ab (dig d).length cb) := box_keep hb1 (by simp) 3
     go_wp2_with fail
     refine (G2.out _ (HB.out.below hbw (Nat.le_refl _))).mono ?_
     rintro e w2 ⟨rfl, hb2⟩
     have hbw2 := hbw.trans (hb2.mono hbw.size)
     go_wp2
     go_ret
     exact ⟨rfl, hbw2⟩
   | false =>
     cases k3 with
     | true =>
       go_enter Tryz.func277, Tryz.ntmps277
       go_wp2_with fail
       refine (G1.out _ (HA.out.below hal (Nat.le_refl _))).mono ?_
       rintro e w1 ⟨rfl, hb1⟩
       have hbw := hal.trans (hb1.mono (by simp))
       have q2 : w1.cell? ⟨w.heap.size, 2, none⟩ = some (.bool false) := box_keep hb1 (by simp) 2
       have q3 : w1.cell? ⟨w.heap.size, 3, none⟩ = some (.slice ab (dig d).length cb) := box_keep hb1 (by simp) 3
       go_wp2_with fail
       refine (G2.out _ (HB.out.below hbw (Nat.le_refl _))).mono ?_
       rintro e w2 ⟨rfl, hb2⟩
       have hbx := hb1.trans (hb2.mono hb1.size)
       have hbw2 := hbw.trans (hb2.mono hbw.size)
       clear q2 q3
       have q4 : w2.cell? ⟨w.heap.size, 4, none⟩ = some (.bool t) := box_keep hbx (by simp) 4
       have q5 : w2.cell? ⟨w.heap.size, 5, none⟩ = some (.slice ac (dig m).length cc) := box_keep hbx (by simp) 5
       go_wp2_with fail
       refine (G3.out _ (HC.out.below hbw2 (Nat.le_refl _))).mono ?_
       rintro e w3 ⟨rfl, hb3⟩
       have hbw3 := hbw2.trans (hb3.mono hbw2.size)
       go_wp2
       go_ret
       exact ⟨rfl, hbw3⟩
     | false =>
       go_enter Tryz.func277, Tryz.ntmps277
       go_wp2_with fail
       refine (G1.out _ (HA.out.below hal (Nat.le_refl _))).mono ?_
       rintro e w1 ⟨rfl, hb1⟩
       have hbw := hal.trans (hb1.mono (by simp))
       have q2 : w1.cell? ⟨w.heap.size, 2, none⟩ = some (.bool false) := box_keep hb1 (by simp) 2
       have q3 : w1.cell? ⟨w.heap.size, 3, none⟩ = some (.slice ab (dig d).length cb) := box_keep hb1 (by simp) 3
       go_wp2_with fail
       refine (G2.out _ (HB.out.below hbw (Nat.le_refl _))).mono ?_
       rintro e w2 ⟨rfl, hb2⟩
       have hbx := hb1.trans (hb2.mono hb1.size)
       have hbw2 := hbw.trans (hb2.mono hbw.size)
       clear q2 q3
       have q4 : w2.cell? ⟨w.heap.size, 4, none⟩ = some (.bool t) := box_keep hbx (by simp) 4
       have q5 : w2.cell? ⟨w.heap.size, 5, none⟩ = some (.slice ac (dig m).length cc) := box_keep hbx (by simp) 5
       go_wp2_with fail
       refine (G3.out _ (HC.out.below hbw2 (Nat.le_refl _))).mono ?_
       rintro e w3 ⟨rfl, hb3⟩
       have hbx2 := hbx.trans (hb3.mono hbx.size)
       have hbw3 := hbw2.trans (hb3.mono hbw2.size)
       clear q4 q5
       have q6 : w3.cell? ⟨w.heap.size, 6, none⟩ = some (.bool false) := box_keep hbx2 (by simp) 6
       have q7 : w3.cell? ⟨w.heap.size, 7, none⟩ = some (.slice ad _ cd) := box_keep hbx2 (by simp) 7
       go_wp2_with fail
       refine (G4.out _ (HD.out.below hbw3 (Nat.le_refl _))).mono ?_
       rintro e w4 ⟨rfl, hb4⟩
       go_wp2
       go_ret
       exact ⟨rfl, hbw3.trans (hb4.mono hbw3.size)⟩
def yT (Y : ByteArray) : ByteArray := if (Y.toList == [49]) = true then ⟨#[]⟩ else if (Y.toList == [45, 49]) = true then ⟨#[45]⟩ else Y
def cT (X Y : ByteArray) (z t : Bool) : ByteArray := (if z = true then ⟨#[]⟩ else if t = true then X else X ++ ⟨#[43]⟩) ++ yT Y ++ ⟨#[105]⟩
theorem cT_i (X Y : ByteArray) (z t : Bool) : Lib.hasSuffix (cT X Y z t).data.toList [105] = true := by
 unfold Lib.hasSuffix cT
 rw [List.isSuffixOf_iff_suffix]
 exact ⟨_, by rw [ByteArray.data_append, Array.toList_append]⟩
theorem qT_size {s : Bool} {n d : Nat} (h : (dig n).length <= 501) (h2 : (dig d).length <= 501) : (qT s n d).size <= 4398046511108 := by
 have a := digits_bd (n := n) (by omega)
 have b := digits_bd (n := d) (by omega)
 have c := zT_size s n
 have e := dcB_size d
 unfold qT
 split
 · omega
 · rw [ByteArray.size_append, ByteArray.size_append, e]
   have : (⟨#[47]⟩ : ByteArray).size = 1 := rfl
   omega
set_option maxRecDepth 100000 in
set_option maxHeartbeats 2000000 in
theorem refTextG_any (v : Value) (s t : Bool) (n d m e : Nat) (w : World) (hv : CG w v s n d t m e) (hm : m ≠ 0) (hd : d ≠ 0) (he : e ≠ 0) (hl : (dig n).length <= 501) (hl2 : (dig d).length <= 501) (hl3 : (dig m).length <= 501) (hl4 : (dig e).length <= 501) :
 Calls Tryz.prog 276 #[v] w fun x w' => x = .returned (.string (cT (qT s n d) (qT t m e) (decide (n = 0)) t)) /\ Below w.heap.size w w' := by
 obtain ⟨va, vb, vc, vd, rfl, ha, hb, hc, hdd⟩ := hv
 have HA := Lib.hid ha; have HB := Lib.hid hb; have HC := Lib.hid hc; have HD := Lib.hid hdd
 obtain ⟨aa, ca, rfl⟩ := ha.cases
 obtain ⟨ab, cb, rfl⟩ := hb.cases
 obtain ⟨ac, cc, rfl⟩ := hc.cases
 obtain ⟨ad, cd, rfl⟩ := hdd.cases
 clear ha hb hc hdd
 have hzX := fun W (h : Below w.heap.size w W) => qZero_any (.agg #[.bool s, .slice aa (dig n).length ca, .bool false, .slice ab (dig d).length cb]) s n d W ⟨_, _, rfl, HA.out.below h (Nat.le_refl _), HB.out.below h (Nat.le_refl _)⟩
 have hzY := fun W (h : Below w.heap.size w W) => qZero_any (.agg #[.bool t, .slice ac (dig m).length cc, .bool false, .slice ad (dig e).length cd]) t m e W ⟨_, _, rfl, HC.out.below h (Nat.le_refl _), HD.out.below h (Nat.le_refl _)⟩
 have htX := fun W (h : Below w.heap.size w W) => qText_any (.agg #[.bool s, .slice aa (dig n).length ca, .bool false, .slice ab (dig d).length cb]) s n d W ⟨_, _, rfl, HA.out.below h (Nat.le_refl _), HB.out.below h (Nat.le_refl _)⟩ hd (by omega) (by omega)
 have htY := fun W (h : Below w.heap.size w W) => qText_any (.agg #[.bool t, .slice ac (dig m).length cc, .bool false, .slice ad (dig e).length cd]) t m e W ⟨_, _, rfl, HC.out.below h (Nat.le_refl _), HD.out.below h (Nat.le_refl _)⟩ he (by omega) (by omega)
 rw [decide_eq_false hm] at hzY
 have HZX := Lib.hid hzX; have HZY := Lib.hid hzY; have HTX := Lib.hid htX; have HTY := Lib.hid htY
 have sX := qT_size (s := s) hl hl2
 have sY := qT_size (s := t) hl3 hl4
 have s43 : (⟨#[43]⟩ : ByteArray).size = 1 := rfl
 have s45 : (⟨#[45]⟩ : ByteArray).size = 1 := rfl
 have s105 : (⟨#[105]⟩ : ByteArray).size = 1 := rfl
 have s0 : (⟨#[]⟩ : ByteArray).size = 0 := rfl
 generalize qT s n d = X at *
 generalize qT t m e = Y at *
 generalize hk : decide (n = 0) = kn at *
 clear hzX hzY htX htY hk hm hd he HA HB HC HD
 obtain ⟨W0, hW0⟩ : ∃ W0, W0 = w.alloc (.cells #[.bool s, .slice aa (dig n).length ca, .bool false, .slice ab (dig d).length cb, .bool t, .slice ac (dig m).length cc, .bool false, .slice ad (dig e).length cd] 354) := ⟨_, rfl⟩
 have hal : Below w.heap.size w W0 := by rw [hW0]; exact (Below.refl _ w).alloc (Nat.le_refl _) _
 have hs0 : W0.heap.size = w.heap.size + 1 := by rw [hW0]; simp
 have r0 : Blk W0 w.heap.size 354 #[.bool s, .slice aa (dig n).length ca, .bool false, .slice ab (dig d).length cb, .bool t, .slice ac (dig m).length cc, .bool false, .slice ad (dig e).length cd] := by rw [hW0]; exact heap_alloc_new w _
 have HK : Hid (∀ W, Below W0.heap.size W0 W -> (W.cell? ⟨w.heap.size, 0, none⟩ = some (.bool s) /\ W.cell? ⟨w.heap.size, 1, none⟩ = some (.slice aa (dig n).length ca) /\ W.cell? ⟨w.heap.size, 2, none⟩ = some (.bool false) /\ W.cell? ⟨w.heap.size, 3, none⟩ = some (.slice ab (dig d).length cb) /\ W.cell? ⟨w.heap.size, 4, none⟩ = some (.bool t) /\ W.cell? ⟨w.heap.size, 5, none⟩ = some (.slice ac (dig m).length cc) /\ W.cell? ⟨w.heap.size, 6, none⟩ = some (.bool false) /\ W.cell? ⟨w.heap.size, 7, none⟩ = some (.slice ad (dig e).length cd)) /\ Below w.heap.size w W) := Lib.hid (fun W h => by
  have hq := r0.below h (by omega)
  exact ⟨⟨hq.cell 0, hq.cell 1, hq.cell 2, hq.cell 3, hq.cell 4, hq.cell 5, hq.cell 6, hq.cell 7⟩, hal.trans (h.mono (by omega))⟩)
 have HW0 := Lib.hid hW0
 clear hW0 hal hs0 r0
 generalize (dig n).length = l1 at *
 generalize (dig d).length = l2 at *
 generalize (dig m).length = l3 at *
 generalize (dig e).length = l4 at *
 cases kn
 · cases t
   all_goals
    obtain ⟨⟨q0, q1, q2, q3, q4, q5, q6, q7⟩, hbw⟩ := HK.out W0 (Below.refl _ _)
    rw [HW0.out] at q0 q1 q2 q3 q4 q5 q6 q7
    go_enter Tryz.func276, Tryz.ntmps276
    go_wp2_with fail
    rw [<- HW0.out]
    refine (HZY.out W0 hbw).mono ?_
    rintro e w1 ⟨rfl, hb1⟩
    clear q0 q1 q2 q3 q4 q5 q6 q7
    obtain ⟨⟨q0, q1, q2, q3, q4, q5, q6, q7⟩, hbw⟩ := HK.out w1 hb1
    go_wp2_with fail
    refine (HZX.out w1 hbw).mono ?_
    rintro e w2 ⟨rfl, hb2⟩
    have hb2 := hb1.trans (hb2.mono hb1.size)
    clear q0 q1 q2 q3 q4 q5 q6 q7 hbw
    obtain ⟨⟨q0, q1, q2, q3, q4, q5, q6, q7⟩, hbw⟩ := HK.out w2 hb2
    go_wp2_with fail
    refine (HTX.out w2 hbw).mono ?_
    rintro e w3 ⟨rfl, hb3⟩
    have hb3 := hb2.trans (hb3.mono hb2.size)
    clear q0 q1 q2 q3 q4 q5 q6 q7 hbw
    obtain ⟨⟨q0, q1, q2, q3, q4, q5, q6, q7⟩, hbw⟩ := HK.out w3 hb3
    go_wp2_with fail
    refine (HTY.out w3 hbw).mono ?_
    rintro e w4 ⟨rfl, hb4⟩
    have hbw4 := hbw.trans (hb4.mono hbw.size)
    go_wp2_with fail
    all_goals
     go_ret
     refine ⟨?_, hbw4⟩
     unfold cT yT
     simp_all
 ·
  obtain ⟨⟨q0, q1, q2, q3, q4, q5, q6, q7⟩, hbw⟩ := HK.out W0 (Below.refl _ _)
  rw [HW0.out] at q0 q1 q2 q3 q4 q5 q6 q7
  go_enter Tryz.func276, Tryz.ntmps276
  go_wp2_with fail
  rw [<- HW0.out]
  refine (HZY.out W0 hbw).mono ?_
  rintro e w1 ⟨rfl, hb1⟩
  clear q0 q1 q2 q3 q4 q5 q6 q7
  obtain ⟨⟨q0, q1, q2, q3, q4, q5, q6, q7⟩, hbw⟩ := HK.out w1 hb1
  go_wp2_with fail
  refine (HZX.out w1 hbw).mono ?_
  rintro e w2 ⟨rfl, hb2⟩
  have hb2 := hb1.trans (hb2.mono hb1.size)
  clear q0 q1 q2 q3 q4 q5 q6 q7 hbw
  obtain ⟨⟨q0, q1, q2, q3, q4, q5, q6, q7⟩, hbw⟩ := HK.out w2 hb2
  go_wp2_with fail
  refine (HTY.out w2 hbw).mono ?_
  rintro e w4 ⟨rfl, hb4⟩
  have hbw4 := hbw.trans (hb4.mono hbw.size)
  go_wp2_with fail
  all_goals
   go_ret
   refine ⟨?_, hbw4⟩
   unfold cT yT
   simp_all
end Go.Proofs.YtdpjdifoonfcdaaGreatDoor.Z4

namespace Go.Proofs.YtdpjdifoonfcdaaGreatDoor
open Go.RowKit
def cutB : List UInt8 -> List (List UInt8)
 | [] => [[]]
 | c :: r => if c = 47 then [] :: cutB r else (match cutB r with | x :: xs => (c :: x) :: xs | [] => [[c]])
theorem cutB_ne (l : List UInt8) : cutB l ≠ [] := by
 cases l with
 | nil => simp [cutB]
 | cons c r => simp only [cutB]; split <;> (try split) <;> simp
theorem cutB_none : ∀ {l : List UInt8}, (∀ b ∈ l, b ≠ 47) -> cutB l = [l] := by
 intro l
 induction l with
 | nil => intro _; rfl
 | cons c r ih =>
   intro h
   rw [cutB, if_neg (h c (by simp)), ih (fun b hb => h b (by simp [hb]))]
theorem cutB_some : ∀ {l m : List UInt8}, (∀ b ∈ l, b ≠ 47) -> cutB (l ++ 47 :: m) = l :: cutB m := by
 intro l
 induction l with
 | nil => intro m _; simp [cutB]
 | cons c r ih =>
   intro m h
   rw [List.cons_append, cutB, if_neg (h c (by simp)), ih (fun b hb => h b (by simp [hb]))]
def natS (l : List UInt8) : Option Nat := if l.length < 1 ∨ 6 < l.length ∨ (l.head? = some 48 /\ 1 < l.length) ∨ l.all isDg = false then none else some (dval l)
theorem dec_head10 : ∀ (n : Nat), 0 < n -> ∃ c r, Lib.decDigits n = c :: r /\ c ≠ 48 := by
 intro n
 induction n using Nat.strongRecOn with
 | ind n ih =>
   intro hn
   rw [Lib.decDigits]
   split
   · rename_i h
     refine ⟨_, [], rfl, ?_⟩
     intro h2
     have h3 := congrArg UInt8.toNat h2
     rw [(dg_of n h).2] at h3
     have : (48 : UInt8).toNat = 48 := rfl
     omega
   · obtain ⟨c, r, h1, h2⟩ := ih (n / 10) (by omega) (by omega)
     exact ⟨c, r ++ [UInt8.ofNat (48 + n % 10)], by rw [h1]; rfl, h2⟩
theorem dec_head {n : Nat} (h : 1 < (Lib.decDigits n).length) : (Lib.decDigits n).head? ≠ some 48 := by
 have hn : 0 < n := by
  apply Nat.pos_of_ne_zero
  rintro rfl
  rw [Lib.decDigits_one (by decide)] at h
  simp at h
 obtain ⟨c, r, h1, h2⟩ := dec_head10 n hn
 rw [h1]
 simpa using h2
theorem natS_dec (n : Nat) : natS (Lib.decDigits n) = if Lib.nDigits n <= 6 then some n else none := by
 obtain ⟨h1, h2, h3⟩ := dec_read n
 have h4 : 0 < (Lib.decDigits n).length := List.length_pos_iff.2 h3
 have h5 := Lib.decDigits_length n
 unfold natS
 split
 · rename_i hc
   rw [if_neg]
   rcases hc with hc | hc | ⟨hc, hc2⟩ | hc
   · omega
   · omega
   · exact absurd hc (dec_head hc2)
   · rw [h1] at hc; cases hc
 · rename_i hc
   rw [if_pos (by omega), h2]
def barQ (s : ByteArray) (b : Bool) : Option (Nat × Nat) :=
 match cutB s.data.toList with
 | [x] => if b = true then (match natS x with | some n => if n <= 1 then some (n, 1) else none | none => none) else none
 | [x, y] => if b = true then (match natS x, natS y with | some n, some d => if n <= d then some (n, d) else none | _, _ => none) else none
 | _ => none
def IsNum (s : ByteArray) (b : Bool) : Prop :=
 (b = true -> (∃ sg n d, s = ratT sg n d /\ d ≠ 0 /\ Nat.gcd n d = 1 /\ (n = 0 -> sg = false) /\ bigQ n d = false) ∨ Lib.hasSuffix s.data.toList [105] = true) /\
 ((Z4.signN s.data.toList).2.2.2 = [] -> s = ratT (Z4.signN s.data.toList).1 (Z4.signN s.data.toList).2.1 (Z4.signN s.data.toList).2.2.1 -> bigQ (Z4.signN s.data.toList).2.1 (Z4.signN s.data.toList).2.2.1 = false -> b = true)
theorem cutB_last : ∀ {l : List UInt8}, l.getLast? = some 105 -> ∃ y, (cutB l).getLast? = some y /\ (105 : UInt8) ∈ y := by
 intro l
 induction l with
 | nil => intro h; cases h
 | cons c r ih =>
   intro h
   rcases hr : r with _ | ⟨d, q⟩
   · subst hr
     simp at h; subst h
     exact ⟨[105], by decide, by simp⟩
   · have h2 : r.getLast? = some 105 := by rw [hr] at h ⊢; rwa [List.getLast?_cons_cons] at h
     obtain ⟨y, h3, h4⟩ := ih h2
     rw [<- hr, cutB]
     split
     · refine ⟨y, ?_, h4⟩
       rcases hc : cutB r with _ | ⟨a, t⟩
       · exact absurd hc (cutB_ne r)
       · rw [List.getLast?_cons_cons, <- hc]; exact h3
     · rcases hc : cutB r with _ | ⟨a, t⟩
       · exact absurd hc (cutB_ne r)
       · rcases ht : t with _ | ⟨b, u⟩
         · rw [hc, ht] at h3
           simp at h3; subst h3
           exact ⟨c :: a, rfl, by simp [h4]⟩
         · rw [hc, ht, List.getLast?_cons_cons] at h3
           exact ⟨y, by simp only [List.getLast?_cons_cons]; exact h3, h4⟩
theorem natS_no {l : List UInt8} {c : UInt8} (h : c ∈ l) (hc : isDg c = false) : natS l = none := by
 unfold natS
 rw [if_pos]
 refine .inr (.inr (.inr ?_))
 rw [Bool.eq_false_iff]
 intro h2
 rw [List.all_eq_true.1 h2 c h] at hc
 cases hc
theorem pfx_dec {n : Nat} {t : List UInt8} (h : Lib.nDigits n <= 6) (ht : t = [] ∨ ∃ c r, t = c :: r /\ isDg c = false) : Z4.pfx (Lib.decDigits n ++ t) = (Lib.decDigits n).length := by
 have hl := Lib.decDigits_length n
 refine Z4.pfx_is (by rw [List.length_append]; omega) (by omega) (by rw [List.take_left]; exact (dec_read n).1) ?_
 rcases ht with rfl | ⟨c, r, rfl, hc⟩
 · left; simp
 · right; right; exact ⟨c, by rw [List.getElem?_append_right (Nat.le_refl _)]; simp, hc⟩
theorem numN_dec {n : Nat} {t : List UInt8} (h : Lib.nDigits n <= 6) (ht : t = [] ∨ ∃ c r, t = c :: r /\ isDg c = false) : Z4.numN (Lib.decDigits n ++ t) = n /\ Z4.numT (Lib.decDigits n ++ t) = t := by
 unfold Z4.numN Z4.numT
 rw [pfx_dec h ht, List.take_left, List.drop_left]
 exact ⟨(dec_read n).2.1, rfl⟩
theorem sign_own {N D : Nat} (hD : D ≠ 0) (hg : Nat.gcd N D = 1) (h1 : Lib.nDigits N <= 6) (h2 : Lib.nDigits D <= 6) : Z4.signN (ratT false N D).data.toList = (false, N, D, []) := by
 have hlp : 0 < (Lib.decDigits N).length := List.length_pos_iff.2 (dec_read N).2.2
 obtain ⟨t, ht⟩ : ∃ t, t = (if D = 1 then [] else 47 :: Lib.decDigits D) := ⟨_, rfl⟩
 have ht2 : t = [] ∨ ∃ c r, t = c :: r /\ isDg c = false := by
  rw [ht]
  split
  · exact .inl rfl
  · exact .inr ⟨_, _, rfl, by decide⟩
 have hl : (ratT false N D).data.toList = Lib.decDigits N ++ t := by rw [ratT_list, ht]; rfl
 have hp : Z4.partN (Lib.decDigits N ++ t) = (N, D, []) := by
  unfold Z4.partN
  rw [if_neg (by rw [pfx_dec h1 ht2]; omega), (numN_dec h1 ht2).2, (numN_dec h1 ht2).1]
  rw [ht]
  by_cases hd : D = 1
  · rw [if_pos hd, hd]
  · have e := numN_dec (t := []) h2 (.inl rfl)
    rw [List.append_nil] at e
    rw [if_neg hd]
    show (if (47 : UInt8) = 47 /\ Z4.numN (Lib.decDigits D) ≠ 0 then _ else _) = _
    rw [e.1, e.2, if_pos ⟨rfl, hD⟩, hg, Nat.div_one, Nat.div_one]
 rw [hl]
 obtain ⟨c, r, hcr⟩ : ∃ c r, Lib.decDigits N ++ t = c :: r := by
  rcases hx : Lib.decDigits N with _ | ⟨c, r⟩
  · rw [hx] at hlp; simp at hlp
  · exact ⟨c, r ++ t, rfl⟩
 have hc : isDg c = true := by
  have h3 : (Lib.decDigits N ++ t)[0]? = some c := by rw [hcr]; rfl
  rw [List.getElem?_append_left hlp] at h3
  exact dec_dg N c (List.mem_of_getElem? h3)
 have hc2 := dg_ne hc
 have hc3 : c ≠ 43 := by rintro rfl; revert hc; decide
 rw [hcr] at hp ⊢
 unfold Z4.signN
 simp only
 rw [if_neg hc2.2.1, if_neg hc3, hp]
theorem barQ_is {s : ByteArray} {b : Bool} (h : IsNum s b) : barQ s b = barS s := by
 cases b with
 | false =>
   have e : barQ s false = none := by unfold barQ; split <;> rfl
   rw [e]
   rcases hb : barS s with _ | ⟨N, D⟩
   · rfl
   · exfalso
     have h6 : Lib.nDigits N <= 6 /\ Lib.nDigits D <= 6 := by
      unfold barS at hb
      split at hb
      · rename_i hr
        obtain ⟨_, sg, N', D', hx⟩ := realB_true hr
        rw [hx] at hb
        simp only at hb
        split at hb
        · rename_i hc
          cases hb
          exact ⟨hc.2.1, hc.2.2.1⟩
        · cases hb
      · cases hb
     obtain ⟨_, hg, _, _, _, hD⟩ := barS_some hb
     obtain ⟨hs, hq, _, hgc, _⟩ := getR_text hg
     have h2 := h.2
     have e2 := sign_own hD hgc h6.1 h6.2
     rw [<- hs] at e2
     rw [e2] at h2
     exact Bool.noConfusion (h2 rfl hs hq)
 | true =>
   rcases h.1 rfl with ⟨sg, n, d, hs, hd, hg, hz, hq⟩ | hi
   · have hgr := getR_own hd hg hz hq
     have hni := ratT_noI sg n d
     have hre : realB s = true := by
      unfold realB
      rw [hs, hni, hgr]; rfl
     unfold barS
     rw [if_pos hre, hs, hgr]
     simp only
     have hnone : ∀ b ∈ (if sg = true then [45] else []) ++ Lib.decDigits n, b ≠ (47 : UInt8) := by
      intro b hb
      rcases List.mem_append.1 hb with h | h
      · split at h
        · rw [List.mem_singleton.1 h]; decide
        · cases h
      · exact (dg_ne (dec_dg n b h)).1
     have hnat : natS ((if sg = true then [45] else []) ++ Lib.decDigits n) = if sg = false /\ Lib.nDigits n <= 6 then some n else none := by
      cases sg with
      | true =>
        rw [if_neg (fun h : (true = false /\ _) => Bool.noConfusion h.1)]
        exact natS_no (c := 45) (List.mem_append_left _ (by rw [if_pos rfl]; exact List.mem_singleton.2 rfl)) (by decide)
      | false =>
        show natS (Lib.decDigits n) = _
        rw [natS_dec]
        simp
     unfold barQ
     rw [ratT_list, <- List.append_assoc]
     by_cases hd1 : d = 1
     · subst hd1
       rw [if_pos rfl, List.append_nil, cutB_none hnone]
       simp only [if_true, hnat]
       have h11 : Lib.nDigits 1 = 1 := Lib.nDigits_small (by decide)
       by_cases hc : sg = false /\ Lib.nDigits n <= 6
       · rw [if_pos hc]
         simp only
         by_cases hc2 : n <= 1
         · rw [if_pos hc2, if_pos ⟨hc.1, hc.2, by omega, hc2⟩]
         · rw [if_neg hc2, if_neg (fun h => hc2 h.2.2.2)]
       · rw [if_neg hc, if_neg (fun h => hc ⟨h.1, h.2.1⟩)]
     · rw [if_neg hd1, cutB_some hnone, cutB_none (fun b hb => (dg_ne (dec_dg d b hb)).1)]
       simp only [if_true, hnat, natS_dec]
       by_cases hc : sg = false /\ Lib.nDigits n <= 6
       · rw [if_pos hc]
         by_cases hc3 : Lib.nDigits d <= 6
         · rw [if_pos hc3]
           simp only
           by_cases hc2 : n <= d
           · rw [if_pos hc2, if_pos ⟨hc.1, hc.2, hc3, hc2⟩]
           · rw [if_neg hc2, if_neg (fun h => hc2 h.2.2.2)]
         · rw [if_neg hc3, if_neg (fun h => hc3 h.2.2.1)]
       · rw [if_neg hc, if_neg (fun h : (sg = false /\ Lib.nDigits n <= 6 /\ Lib.nDigits d <= 6 /\ n <= d) => hc ⟨h.1, h.2.1⟩)]
   · have hre : realB s = false := by unfold realB; rw [hi]; rfl
     have e : barS s = none := by unfold barS; rw [hre]; rfl
     rw [e]
     have hl : s.data.toList.getLast? = some 105 := by
      unfold Lib.hasSuffix at hi
      obtain ⟨t, ht⟩ := List.isSuffixOf_iff_suffix.1 hi
      rw [<- ht]; simp
     obtain ⟨y, h1, h2⟩ := cutB_last hl
     unfold barQ
     split
     · rename_i x hx
       rw [hx] at h1
       simp at h1; subst h1
       rw [natS_no h2 (by decide), if_pos rfl]
     · rename_i x z hx
       rw [hx] at h1
       simp at h1; subst h1
       rw [natS_no h2 (by decide), if_pos rfl]
       cases natS x <;> rfl
     · rfl
end Go.Proofs.YtdpjdifoonfcdaaGreatDoor

namespace Go.Proofs.YtdpjdifoonfcdaaGreatDoor.Z4
open Go.RowKit
theorem qT_ratT (s : Bool) (n d : Nat) : qT s n d = ratT s n d := by
 unfold qT ratT
 split
 · rfl
 · rw [ByteArray.append_assoc]; rfl
def gT (s : Bool) (n d : Nat) (t : Bool) (m e : Nat) : ByteArray := if m = 0 then qT s n d else cT (qT s n d) (qT t m e) (decide (n = 0)) t
theorem refTextA_any (v : Value) (s t : Bool) (n d m e : Nat) (w : World) (hv : CG w v s n d t m e) (h0 : m = 0 -> t = false /\ e = 1) (hd : d ≠ 0) (he : e ≠ 0) (hl : (dig n).length <= 501) (hl2 : (dig d).length <= 501) (hl3 : (dig m).length <= 501) (hl4 : (dig e).length <= 501) :
 Calls Tryz.prog 276 #[v] w fun x w' => x = .returned (.string (gT s n d t m e)) /\ Below w.heap.size w w' := by
 unfold gT
 by_cases hm : m = 0
 · obtain ⟨rfl, rfl⟩ := h0 hm
   subst hm
   rw [if_pos rfl]
   exact refText_any v s n d w hv.cr hd (by omega) (by omega)
 · rw [if_neg hm]
   exact refTextG_any v s t n d m e w hv hm hd he hl hl2 hl3 hl4
def IsC (v : Value) : Prop := ∃ (s1 s2 : Bool) (a1 : Option Addr) (n1 c1 : Nat) (a2 : Option Addr) (n2 c2 : Nat) (a3 : Option Addr) (n3 c3 : Nat) (a4 : Option Addr) (n4 c4 : Nat), v = .agg #[.bool s1, .slice a1 n1 c1, .bool false, .slice a2 n2 c2, .bool s2, .slice a3 n3 c3, .bool false, .slice a4 n4 c4]
theorem isC (s1 s2 : Bool) (a1 : Option Addr) (n1 c1 : Nat) (a2 : Option Addr) (n2 c2 : Nat) (a3 : Option Addr) (n3 c3 : Nat) (a4 : Option Addr) (n4 c4 : Nat) : IsC (.agg #[.bool s1, .slice a1 n1 c1, .bool false, .slice a2 n2 c2, .bool s2, .slice a3 n3 c3, .bool false, .slice a4 n4 c4]) := ⟨s1, s2, a1, n1, c1, a2, n2, c2, a3, n3, c3, a4, n4, c4, rfl⟩
theorem partN_len (l : List UInt8) : (partN l).2.2.length <= l.length := by
 unfold partN
 split
 · exact Nat.le_refl _
 · split
   · exact Nat.zero_le _
   · rename_i c r hr
     have h1 : (c :: r).length <= l.length := by rw [<- hr]; unfold numT; rw [List.length_drop]; omega
     split
     · show (numT r).length <= _
       unfold numT
       rw [List.length_drop]
       rw [List.length_cons] at h1
       omega
     · exact h1
theorem signN_len (l : List UInt8) : (signN l).2.2.2.length <= l.length := by
 unfold signN
 split
 · exact Nat.le_refl _
 · rename_i c r
   split
   · have := partN_len r; show (partN r).2.2.length <= _; rw [List.length_cons]; omega
   · split
     · have := partN_len r; show (partN r).2.2.length <= _; rw [List.length_cons]; omega
     · exact partN_len (c :: r)
theorem bytes_of {b : ByteArray} {l : List UInt8} (h : b.data.toList = l) : b = ⟨l.toArray⟩ := by
 cases b; simp only at h; rw [<- h]
theorem bigZ_one : bigZ 0 1 = false := by
 unfold bigZ
 rw [Lib.nDigits_small (by decide), Lib.nDigits_small (by decide)]
 rfl
theorem isNum_of {s : ByteArray} {sg t : Bool} {n d m e : Nat} (hd : d ≠ 0) (hg : Nat.gcd n d = 1) (hz : n = 0 -> sg = false) (h0 : m = 0 -> t = false /\ e = 1)
 (hr : (signN s.data.toList).2.2.2 = [] -> (sg, n, d) = ((signN s.data.toList).1, (signN s.data.toList).2.1, (signN s.data.toList).2.2.1) /\ m = 0) :
 ((gT sg n d t m e).toList == s.toList) = true -> IsNum s (!(bigZ n d || bigZ m e)) := by
 intro h
 have hs : s = gT sg n d t m e := by
  have h1 := eq_of_beq h
  rw [Lib.toList_data, Lib.toList_data] at h1
  cases s; cases hx : gT sg n d t m e
  rw [hx] at h1
  simp only at h1
  congr 1
  exact (Array.toList_inj.1 h1).symm
 refine ⟨fun hb => ?_, fun h1 h2 h3 => ?_⟩
 · rw [Bool.not_eq_true', Bool.or_eq_false_iff] at hb
   by_cases hm : m = 0
   · left
     refine ⟨sg, n, d, ?_, hd, hg, hz, hb.1⟩
     rw [hs, gT, if_pos hm, qT_ratT]
   · right
     rw [hs, gT, if_neg hm]
     exact cT_i _ _ _ _
 · obtain ⟨h4, hm⟩ := hr h1
   obtain ⟨-, he⟩ := h0 hm
   rw [hm, he, bigZ_one, Bool.or_false, Bool.not_eq_true']
   simp only [Prod.mk.injEq] at h4
   rw [h4.2.1, h4.2.2]
   exact h3
theorem isNum_no {s : ByteArray} {sg t : Bool} {n d m e : Nat}
 (hr : (signN s.data.toList).2.2.2 = [] -> (sg, n, d) = ((signN s.data.toList).1, (signN s.data.toList).2.1, (signN s.data.toList).2.2.1) /\ m = 0) :
 ((gT sg n d t m e).toList == s.toList) = false -> IsNum s false := by
 intro h
 refine ⟨fun hb => Bool.noConfusion hb, fun h1 h2 h3 => ?_⟩
 obtain ⟨h4, hm⟩ := hr h1
 simp only [Prod.mk.injEq] at h4
 rw [gT, if_pos hm, qT_ratT, h4.1, h4.2.1, h4.2.2, <- h2] at h
 simp at h
set_option maxRecDepth 100000 in
set_option maxHeartbeats 8000000 in
theorem Get_any (s : ByteArray) (w : World) (hs : s.size <= 9223372036854775807) :
 Calls Tryz.prog 250 #[.string s] w fun e w' => (∃ v b, e = .returned (.tuple #[v, .bool b]) /\ IsC v /\ IsNum s b) /\ Below w.heap.size w w' := by
 obtain ⟨l, hl⟩ : ∃ l, l = s.data.toList := ⟨_, rfl⟩
 have hsi := fun W => signed_any s W hs
 rw [<- hl] at hsi
 obtain ⟨W0, hW0⟩ : ∃ W0, w.alloc (.cells #[.bool false, .slice none 0 0, .bool false, .slice none 0 0, .bool false, .slice none 0 0, .bool false, .slice none 0 0] 354) = W0 := ⟨_, rfl⟩
 have hb0 : Below w.heap.size w W0 := by rw [<- hW0]; exact (Below.refl _ w).alloc (Nat.le_refl _) _
 have q0 : Blk W0 w.heap.size 354 #[.bool false, .slice none 0 0, .bool false, .slice none 0 0, .bool false, .slice none 0 0, .bool false, .slice none 0 0] := by rw [<- hW0]; exact heap_alloc_new w _
 have hsz0 : W0.heap.size = w.heap.size + 1 := by rw [<- hW0]; simp
 have HKR : Hid (∀ W, Below W0.heap.size W0 W -> (W.cell? ⟨w.heap.size, 0, none⟩ = some (.bool false) /\ W.cell? ⟨w.heap.size, 1, none⟩ = some (.slice none 0 0) /\ W.cell? ⟨w.heap.size, 2, none⟩ = some (.bool false) /\ W.cell? ⟨w.heap.size, 3, none⟩ = some (.slice none 0 0) /\ W.cell? ⟨w.heap.size, 4, none⟩ = some (.bool false) /\ W.cell? ⟨w.heap.size, 5, none⟩ = some (.slice none 0 0) /\ W.cell? ⟨w.heap.size, 6, none⟩ = some (.bool false) /\ W.cell? ⟨w.heap.size, 7, none⟩ = some (.slice none 0 0)) /\
  (W.frozen? ⟨w.heap.size, 0, none⟩ = false /\ W.frozen? ⟨w.heap.size, 1, none⟩ = false /\ W.frozen? ⟨w.heap.size, 2, none⟩ = false /\ W.frozen? ⟨w.heap.size, 3, none⟩ = false /\ W.frozen? ⟨w.heap.size, 4, none⟩ = false /\ W.frozen? ⟨w.heap.size, 5, none⟩ = false /\ W.frozen? ⟨w.heap.size, 6, none⟩ = false /\ W.frozen? ⟨w.heap.size, 7, none⟩ = false) /\ Below w.heap.size w W) := Lib.hid (fun W h => by
  have hq := q0.below h (by omega)
  exact ⟨⟨hq.cell 0, hq.cell 1, hq.cell 2, hq.cell 3, hq.cell 4, hq.cell 5, hq.cell 6, hq.cell 7⟩, ⟨hq.free 0, hq.free 1, hq.free 2, hq.free 3, hq.free 4, hq.free 5, hq.free 6, hq.free 7⟩, hb0.trans (h.mono hb0.size)⟩)
 have HI8 : Hid ((Tryz.prog.info? 354).map (·.size) = some 8) := Lib.hid (by kernel_rfl)
 have hbd := signN_bd l
 have hlx : (signN l).2.2.2.length <= 9223372036854775807 := Nat.le_trans (signN_len l) (by rw [hl]; show s.size <= _; exact hs)
 obtain ⟨sg, n, d, rs, hR⟩ : ∃ sg n d rs, signN l = (sg, n, d, rs) := ⟨_, _, _, _, rfl⟩
 rw [hR] at hsi hbd hlx
 obtain ⟨hn, hd, hd0, hg, hz⟩ := hbd
 have HSI := Lib.hid hsi; have HW0 := Lib.hid hW0; have HL := Lib.hid hl; have HR := Lib.hid hR
 simp only at hn hd hd0 hg hz hlx
 have hln := dig_501 hn
 have hld := dig_501 hd
 have HG := Lib.hid hg; have HZ := Lib.hid hz; have HD0 := Lib.hid hd0
 clear hb0 q0 hW0 hsi hl hR hn hd hg hz hd0
 go_enter Tryz.func250, Tryz.ntmps250
 go_wp2_with fail
 rw [HW0.out]
 refine (HSI.out W0).mono ?_
 rintro e w1 ⟨⟨v1, r1, rfl, hv1, hr1⟩, hb1⟩
 have hre := fun W (h : Below w1.heap.size w1 W) => real_any v1 sg n d W (hv1.below h (Nat.le_refl _))
 obtain ⟨vn, vd, rfl, hn, hd⟩ := hv1
 obtain ⟨an, cn, rfl⟩ := hn.cases
 obtain ⟨ad, cd, rfl⟩ := hd.cases
 have HRE := Lib.hid hre; have HR1 := Lib.hid hr1; have HN := Lib.hid hn; have HD := Lib.hid hd
 clear hre hr1 hn hd
 go_wp2_with fail
 refine (HRE.out _ ((Below.refl w1.heap.size w1).alloc (Nat.le_refl _) _)).mono ?_
 rintro e w2 ⟨⟨v2, rfl, hv2⟩, hb2⟩
 obtain ⟨wq, hwq⟩ : ∃ wq, wq = w1.alloc (.cells #[.bool sg, .slice an (dig n).length cn, .bool false, .slice ad (dig d).length cd] 352) := ⟨_, rfl⟩
 have hsq : wq.heap.size = w1.heap.size + 1 := by rw [hwq]; simp
 have hbq : Below w1.heap.size w1 wq := by rw [hwq]; exact (Below.refl w1.heap.size w1).alloc (Nat.le_refl _) _
 have hq5 : Blk wq w1.heap.size 352 #[.bool sg, .slice an (dig n).length cn, .bool false, .slice ad (dig d).length cd] := by rw [hwq]; exact heap_alloc_new w1 _
 rw [<- hwq] at hb2
 have hb02 := hb1.trans ((hbq.trans (hb2.mono hbq.size)).mono hb1.size)
 have hq52 := hq5.below hb2 (by omega)
 have hn2 := HN.out.below (hbq.trans (hb2.mono hbq.size)) (Nat.le_refl _)
 have hd2 := HD.out.below (hbq.trans (hb2.mono hbq.size)) (Nat.le_refl _)
 have hs12 : w1.heap.size < w2.heap.size := by have := hb2.size; omega
 have HB02 := Lib.hid hb02; have HQ5 := Lib.hid hq52; have HN2 := Lib.hid hn2; have HD2 := Lib.hid hd2
 clear hwq hsq hbq hq5 hb2 hb02 hq52 hn2 hd2 HRE HN HD
 obtain ⟨va, vb, vc, vd, rfl, ha, hb, hc, hdd⟩ := hv2
 obtain ⟨aa, ca, rfl⟩ := ha.cases
 obtain ⟨ab, cb, rfl⟩ := hb.cases
 obtain ⟨ac, cc, rfl⟩ := hc.cases
 obtain ⟨ae, ce, rfl⟩ := hdd.cases
 have HA := Lib.hid ha; have HB := Lib.hid hb; have HC := Lib.hid hc; have HE := Lib.hid hdd
 clear ha hb hc hdd
 rcases rs with _ | ⟨c, rr⟩
 · obtain rfl := bytes_of HR1.out
   go_wp2_with fail
   obtain ⟨wy, hwy⟩ : ∃ wy, w2.alloc (.cells #[.bool sg, .slice aa (dig n).length ca, .bool false, .slice ab (dig d).length cb, .bool false, .slice ac (dig 0).length cc, .bool false, .slice ae (dig 1).length ce] 354) = wy := ⟨_, rfl⟩
   rw [hwy]
   have hbz : Below w2.heap.size w2 wy := by rw [<- hwy]; exact (Below.refl w2.heap.size w2).alloc (Nat.le_refl _) _
   have hsy : wy.heap.size = w2.heap.size + 1 := by rw [<- hwy]; simp
   have hblk : Blk wy w2.heap.size 354 #[.bool sg, .slice aa (dig n).length ca, .bool false, .slice ab (dig d).length cb, .bool false, .slice ac (dig 0).length cc, .bool false, .slice ae (dig 1).length ce] := by rw [<- hwy]; exact heap_alloc_new w2 _
   have hblt : w2.heap.size < wy.heap.size := by omega
   have hWy := HB02.out.trans (hbz.mono HB02.out.size)
   have hCG : CG wy (.agg #[.bool sg, .slice aa (dig n).length ca, .bool false, .slice ab (dig d).length cb, .bool false, .slice ac (dig 0).length cc, .bool false, .slice ae (dig 1).length ce]) sg n d false 0 1 := ⟨_, _, _, _, rfl, HA.out.below hbz (Nat.le_refl _), HB.out.below hbz (Nat.le_refl _), HC.out.below hbz (Nat.le_refl _), HE.out.below hbz (Nat.le_refl _)⟩
   have h0M : (0 : Nat) = 0 -> false = false /\ (1 : Nat) = 1 := fun _ => ⟨rfl, rfl⟩
   have hDne := HD0.out
   have hEne : (1 : Nat) ≠ 0 := Nat.one_ne_zero
   have hGcd := HG.out
   have hZs := HZ.out
   have hlN := hln
   have hlD := hld
   have hlM : (dig 0).length <= 501 := by rw [dig_zero]; simp
   have hlE : (dig 1).length <= 501 := by rw [dig_small (by decide) (by decide)]; simp
   have hRst : (signN s.data.toList).2.2.2 = [] -> (sg, n, d) = ((signN s.data.toList).1, (signN s.data.toList).2.1, (signN s.data.toList).2.2.1) /\ (0 : Nat) = 0 := fun _ => by rw [<- HL.out, HR.out]; exact ⟨rfl, rfl⟩
   obtain ⟨TX, hTX⟩ : ∃ TX, gT sg n d false 0 1 = TX := ⟨_, rfl⟩
   obtain ⟨BG, hBG⟩ : ∃ BG, (bigZ n d || bigZ 0 1) = BG := ⟨_, rfl⟩
   have HKY : Hid (∀ W, Below wy.heap.size wy W -> (W.cell? ⟨w2.heap.size, 0, none⟩ = some (.bool sg) /\ W.cell? ⟨w2.heap.size, 1, none⟩ = some (.slice aa (dig n).length ca) /\ W.cell? ⟨w2.heap.size, 2, none⟩ = some (.bool false) /\ W.cell? ⟨w2.heap.size, 3, none⟩ = some (.slice ab (dig d).length cb) /\ W.cell? ⟨w2.heap.size, 4, none⟩ = some (.bool false) /\ W.cell? ⟨w2.heap.size, 5, none⟩ = some (.slice ac (dig 0).length cc) /\ W.cell? ⟨w2.heap.size, 6, none⟩ = some (.bool false) /\ W.cell? ⟨w2.heap.size, 7, none⟩ = some (.slice ae (dig 1).length ce)) /\ (W.cell? ⟨w.heap.size, 0, none⟩ = some (.bool false) /\ W.cell? ⟨w.heap.size, 1, none⟩ = some (.slice none 0 0) /\ W.cell? ⟨w.heap.size, 2, none⟩ = some (.bool false) /\ W.cell? ⟨w.heap.size, 3, none⟩ = some (.slice none 0 0) /\ W.cell? ⟨w.heap.size, 4, none⟩ = some (.bool false) /\ W.cell? ⟨w.heap.size, 5, none⟩ = some (.slice none 0 0) /\ W.cell? ⟨w.heap.size, 6, none⟩ = some (.bool false) /\ W.cell? ⟨w.heap.size, 7, none⟩ = some (.slice none 0 0)) /\
    (W.frozen? ⟨w.heap.size, 0, none⟩ = false /\ W.frozen? ⟨w.heap.size, 1, none⟩ = false /\ W.frozen? ⟨w.heap.size, 2, none⟩ = false /\ W.frozen? ⟨w.heap.size, 3, none⟩ = false /\ W.frozen? ⟨w.heap.size, 4, none⟩ = false /\ W.frozen? ⟨w.heap.size, 5, none⟩ = false /\ W.frozen? ⟨w.heap.size, 6, none⟩ = false /\ W.frozen? ⟨w.heap.size, 7, none⟩ = false) /\ Below w.heap.size w W) := Lib.hid (fun W h => by
    have hq := hblk.below h hblt
    obtain ⟨u1, u2, u3⟩ := HKR.out W (hWy.trans (h.mono hWy.size))
    exact ⟨⟨hq.cell 0, hq.cell 1, hq.cell 2, hq.cell 3, hq.cell 4, hq.cell 5, hq.cell 6, hq.cell 7⟩, u1, u2, u3⟩)
   have HTX : Hid (∀ W, Below wy.heap.size wy W -> Calls Tryz.prog 276 #[.agg #[.bool sg, .slice aa (dig n).length ca, .bool false, .slice ab (dig d).length cb, .bool false, .slice ac (dig 0).length cc, .bool false, .slice ae (dig 1).length ce]] W fun x w' => x = .returned (.string TX) /\ Below W.heap.size W w') := Lib.hid (fun W h => by
    have := refTextA_any _ sg false n d 0 1 W (hCG.below h (Nat.le_refl _)) h0M hDne hEne hlN hlD hlM hlE
    rw [hTX] at this; exact this)
   have HBG : Hid (∀ W, Below wy.heap.size wy W -> Calls Tryz.prog 277 #[.agg #[.bool sg, .slice aa (dig n).length ca, .bool false, .slice ab (dig d).length cb, .bool false, .slice ac (dig 0).length cc, .bool false, .slice ae (dig 1).length ce]] W fun x w' => x = .returned (.bool BG) /\ Below W.heap.size W w') := Lib.hid (fun W h => by
    have := refBigG_any _ sg false n d 0 1 W (hCG.below h (Nat.le_refl _)) (by omega) (by omega) (by omega) (by omega)
    rw [hBG] at this; exact this)
   have HNUM : Hid (((TX.toList == s.toList) = true -> IsNum s (!BG)) /\ ((TX.toList == s.toList) = false -> IsNum s false)) := Lib.hid (by
    rw [<- hTX, <- hBG]
    exact ⟨isNum_of hDne hGcd hZs h0M hRst, isNum_no hRst⟩)
   have HBK : Hid (wy.drew.heap[w2.heap.size]? = some (.cells #[.bool sg, .slice aa (dig n).length ca, .bool false, .slice ab (dig d).length cb, .bool false, .slice ac (dig 0).length cc, .bool false, .slice ae (dig 1).length ce] 354 (0, 0))) := Lib.hid hblk
   have HBLT : Hid (∀ W, Below wy.heap.size wy W -> W.heap[w2.heap.size]? = some (.cells #[.bool sg, .slice aa (dig n).length ca, .bool false, .slice ab (dig d).length cb, .bool false, .slice ac (dig 0).length cc, .bool false, .slice ae (dig 1).length ce] 354 (0, 0))) := Lib.hid (fun W h => hblk.below h hblt)
   have hne7 : w.heap.size < w2.heap.size := by have := HB02.out.size; omega
   clear hCG hTX hBG hRst hblk hblt
   clear hwy hbz hsy h0M hDne hEne hGcd hZs hlN hlD hlM hlE hWy
   obtain ⟨⟨q0, q1, q2, q3, q4, q5, q6, q7⟩, ⟨k0, k1, k2, k3, k4, k5, k6, k7⟩, -, -⟩ := HKY.out wy (Below.refl _ _)
   have x0 : wy.drew.cell? ⟨w2.heap.size, 0, none⟩ = _ := q0
   have x1 : wy.drew.cell? ⟨w2.heap.size, 1, none⟩ = _ := q1
   have x2 : wy.drew.cell? ⟨w2.heap.size, 2, none⟩ = _ := q2
   have x3 : wy.drew.cell? ⟨w2.heap.size, 3, none⟩ = _ := q3
   have x4 : wy.drew.cell? ⟨w2.heap.size, 4, none⟩ = _ := q4
   have x5 : wy.drew.cell? ⟨w2.heap.size, 5, none⟩ = _ := q5
   have x6 : wy.drew.cell? ⟨w2.heap.size, 6, none⟩ = _ := q6
   have x7 : wy.drew.cell? ⟨w2.heap.size, 7, none⟩ = _ := q7
   clear k0 k1 k2 k3 k4 k5 k6 k7
   by_cases hTs : (TX.toList == s.toList) = true
   · have HIN : Hid (IsNum s (!BG)) := Lib.hid ((HNUM.out).1 hTs)
     have HTS := Lib.hid hTs
     clear hTs
     go_wp2_with fail
     refine wp_region_held_drew (S := fun w' => w'.heap[w2.heap.size]? = some (.cells #[.bool sg, .slice aa (dig n).length ca, .bool false, .slice ab (dig d).length cb, .bool false, .slice ac (dig 0).length cc, .bool false, .slice ae (dig 1).length ce] 354 (0, 0))) (by kernel_rfl) HBK.out (fun hHeld => ?_)
     refine tkV 0 (.agg #[.bool sg, .slice aa (dig n).length ca, .bool false, .slice ab (dig d).length cb, .bool false, .slice ac (dig 0).length cc, .bool false, .slice ae (dig 1).length ce]) hHeld ?_ (hy := by intro w9 h; exact exec_load_row 354 _ rfl w2.heap.size rfl 354 #[.bool sg, .slice aa (dig n).length ca, .bool false, .slice ab (dig d).length cb, .bool false, .slice ac (dig 0).length cc, .bool false, .slice ae (dig 1).length ce] (0, 0) _ h Tryz.underlying354 (by rfl) HI8.out)
     refine tkV 1 (.agg #[.bool sg, .slice aa (dig n).length ca, .bool false, .slice ab (dig d).length cb, .bool false, .slice ac (dig 0).length cc, .bool false, .slice ae (dig 1).length ce]) hHeld ?_ (hy := by intro w9 h; exact exec_load_row 354 _ rfl w2.heap.size rfl 354 #[.bool sg, .slice aa (dig n).length ca, .bool false, .slice ab (dig d).length cb, .bool false, .slice ac (dig 0).length cc, .bool false, .slice ae (dig 1).length ce] (0, 0) _ h Tryz.underlying354 (by rfl) HI8.out)
     refine tkV 3 (.string s) hHeld ?_
     refine tkC 2 (fun K hK => ?_)
     go_simp
     refine (HTX.out wy.drew ((Below.refl wy.heap.size wy).drew)).mono ?_
     rintro x wz ⟨rfl, hbz⟩
     have hbz := ((Below.refl wy.heap.size wy).drew).trans hbz
     have hbk := HBLT.out wz hbz
     have HBZ := Lib.hid hbz
     clear hbz
     refine hK.out _ _ hbk (fun hHeld2 => ?_)
     clear hK K
     try simp only [Act.put, List.setIfInBounds_toArray, List.set_cons_zero, List.set_cons_succ]
     refine tkV 4 (.bool true) hbk ?_ (hy := by intro w9 h; go_simp; exact eq_of_beq HTS.out)
     refine tkV 5 (.bool true) hbk ?_
     refine tkV 6 (.agg #[.bool sg, .slice aa (dig n).length ca, .bool false, .slice ab (dig d).length cb, .bool false, .slice ac (dig 0).length cc, .bool false, .slice ae (dig 1).length ce]) hbk ?_ (hy := by intro w9 h; exact exec_load_row 354 _ rfl w2.heap.size rfl 354 #[.bool sg, .slice aa (dig n).length ca, .bool false, .slice ab (dig d).length cb, .bool false, .slice ac (dig 0).length cc, .bool false, .slice ae (dig 1).length ce] (0, 0) _ h Tryz.underlying354 (by rfl) HI8.out)
     refine tkC 7 (fun K hK => ?_)
     go_simp
     refine (HBG.out wz HBZ.out).mono ?_
     rintro x wv ⟨rfl, hbv⟩
     have hbv := HBZ.out.trans (hbv.mono HBZ.out.size)
     have hbk2 := HBLT.out wv hbv
     obtain ⟨-, ⟨z0, z1, z2, z3, z4, z5, z6, z7⟩, ⟨f0, f1, f2, f3, f4, f5, f6, f7⟩, hbf⟩ := HKY.out wv hbv
     refine hK.out _ _ hbk2 (fun hHeld4 => ?_)
     clear hK K
     try simp only [Act.put, List.setIfInBounds_toArray, List.set_cons_zero, List.set_cons_succ]
     refine tkV 8 (.bool (!BG)) hbk2 ?_
     refine tkV 9 (.bool (!BG)) hbk2 ?_
     refine tkC 10 (fun K hK => ?_)
     go_simp
     refine hK.out _ _ ?_ (fun hHeld3 => ?_)
     · repeat rw [heap_setCell_other _ _ _ _ (by show w2.heap.size ≠ w.heap.size; omega)]
       exact hbk2
     clear hK K
     try simp only [Act.put, List.setIfInBounds_toArray, List.set_cons_zero, List.set_cons_succ]
     refine tkV 11 (.bool (!BG)) hHeld3 ?_
     refine wpAnyH_done (by kernel_rfl) ?_ _
     go_wp2_with fail
     refine bodyPost_ret (v := .tuple #[.agg #[.bool sg, .slice aa (dig n).length ca, .bool false, .slice ab (dig d).length cb, .bool false, .slice ac (dig 0).length cc, .bool false, .slice ae (dig 1).length ce], .bool (!BG)]) (by simp [results, Tryz.results250, go_sem, z0, z1, z2, z3, z4, z5, z6, z7]) rfl ?_
     exact ⟨⟨_, _, rfl, isC _ _ _ _ _ _ _ _ _ _ _ _ _ _, HIN.out⟩, (((((((hbf.setCell (Nat.le_refl _) _).setCell (Nat.le_refl _) _).setCell (Nat.le_refl _) _).setCell (Nat.le_refl _) _).setCell (Nat.le_refl _) _).setCell (Nat.le_refl _) _).setCell (Nat.le_refl _) _).setCell (Nat.le_refl _) _⟩
   · have HIN : Hid (IsNum s false) := Lib.hid ((HNUM.out).2 (by simpa using hTs))
     have hTs2 : (TX.toList == s.toList) = false := by simpa using hTs
     have HTS := Lib.hid hTs2
     clear hTs hTs2
     go_wp2_with fail
     refine wp_region_held_drew (S := fun w' => w'.heap[w2.heap.size]? = some (.cells #[.bool sg, .slice aa (dig n).length ca, .bool false, .slice ab (dig d).length cb, .bool false, .slice ac (dig 0).length cc, .bool false, .slice ae (dig 1).length ce] 354 (0, 0))) (by kernel_rfl) HBK.out (fun hHeld => ?_)
     refine tkV 0 (.agg #[.bool sg, .slice aa (dig n).length ca, .bool false, .slice ab (dig d).length cb, .bool false, .slice ac (dig 0).length cc, .bool false, .slice ae (dig 1).length ce]) hHeld ?_ (hy := by intro w9 h; exact exec_load_row 354 _ rfl w2.heap.size rfl 354 #[.bool sg, .slice aa (dig n).length ca, .bool false, .slice ab (dig d).length cb, .bool false, .slice ac (dig 0).length cc, .bool false, .slice ae (dig 1).length ce] (0, 0) _ h Tryz.underlying354 (by rfl) HI8.out)
     refine tkV 1 (.agg #[.bool sg, .slice aa (dig n).length ca, .bool false, .slice ab (dig d).length cb, .bool false, .slice ac (dig 0).length cc, .bool false, .slice ae (dig 1).length ce]) hHeld ?_ (hy := by intro w9 h; exact exec_load_row 354 _ rfl w2.heap.size rfl 354 #[.bool sg, .slice aa (dig n).length ca, .bool false, .slice ab (dig d).length cb, .bool false, .slice ac (dig 0).length cc, .bool false, .slice ae (dig 1).length ce] (0, 0) _ h Tryz.underlying354 (by rfl) HI8.out)
     refine tkV 3 (.string s) hHeld ?_
     refine tkC 2 (fun K hK => ?_)
     go_simp
     refine (HTX.out wy.drew ((Below.refl wy.heap.size wy).drew)).mono ?_
     rintro x wz ⟨rfl, hbz⟩
     have hbz := ((Below.refl wy.heap.size wy).drew).trans hbz
     have hbk := HBLT.out wz hbz
     obtain ⟨-, ⟨z0, z1, z2, z3, z4, z5, z6, z7⟩, ⟨f0, f1, f2, f3, f4, f5, f6, f7⟩, hbf⟩ := HKY.out wz hbz
     have HBZ := Lib.hid hbz
     clear hbz
     refine hK.out _ _ hbk (fun hHeld2 => ?_)
     clear hK K
     try simp only [Act.put, List.setIfInBounds_toArray, List.set_cons_zero, List.set_cons_succ]
     refine tkV 4 (.bool false) hbk ?_ (hy := by intro w9 h; go_simp; exact fun h => by have h2 := HTS.out; rw [h] at h2; simp at h2)
     refine tkV 5 (.bool false) hbk ?_
     refine tkS 6 hbk ?_
     refine tkS 7 hbk ?_
     refine tkS 8 hbk ?_
     refine tkV 9 (.bool false) hbk ?_
     refine tkC 10 (fun K hK => ?_)
     go_simp
     refine hK.out _ _ ?_ (fun hHeld3 => ?_)
     · repeat rw [heap_setCell_other _ _ _ _ (by show w2.heap.size ≠ w.heap.size; omega)]
       exact hbk
     clear hK K
     try simp only [Act.put, List.setIfInBounds_toArray, List.set_cons_zero, List.set_cons_succ]
     refine tkV 11 (.bool false) hHeld3 ?_
     refine wpAnyH_done (by kernel_rfl) ?_ _
     go_wp2_with fail
     refine bodyPost_ret (v := .tuple #[.agg #[.bool sg, .slice aa (dig n).length ca, .bool false, .slice ab (dig d).length cb, .bool false, .slice ac (dig 0).length cc, .bool false, .slice ae (dig 1).length ce], .bool false]) (by simp [results, Tryz.results250, go_sem, z0, z1, z2, z3, z4, z5, z6, z7]) rfl ?_
     exact ⟨⟨_, _, rfl, isC _ _ _ _ _ _ _ _ _ _ _ _ _ _, HIN.out⟩, (((((((hbf.setCell (Nat.le_refl _) _).setCell (Nat.le_refl _) _).setCell (Nat.le_refl _) _).setCell (Nat.le_refl _) _).setCell (Nat.le_refl _) _).setCell (Nat.le_refl _) _).setCell (Nat.le_refl _) _).setCell (Nat.le_refl _) _⟩
 · by_cases hi : c = 105 /\ rr = []
   · obtain ⟨rfl, rfl⟩ := hi
     obtain rfl := bytes_of HR1.out
     obtain ⟨w7, hw7⟩ : ∃ w7, w2.alloc (.cells #[.bool sg, .slice aa (dig n).length ca, .bool false, .slice ab (dig d).length cb, .bool false, .slice ac (dig 0).length cc, .bool false, .slice ae (dig 1).length ce] 354) = w7 := ⟨_, rfl⟩
     have hb7 : Below w2.heap.size w2 w7 := by rw [<- hw7]; exact (Below.refl w2.heap.size w2).alloc (Nat.le_refl _) _
     have hs7 : w7.heap.size = w2.heap.size + 1 := by rw [<- hw7]; simp
     have hblk7 : Blk w7 w2.heap.size 354 #[.bool sg, .slice aa (dig n).length ca, .bool false, .slice ab (dig d).length cb, .bool false, .slice ac (dig 0).length cc, .bool false, .slice ae (dig 1).length ce] := by rw [<- hw7]; exact heap_alloc_new w2 _
     have HK7 : Hid (∀ W, Below w7.heap.size w7 W -> Blk W w2.heap.size 354 #[.bool sg, .slice aa (dig n).length ca, .bool false, .slice ab (dig d).length cb, .bool false, .slice ac (dig 0).length cc, .bool false, .slice ae (dig 1).length ce] /\ Blk W w1.heap.size 352 #[.bool sg, .slice an (dig n).length cn, .bool false, .slice ad (dig d).length cd] /\ MV W (.slice an (dig n).length cn) n /\ MV W (.slice ad (dig d).length cd) d /\ Below W0.heap.size W0 W) := Lib.hid (fun W h => by
      have h2 := hb7.trans (h.mono hb7.size)
      exact ⟨hblk7.below h (by omega), HQ5.out.below h2 hs12, HN2.out.below h2 (Nat.le_refl _), HD2.out.below h2 (Nat.le_refl _), HB02.out.trans (h2.mono HB02.out.size)⟩)
     have HW7 := Lib.hid hw7
     have hs02 := HB02.out.size
     clear hw7 hb7 hblk7
     obtain ⟨hq7, hq5, -, -, -⟩ := HK7.out w7 (Below.refl _ _)
     have y0 := hq5.cell 0
     have y1 := hq5.cell 1
     have y2 := hq5.cell 2
     have y3 := hq5.cell 3
     simp only [List.getElem?_toArray, List.getElem?_cons_succ, List.getElem?_cons_zero] at y0 y1 y2 y3
     clear hq7 hq5
     go_wp2_with fail
     rw [HW7.out]
     go_region_with (go_at_call 275; refine (qInt_any 0 _ (by omega) (by omega)).mono ?_; rintro e wc ⟨⟨vq, rfl, vz, vo, rfl, hz0, ho0⟩, hbc⟩; obtain ⟨a0, c0, rfl⟩ := hz0.cases; obtain ⟨a9, c9, rfl⟩ := ho0.cases; have hbc := ((Below.refl w7.heap.size w7).drew).trans hbc; obtain ⟨hq7, hq5, hnc, hdc, hWc⟩ := HK7.out wc hbc; have u0 := hq7.cell 0; have u1 := hq7.cell 1; have u2 := hq7.cell 2; have u3 := hq7.cell 3; have u4 := hq7.cell 4; have u5 := hq7.cell 5; have u6 := hq7.cell 6; have u7 := hq7.cell 7; have g0 := hq7.free 0; have g1 := hq7.free 1; have g2 := hq7.free 2; have g3 := hq7.free 3; have g4 := hq7.free 4; have g5 := hq7.free 5; have g6 := hq7.free 6; have g7 := hq7.free 7; have x0 := hq5.cell 0; have x1 := hq5.cell 1; have x2 := hq5.cell 2; have x3 := hq5.cell 3; simp only [List.getElem?_toArray, List.getElem?_cons_succ, List.getElem?_cons_zero] at u0 u1 u2 u3 u4 u5 u6 u7 x0 x1 x2 x3; have HBC7 := Lib.hid hq7; have HNC := Lib.hid hnc; have HDC := Lib.hid hdc; have HWC := Lib.hid hWc; have HZ0 := Lib.hid hz0; have HO0 := Lib.hid ho0; have hblt0 : w2.heap.size < wc.heap.size := hq7.lt; clear hq7 hq5 hnc hdc hWc hbc hz0 ho0)
     all_goals
      obtain ⟨wy, hwy⟩ : ∃ wy, ((((((((wc.setCell ⟨w2.heap.size, 0, none⟩ (.bool false)).setCell ⟨w2.heap.size, 1, none⟩ (.slice a0 (dig 0).length c0)).setCell ⟨w2.heap.size, 2, none⟩ (.bool false)).setCell ⟨w2.heap.size, 3, none⟩ (.slice a9 (dig 1).length c9)).setCell ⟨w2.heap.size, 4, none⟩ (.bool sg)).setCell ⟨w2.heap.size, 5, none⟩ (.slice an (dig n).length cn)).setCell ⟨w2.heap.size, 6, none⟩ (.bool false)).setCell ⟨w2.heap.size, 7, none⟩ (.slice ad (dig d).length cd)) = wy := ⟨_, rfl⟩
      rw [hwy]
      have hle7 : W0.heap.size <= w2.heap.size := hs02
      have hWy : Below W0.heap.size W0 wy := by rw [<- hwy]; exact (((((((HWC.out.setCell (p := ⟨w2.heap.size, 0, none⟩) hle7 _).setCell (p := ⟨w2.heap.size, 1, none⟩) hle7 _).setCell (p := ⟨w2.heap.size, 2, none⟩) hle7 _).setCell (p := ⟨w2.heap.size, 3, none⟩) hle7 _).setCell (p := ⟨w2.heap.size, 4, none⟩) hle7 _).setCell (p := ⟨w2.heap.size, 5, none⟩) hle7 _).setCell (p := ⟨w2.heap.size, 6, none⟩) hle7 _).setCell (p := ⟨w2.heap.size, 7, none⟩) hle7 _
      have hblk : Blk wy w2.heap.size 354 #[.bool false, .slice a0 (dig 0).length c0, .bool false, .slice a9 (dig 1).length c9, .bool sg, .slice an (dig n).length cn, .bool false, .slice ad (dig d).length cd] := by rw [<- hwy]; exact ((((((((HBC7.out.setAt 0 _).setAt 1 _).setAt 2 _).setAt 3 _).setAt 4 _).setAt 5 _).setAt 6 _).setAt 7 _)
      have hblt : w2.heap.size < wy.heap.size := by rw [<- hwy]; simp only [World.size_setCell]; exact hblt0
      have mvk : ∀ v k, MV wc v k -> MV wy v k := fun v k h => by rw [<- hwy]; exact h.box8 u0 u1 u2 u3 u4 u5 u6 u7 trivial trivial trivial trivial trivial trivial trivial trivial
      have hCG : CG wy (.agg #[.bool false, .slice a0 (dig 0).length c0, .bool false, .slice a9 (dig 1).length c9, .bool sg, .slice an (dig n).length cn, .bool false, .slice ad (dig d).length cd]) false 0 1 sg n d := ⟨_, _, _, _, rfl, mvk _ _ HZ0.out, mvk _ _ HO0.out, mvk _ _ HNC.out, mvk _ _ HDC.out⟩
      have h0M : n = 0 -> sg = false /\ d = 1 := fun h => ⟨HZ.out h, by have := HG.out; rwa [h, Nat.gcd_zero_left] at this⟩
      have hDne : (1 : Nat) ≠ 0 := Nat.one_ne_zero
      have hEne := HD0.out
      have hGcd : Nat.gcd 0 1 = 1 := Nat.gcd_one_right _
      have hZs : (0 : Nat) = 0 -> false = false := fun _ => rfl
      have hlN : (dig 0).length <= 501 := by rw [dig_zero]; simp
      have hlD : (dig 1).length <= 501 := by rw [dig_small (by decide) (by decide)]; simp
      have hlM := hln
      have hlE := hld
      have hRst : (signN s.data.toList).2.2.2 = [] -> (false, 0, 1) = ((signN s.data.toList).1, (signN s.data.toList).2.1, (signN s.data.toList).2.2.1) /\ n = 0 := fun h => by rw [<- HL.out, HR.out] at h; cases h
      obtain ⟨TX, hTX⟩ : ∃ TX, gT false 0 1 sg n d = TX := ⟨_, rfl⟩
      obtain ⟨BG, hBG⟩ : ∃ BG, (bigZ 0 1 || bigZ n d) = BG := ⟨_, rfl⟩
      have HKY : Hid (∀ W, Below wy.heap.size wy W -> (W.cell? ⟨w2.heap.size, 0, none⟩ = some (.bool false) /\ W.cell? ⟨w2.heap.size, 1, none⟩ = some (.slice a0 (dig 0).length c0) /\ W.cell? ⟨w2.heap.size, 2, none⟩ = some (.bool false) /\ W.cell? ⟨w2.heap.size, 3, none⟩ = some (.slice a9 (dig 1).length c9) /\ W.cell? ⟨w2.heap.size, 4, none⟩ = some (.bool sg) /\ W.cell? ⟨w2.heap.size, 5, none⟩ = some (.slice an (dig n).length cn) /\ W.cell? ⟨w2.heap.size, 6, none⟩ = some (.bool false) /\ W.cell? ⟨w2.heap.size, 7, none⟩ = some (.slice ad (dig d).length cd)) /\ (W.cell? ⟨w.heap.size, 0, none⟩ = some (.bool false) /\ W.cell? ⟨w.heap.size, 1, none⟩ = some (.slice none 0 0) /\ W.cell? ⟨w.heap.size, 2, none⟩ = some (.bool false) /\ W.cell? ⟨w.heap.size, 3, none⟩ = some (.slice none 0 0) /\ W.cell? ⟨w.heap.size, 4, none⟩ = some (.bool false) /\ W.cell? ⟨w.heap.size, 5, none⟩ = some (.slice none 0 0) /\ W.cell? ⟨w.heap.size, 6, none⟩ = some (.bool false) /\ W.cell? ⟨w.heap.size, 7, none⟩ = some (.slice none 0 0)) /\
       (W.frozen? ⟨w.heap.size, 0, none⟩ = false /\ W.frozen? ⟨w.heap.size, 1, none⟩ = false /\ W.frozen? ⟨w.heap.size, 2, none⟩ = false /\ W.frozen? ⟨w.heap.size, 3, none⟩ = false /\ W.frozen? ⟨w.heap.size, 4, none⟩ = false /\ W.frozen? ⟨w.heap.size, 5, none⟩ = false /\ W.frozen? ⟨w.heap.size, 6, none⟩ = false /\ W.frozen? ⟨w.heap.size, 7, none⟩ = false) /\ Below w.heap.size w W) := Lib.hid (fun W h => by
       have hq := hblk.below h hblt
       obtain ⟨u1, u2, u3⟩ := HKR.out W (hWy.trans (h.mono hWy.size))
       exact ⟨⟨hq.cell 0, hq.cell 1, hq.cell 2, hq.cell 3, hq.cell 4, hq.cell 5, hq.cell 6, hq.cell 7⟩, u1, u2, u3⟩)
      have HTX : Hid (∀ W, Below wy.heap.size wy W -> Calls Tryz.prog 276 #[.agg #[.bool false, .slice a0 (dig 0).length c0, .bool false, .slice a9 (dig 1).length c9, .bool sg, .slice an (dig n).length cn, .bool false, .slice ad (dig d).length cd]] W fun x w' => x = .returned (.string TX) /\ Below W.heap.size W w') := Lib.hid (fun W h => by
       have := refTextA_any _ false sg 0 1 n d W (hCG.below h (Nat.le_refl _)) h0M hDne hEne hlN hlD hlM hlE
       rw [hTX] at this; exact this)
      have HBG : Hid (∀ W, Below wy.heap.size wy W -> Calls Tryz.prog 277 #[.agg #[.bool false, .slice a0 (dig 0).length c0, .bool false, .slice a9 (dig 1).length c9, .bool sg, .slice an (dig n).length cn, .bool false, .slice ad (dig d).length cd]] W fun x w' => x = .returned (.bool BG) /\ Below W.heap.size W w') := Lib.hid (fun W h => by
       have := refBigG_any _ false sg 0 1 n d W (hCG.below h (Nat.le_refl _)) (by omega) (by omega) (by omega) (by omega)
       rw [hBG] at this; exact this)
      have HNUM : Hid (((TX.toList == s.toList) = true -> IsNum s (!BG)) /\ ((TX.toList == s.toList) = false -> IsNum s false)) := Lib.hid (by
       rw [<- hTX, <- hBG]
       exact ⟨isNum_of hDne hGcd hZs h0M hRst, isNum_no hRst⟩)
      have HBK : Hid (wy.drew.heap[w2.heap.size]? = some (.cells #[.bool false, .slice a0 (dig 0).length c0, .bool false, .slice a9 (dig 1).length c9, .bool sg, .slice an (dig n).length cn, .bool false, .slice ad (dig d).length cd] 354 (0, 0))) := Lib.hid hblk
      have HBLT : Hid (∀ W, Below wy.heap.size wy W -> W.heap[w2.heap.size]? = some (.cells #[.bool false, .slice a0 (dig 0).length c0, .bool false, .slice a9 (dig 1).length c9, .bool sg, .slice an (dig n).length cn, .bool false, .slice ad (dig d).length cd] 354 (0, 0))) := Lib.hid (fun W h => hblk.below h hblt)
      have hne7 : w.heap.size < w2.heap.size := by have := HB02.out.size; omega
      clear hCG hTX hBG hRst hblk hblt
      clear hwy h0M hDne hEne hGcd hZs hlN hlD hlM hlE hWy mvk u0 u1 u2 u3 u4 u5 u6 u7 g0 g1 g2 g3 g4 g5 g6 g7
      try clear x0 x1 x2 x3 y0 y1 y2 y3
      obtain ⟨⟨q0, q1, q2, q3, q4, q5, q6, q7⟩, ⟨k0, k1, k2, k3, k4, k5, k6, k7⟩, -, -⟩ := HKY.out wy (Below.refl _ _)
      have x0 : wy.drew.cell? ⟨w2.heap.size, 0, none⟩ = _ := q0
      have x1 : wy.drew.cell? ⟨w2.heap.size, 1, none⟩ = _ := q1
      have x2 : wy.drew.cell? ⟨w2.heap.size, 2, none⟩ = _ := q2
      have x3 : wy.drew.cell? ⟨w2.heap.size, 3, none⟩ = _ := q3
      have x4 : wy.drew.cell? ⟨w2.heap.size, 4, none⟩ = _ := q4
      have x5 : wy.drew.cell? ⟨w2.heap.size, 5, none⟩ = _ := q5
      have x6 : wy.drew.cell? ⟨w2.heap.size, 6, none⟩ = _ := q6
      have x7 : wy.drew.cell? ⟨w2.heap.size, 7, none⟩ = _ := q7
      clear k0 k1 k2 k3 k4 k5 k6 k7
      by_cases hTs : (TX.toList == s.toList) = true
      · have HIN : Hid (IsNum s (!BG)) := Lib.hid ((HNUM.out).1 hTs)
        have HTS := Lib.hid hTs
        clear hTs
        go_wp2_with fail
        refine wp_region_held_drew (S := fun w' => w'.heap[w2.heap.size]? = some (.cells #[.bool false, .slice a0 (dig 0).length c0, .bool false, .slice a9 (dig 1).length c9, .bool sg, .slice an (dig n).length cn, .bool false, .slice ad (dig d).length cd] 354 (0, 0))) (by kernel_rfl) HBK.out (fun hHeld => ?_)
        refine tkV 0 (.agg #[.bool false, .slice a0 (dig 0).length c0, .bool false, .slice a9 (dig 1).length c9, .bool sg, .slice an (dig n).length cn, .bool false, .slice ad (dig d).length cd]) hHeld ?_ (hy := by intro w9 h; exact exec_load_row 354 _ rfl w2.heap.size rfl 354 #[.bool false, .slice a0 (dig 0).length c0, .bool false, .slice a9 (dig 1).length c9, .bool sg, .slice an (dig n).length cn, .bool false, .slice ad (dig d).length cd] (0, 0) _ h Tryz.underlying354 (by rfl) HI8.out)
        refine tkV 1 (.agg #[.bool false, .slice a0 (dig 0).length c0, .bool false, .slice a9 (dig 1).length c9, .bool sg, .slice an (dig n).length cn, .bool false, .slice ad (dig d).length cd]) hHeld ?_ (hy := by intro w9 h; exact exec_load_row 354 _ rfl w2.heap.size rfl 354 #[.bool false, .slice a0 (dig 0).length c0, .bool false, .slice a9 (dig 1).length c9, .bool sg, .slice an (dig n).length cn, .bool false, .slice ad (dig d).length cd] (0, 0) _ h Tryz.underlying354 (by rfl) HI8.out)
        refine tkV 3 (.string s) hHeld ?_
        refine tkC 2 (fun K hK => ?_)
        go_simp
        refine (HTX.out wy.drew ((Below.refl wy.heap.size wy).drew)).mono ?_
        rintro x wz ⟨rfl, hbz⟩
        have hbz := ((Below.refl wy.heap.size wy).drew).trans hbz
        have hbk := HBLT.out wz hbz
        have HBZ := Lib.hid hbz
        clear hbz
        refine hK.out _ _ hbk (fun hHeld2 => ?_)
        clear hK K
        try simp only [Act.put, List.setIfInBounds_toArray, List.set_cons_zero, List.set_cons_succ]
        refine tkV 4 (.bool true) hbk ?_ (hy := by intro w9 h; go_simp; exact eq_of_beq HTS.out)
        refine tkV 5 (.bool true) hbk ?_
        refine tkV 6 (.agg #[.bool false, .slice a0 (dig 0).length c0, .bool false, .slice a9 (dig 1).length c9, .bool sg, .slice an (dig n).length cn, .bool false, .slice ad (dig d).length cd]) hbk ?_ (hy := by intro w9 h; exact exec_load_row 354 _ rfl w2.heap.size rfl 354 #[.bool false, .slice a0 (dig 0).length c0, .bool false, .slice a9 (dig 1).length c9, .bool sg, .slice an (dig n).length cn, .bool false, .slice ad (dig d).length cd] (0, 0) _ h Tryz.underlying354 (by rfl) HI8.out)
        refine tkC 7 (fun K hK => ?_)
        go_simp
        refine (HBG.out wz HBZ.out).mono ?_
        rintro x wv ⟨rfl, hbv⟩
        have hbv := HBZ.out.trans (hbv.mono HBZ.out.size)
        have hbk2 := HBLT.out wv hbv
        obtain ⟨-, ⟨z0, z1, z2, z3, z4, z5, z6, z7⟩, ⟨f0, f1, f2, f3, f4, f5, f6, f7⟩, hbf⟩ := HKY.out wv hbv
        refine hK.out _ _ hbk2 (fun hHeld4 => ?_)
        clear hK K
        try simp only [Act.put, List.setIfInBounds_toArray, List.set_cons_zero, List.set_cons_succ]
        refine tkV 8 (.bool (!BG)) hbk2 ?_
        refine tkV 9 (.bool (!BG)) hbk2 ?_
        refine tkC 10 (fun K hK => ?_)
        go_simp
        refine hK.out _ _ ?_ (fun hHeld3 => ?_)
        · repeat rw [heap_setCell_other _ _ _ _ (by show w2.heap.size ≠ w.heap.size; omega)]
          exact hbk2
        clear hK K
        try simp only [Act.put, List.setIfInBounds_toArray, List.set_cons_zero, List.set_cons_succ]
        refine tkV 11 (.bool (!BG)) hHeld3 ?_
        refine wpAnyH_done (by kernel_rfl) ?_ _
        go_wp2_with fail
        refine bodyPost_ret (v := .tuple #[.agg #[.bool false, .slice a0 (dig 0).length c0, .bool false, .slice a9 (dig 1).length c9, .bool sg, .slice an (dig n).length cn, .bool false, .slice ad (dig d).length cd], .bool (!BG)]) (by simp [results, Tryz.results250, go_sem, z0, z1, z2, z3, z4, z5, z6, z7]) rfl ?_
        exact ⟨⟨_, _, rfl, isC _ _ _ _ _ _ _ _ _ _ _ _ _ _, HIN.out⟩, (((((((hbf.setCell (Nat.le_refl _) _).setCell (Nat.le_refl _) _).setCell (Nat.le_refl _) _).setCell (Nat.le_refl _) _).setCell (Nat.le_refl _) _).setCell (Nat.le_refl _) _).setCell (Nat.le_refl _) _).setCell (Nat.le_refl _) _⟩
      · have HIN : Hid (IsNum s false) := Lib.hid ((HNUM.out).2 (by simpa using hTs))
        have hTs2 : (TX.toList == s.toList) = false := by simpa using hTs
        have HTS := Lib.hid hTs2
        clear hTs hTs2
        go_wp2_with fail
        refine wp_region_held_drew (S := fun w' => w'.heap[w2.heap.size]? = some (.cells #[.bool false, .slice a0 (dig 0).length c0, .bool false, .slice a9 (dig 1).length c9, .bool sg, .slice an (dig n).length cn, .bool false, .slice ad (dig d).length cd] 354 (0, 0))) (by kernel_rfl) HBK.out (fun hHeld => ?_)
        refine tkV 0 (.agg #[.bool false, .slice a0 (dig 0).length c0, .bool false, .slice a9 (dig 1).length c9, .bool sg, .slice an (dig n).length cn, .bool false, .slice ad (dig d).length cd]) hHeld ?_ (hy := by intro w9 h; exact exec_load_row 354 _ rfl w2.heap.size rfl 354 #[.bool false, .slice a0 (dig 0).length c0, .bool false, .slice a9 (dig 1).length c9, .bool sg, .slice an (dig n).length cn, .bool false, .slice ad (dig d).length cd] (0, 0) _ h Tryz.underlying354 (by rfl) HI8.out)
        refine tkV 1 (.agg #[.bool false, .slice a0 (dig 0).length c0, .bool false, .slice a9 (dig 1).length c9, .bool sg, .slice an (dig n).length cn, .bool false, .slice ad (dig d).length cd]) hHeld ?_ (hy := by intro w9 h; exact exec_load_row 354 _ rfl w2.heap.size rfl 354 #[.bool false, .slice a0 (dig 0).length c0, .bool false, .slice a9 (dig 1).length c9, .bool sg, .slice an (dig n).length cn, .bool false, .slice ad (dig d).length cd] (0, 0) _ h Tryz.underlying354 (by rfl) HI8.out)
        refine tkV 3 (.string s) hHeld ?_
        refine tkC 2 (fun K hK => ?_)
        go_simp
        refine (HTX.out wy.drew ((Below.refl wy.heap.size wy).drew)).mono ?_
        rintro x wz ⟨rfl, hbz⟩
        have hbz := ((Below.refl wy.heap.size wy).drew).trans hbz
        have hbk := HBLT.out wz hbz
        obtain ⟨-, ⟨z0, z1, z2, z3, z4, z5, z6, z7⟩, ⟨f0, f1, f2, f3, f4, f5, f6, f7⟩, hbf⟩ := HKY.out wz hbz
        have HBZ := Lib.hid hbz
        clear hbz
        refine hK.out _ _ hbk (fun hHeld2 => ?_)
        clear hK K
        try simp only [Act.put, List.setIfInBounds_toArray, List.set_cons_zero, List.set_cons_succ]
        refine tkV 4 (.bool false) hbk ?_ (hy := by intro w9 h; go_simp; exact fun h => by have h2 := HTS.out; rw [h] at h2; simp at h2)
        refine tkV 5 (.bool false) hbk ?_
        refine tkS 6 hbk ?_
        refine tkS 7 hbk ?_
        refine tkS 8 hbk ?_
        refine tkV 9 (.bool false) hbk ?_
        refine tkC 10 (fun K hK => ?_)
        go_simp
        refine hK.out _ _ ?_ (fun hHeld3 => ?_)
        · repeat rw [heap_setCell_other _ _ _ _ (by show w2.heap.size ≠ w.heap.size; omega)]
          exact hbk
        clear hK K
        try simp only [Act.put, List.setIfInBounds_toArray, List.set_cons_zero, List.set_cons_succ]
        refine tkV 11 (.bool false) hHeld3 ?_
        refine wpAnyH_done (by kernel_rfl) ?_ _
        go_wp2_with fail
        refine bodyPost_ret (v := .tuple #[.agg #[.bool false, .slice a0 (dig 0).length c0, .bool false, .slice a9 (dig 1).length c9, .bool sg, .slice an (dig n).length cn, .bool false, .slice ad (dig d).length cd], .bool false]) (by simp [results, Tryz.results250, go_sem, z0, z1, z2, z3, z4, z5, z6, z7]) rfl ?_
        exact ⟨⟨_, _, rfl, isC _ _ _ _ _ _ _ _ _ _ _ _ _ _, HIN.out⟩, (((((((hbf.setCell (Nat.le_refl _) _).setCell (Nat.le_refl _) _).setCell (Nat.le_refl _) _).setCell (Nat.le_refl _) _).setCell (Nat.le_refl _) _).setCell (Nat.le_refl _) _).setCell (Nat.le_refl _) _).setCell (Nat.le_refl _) _⟩
   ·
    have hrl : r1.data.toList.length = (c :: rr).length := by rw [HR1.out]
    have hr1n : r1.data.toList ≠ [105] := by
     rw [HR1.out]; intro h; exact hi (by simpa using h)
    have hr1e : r1.data.toList ≠ [] := by rw [HR1.out]; simp
    have e5 : (r1.toList == [105]) = false := by rw [Lib.toList_data]; simpa using hr1n
    have e6 : (r1.toList == []) = false := by rw [Lib.toList_data]; simpa using hr1e
    have e7 : r1.toList.isEmpty = false := by rw [Lib.toList_data]; simpa using hr1e
    have hsg := fun W => signed_any r1 W (by show r1.data.toList.length <= _; rw [hrl]; exact hlx)
    have hbd2 := signN_bd r1.data.toList
    obtain ⟨tg, m, q, rs2, hR2⟩ : ∃ tg m q rs2, signN r1.data.toList = (tg, m, q, rs2) := ⟨_, _, _, _, rfl⟩
    rw [hR2] at hsg hbd2
    obtain ⟨hmm, hqq, hq0, hg2, hz2⟩ := hbd2
    simp only at hmm hqq hq0 hg2 hz2
    have hlm := dig_501 hmm
    have hlq := dig_501 hqq
    have HG2 := Lib.hid hg2; have HZ2 := Lib.hid hz2; have HQ0 := Lib.hid hq0; have HSG := Lib.hid hsg
    clear hmm hqq hg2 hz2 hq0 hsg hR2 hr1n hr1e hrl hi
    obtain ⟨w7, hw7⟩ : ∃ w7, w2.alloc (.cells #[.bool sg, .slice aa (dig n).length ca, .bool false, .slice ab (dig d).length cb, .bool false, .slice ac (dig 0).length cc, .bool false, .slice ae (dig 1).length ce] 354) = w7 := ⟨_, rfl⟩
    have hb7 : Below w2.heap.size w2 w7 := by rw [<- hw7]; exact (Below.refl w2.heap.size w2).alloc (Nat.le_refl _) _
    have hs7 : w7.heap.size = w2.heap.size + 1 := by rw [<- hw7]; simp
    have hblk7 : Blk w7 w2.heap.size 354 #[.bool sg, .slice aa (dig n).length ca, .bool false, .slice ab (dig d).length cb, .bool false, .slice ac (dig 0).length cc, .bool false, .slice ae (dig 1).length ce] := by rw [<- hw7]; exact heap_alloc_new w2 _
    have HK7 : Hid (∀ W, Below w7.heap.size w7 W -> Blk W w2.heap.size 354 #[.bool sg, .slice aa (dig n).length ca, .bool false, .slice ab (dig d).length cb, .bool false, .slice ac (dig 0).length cc, .bool false, .slice ae (dig 1).length ce] /\ Blk W w1.heap.size 352 #[.bool sg, .slice an (dig n).length cn, .bool false, .slice ad (dig d).length cd] /\ MV W (.slice an (dig n).length cn) n /\ MV W (.slice ad (dig d).length cd) d /\ Below W0.heap.size W0 W) := Lib.hid (fun W h => by
     have h2 := hb7.trans (h.mono hb7.size)
     exact ⟨hblk7.below h (by omega), HQ5.out.below h2 hs12, HN2.out.below h2 (Nat.le_refl _), HD2.out.below h2 (Nat.le_refl _), HB02.out.trans (h2.mono HB02.out.size)⟩)
    have HW7 := Lib.hid hw7
    have hs02 := HB02.out.size
    clear hw7 hb7 hblk7
    obtain ⟨hq7, hq5, -, -, -⟩ := HK7.out w7 (Below.refl _ _)
    clear hq7 hq5
    go_wp2_with fail
    rw [HW7.out]
    clear e5 e6 e7
    refine (HSG.out w7).mono ?_
    rintro e w3 ⟨⟨v3, r3, rfl, ⟨vm, vq, rfl, hm3, hq3⟩, -⟩, hb3⟩
    obtain ⟨am, cm, rfl⟩ := hm3.cases
    obtain ⟨aq, cq, rfl⟩ := hq3.cases
    obtain ⟨wc, hwc⟩ : ∃ wc, w3.alloc (.cells #[.bool tg, .slice am (dig m).length cm, .bool false, .slice aq (dig q).length cq] 352) = wc := ⟨_, rfl⟩
    have hb8 : Below w3.heap.size w3 wc := by rw [<- hwc]; exact (Below.refl w3.heap.size w3).alloc (Nat.le_refl _) _
    have hblk8 : Blk wc w3.heap.size 352 #[.bool tg, .slice am (dig m).length cm, .bool false, .slice aq (dig q).length cq] := by rw [<- hwc]; exact heap_alloc_new w3 _
    have v0 := hblk8.cell 0
    have v1 := hblk8.cell 1
    have v2 := hblk8.cell 2
    have v3 := hblk8.cell 3
    simp only [List.getElem?_toArray, List.getElem?_cons_succ, List.getElem?_cons_zero] at v0 v1 v2 v3
    clear hblk8
    have hbc := hb3.trans (hb8.mono hb3.size)
    obtain ⟨hq7, hq5, hnc, hdc, hWc⟩ := HK7.out wc hbc
    have u0 := hq7.cell 0
    have u1 := hq7.cell 1
    have u2 := hq7.cell 2
    have u3 := hq7.cell 3
    have u4 := hq7.cell 4
    have u5 := hq7.cell 5
    have u6 := hq7.cell 6
    have u7 := hq7.cell 7
    have g0 := hq7.free 0
    have g1 := hq7.free 1
    have g2 := hq7.free 2
    have g3 := hq7.free 3
    have g4 := hq7.free 4
    have g5 := hq7.free 5
    have g6 := hq7.free 6
    have g7 := hq7.free 7
    have x0 := hq5.cell 0
    have x1 := hq5.cell 1
    have x2 := hq5.cell 2
    have x3 := hq5.cell 3
    simp only [List.getElem?_toArray, List.getElem?_cons_succ, List.getElem?_cons_zero] at u0 u1 u2 u3 u4 u5 u6 u7 x0 x1 x2 x3
    have HBC7 := Lib.hid hq7; have HNC := Lib.hid hnc; have HDC := Lib.hid hdc; have HWC := Lib.hid hWc
    have HM3 := Lib.hid (hm3.below hb8 (Nat.le_refl _)); have HQ3 := Lib.hid (hq3.below hb8 (Nat.le_refl _))
    have hblt0 : w2.heap.size < wc.heap.size := hq7.lt
    have hu0 := u0
    have hu1 := u1
    have hu2 := u2
    have hu3 := u3
    have hu4 := u4
    have hu5 := u5
    have hu6 := u6
    have hu7 := u7
    have HU : Hid (wc.cell? ⟨w2.heap.size, 0, none⟩ = some _ /\ wc.cell? ⟨w2.heap.size, 1, none⟩ = some _ /\ wc.cell? ⟨w2.heap.size, 2, none⟩ = some _ /\ wc.cell? ⟨w2.heap.size, 3, none⟩ = some _ /\ wc.cell? ⟨w2.heap.size, 4, none⟩ = some _ /\ wc.cell? ⟨w2.heap.size, 5, none⟩ = some _ /\ wc.cell? ⟨w2.heap.size, 6, none⟩ = some _ /\ wc.cell? ⟨w2.heap.size, 7, none⟩ = some _) := Lib.hid ⟨hu0, hu1, hu2, hu3, hu4, hu5, hu6, hu7⟩
    clear hu0 hu1 hu2 hu3 hu4 hu5 hu6 hu7 hq7 hq5 hnc hdc hWc hbc hb3 hb8 hm3 hq3
    go_wp2_with fail
    try rw [hwc]
    clear u0 u1 u2 u3 u4 u5 u6 u7 v0 v1 v2 v3
    obtain ⟨u0, u1, u2, u3, u4, u5, u6, u7⟩ := HU.out
    obtain ⟨wy, hwy⟩ : ∃ wy, ((((((((wc.setCell ⟨w2.heap.size, 0, none⟩ (.bool sg)).setCell ⟨w2.heap.size, 1, none⟩ (.slice an (dig n).length cn)).setCell ⟨w2.heap.size, 2, none⟩ (.bool false)).setCell ⟨w2.heap.size, 3, none⟩ (.slice ad (dig d).length cd)).setCell ⟨w2.heap.size, 4, none⟩ (.bool tg)).setCell ⟨w2.heap.size, 5, none⟩ (.slice am (dig m).length cm)).setCell ⟨w2.heap.size, 6, none⟩ (.bool false)).setCell ⟨w2.heap.size, 7, none⟩ (.slice aq (dig q).length cq)) = wy := ⟨_, rfl⟩
    rw [hwy]
    have hle7 : W0.heap.size <= w2.heap.size := hs02
    have hWy : Below W0.heap.size W0 wy := by rw [<- hwy]; exact (((((((HWC.out.setCell (p := ⟨w2.heap.size, 0, none⟩) hle7 _).setCell (p := ⟨w2.heap.size, 1, none⟩) hle7 _).setCell (p := ⟨w2.heap.size, 2, none⟩) hle7 _).setCell (p := ⟨w2.heap.size, 3, none⟩) hle7 _).setCell (p := ⟨w2.heap.size, 4, none⟩) hle7 _).setCell (p := ⟨w2.heap.size, 5, none⟩) hle7 _).setCell (p := ⟨w2.heap.size, 6, none⟩) hle7 _).setCell (p := ⟨w2.heap.size, 7, none⟩) hle7 _
    have hblk : Blk wy w2.heap.size 354 #[.bool sg, .slice an (dig n).length cn, .bool false, .slice ad (dig d).length cd, .bool tg, .slice am (dig m).length cm, .bool false, .slice aq (dig q).length cq] := by rw [<- hwy]; exact ((((((((HBC7.out.setAt 0 _).setAt 1 _).setAt 2 _).setAt 3 _).setAt 4 _).setAt 5 _).setAt 6 _).setAt 7 _)
    have hblt : w2.heap.size < wy.heap.size := by rw [<- hwy]; simp only [World.size_setCell]; exact hblt0
    have mvk : ∀ v k, MV wc v k -> MV wy v k := fun v k h => by rw [<- hwy]; exact h.box8 u0 u1 u2 u3 u4 u5 u6 u7 trivial trivial trivial trivial trivial trivial trivial trivial
    have hCG : CG wy (.agg #[.bool sg, .slice an (dig n).length cn, .bool false, .slice ad (dig d).length cd, .bool tg, .slice am (dig m).length cm, .bool false, .slice aq (dig q).length cq]) sg n d tg m q := ⟨_, _, _, _, rfl, mvk _ _ HNC.out, mvk _ _ HDC.out, mvk _ _ HM3.out, mvk _ _ HQ3.out⟩
    have h0M : m = 0 -> tg = false /\ q = 1 := fun h => ⟨HZ2.out h, by have := HG2.out; rwa [h, Nat.gcd_zero_left] at this⟩
    have hDne := HD0.out
    have hEne := HQ0.out
    have hGcd := HG.out
    have hZs := HZ.out
    have hlN := hln
    have hlD := hld
    have hlM := hlm
    have hlE := hlq
    have hRst : (signN s.data.toList).2.2.2 = [] -> (sg, n, d) = ((signN s.data.toList).1, (signN s.data.toList).2.1, (signN s.data.toList).2.2.1) /\ m = 0 := fun h => by rw [<- HL.out, HR.out] at h; cases h
    obtain ⟨TX, hTX⟩ : ∃ TX, gT sg n d tg m q = TX := ⟨_, rfl⟩
    obtain ⟨BG, hBG⟩ : ∃ BG, (bigZ n d || bigZ m q) = BG := ⟨_, rfl⟩
    have HKY : Hid (∀ W, Below wy.heap.size wy W -> (W.cell? ⟨w2.heap.size, 0, none⟩ = some (.bool sg) /\ W.cell? ⟨w2.heap.size, 1, none⟩ = some (.slice an (dig n).length cn) /\ W.cell? ⟨w2.heap.size, 2, none⟩ = some (.bool false) /\ W.cell? ⟨w2.heap.size, 3, none⟩ = some (.slice ad (dig d).length cd) /\ W.cell? ⟨w2.heap.size, 4, none⟩ = some (.bool tg) /\ W.cell? ⟨w2.heap.size, 5, none⟩ = some (.slice am (dig m).length cm) /\ W.cell? ⟨w2.heap.size, 6, none⟩ = some (.bool false) /\ W.cell? ⟨w2.heap.size, 7, none⟩ = some (.slice aq (dig q).length cq)) /\ (W.cell? ⟨w.heap.size, 0, none⟩ = some (.bool false) /\ W.cell? ⟨w.heap.size, 1, none⟩ = some (.slice none 0 0) /\ W.cell? ⟨w.heap.size, 2, none⟩ = some (.bool false) /\ W.cell? ⟨w.heap.size, 3, none⟩ = some (.slice none 0 0) /\ W.cell? ⟨w.heap.size, 4, none⟩ = some (.bool false) /\ W.cell? ⟨w.heap.size, 5, none⟩ = some (.slice none 0 0) /\ W.cell? ⟨w.heap.size, 6, none⟩ = some (.bool false) /\ W.cell? ⟨w.heap.size, 7, none⟩ = some (.slice none 0 0)) /\
     (W.frozen? ⟨w.heap.size, 0, none⟩ = false /\ W.frozen? ⟨w.heap.size, 1, none⟩ = false /\ W.frozen? ⟨w.heap.size, 2, none⟩ = false /\ W.frozen? ⟨w.heap.size, 3, none⟩ = false /\ W.frozen? ⟨w.heap.size, 4, none⟩ = false /\ W.frozen? ⟨w.heap.size, 5, none⟩ = false /\ W.frozen? ⟨w.heap.size, 6, none⟩ = false /\ W.frozen? ⟨w.heap.size, 7, none⟩ = false) /\ Below w.heap.size w W) := Lib.hid (fun W h => by
     have hq := hblk.below h hblt
     obtain ⟨u1, u2, u3⟩ := HKR.out W (hWy.trans (h.mono hWy.size))
     exact ⟨⟨hq.cell 0, hq.cell 1, hq.cell 2, hq.cell 3, hq.cell 4, hq.cell 5, hq.cell 6, hq.cell 7⟩, u1, u2, u3⟩)
    have HTX : Hid (∀ W, Below wy.heap.size wy W -> Calls Tryz.prog 276 #[.agg #[.bool sg, .slice an (dig n).length cn, .bool false, .slice ad (dig d).length cd, .bool tg, .slice am (dig m).length cm, .bool false, .slice aq (dig q).length cq]] W fun x w' => x = .returned (.string TX) /\ Below W.heap.size W w') := Lib.hid (fun W h => by
     have := refTextA_any _ sg tg n d m q W (hCG.below h (Nat.le_refl _)) h0M hDne hEne hlN hlD hlM hlE
     rw [hTX] at this; exact this)
    have HBG : Hid (∀ W, Below wy.heap.size wy W -> Calls Tryz.prog 277 #[.agg #[.bool sg, .slice an (dig n).length cn, .bool false, .slice ad (dig d).length cd, .bool tg, .slice am (dig m).length cm, .bool false, .slice aq (dig q).length cq]] W fun x w' => x = .returned (.bool BG) /\ Below W.heap.size W w') := Lib.hid (fun W h => by
     have := refBigG_any _ sg tg n d m q W (hCG.below h (Nat.le_refl _)) (by omega) (by omega) (by omega) (by omega)
     rw [hBG] at this; exact this)
    have HNUM : Hid (((TX.toList == s.toList) = true -> IsNum s (!BG)) /\ ((TX.toList == s.toList) = false -> IsNum s false)) := Lib.hid (by
     rw [<- hTX, <- hBG]
     exact ⟨isNum_of hDne hGcd hZs h0M hRst, isNum_no hRst⟩)
    have HBK : Hid (wy.drew.heap[w2.heap.size]? = some (.cells #[.bool sg, .slice an (dig n).length cn, .bool false, .slice ad (dig d).length cd, .bool tg, .slice am (dig m).length cm, .bool false, .slice aq (dig q).length cq] 354 (0, 0))) := Lib.hid hblk
    have HBLT : Hid (∀ W, Below wy.heap.size wy W -> W.heap[w2.heap.size]? = some (.cells #[.bool sg, .slice an (dig n).length cn, .bool false, .slice ad (dig d).length cd, .bool tg, .slice am (dig m).length cm, .bool false, .slice aq (dig q).length cq] 354 (0, 0))) := Lib.hid (fun W h => hblk.below h hblt)
    have hne7 : w.heap.size < w2.heap.size := by have := HB02.out.size; omega
    clear hCG hTX hBG hRst hblk hblt
    clear hwy h0M hDne hEne hGcd hZs hlN hlD hlM hlE hWy mvk u0 u1 u2 u3 u4 u5 u6 u7 g0 g1 g2 g3 g4 g5 g6 g7 x0 x1 x2 x3
    obtain ⟨⟨q0, q1, q2, q3, q4, q5, q6, q7⟩, ⟨k0, k1, k2, k3, k4, k5, k6, k7⟩, -, -⟩ := HKY.out wy (Below.refl _ _)
    have x0 : wy.drew.cell? ⟨w2.heap.size, 0, none⟩ = _ := q0
    have x1 : wy.drew.cell? ⟨w2.heap.size, 1, none⟩ = _ := q1
    have x2 : wy.drew.cell? ⟨w2.heap.size, 2, none⟩ = _ := q2
    have x3 : wy.drew.cell? ⟨w2.heap.size, 3, none⟩ = _ := q3
    have x4 : wy.drew.cell? ⟨w2.heap.size, 4, none⟩ = _ := q4
    have x5 : wy.drew.cell? ⟨w2.heap.size, 5, none⟩ = _ := q5
    have x6 : wy.drew.cell? ⟨w2.heap.size, 6, none⟩ = _ := q6
    have x7 : wy.drew.cell? ⟨w2.heap.size, 7, none⟩ = _ := q7
    clear k0 k1 k2 k3 k4 k5 k6 k7
    by_cases hTs : (TX.toList == s.toList) = true
    · have HIN : Hid (IsNum s (!BG)) := Lib.hid ((HNUM.out).1 hTs)
      have HTS := Lib.hid hTs
      clear hTs
      go_wp2_with fail
      refine wp_region_held_drew (S := fun w' => w'.heap[w2.heap.size]? = some (.cells #[.bool sg, .slice an (dig n).length cn, .bool false, .slice ad (dig d).length cd, .bool tg, .slice am (dig m).length cm, .bool false, .slice aq (dig q).length cq] 354 (0, 0))) (by kernel_rfl) HBK.out (fun hHeld => ?_)
      refine tkV 0 (.agg #[.bool sg, .slice an (dig n).length cn, .bool false, .slice ad (dig d).length cd, .bool tg, .slice am (dig m).length cm, .bool false, .slice aq (dig q).length cq]) hHeld ?_ (hy := by intro w9 h; exact exec_load_row 354 _ rfl w2.heap.size rfl 354 #[.bool sg, .slice an (dig n).length cn, .bool false, .slice ad (dig d).length cd, .bool tg, .slice am (dig m).length cm, .bool false, .slice aq (dig q).length cq] (0, 0) _ h Tryz.underlying354 (by rfl) HI8.out)
      refine tkV 1 (.agg #[.bool sg, .slice an (dig n).length cn, .bool false, .slice ad (dig d).length cd, .bool tg, .slice am (dig m).length cm, .bool false, .slice aq (dig q).length cq]) hHeld ?_ (hy := by intro w9 h; exact exec_load_row 354 _ rfl w2.heap.size rfl 354 #[.bool sg, .slice an (dig n).length cn, .bool false, .slice ad (dig d).length cd, .bool tg, .slice am (dig m).length cm, .bool false, .slice aq (dig q).length cq] (0, 0) _ h Tryz.underlying354 (by rfl) HI8.out)
      refine tkV 3 (.string s) hHeld ?_
      refine tkC 2 (fun K hK => ?_)
      go_simp
      refine (HTX.out wy.drew ((Below.refl wy.heap.size wy).drew)).mono ?_
      rintro x wz ⟨rfl, hbz⟩
      have hbz := ((Below.refl wy.heap.size wy).drew).trans hbz
      have hbk := HBLT.out wz hbz
      have HBZ := Lib.hid hbz
      clear hbz
      refine hK.out _ _ hbk (fun hHeld2 => ?_)
      clear hK K
      try simp only [Act.put, List.setIfInBounds_toArray, List.set_cons_zero, List.set_cons_succ]
      refine tkV 4 (.bool true) hbk ?_ (hy := by intro w9 h; go_simp; exact eq_of_beq HTS.out)
      refine tkV 5 (.bool true) hbk ?_
      refine tkV 6 (.agg #[.bool sg, .slice an (dig n).length cn, .bool false, .slice ad (dig d).length cd, .bool tg, .slice am (dig m).length cm, .bool false, .slice aq (dig q).length cq]) hbk ?_ (hy := by intro w9 h; exact exec_load_row 354 _ rfl w2.heap.size rfl 354 #[.bool sg, .slice an (dig n).length cn, .bool false, .slice ad (dig d).length cd, .bool tg, .slice am (dig m).length cm, .bool false, .slice aq (dig q).length cq] (0, 0) _ h Tryz.underlying354 (by rfl) HI8.out)
      refine tkC 7 (fun K hK => ?_)
      go_simp
      refine (HBG.out wz HBZ.out).mono ?_
      rintro x wv ⟨rfl, hbv⟩
      have hbv := HBZ.out.trans (hbv.mono HBZ.out.size)
      have hbk2 := HBLT.out wv hbv
      obtain ⟨-, ⟨z0, z1, z2, z3, z4, z5, z6, z7⟩, ⟨f0, f1, f2, f3, f4, f5, f6, f7⟩, hbf⟩ := HKY.out wv hbv
      refine hK.out _ _ hbk2 (fun hHeld4 => ?_)
      clear hK K
      try simp only [Act.put, List.setIfInBounds_toArray, List.set_cons_zero, List.set_cons_succ]
      refine tkV 8 (.bool (!BG)) hbk2 ?_
      refine tkV 9 (.bool (!BG)) hbk2 ?_
      refine tkC 10 (fun K hK => ?_)
      go_simp
      refine hK.out _ _ ?_ (fun hHeld3 => ?_)
      · repeat rw [heap_setCell_other _ _ _ _ (by show w2.heap.size ≠ w.heap.size; omega)]
        exact hbk2
      clear hK K
      try simp only [Act.put, List.setIfInBounds_toArray, List.set_cons_zero, List.set_cons_succ]
      refine tkV 11 (.bool (!BG)) hHeld3 ?_
      refine wpAnyH_done (by kernel_rfl) ?_ _
      go_wp2_with fail
      refine bodyPost_ret (v := .tuple #[.agg #[.bool sg, .slice an (dig n).length cn, .bool false, .slice ad (dig d).length cd, .bool tg, .slice am (dig m).length cm, .bool false, .slice aq (dig q).length cq], .bool (!BG)]) (by simp [results, Tryz.results250, go_sem, z0, z1, z2, z3, z4, z5, z6, z7]) rfl ?_
      exact ⟨⟨_, _, rfl, isC _ _ _ _ _ _ _ _ _ _ _ _ _ _, HIN.out⟩, (((((((hbf.setCell (Nat.le_refl _) _).setCell (Nat.le_refl _) _).setCell (Nat.le_refl _) _).setCell (Nat.le_refl _) _).setCell (Nat.le_refl _) _).setCell (Nat.le_refl _) _).setCell (Nat.le_refl _) _).setCell (Nat.le_refl _) _⟩
    · have HIN : Hid (IsNum s false) := Lib.hid ((HNUM.out).2 (by simpa using hTs))
      have hTs2 : (TX.toList == s.toList) = false := by simpa using hTs
      have HTS := Lib.hid hTs2
      clear hTs hTs2
      go_wp2_with fail
      refine wp_region_held_drew (S := fun w' => w'.heap[w2.heap.size]? = some (.cells #[.bool sg, .slice an (dig n).length cn, .bool false, .slice ad (dig d).length cd, .bool tg, .slice am (dig m).length cm, .bool false, .slice aq (dig q).length cq] 354 (0, 0))) (by kernel_rfl) HBK.out (fun hHeld => ?_)
      refine tkV 0 (.agg #[.bool sg, .slice an (dig n).length cn, .bool false, .slice ad (dig d).length cd, .bool tg, .slice am (dig m).length cm, .bool false, .slice aq (dig q).length cq]) hHeld ?_ (hy := by intro w9 h; exact exec_load_row 354 _ rfl w2.heap.size rfl 354 #[.bool sg, .slice an (dig n).length cn, .bool false, .slice ad (dig d).length cd, .bool tg, .slice am (dig m).length cm, .bool false, .slice aq (dig q).length cq] (0, 0) _ h Tryz.underlying354 (by rfl) HI8.out)
      refine tkV 1 (.agg #[.bool sg, .slice an (dig n).length cn, .bool false, .slice ad (dig d).length cd, .bool tg, .slice am (dig m).length cm, .bool false, .slice aq (dig q).length cq]) hHeld ?_ (hy := by intro w9 h; exact exec_load_row 354 _ rfl w2.heap.size rfl 354 #[.bool sg, .slice an (dig n).length cn, .bool false, .slice ad (dig d).length cd, .bool tg, .slice am (dig m).length cm, .bool false, .slice aq (dig q).length cq] (0, 0) _ h Tryz.underlying354 (by rfl) HI8.out)
      refine tkV 3 (.string s) hHeld ?_
      refine tkC 2 (fun K hK => ?_)
      go_simp
      refine (HTX.out wy.drew ((Below.refl wy.heap.size wy).drew)).mono ?_
      rintro x wz ⟨rfl, hbz⟩
      have hbz := ((Below.refl wy.heap.size wy).drew).trans hbz
      have hbk := HBLT.out wz hbz
      obtain ⟨-, ⟨z0, z1, z2, z3, z4, z5, z6, z7⟩, ⟨f0, f1, f2, f3, f4, f5, f6, f7⟩, hbf⟩ := HKY.out wz hbz
      have HBZ := Lib.hid hbz
      clear hbz
      refine hK.out _ _ hbk (fun hHeld2 => ?_)
      clear hK K
      try simp only [Act.put, List.setIfInBounds_toArray, List.set_cons_zero, List.set_cons_succ]
      refine tkV 4 (.bool false) hbk ?_ (hy := by intro w9 h; go_simp; exact fun h => by have h2 := HTS.out; rw [h] at h2; simp at h2)
      refine tkV 5 (.bool false) hbk ?_
      refine tkS 6 hbk ?_
      refine tkS 7 hbk ?_
      refine tkS 8 hbk ?_
      refine tkV 9 (.bool false) hbk ?_
      refine tkC 10 (fun K hK => ?_)
      go_simp
      refine hK.out _ _ ?_ (fun hHeld3 => ?_)
      · repeat rw [heap_setCell_other _ _ _ _ (by show w2.heap.size ≠ w.heap.size; omega)]
        exact hbk
      clear hK K
      try simp only [Act.put, List.setIfInBounds_toArray, List.set_cons_zero, List.set_cons_succ]
      refine tkV 11 (.bool false) hHeld3 ?_
      refine wpAnyH_done (by kernel_rfl) ?_ _
      go_wp2_with fail
      refine bodyPost_ret (v := .tuple #[.agg #[.bool sg, .slice an (dig n).length cn, .bool false, .slice ad (dig d).length cd, .bool tg, .slice am (dig m).length cm, .bool false, .slice aq (dig q).length cq], .bool false]) (by simp [results, Tryz.results250, go_sem, z0, z1, z2, z3, z4, z5, z6, z7]) rfl ?_
      exact ⟨⟨_, _, rfl, isC _ _ _ _ _ _ _ _ _ _ _ _ _ _, HIN.out⟩, (((((((hbf.setCell (Nat.le_refl _) _).setCell (Nat.le_refl _) _).setCell (Nat.le_refl _) _).setCell (Nat.le_refl _) _).setCell (Nat.le_refl _) _).setCell (Nat.le_refl _) _).setCell (Nat.le_refl _) _).setCell (Nat.le_refl _) _⟩
end Go.Proofs.YtdpjdifoonfcdaaGreatDoor.Z4
