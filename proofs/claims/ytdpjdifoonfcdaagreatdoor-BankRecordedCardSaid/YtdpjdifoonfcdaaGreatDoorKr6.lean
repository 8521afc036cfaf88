/- Parts of a proof, in build order: Mb, Mc, Md, Me, Mn, Mf. -/
import Derived.Test.YtdpjdifoonfcdaaGreatDoorKr5

namespace Go.Proofs.YtdpjdifoonfcdaaGreatDoor
open Go.RowKit
def ownD (s : ByteArray) (r : Option (Bool × Nat × Nat)) : Option (Bool × Nat × Nat) :=
 match r with
 | none => none
 | some (m, n, d) => if ratT (m && decide (n ≠ 0)) (n / Nat.gcd n d) (d / Nat.gcd n d) = s /\ bigQ (n / Nat.gcd n d) (d / Nat.gcd n d) = false then some (m && decide (n ≠ 0), n / Nat.gcd n d, d / Nat.gcd n d) else none
def getR (s : ByteArray) : Option (Bool × Nat × Nat) := if 8008 < s.size then none else ownD s (parseR s.data.toList)
def GetRes (r : Option (Bool × Nat × Nat)) (w : World) (e : Ending) (w' : World) : Prop :=
 (match r with
  | none => e = .returned (.tuple #[.agg #[.bool false, .slice none 0 0, .slice none 0 0, .bool false, .slice none 0 0, .slice none 0 0], .bool false])
  | some (s, n, d) => ∃ v, e = .returned (.tuple #[v, .bool true]) /\ ValV w' v s n d false 0 1) /\ Below w.heap.size w w'
theorem get_none {r : Option (Bool × Nat × Nat)} {w w' : World} (h : r = none) (hb : Below w.heap.size w w') : GetRes r w (.returned (.tuple #[.agg #[.bool false, .slice none 0 0, .slice none 0 0, .bool false, .slice none 0 0, .slice none 0 0], .bool false])) w' := by subst h; exact ⟨rfl, hb⟩
theorem get_some {r : Option (Bool × Nat × Nat)} {w w' : World} {s : Bool} {n d : Nat} {v : Value} (h : r = some (s, n, d)) (hv : ValV w' v s n d false 0 1) (hb : Below w.heap.size w w') : GetRes r w (.returned (.tuple #[v, .bool true])) w' := by subst h; exact ⟨⟨v, rfl, hv⟩, hb⟩
theorem parseD_bd {m : Bool} {c : List UInt8 × List UInt8 × Bool} {L : Nat} (h1 : c.1.length <= L) (h2 : c.2.1.length <= L) {m' : Bool} {n d : Nat} (h : parseD m c = some (m', n, d)) : n < 10 ^ L /\ d <= 10 ^ L /\ d ≠ 0 := by
 have hp : 0 < 10 ^ L := Nat.pow_pos (by decide)
 rw [parseD] at h
 rcases ha : natP c.1 with _ | a
 · rw [ha] at h; cases h
 · rw [ha] at h
   have ha1 := Nat.lt_of_lt_of_le (natP_some ha) (Nat.pow_le_pow_right (by decide) h1)
   simp only at h
   split at h
   · rcases hb : natP c.2.1 with _ | b
     · rw [hb] at h; cases h
     · rw [hb] at h
       simp only at h
       have hb1 := Nat.lt_of_lt_of_le (natP_some hb) (Nat.pow_le_pow_right (by decide) h2)
       split at h
       · cases h
       · cases h; exact ⟨ha1, by omega, by assumption⟩
   · cases h; exact ⟨ha1, by omega, by decide⟩
theorem parseR_bd {l : List UInt8} {m : Bool} {n d : Nat} (h : parseR l = some (m, n, d)) : n < 10 ^ l.length /\ d <= 10 ^ l.length /\ d ≠ 0 := by
 have h1 := cut_len (Lib.trimPrefix l [45])
 have h2 := trim_len l [45]
 exact parseD_bd (by omega) (by omega) h
theorem digits_pow {n L : Nat} (h : n <= 10 ^ L) (hL : L <= 8008) : Lib.nDigits n <= 8009 := by
 refine Nat.le_trans (nDigits_le L n ?_) (by omega)
 have : 10 ^ L < 10 ^ (L + 1) := Nat.pow_lt_pow_right (by decide) (by omega)
 omega
theorem parse_zero : parseR [48] = some (false, 0, 1) := by decide
set_option maxRecDepth 100000 in
set_option maxHeartbeats 4000000 in
theorem get_noI (s : ByteArray) (w : World) (ht : Tab w) (hs : s.size <= 140737488351232) (hi : Lib.hasSuffix s.data.toList [105] = false) :
 Calls Tryz.prog 129 #[.string s] w (GetRes (getR s) w) := by
 have hcs := fun W => Tryz.strings_CutSuffix s ⟨#[105]⟩ W (by omega)
 have hcs2 : ∀ W, Calls Tryz.prog 197 #[.string s, .string ⟨#[105]⟩] W fun e w' => e = .returned (.tuple #[.string ⟨(Lib.trimSuffix s.data.toList [105]).toArray⟩, .bool false]) /\ w' = W := fun W => by
  have := hcs W
  rwa [show (⟨#[105]⟩ : ByteArray).data.toList = [105] from rfl, hi] at this
 obtain ⟨W0, hW0⟩ : ∃ W0, W0 = w.alloc (.cells #[.bool false, .slice none 0 0, .slice none 0 0, .bool false, .slice none 0 0, .slice none 0 0] 148) := ⟨_, rfl⟩
 have hbw : Below w.heap.size w W0 := by rw [hW0]; exact (Below.refl w.heap.size w).alloc (Nat.le_refl _) _
 have hz0 : W0.heap.size = w.heap.size + 1 := by rw [hW0]; simp
 have HBX : Hid (∀ {B : Nat} {w1 : World}, Below B W0 w1 -> w.heap.size < B -> (∀ i, w1.cell? ⟨w.heap.size, i, none⟩ = #[Value.bool false, .slice none 0 0, .slice none 0 0, .bool false, .slice none 0 0, .slice none 0 0][i]?) /\ (∀ i, w1.frozen? ⟨w.heap.size, i, none⟩ = false)) := fun hb hB => by
  rw [hW0] at hb
  exact ⟨fun i => box_keep hb hB i, fun i => box_free hb hB i⟩
 have HBW := Lib.hid hbw; have HT := Lib.hid (ht.below hbw (Nat.le_refl _)); have HCS := Lib.hid hcs2
 clear hbw ht hcs hcs2 hi
 have hpa := fun W => parsed_any s W hs
 have hpz : ∀ W, Calls Tryz.prog 199 #[.string ⟨#[48]⟩] W (ParsedRes (some (false, 0, 1)) W) := fun W => by
  have := parsed_any ⟨#[48]⟩ W (by decide)
  rwa [show parseR (⟨#[48]⟩ : ByteArray).data.toList = some (false, 0, 1) from parse_zero] at this
 have HPA := Lib.hid hpa; have HPZ := Lib.hid hpz
 clear hpa hpz
 by_cases hlen : 8008 < s.size
 · have hg : getR s = none := by rw [getR, if_pos hlen]
   have HG := Lib.hid hg
   clear hg
   go_enter Tryz.func129, Tryz.ntmps129
   have HW0 := Lib.hid hW0
   clear hW0
   go_wp2_with fail
   refine bodyPost_ret (v := .tuple #[.agg #[.bool false, .slice none 0 0, .slice none 0 0, .bool false, .slice none 0 0, .slice none 0 0], .bool false]) (by simp [results, Tryz.results129, go_sem]) rfl ?_
   rw [<- HW0.out]
   exact get_none HG.out HBW.out
 · have hg : getR s = ownD s (parseR s.data.toList) := by rw [getR, if_neg hlen]
   rw [hg]
   clear hg
   go_enter Tryz.func129, Tryz.ntmps129
   go_wp2_with fail
   rw [<- hW0]
   have HW0 := Lib.hid hW0
   clear hW0
   refine (HCS.out _).mono ?_
   rintro e w' ⟨rfl, rfl⟩
   go_wp2_with fail
   refine (HPA.out _).mono ?_
   rintro e w1 ⟨hm1, hb1⟩
   rcases hpr : parseR s.data.toList with _ | ⟨m, n, d⟩
   · rw [hpr] at hm1
     subst hm1
     have hlt : w.heap.size < w1.heap.size := by have := hb1.size; omega
     obtain ⟨f1, f2⟩ := HBX.out hb1 (by omega)
     have q0 := f1 0
     have q1 := f1 1
     have q2 := f1 2
     have q3 := f1 3
     have q4 := f1 4
     have q5 := f1 5
     simp only [List.getElem?_toArray, List.getElem?_cons_succ, List.getElem?_cons_zero] at q0 q1 q2 q3 q4 q5
     have g0 := f2 0
     have g1 := f2 1
     have g2 := f2 2
     have g3 := f2 3
     have g4 := f2 4
     have g5 := f2 5
     clear f1 f2
     have HNO := Lib.hid hpr
     clear hpr
     go_wp2_with fail
     refine bodyPost_ret (v := .tuple #[.agg #[.bool false, .slice none 0 0, .slice none 0 0, .bool false, .slice none 0 0, .slice none 0 0], .bool false]) (by simp [results, Tryz.results129, go_sem, q0, q1, q2, q3, q4, q5, hlt]) rfl ?_
     exact get_none (by rw [HNO.out]; rfl) (((((((((HBW.out.trans (hb1.mono (by omega))).setCell (Nat.le_refl _) _).setCell (Nat.le_refl _) _).setCell (Nat.le_refl _) _).setCell (Nat.le_refl _) _).setCell (Nat.le_refl _) _).setCell (Nat.le_refl _) _)).alloc (by simp; omega) _)
   · rw [hpr] at hm1
     obtain ⟨v1, rfl, hv1⟩ := hm1
     obtain ⟨hn1, hd1, hd0⟩ := parseR_bd hpr
     obtain ⟨sb, hsb⟩ : ∃ sb, sb = (m && decide (n ≠ 0)) := ⟨_, rfl⟩
     obtain ⟨N, hN⟩ : ∃ N, N = n / Nat.gcd n d := ⟨_, rfl⟩
     obtain ⟨D, hD⟩ : ∃ D, D = d / Nat.gcd n d := ⟨_, rfl⟩
     have hod : ownD s (parseR s.data.toList) = if ratT sb N D = s /\ bigQ N D = false then some (sb, N, D) else none := by rw [hpr, hsb, hN, hD]; rfl
     have hNn : N <= n := by rw [hN]; exact Nat.div_le_self _ _
     have hDd : D <= d := by rw [hD]; exact Nat.div_le_self _ _
     have hD0 : D ≠ 0 := by
      rw [hD]
      have h1 := Nat.gcd_dvd_right n d
      have h3 : 0 < Nat.gcd n d := Nat.gcd_pos_of_pos_right _ (by omega)
      have := Nat.div_pos (Nat.le_of_dvd (by omega) h1) h3
      omega
     have hsz8 : s.data.toList.length <= 8008 := by have : s.data.toList.length = s.size := rfl; omega
     have hNd := digits_pow (show N <= 10 ^ s.data.toList.length by omega) hsz8
     have hDd2 := digits_pow (show D <= 10 ^ s.data.toList.length by omega) hsz8
     rw [<- hsb, <- hN, <- hD] at hv1
     have HOD := Lib.hid hod; have HD0 := Lib.hid hD0
     clear hod hsb hN hD hNn hDd hn1 hd1 hd0 hpr hD0 hsz8
     have HV1 := Lib.hid hv1
     obtain ⟨va, vb, rfl, ha, hbb⟩ := hv1
     obtain ⟨aa, ca, rfl⟩ := ha.cases
     obtain ⟨ab, cb, rfl⟩ := hbb.cases
     have HA := Lib.hid ha; have HBB := Lib.hid hbb
     clear ha hbb
     go_wp2_with fail
     refine (HPZ.out _).mono ?_
     rintro e w2 ⟨hm2, hb2⟩
     obtain ⟨v2, rfl, hv2⟩ := hm2
     have hz1 : RatV w2 v2 false 0 1 := by simpa using hv2
     clear hv2
     have HV2 := Lib.hid hz1
     obtain ⟨vc, vd, rfl, hc, hdd⟩ := hz1
     obtain ⟨ac, cc, rfl⟩ := hc.cases
     obtain ⟨ad, cd, rfl⟩ := hdd.cases
     have HC := Lib.hid hc; have HD := Lib.hid hdd
     clear hc hdd
     have hal := (Below.refl w1.heap.size w1).alloc (Nat.le_refl _) (.cells #[.bool sb, .slice aa (dig N).length ca, .slice ab (dig D).length cb] 146)
     have hab := hal.trans (hb2.mono (show w1.heap.size <= (w1.alloc (.cells #[.bool sb, .slice aa (dig N).length ca, .slice ab (dig D).length cb] 146)).heap.size by simp))
     have hbx := hb1.trans (hab.mono hb1.size)
     have hl1 : w1.heap.size < w2.heap.size := by have := hb2.size; simp at this; omega
     have hl0 : w.heap.size < w1.heap.size := by have := hb1.size; omega
     have hl2 : w.heap.size < w2.heap.size := by omega
     obtain ⟨f1, f2⟩ := HBX.out hbx (by omega)
     have q0 := f1 0
     have q1 := f1 1
     have q2 := f1 2
     have q3 := f1 3
     have q4 := f1 4
     have q5 := f1 5
     simp only [List.getElem?_toArray, List.getElem?_cons_succ, List.getElem?_cons_zero] at q0 q1 q2 q3 q4 q5
     have g0 := f2 0
     have g1 := f2 1
     have g2 := f2 2
     have g3 := f2 3
     have g4 := f2 4
     have g5 := f2 5
     clear f1 f2
     have a0 : w2.cell? ⟨w1.heap.size, 0, none⟩ = some (.bool sb) := box_keep hb2 (by simp) 0
     have a1 : w2.cell? ⟨w1.heap.size, 1, none⟩ = some (.slice aa (dig N).length ca) := box_keep hb2 (by simp) 1
     have a2 : w2.cell? ⟨w1.heap.size, 2, none⟩ = some (.slice ab (dig D).length cb) := box_keep hb2 (by simp) 2
     have n1 : ¬ w1.heap.size = w2.heap.size := by omega
     have n2 : ¬ w.heap.size = w2.heap.size := by omega
     have HVV : Hid (∀ W, Below w2.heap.size w2 W -> ValV W (.agg #[.bool sb, .slice aa (dig N).length ca, .slice ab (dig D).length cb, .bool false, .slice ac (dig 0).length cc, .slice ad (dig 1).length cd]) sb N D false 0 1) := fun W hb => ⟨_, _, _, _, rfl, (HA.out.below hab (Nat.le_refl _)).below hb (Nat.le_refl _), (HBB.out.below hab (Nat.le_refl _)).below hb (Nat.le_refl _), HC.out.below hb (Nat.le_refl _), HD.out.below hb (Nat.le_refl _)⟩
     have HTT : Hid (∀ W, Below w2.heap.size w2 W -> Tab W) := fun W hb => (HT.out.below hbx (Nat.le_refl _)).below hb (Nat.le_refl _)
     have hlN := len_of_digits (show Lib.nDigits N <= 10000 by omega)
     have hlD := len_of_digits (show Lib.nDigits D <= 10000 by omega)
     clear hb1 hb2 hal
     go_wp2_with fail
     refine (valText_any _ sb N D false 1 _ (HVV.out _ (((Below.refl _ _).alloc (Nat.le_refl _) _).alloc (by simp) _)) (HTT.out _ (((Below.refl _ _).alloc (Nat.le_refl _) _).alloc (by simp) _)) (by omega) (by omega) HD0.out).mono ?_
     rintro e w3 ⟨rfl, hb3⟩
     have hb23 : Below w2.heap.size w2 w3 := (((Below.refl _ _).alloc (Nat.le_refl _) _).alloc (by simp) _).trans (hb3.mono (by simp; omega))
     have p0 : w3.cell? ⟨w2.heap.size, 0, none⟩ = some (.bool false) := box_keep2 hb3 (by simp; omega) 0
     have p1 : w3.cell? ⟨w2.heap.size, 1, none⟩ = some (.slice ac (dig 0).length cc) := box_keep2 hb3 (by simp; omega) 1
     have p2 : w3.cell? ⟨w2.heap.size, 2, none⟩ = some (.slice ad (dig 1).length cd) := box_keep2 hb3 (by simp; omega) 2
     have c0 : w3.cell? ⟨w2.heap.size + 1, 0, none⟩ = some (.bool sb) := box_keep1 hb3 (by simp) 0
     have c1 : w3.cell? ⟨w2.heap.size + 1, 1, none⟩ = some (.slice aa (dig N).length ca) := box_keep1 hb3 (by simp) 1
     have c2 : w3.cell? ⟨w2.heap.size + 1, 2, none⟩ = some (.slice ab (dig D).length cb) := box_keep1 hb3 (by simp) 2
     have c3 : w3.cell? ⟨w2.heap.size + 1, 3, none⟩ = some (.bool false) := box_keep1 hb3 (by simp) 3
     have c4 : w3.cell? ⟨w2.heap.size + 1, 4, none⟩ = some (.slice ac (dig 0).length cc) := box_keep1 hb3 (by simp) 4
     have c5 : w3.cell? ⟨w2.heap.size + 1, 5, none⟩ = some (.slice ad (dig 1).length cd) := box_keep1 hb3 (by simp) 5
     clear hb3 n1 n2
     generalize hT : ratT sb N D = T at *
     by_cases heq : T = s
     · subst heq
       have e1 : (T.toList == T.toList) = true := by simp
       have A0 := cell_keep a0 hb23 (Nat.le_refl _)
       have A1 := cell_keep a1 hb23 (Nat.le_refl _)
       have A2 := cell_keep a2 hb23 (Nat.le_refl _)
       clear hT
       go_wp2_with fail
       clear A0 A1 A2 e1
       refine (big_any _ sb N D _ ⟨_, _, rfl, (HA.out.below hab (Nat.le_refl _)).below hb23 (Nat.le_refl _), (HBB.out.below hab (Nat.le_refl _)).below hb23 (Nat.le_refl _)⟩ (HTT.out _ hb23) (by omega) (by omega)).mono ?_
       rintro e w4 ⟨rfl, hb4⟩
       have hb24 := hb23.trans (hb4.mono hb23.size)
       rcases hbq : bigQ N D with _ | _
       · have HBQ := Lib.hid hbq
         clear hbq
         have P0 := cell_keep p0 hb4 (Nat.le_refl _)
         have P1 := cell_keep p1 hb4 (Nat.le_refl _)
         have P2 := cell_keep p2 hb4 (Nat.le_refl _)
         go_wp2_with fail
         clear P0 P1 P2
         refine (big_any _ false 0 1 _ ⟨_, _, rfl, HC.out.below hb24 (Nat.le_refl _), HD.out.below hb24 (Nat.le_refl _)⟩ (HTT.out _ hb24) (by rw [dig_zero]; simp) (by rw [dig_1]; simp)).mono ?_
         rw [big_one]
         rintro e w5 ⟨rfl, hb5⟩
         have hb35 := hb4.trans (hb5.mono hb4.size)
         have hb25 := hb24.trans (hb5.mono hb24.size)
         have C0 := cell_keep c0 hb35 (Nat.le_refl _)
         have C1 := cell_keep c1 hb35 (Nat.le_refl _)
         have C2 := cell_keep c2 hb35 (Nat.le_refl _)
         have C3 := cell_keep c3 hb35 (Nat.le_refl _)
         have C4 := cell_keep c4 hb35 (Nat.le_refl _)
         have C5 := cell_keep c5 hb35 (Nat.le_refl _)
         have y0 := cell_keep q0 hb25 (Nat.le_refl _)
         have y1 := cell_keep q1 hb25 (Nat.le_refl _)
         have y2 := cell_keep q2 hb25 (Nat.le_refl _)
         have y3 := cell_keep q3 hb25 (Nat.le_refl _)
         have y4 := cell_keep q4 hb25 (Nat.le_refl _)
         have y5 := cell_keep q5 hb25 (Nat.le_refl _)
         have yg0 := (hb25.frozen (p := ⟨w.heap.size, 0, none⟩) hl2).trans g0
         have yg1 := (hb25.frozen (p := ⟨w.heap.size, 1, none⟩) hl2).trans g1
         have yg2 := (hb25.frozen (p := ⟨w.heap.size, 2, none⟩) hl2).trans g2
         have yg3 := (hb25.frozen (p := ⟨w.heap.size, 3, none⟩) hl2).trans g3
         have yg4 := (hb25.frozen (p := ⟨w.heap.size, 4, none⟩) hl2).trans g4
         have yg5 := (hb25.frozen (p := ⟨w.heap.size, 5, none⟩) hl2).trans g5
         clear a0 a1 a2 p0 p1 p2 c0 c1 c2 c3 c4 c5 q0 q1 q2 q3 q4 q5 g0 g1 g2 g3 g4 g5 hb4 hb5
         go_wp2_with fail
         refine bodyPost_ret (v := .tuple #[.agg #[.bool sb, .slice aa (dig N).length ca, .slice ab (dig D).length cb, .bool false, .slice ac (dig 0).length cc, .slice ad (dig 1).length cd], .bool true]) (by simp [results, Tryz.results129, go_sem, y0, y1, y2, y3, y4, y5]) rfl ?_
         obtain ⟨_, _, _, _, hh, i1, i2, i3, i4⟩ := HVV.out _ hb25
         simp only [Value.agg.injEq, Array.mk.injEq, List.cons.injEq, and_true, true_and] at hh
         obtain ⟨rfl, rfl, rfl, rfl⟩ := hh
         refine get_some (by rw [HOD.out, if_pos ⟨by trivial, HBQ.out⟩]) ⟨_, _, _, _, rfl, i1.box6 y0 y1 y2 y3 y4 y5 trivial trivial trivial trivial trivial trivial, i2.box6 y0 y1 y2 y3 y4 y5 trivial trivial trivial trivial trivial trivial, i3.box6 y0 y1 y2 y3 y4 y5 trivial trivial trivial trivial trivial trivial, i4.box6 y0 y1 y2 y3 y4 y5 trivial trivial trivial trivial trivial trivial⟩ ?_
         exact (((((((HBW.out.trans (hbx.mono (by omega))).trans (hb25.mono (by omega))).setCell (Nat.le_refl _) _).setCell (Nat.le_refl _) _).setCell (Nat.le_refl _) _).setCell (Nat.le_refl _) _).setCell (Nat.le_refl _) _).setCell (Nat.le_refl _) _
       · have HBQ := Lib.hid hbq
         clear hbq
         have y0 := cell_keep q0 hb24 (Nat.le_refl _)
         have y1 := cell_keep q1 hb24 (Nat.le_refl _)
         have y2 := cell_keep q2 hb24 (Nat.le_refl _)
         have y3 := cell_keep q3 hb24 (Nat.le_refl _)
         have y4 := cell_keep q4 hb24 (Nat.le_refl _)
         have y5 := cell_keep q5 hb24 (Nat.le_refl _)
         have yg0 := (hb24.frozen (p := ⟨w.heap.size, 0, none⟩) hl2).trans g0
         have yg1 := (hb24.frozen (p := ⟨w.heap.size, 1, none⟩) hl2).trans g1
         have yg2 := (hb24.frozen (p := ⟨w.heap.size, 2, none⟩) hl2).trans g2
         have yg3 := (hb24.frozen (p := ⟨w.heap.size, 3, none⟩) hl2).trans g3
         have yg4 := (hb24.frozen (p := ⟨w.heap.size, 4, none⟩) hl2).trans g4
         have yg5 := (hb24.frozen (p := ⟨w.heap.size, 5, none⟩) hl2).trans g5
         clear a0 a1 a2 p0 p1 p2 c0 c1 c2 c3 c4 c5 q0 q1 q2 q3 q4 q5 g0 g1 g2 g3 g4 g5 hb4
         go_wp2_with fail
         refine bodyPost_ret (v := .tuple #[.agg #[.bool false, .slice none 0 0, .slice none 0 0, .bool false, .slice none 0 0, .slice none 0 0], .bool false]) (by simp [results, Tryz.results129, go_sem, y0, y1, y2, y3, y4, y5]) rfl ?_
         exact get_none (by rw [HOD.out, if_neg (fun h => by rw [HBQ.out] at h; cases h.2)]) ((((((((HBW.out.trans (hbx.mono (by omega))).trans (hb24.mono (by omega))).setCell (Nat.le_refl _) _).setCell (Nat.le_refl _) _).setCell (Nat.le_refl _) _).setCell (Nat.le_refl _) _).setCell (Nat.le_refl _) _).setCell (Nat.le_refl _) _)
     · have e1 : (T.toList != s.toList) = true := by
        rw [bne_iff_ne]
        intro h
        refine heq ?_
        rw [Lib.toList_data, Lib.toList_data] at h
        cases T; cases s
        simpa using h
       have e2 : (T.toList == s.toList) = false := by rw [beq_eq_false_iff_ne]; exact bne_iff_ne.1 e1
       have HEQ := Lib.hid heq
       have y0 := cell_keep q0 hb23 (Nat.le_refl _)
       have y1 := cell_keep q1 hb23 (Nat.le_refl _)
       have y2 := cell_keep q2 hb23 (Nat.le_refl _)
       have y3 := cell_keep q3 hb23 (Nat.le_refl _)
       have y4 := cell_keep q4 hb23 (Nat.le_refl _)
       have y5 := cell_keep q5 hb23 (Nat.le_refl _)
       have yg0 := (hb23.frozen (p := ⟨w.heap.size, 0, none⟩) hl2).trans g0
       have yg1 := (hb23.frozen (p := ⟨w.heap.size, 1, none⟩) hl2).trans g1
       have yg2 := (hb23.frozen (p := ⟨w.heap.size, 2, none⟩) hl2).trans g2
       have yg3 := (hb23.frozen (p := ⟨w.heap.size, 3, none⟩) hl2).trans g3
       have yg4 := (hb23.frozen (p := ⟨w.heap.size, 4, none⟩) hl2).trans g4
       have yg5 := (hb23.frozen (p := ⟨w.heap.size, 5, none⟩) hl2).trans g5
       clear a0 a1 a2 p0 p1 p2 c0 c1 c2 c3 c4 c5 q0 q1 q2 q3 q4 q5 g0 g1 g2 g3 g4 g5 hT heq
       go_wp2_with fail
       refine bodyPost_ret (v := .tuple #[.agg #[.bool false, .slice none 0 0, .slice none 0 0, .bool false, .slice none 0 0, .slice none 0 0], .bool false]) (by simp [results, Tryz.results129, go_sem, y0, y1, y2, y3, y4, y5]) rfl ?_
       exact get_none (by rw [HOD.out, if_neg (fun h => HEQ.out h.1)]) ((((((((HBW.out.trans (hbx.mono (by omega))).trans (hb23.mono (by omega))).setCell (Nat.le_refl _) _).setCell (Nat.le_refl _) _).setCell (Nat.le_refl _) _).setCell (Nat.le_refl _) _).setCell (Nat.le_refl _) _).setCell (Nat.le_refl _) _)
end Go.Proofs.YtdpjdifoonfcdaaGreatDoor

namespace Go.Proofs.YtdpjdifoonfcdaaGreatDoor
open Go.RowKit
theorem minus_step {la lb os : List Nat} {i x y o b b' : Nat} (hx : la[i]? = some x) (hy : lb.getD i 0 = y) (hl : os.length = i) (h : val (la.take i) + B ^ i * b = val os + val (lb.take i)) (he : x + B * b' = o + y + b) :
 val (la.take (i + 1)) + B ^ (i + 1) * b' = val (os ++ [o]) + val (lb.take (i + 1)) := by
 rw [val_takeD, val_takeD, hy, val_snoc, hl]
 have h1 : la.getD i 0 = x := by simp [List.getD, hx]
 rw [h1, Nat.pow_succ, Nat.mul_assoc]
 have h2 : B ^ i * x + B ^ i * (B * b') = B ^ i * o + B ^ i * y + B ^ i * b := by rw [<- Nat.mul_add, he, Nat.mul_add, Nat.mul_add]
 omega
theorem minus_end {m n b : Nat} {os : List Nat} (hs : Sm os) (hl : os.length = (dig m).length) (hle : n <= m) (h : val ((dig m).take (dig m).length) + B ^ (dig m).length * b = val os + val ((dig n).take (dig m).length)) : val os = m - n := by
 rw [List.take_length, val_dig, List.take_of_length_le (dig_len_mono hle), val_dig] at h
 have h1 := val_lt hs
 rw [hl] at h1
 rcases Nat.eq_zero_or_pos b with h0 | h0
 · subst h0; omega
 · have h2 : B ^ (dig m).length * 1 <= B ^ (dig m).length * b := Nat.mul_le_mul_left _ h0
   omega
theorem set_zer (os : List Nat) (k o i : Nat) (h : os.length = i) : (dgs (os ++ List.replicate (k + 1) 0)).set i (.int .u64 (o : Nat)) = dgs (os ++ [o] ++ List.replicate k 0) := by
 subst h
 rw [List.replicate_succ, dgs_append, List.set_append_right _ _ (by rw [dgs_length]; exact Nat.le_refl _), dgs_length, Nat.sub_self]
 simp [dgs]
set_option maxRecDepth 100000 in
set_option maxHeartbeats 2000000 in
theorem natMinus_any (va vb : Value) (m n : Nat) (w : World) (ha : NatV w va m) (hb : NatV w vb n) (hm : (dig m).length <= 17592186044410) (hle : n <= m) :
 Calls Tryz.prog 255 #[va, vb] w fun e w' => (∃ v, e = .returned v /\ NatV w' v (m - n)) /\ Below w.heap.size w w' := by
 obtain ⟨i0, hi, hz0, hz1, hz2⟩ := info_parts Tryz.infoU64
 obtain ⟨aa, ca, rfl, ha, hac, hac2⟩ := ha
 obtain ⟨ab, cb, rfl, hb0, hbc, hbc2⟩ := hb
 have HA := Lib.hid ha; have HB := Lib.hid hb0
 clear ha hb0
 go_enter Tryz.func255, Tryz.ntmps255
 go_wp2_with (at_make; refine wpList_make_full _ rfl _ _ 144 rfl w.heap.size 208 i0 (.int .u64 0) 1 Tryz.underlying144 hi hz0 hz1 .i64 .i64 _ _ (dig m).length rfl rfl rfl rfl (by rw [hz2]; omega) (by unfold maxLen; omega) (Nat.le_refl _) ?_; intro w1 hown1 hgrow1)
 rw [zeros_dgs] at hown1
 have hb1 := (Below.refl w.heap.size w).grown hgrow1 (Nat.le_refl _) (fun _ h => by cases h)
 clear hgrow1
 have HO := Lib.hid hown1; clear hown1
 go_wp2
 go_loopw [6, 15] (fun bv iv wr => ∃ (i b : Nat) (os : List Nat), i <= (dig m).length /\ iv = .int .i64 i /\ bv = .int .u64 b /\ b <= 1 /\ Sm os /\ val ((dig m).take i) + B ^ i * b = val os + val ((dig n).take i) /\ os.length = i /\ wr.ownsRow w.heap.size 208 1 (.slice (some ⟨w.heap.size, 0, none⟩) (dig m).length (dig m).length) (dig m).length (dgs (os ++ List.replicate ((dig m).length - i) 0)) /\ Below w.heap.size w wr) (fun _ iv _ => (dig m).length - (intOf iv).toNat)
 case atStart => exact ⟨0, 0, [], Nat.zero_le _, rfl, rfl, by omega, fun d hd => by simp at hd, by simp [val], rfl, by simpa using HO.out, hb1⟩
 case round =>
  clear hb1 HO
  obtain ⟨i, b, os, hi9, rfl, rfl, hb1, hsm, heq, hol, hown, hb⟩ := hrel
  by_cases hii : i = (dig m).length
  · have hve := minus_end hsm (by rw [hol, hii]) hle (by rw [<- hii]; exact heq)
    rw [hii, Nat.sub_self, List.replicate_zero, List.append_nil] at hown
    obtain ⟨g, c, hv, hcs⟩ := own_cells hown
    simp only [Value.slice.injEq, true_and] at hv
    obtain ⟨rfl, rfl⟩ := hv
    have hoL : os.length = (dig m).length := by omega
    have hln := lean_any (some ⟨w.heap.size, 0, none⟩) os (dig m).length wr hcs hsm (by omega) (by omega) (by omega)
    rw [hve, hoL] at hln
    have hdl := dig_len_mono (show m - n <= m by omega)
    have hi1 : ¬ (i : Int) < (dig m).length := by omega
    have hi2 : (dig m).length <= i := by omega
    have HLN := Lib.hid hln
    clear hln hcs hown hve heq hsm hol hii hoL
    go_wp2_with fail
    refine HLN.out.mono ?_
    rintro e w2 ⟨⟨rfl, hcl⟩, rfl⟩
    have HCL := Lib.hid hcl; clear hcl
    go_wp2
    go_ret
    exact ⟨⟨_, rfl, _, _, rfl, HCL.out, hdl, by omega⟩, hb⟩
  · have hilt : i < (dig m).length := by omega
    obtain ⟨x, hx⟩ := get_of_lt hilt
    obtain ⟨ba, offa, rfl⟩ := HA.out.addr (dgs_ne (by omega))
    have cx := cell_keep (HA.out.dgs hx) hb (Nat.le_refl _)
    have hxb := sm_get (sm_dig m) hx
    have j0 : (i : Int) < (dig m).length := by omega
    have hrep : (dig m).length - i = ((dig m).length - (i + 1)) + 1 := by omega
    rw [hrep] at hown
    have c2 := hown.cellAt i (by omega)
    rw [show (dgs (os ++ List.replicate (((dig m).length - (i + 1)) + 1) 0))[i]? = some (.int .u64 (0 : Nat)) from by rw [dgs_append, List.getElem?_append_right (by rw [dgs_length]; omega), dgs_length, hol, Nat.sub_self, List.replicate_succ]; rfl] at c2
    have c3 := hown.frozenAt i
    have hsto := fun o : Nat => (hown.stored i (.int .u64 (o : Nat))).1
    have hsz := hb.size
    have hszl : w.heap.size < wr.heap.size := by have := World.block_lt_of_cell? wr _ c2; simpa using this
    have HSTO : Hid (∀ o : Nat, (wr.setCell ⟨w.heap.size, i, none⟩ (.int .u64 (o : Nat))).ownsRow w.heap.size 208 1 (.slice (some ⟨w.heap.size, 0, none⟩) (dig m).length (dig m).length) (dig m).length (dgs (os ++ [o] ++ List.replicate ((dig m).length - (i + 1)) 0))) := fun o => by
     have := hsto o
     rwa [set_zer _ _ _ _ hol] at this
    have HB2 : Hid (∀ o : Nat, Below w.heap.size w (wr.setCell ⟨w.heap.size, i, none⟩ (.int .u64 (o : Nat)))) := fun o => hb.setCell (Nat.le_refl _) _
    have HHX := Lib.hid hx; have HHEQ := Lib.hid heq; have HHSM := Lib.hid hsm; have HHOL := Lib.hid hol
    have hB : B = 1000000000 := rfl
    clear hx heq hsm hol hii hsto hown hrep
    by_cases hib : i < (dig n).length
    · obtain ⟨y, hy⟩ := get_of_lt hib
      obtain ⟨bb, offb, rfl⟩ := HB.out.addr (dgs_ne (by omega))
      have cy := cell_keep (HB.out.dgs hy) hb (Nat.le_refl _)
      have hyb := sm_get (sm_dig n) hy
      have hyd : (dig n).getD i 0 = y := by simp [List.getD, hy]
      have j1 : (i : Int) < (dig n).length := by omega
      by_cases hneg : x < b + y
      · obtain ⟨o, ho⟩ : ∃ o, o = x + B - b - y := ⟨_, rfl⟩
        have e4 : (x : Int) + 1000000000 - ((b : Int) + y) = (o : Int) := by omega
        have HEQ := Lib.hid (minus_step (o := o) (b' := 1) HHX.out hyd HHOL.out HHEQ.out (by omega))
        have HSM := Lib.hid (sm_append HHSM.out (sm_one (d := o) (by omega)))
        have hneg2 : (x : Int) < ((b : Int) + y) := by omega
        clear hy hyd ho hB hneg
        go_wp2
        go_roundw
        case rel => exact ⟨i + 1, 1, os ++ [o], by omega, by go_num, rfl, by omega, HSM.out, HEQ.out, by rw [List.length_append, HHOL.out]; rfl, HSTO.out o, HB2.out o⟩
        case measure => simp [intOf]; omega
      · obtain ⟨o, ho⟩ : ∃ o, o = x - b - y := ⟨_, rfl⟩
        have e4 : (x : Int) - ((b : Int) + y) = (o : Int) := by omega
        have HEQ := Lib.hid (minus_step (o := o) (b' := 0) HHX.out hyd HHOL.out HHEQ.out (by omega))
        have HSM := Lib.hid (sm_append HHSM.out (sm_one (d := o) (by omega)))
        have hneg2 : ¬ (x : Int) < ((b : Int) + y) := by omega
        clear hy hyd ho hB hneg
        go_wp2
        go_roundw
        case rel => exact ⟨i + 1, 0, os ++ [o], by omega, by go_num, rfl, by omega, HSM.out, HEQ.out, by rw [List.length_append, HHOL.out]; rfl, HSTO.out o, HB2.out o⟩
        case measure => simp [intOf]; omega
    · have hyd : (dig n).getD i 0 = 0 := by simp [List.getD, List.getElem?_eq_none (show (dig n).length <= i by omega)]
      have j1 : ¬ (i : Int) < (dig n).length := by omega
      by_cases hneg : x < b + 0
      · obtain ⟨o, ho⟩ : ∃ o, o = x + B - b - 0 := ⟨_, rfl⟩
        have e4 : (x : Int) + 1000000000 - (b : Int) = (o : Int) := by omega
        have HEQ := Lib.hid (minus_step (o := o) (b' := 1) HHX.out hyd HHOL.out HHEQ.out (by omega))
        have HSM := Lib.hid (sm_append HHSM.out (sm_one (d := o) (by omega)))
        have hneg2 : (x : Int) < (b : Int) := by omega
        clear  hyd ho hB hneg
        go_wp2
        go_roundw
        case rel => exact ⟨i + 1, 1, os ++ [o], by omega, by go_num, rfl, by omega, HSM.out, HEQ.out, by rw [List.length_append, HHOL.out]; rfl, HSTO.out o, HB2.out o⟩
        case measure => simp [intOf]; omega
      · obtain ⟨o, ho⟩ : ∃ o, o = x - b - 0 := ⟨_, rfl⟩
        have e4 : (x : Int) - (b : Int) = (o : Int) := by omega
        have HEQ := Lib.hid (minus_step (o := o) (b' := 0) HHX.out hyd HHOL.out HHEQ.out (by omega))
        have HSM := Lib.hid (sm_append HHSM.out (sm_one (d := o) (by omega)))
        have hneg2 : ¬ (x : Int) < (b : Int) := by omega
        clear  hyd ho hB hneg
        go_wp2
        go_roundw
        case rel => exact ⟨i + 1, 0, os ++ [o], by omega, by go_num, rfl, by omega, HSM.out, HEQ.out, by rw [List.length_append, HHOL.out]; rfl, HSTO.out o, HB2.out o⟩
        case measure => simp [intOf]; omega
theorem natTimes_any (va vb : Value) (m n : Nat) (w : World) (ha : NatV w va m) (hb : NatV w vb n) (hl : (dig m).length + (dig n).length <= 17592186044416) :
 Calls Tryz.prog 221 #[va, vb] w fun e w' => (∃ v, e = .returned v /\ NatV w' v (m * n)) /\ Below w.heap.size w w' := by
 obtain ⟨aa, ca, rfl, ha, _⟩ := ha
 obtain ⟨ab, cb, rfl, hb0, _⟩ := hb
 refine (times_lists aa ab (dig m) (dig n) ca cb w ha hb0 (sm_dig m) (sm_dig n) hl).mono ?_
 rintro e w' ⟨⟨v, rfl, ho⟩, hb⟩
 rw [val_dig, val_dig] at ho
 exact ⟨⟨v, rfl, natV_own ho⟩, hb⟩
theorem natCmp_any (va vb : Value) (m n : Nat) (w : World) (ha : NatV w va m) (hb : NatV w vb n) (hm : (dig m).length <= 4611686018427387904) (hn : (dig n).length <= 4611686018427387904) :
 Calls Tryz.prog 113 #[va, vb] w fun e w' => e = .returned (.int .i64 (cmpN m n)) /\ Below w.heap.size w w' := by
 obtain ⟨aa, ca, rfl, ha, _⟩ := ha
 obtain ⟨ab, cb, rfl, hb0, _⟩ := hb
 exact compare_any aa ab m n ca cb w ha hb0 hm hn
def adS (s : Bool) (m : Nat) (t : Bool) (n : Nat) : Bool := if s = t then s else if n <= m then s else t
def adN (s : Bool) (m : Nat) (t : Bool) (n : Nat) : Nat := if s = t then m + n else if n <= m then m - n else n - m
theorem adN_le (s : Bool) (m : Nat) (t : Bool) (n : Nat) : adN s m t n <= m + n := by unfold adN; split <;> (try split) <;> omega
def AddedRes (s : Bool) (m : Nat) (t : Bool) (n : Nat) (w : World) (e : Ending) (w' : World) : Prop := (∃ v, e = .returned (.tuple #[.bool (adS s m t n), v]) /\ NatV w' v (adN s m t n)) /\ Below w.heap.size w w'
set_option maxRecDepth 100000 in
theorem added_any (s t : Bool) (va vb : Value) (m n : Nat) (w : World) (ha : NatV w va m) (hb : NatV w vb n) (hm : (dig m).length <= 17592186044410) (hn : (dig n).length <= 17592186044410) :
 Calls Tryz.prog 224 #[.bool s, va, .bool t, vb] w (AddedRes s m t n w) := by
 have HA := Lib.hid ha; have HB := Lib.hid hb
 obtain ⟨aa, ca, rfl⟩ := ha.cases
 obtain ⟨ab, cb, rfl⟩ := hb.cases
 clear ha hb
 by_cases hst : s = t
 · subst hst
   have e1 : adS s m s n = s := by simp [adS]
   have e2 : adN s m s n = m + n := by simp [adN]
   have E1 := Lib.hid e1; have E2 := Lib.hid e2
   clear e1 e2
   cases s
   all_goals
    go_enter Tryz.func224, Tryz.ntmps224
    go_wp2_with fail
    refine (natPlus_any _ _ m n _ HA.out HB.out hm hn).mono ?_
    rintro e w1 ⟨⟨v1, rfl, hv1⟩, hb1⟩
    have HV := Lib.hid hv1
    obtain ⟨a1, c1, rfl⟩ := hv1.cases
    clear hv1
    go_wp2
    go_ret2
    exact ⟨⟨_, by rw [E1.out]; rfl, by rw [E2.out]; exact HV.out⟩, hb1⟩
 · have hb0 : (s == t) = false := by simpa using hst
   by_cases hle : n <= m
   · have e1 : adS s m t n = s := by simp [adS, hst, hle]
     have e2 : adN s m t n = m - n := by simp [adN, hst, hle]
     have hc : (0 : Int) <= cmpN m n := by
      rcases Nat.lt_or_ge n m with h | h
      · rw [cmpN_gt h]; omega
      · rw [show m = n by omega, cmpN_eq]; omega
     have E1 := Lib.hid e1; have E2 := Lib.hid e2
     clear e1 e2 hst
     go_enter Tryz.func224, Tryz.ntmps224
     go_wp2_with fail
     refine (natCmp_any _ _ m n _ HA.out HB.out (by omega) (by omega)).mono ?_
     rintro e w0 ⟨rfl, hb0⟩
     go_wp2_with fail
     refine (natMinus_any _ _ m n _ (HA.out.below hb0 (Nat.le_refl _)) (HB.out.below hb0 (Nat.le_refl _)) hm hle).mono ?_
     rintro e w1 ⟨⟨v1, rfl, hv1⟩, hb1⟩
     replace hb1 := hb0.trans (hb1.mono hb0.size)
     have HV := Lib.hid hv1
     obtain ⟨a1, c1, rfl⟩ := hv1.cases
     clear hv1
     go_wp2
     go_ret2
     exact ⟨⟨_, by rw [E1.out]; rfl, by rw [E2.out]; exact HV.out⟩, hb1⟩
   · have e1 : adS s m t n = t := by simp [adS, hst, hle]
     have e2 : adN s m t n = n - m := by simp [adN, hst, hle]
     have hc : cmpN m n < 0 := by rw [cmpN_lt (by omega)]; omega
     have E1 := Lib.hid e1; have E2 := Lib.hid e2
     clear e1 e2 hst
     go_enter Tryz.func224, Tryz.ntmps224
     go_wp2_with fail
     refine (natCmp_any _ _ m n _ HA.out HB.out (by omega) (by omega)).mono ?_
     rintro e w0 ⟨rfl, hb0⟩
     go_wp2_with fail
     refine (natMinus_any _ _ n m _ (HB.out.below hb0 (Nat.le_refl _)) (HA.out.below hb0 (Nat.le_refl _)) hn (by omega)).mono ?_
     rintro e w1 ⟨⟨v1, rfl, hv1⟩, hb1⟩
     replace hb1 := hb0.trans (hb1.mono hb0.size)
     have HV := Lib.hid hv1
     obtain ⟨a1, c1, rfl⟩ := hv1.cases
     clear hv1
     go_wp2
     go_ret2
     exact ⟨⟨_, by rw [E1.out]; rfl, by rw [E2.out]; exact HV.out⟩, hb1⟩
end Go.Proofs.YtdpjdifoonfcdaaGreatDoor

namespace Go.Proofs.YtdpjdifoonfcdaaGreatDoor
open Go.RowKit
theorem dig_mul_len (a b : Nat) : (dig (a * b)).length <= (dig a).length + (dig b).length := by
 refine dig_len_lt ?_
 rw [Nat.pow_add]
 exact Nat.mul_lt_mul'' (lt_pow_len a) (lt_pow_len b)
theorem dig_add_len {a b k : Nat} (ha : (dig a).length <= k) (hb : (dig b).length <= k) : (dig (a + b)).length <= k + 1 := by
 refine dig_len_lt ?_
 have h1 := Nat.lt_of_lt_of_le (lt_pow_len a) (Nat.pow_le_pow_right B_pos ha)
 have h2 := Nat.lt_of_lt_of_le (lt_pow_len b) (Nat.pow_le_pow_right B_pos hb)
 rw [Nat.pow_succ]
 have : B ^ k * 2 <= B ^ k * B := Nat.mul_le_mul_left _ (by decide)
 omega
theorem boxes3 {w w1 : World} {A1 A2 A3 : Array Value} {T1 T2 T3 : TypeId} {B : Nat} (hb : Below B (((w.alloc (.cells A1 T1)).alloc (.cells A2 T2)).alloc (.cells A3 T3)) w1) (hB : w.heap.size + 2 < B) :
 (∀ i, w1.cell? ⟨w.heap.size, i, none⟩ = A1[i]?) /\ (∀ i, w1.cell? ⟨w.heap.size + 1, i, none⟩ = A2[i]?) /\ (∀ i, w1.cell? ⟨w.heap.size + 2, i, none⟩ = A3[i]?) /\ (∀ i, w1.frozen? ⟨w.heap.size + 2, i, none⟩ = false) := by
 refine ⟨fun i => ?_, fun i => ?_, fun i => ?_, fun i => ?_⟩
 · rw [hb.cell (p := ⟨w.heap.size, i, none⟩) (show w.heap.size < B by omega), World.cell?_alloc_old _ _ _ (by simp; omega), World.cell?_alloc_old _ _ _ (by simp)]; simp
 · rw [hb.cell (p := ⟨w.heap.size + 1, i, none⟩) (show w.heap.size + 1 < B by omega)]
   have := box_keep (w := w.alloc (.cells A1 T1)) (B := w.heap.size + 3) (Below.refl _ ((((w.alloc (.cells A1 T1)).alloc (.cells A2 T2)))) ) (by simp) i
   rw [World.cell?_alloc_old _ _ _ (by simp)]
   rw [World.size_alloc] at this
   exact this
 · have := box_keep (w := (w.alloc (.cells A1 T1)).alloc (.cells A2 T2)) hb (by simp; omega) i
   simpa using this
 · have := box_free (w := (w.alloc (.cells A1 T1)).alloc (.cells A2 T2)) hb (by simp; omega) i
   simpa using this
def rpU (s1 : Bool) (n1 d1 : Nat) (s2 : Bool) (n2 d2 : Nat) : Nat := adN s1 (n1 * d2) s2 (n2 * d1)
def rpS (s1 : Bool) (n1 d1 : Nat) (s2 : Bool) (n2 d2 : Nat) : Bool := adS s1 (n1 * d2) s2 (n2 * d1) && decide (rpU s1 n1 d1 s2 n2 d2 ≠ 0)
def rpN (s1 : Bool) (n1 d1 : Nat) (s2 : Bool) (n2 d2 : Nat) : Nat := rpU s1 n1 d1 s2 n2 d2 / Nat.gcd (rpU s1 n1 d1 s2 n2 d2) (d1 * d2)
def rpD (s1 : Bool) (n1 d1 : Nat) (s2 : Bool) (n2 d2 : Nat) : Nat := d1 * d2 / Nat.gcd (rpU s1 n1 d1 s2 n2 d2) (d1 * d2)
def RatRes (s : Bool) (n d : Nat) (w : World) (e : Ending) (w' : World) : Prop := (∃ v, e = .returned v /\ RatV w' v s n d) /\ Below w.heap.size w w'
theorem RatV.slices {w : World} {v : Value} {s : Bool} {n d : Nat} (h : RatV w v s n d) : ∃ a c a2 c2, v = .agg #[.bool s, .slice a (dig n).length c, .slice a2 (dig d).length c2] /\ NatV w (.slice a (dig n).length c) n /\ NatV w (.slice a2 (dig d).length c2) d := by
 obtain ⟨va, vb, rfl, ha, hb⟩ := h
 obtain ⟨aa, ca, rfl⟩ := ha.cases
 obtain ⟨ab, cb, rfl⟩ := hb.cases
 exact ⟨_, _, _, _, rfl, ha, hb⟩
set_option maxRecDepth 100000 in
set_option maxHeartbeats 4000000 in
theorem ratPlus_any (v1 v2 : Value) (s1 : Bool) (n1 d1 : Nat) (s2 : Bool) (n2 d2 : Nat) (w : World) (h1 : RatV w v1 s1 n1 d1) (h2 : RatV w v2 s2 n2 d2) (hd1 : d1 ≠ 0) (hd2 : d2 ≠ 0)
 (l1 : (dig n1).length <= 1000000000) (l2 : (dig d1).length <= 1000000000) (l3 : (dig n2).length <= 1000000000) (l4 : (dig d2).length <= 1000000000) :
 Calls Tryz.prog 162 #[v1, v2] w (RatRes (rpS s1 n1 d1 s2 n2 d2) (rpN s1 n1 d1 s2 n2 d2) (rpD s1 n1 d1 s2 n2 d2) w) := by
 obtain ⟨a1, c1, a2, c2, rfl, k1, k2⟩ := h1.slices
 obtain ⟨a3, c3, a4, c4, rfl, k3, k4⟩ := h2.slices
 have m1 := dig_mul_len n1 d2
 have m2 := dig_mul_len n2 d1
 have m3 := dig_mul_len d1 d2
 have m4 := dig_len_mono (adN_le s1 (n1 * d2) s2 (n2 * d1))
 have m5 := dig_add_len (a := n1 * d2) (b := n2 * d1) (k := 2000000000) (by omega) (by omega)
 have m6 : (dig (rpU s1 n1 d1 s2 n2 d2)).length <= 2000000001 := Nat.le_trans m4 m5
 have hd0 : d1 * d2 ≠ 0 := Nat.mul_ne_zero hd1 hd2
 have hal : Below w.heap.size w (((w.alloc (.cells #[.bool s1, .slice a1 (dig n1).length c1, .slice a2 (dig d1).length c2] 146)).alloc (.cells #[.bool s2, .slice a3 (dig n2).length c3, .slice a4 (dig d2).length c4] 146)).alloc (.cells #[.bool false, .slice none 0 0, .slice none 0 0] 146)) := (((Below.refl w.heap.size w).alloc (Nat.le_refl _) _).alloc (by simp) _).alloc (by simp; omega) _
 obtain ⟨W3, hW3⟩ : ∃ W3, W3 = (((w.alloc (.cells #[.bool s1, .slice a1 (dig n1).length c1, .slice a2 (dig d1).length c2] 146)).alloc (.cells #[.bool s2, .slice a3 (dig n2).length c3, .slice a4 (dig d2).length c4] 146)).alloc (.cells #[.bool false, .slice none 0 0, .slice none 0 0] 146)) := ⟨_, rfl⟩
 have hz3 : W3.heap.size = w.heap.size + 3 := by rw [hW3]; simp
 have HBX : Hid (∀ {B : Nat} {w1 : World}, Below B W3 w1 -> w.heap.size + 2 < B -> (∀ i, w1.cell? ⟨w.heap.size, i, none⟩ = #[Value.bool s1, .slice a1 (dig n1).length c1, .slice a2 (dig d1).length c2][i]?) /\ (∀ i, w1.cell? ⟨w.heap.size + 1, i, none⟩ = #[Value.bool s2, .slice a3 (dig n2).length c3, .slice a4 (dig d2).length c4][i]?) /\ (∀ i, w1.cell? ⟨w.heap.size + 2, i, none⟩ = #[Value.bool false, .slice none 0 0, .slice none 0 0][i]?) /\ (∀ i, w1.frozen? ⟨w.heap.size + 2, i, none⟩ = false)) := fun hb hB => by rw [hW3] at hb; exact boxes3 hb hB
 rw [<- hW3] at hal
 have HT1 : Hid (∀ W, Below W3.heap.size W3 W -> Calls Tryz.prog 221 #[.slice a1 (dig n1).length c1, .slice a4 (dig d2).length c4] W fun e w' => (∃ v, e = .returned v /\ NatV w' v (n1 * d2)) /\ Below W.heap.size W w') := fun W hb => natTimes_any _ _ n1 d2 W ((k1.below hal (Nat.le_refl _)).below hb (Nat.le_refl _)) ((k4.below hal (Nat.le_refl _)).below hb (Nat.le_refl _)) (by omega)
 have HT2 : Hid (∀ W, Below W3.heap.size W3 W -> Calls Tryz.prog 221 #[.slice a3 (dig n2).length c3, .slice a2 (dig d1).length c2] W fun e w' => (∃ v, e = .returned v /\ NatV w' v (n2 * d1)) /\ Below W.heap.size W w') := fun W hb => natTimes_any _ _ n2 d1 W ((k3.below hal (Nat.le_refl _)).below hb (Nat.le_refl _)) ((k2.below hal (Nat.le_refl _)).below hb (Nat.le_refl _)) (by omega)
 have HT3 : Hid (∀ W, Below W3.heap.size W3 W -> Calls Tryz.prog 221 #[.slice a2 (dig d1).length c2, .slice a4 (dig d2).length c4] W fun e w' => (∃ v, e = .returned v /\ NatV w' v (d1 * d2)) /\ Below W.heap.size W w') := fun W hb => natTimes_any _ _ d1 d2 W ((k2.below hal (Nat.le_refl _)).below hb (Nat.le_refl _)) ((k4.below hal (Nat.le_refl _)).below hb (Nat.le_refl _)) (by omega)
 have HAD : Hid (∀ va vb W, NatV W va (n1 * d2) -> NatV W vb (n2 * d1) -> Calls Tryz.prog 224 #[.bool s1, va, .bool s2, vb] W (AddedRes s1 (n1 * d2) s2 (n2 * d1) W)) := fun va vb W ha hb => added_any s1 s2 va vb _ _ W ha hb (by omega) (by omega)
 have HRD : Hid (∀ va vb W, NatV W va (adN s1 (n1 * d2) s2 (n2 * d1)) -> NatV W vb (d1 * d2) -> Calls Tryz.prog 85 #[.bool (adS s1 (n1 * d2) s2 (n2 * d1)), va, vb] W fun e w' => (∃ v, e = .returned v /\ RatV w' v (rpS s1 n1 d1 s2 n2 d2) (rpN s1 n1 d1 s2 n2 d2) (rpD s1 n1 d1 s2 n2 d2)) /\ Below W.heap.size W w') := fun va vb W ha hb => reduced_any (d1 * d2 + 1) (overOK_all _) _ va vb _ _ W ha hb (Nat.le_trans m6 (by decide)) (by omega) (by omega) hd0
 obtain ⟨ps, hps⟩ : ∃ ps, ps = rpS s1 n1 d1 s2 n2 d2 := ⟨_, rfl⟩
 obtain ⟨pn, hpn⟩ : ∃ pn, pn = rpN s1 n1 d1 s2 n2 d2 := ⟨_, rfl⟩
 obtain ⟨pd, hpd⟩ : ∃ pd, pd = rpD s1 n1 d1 s2 n2 d2 := ⟨_, rfl⟩
 rw [<- hps, <- hpn, <- hpd] at HRD ⊢
 have HBW := Lib.hid hal
 obtain ⟨q0, q1, q2, -⟩ := HBX.out (Below.refl (w.heap.size + 3) W3) (by omega)
 have q00 := q0 0
 have q01 := q0 1
 have q02 := q0 2
 have q10 := q1 0
 have q11 := q1 1
 have q12 := q1 2
 simp only [List.getElem?_toArray, List.getElem?_cons_succ, List.getElem?_cons_zero] at q00 q01 q02 q10 q11 q12
 clear q0 q1 q2 hal h1 h2 k1 k2 k3 k4 m1 m2 m3 m4 m5 m6 hd0 hd1 hd2 hps hpn hpd
 go_enter Tryz.func162, Tryz.ntmps162
 go_wp2_with fail
 rw [<- hW3]
 have HW3 := Lib.hid hW3
 clear hW3
 go_region_held3 (fun w' => w'.cell? ⟨w.heap.size, 0, none⟩ = some (.bool s1) /\ w'.cell? ⟨w.heap.size, 1, none⟩ = some (.slice a1 (dig n1).length c1) /\ w'.cell? ⟨w.heap.size, 2, none⟩ = some (.slice a2 (dig d1).length c2) /\ w'.cell? ⟨w.heap.size + 1, 0, none⟩ = some (.bool s2) /\ w'.cell? ⟨w.heap.size + 1, 1, none⟩ = some (.slice a3 (dig n2).length c3) /\ w'.cell? ⟨w.heap.size + 1, 2, none⟩ = some (.slice a4 (dig d2).length c4))
  (first | exact ⟨q00, q01, q02, q10, q11, q12⟩ | exact ⟨cell_keep q00 hbz (Nat.le_refl _), cell_keep q01 hbz (Nat.le_refl _), cell_keep q02 hbz (Nat.le_refl _), cell_keep q10 hbz (Nat.le_refl _), cell_keep q11 hbz (Nat.le_refl _), cell_keep q12 hbz (Nat.le_refl _)⟩ | go_keep)
  (first
   | (go_at_call 221; (with_reducible refine Calls.mono (HT1.out W3.drew ((Below.refl W3.heap.size W3).drew)) ?_); rintro e w4 ⟨⟨v4, rfl, h4⟩, hb4⟩; obtain ⟨a5, c5, rfl⟩ := h4.cases; have hbz : Below W3.heap.size W3 w4 := ((Below.refl W3.heap.size W3).drew).trans hb4; have HB4 := Lib.hid hbz; have H4 := Lib.hid h4; clear h4 hb4)
   | (go_at_call 221; (with_reducible refine Calls.mono (HT2.out w4 HB4.out) ?_); rintro e w5 ⟨⟨v5, rfl, h5⟩, hb5⟩; obtain ⟨a6, c6, rfl⟩ := h5.cases; have hbz : Below W3.heap.size W3 w5 := HB4.out.trans (hb5.mono HB4.out.size); have HB5 := Lib.hid hbz; have H45 := Lib.hid (H4.out.below hb5 (Nat.le_refl _)); have H5 := Lib.hid h5; clear h5 hb5)
   | (go_at_call 224; (with_reducible refine Calls.mono (HAD.out _ _ w5 H45.out H5.out) ?_); rintro e w6 ⟨⟨v6, rfl, h6⟩, hb6⟩; obtain ⟨a7, c7, rfl⟩ := h6.cases; have hbz : Below W3.heap.size W3 w6 := HB5.out.trans (hb6.mono HB5.out.size); have HB6 := Lib.hid hbz; have H6 := Lib.hid h6; clear h6 hb6))
 clear hbz q00 q01 q02 q10 q11 q12
 obtain ⟨q0, q1, -, -⟩ := HBX.out HB6.out (by omega)
 have q02 := q0 2
 have q12 := q1 2
 simp only [List.getElem?_toArray, List.getElem?_cons_succ, List.getElem?_cons_zero] at q02 q12
 clear q0 q1
 go_wp2_with fail
 clear q02 q12
 refine (HT3.out w6 HB6.out).mono ?_
 rintro e w7 ⟨⟨v7, rfl, h7⟩, hb7⟩
 have HB7 := Lib.hid (HB6.out.trans (hb7.mono HB6.out.size))
 have H67 := Lib.hid (H6.out.below hb7 (Nat.le_refl _))
 clear hb7
 go_wp2_with fail
 refine (HRD.out _ _ w7 H67.out h7).mono ?_
 rintro e w8 ⟨⟨v8, rfl, h8⟩, hb8⟩
 have HB8 := Lib.hid (HB7.out.trans (hb8.mono HB7.out.size))
 obtain ⟨a8, c8, a9, c9, rfl, k8, k9⟩ := h8.slices
 have K8 := Lib.hid k8; have K9 := Lib.hid k9
 clear h8 h7 hb8 k8 k9
 obtain ⟨-, -, q2, f2⟩ := HBX.out HB8.out (by omega)
 have q20 := q2 0
 have q21 := q2 1
 have q22 := q2 2
 simp only [List.getElem?_toArray, List.getElem?_cons_succ, List.getElem?_cons_zero] at q20 q21 q22
 have f0 := f2 0
 have f1 := f2 1
 have f3 := f2 2
 clear q2 f2
 have hbw := HBW.out.trans (HB8.out.mono (by omega))
 have hle : w.heap.size <= w.heap.size + 1 + 1 := by omega
 go_wp2
 refine bodyPost_ret (v := .agg #[.bool ps, .slice a8 (dig pn).length c8, .slice a9 (dig pd).length c9]) (by simp [results, Tryz.results162, go_sem, q20, q21, q22]) rfl ?_
 exact ⟨⟨_, rfl, _, _, rfl, K8.out.box3 q20 q21 q22 trivial trivial trivial, K9.out.box3 q20 q21 q22 trivial trivial trivial⟩, ((hbw.setCell hle _).setCell hle _).setCell hle _⟩
end Go.Proofs.YtdpjdifoonfcdaaGreatDoor

namespace Go.Proofs.YtdpjdifoonfcdaaGreatDoor
open Go.RowKit
theorem ValV.slices {w : World} {v : Value} {s : Bool} {n d : Nat} (h : ValV w v s n d false 0 1) : ∃ a1 c1 a2 c2 a3 c3 a4 c4, v = .agg #[.bool s, .slice a1 (dig n).length c1, .slice a2 (dig d).length c2, .bool false, .slice a3 (dig 0).length c3, .slice a4 (dig 1).length c4] /\ NatV w (.slice a1 (dig n).length c1) n /\ NatV w (.slice a2 (dig d).length c2) d /\ NatV w (.slice a3 (dig 0).length c3) 0 /\ NatV w (.slice a4 (dig 1).length c4) 1 := by
 obtain ⟨va, vb, vc, vd, rfl, ha, hb, hc, hd⟩ := h
 obtain ⟨aa, ca, rfl⟩ := ha.cases
 obtain ⟨ab, cb, rfl⟩ := hb.cases
 obtain ⟨ac, cc, rfl⟩ := hc.cases
 obtain ⟨ad, cd, rfl⟩ := hd.cases
 exact ⟨_, _, _, _, _, _, _, _, rfl, ha, hb, hc, hd⟩
def ValRes (s : Bool) (n d : Nat) (w : World) (e : Ending) (w' : World) : Prop := (∃ v, e = .returned v /\ ValV w' v s n d false 0 1) /\ Below w.heap.size w w'
theorem rp_zero : rpS false 0 1 false 0 1 = false /\ rpN false 0 1 false 0 1 = 0 /\ rpD false 0 1 false 0 1 = 1 := by decide
set_option maxRecDepth 100000 in
set_option maxHeartbeats 4000000 in
theorem valPlus_any (v1 v2 : Value) (s1 : Bool) (n1 d1 : Nat) (s2 : Bool) (n2 d2 : Nat) (w : World) (h1 : ValV w v1 s1 n1 d1 false 0 1) (h2 : ValV w v2 s2 n2 d2 false 0 1) (hd1 : d1 ≠ 0) (hd2 : d2 ≠ 0)
 (l1 : (dig n1).length <= 1000000000) (l2 : (dig d1).length <= 1000000000) (l3 : (dig n2).length <= 1000000000) (l4 : (dig d2).length <= 1000000000) :
 Calls Tryz.prog 138 #[v1, v2] w (ValRes (rpS s1 n1 d1 s2 n2 d2) (rpN s1 n1 d1 s2 n2 d2) (rpD s1 n1 d1 s2 n2 d2) w) := by
 obtain ⟨a1, c1, a2, c2, a3, c3, a4, c4, rfl, k1, k2, k3, k4⟩ := h1.slices
 obtain ⟨b1, e1, b2, e2, b3, e3, b4, e4, rfl, j1, j2, j3, j4⟩ := h2.slices
 have hal : Below w.heap.size w (((w.alloc (.cells #[.bool s1, .slice a1 (dig n1).length c1, .slice a2 (dig d1).length c2, .bool false, .slice a3 (dig 0).length c3, .slice a4 (dig 1).length c4] 148)).alloc (.cells #[.bool s2, .slice b1 (dig n2).length e1, .slice b2 (dig d2).length e2, .bool false, .slice b3 (dig 0).length e3, .slice b4 (dig 1).length e4] 148)).alloc (.cells #[.bool false, .slice none 0 0, .slice none 0 0, .bool false, .slice none 0 0, .slice none 0 0] 148)) := (((Below.refl w.heap.size w).alloc (Nat.le_refl _) _).alloc (by simp) _).alloc (by simp; omega) _
 obtain ⟨W3, hW3⟩ : ∃ W3, W3 = (((w.alloc (.cells #[.bool s1, .slice a1 (dig n1).length c1, .slice a2 (dig d1).length c2, .bool false, .slice a3 (dig 0).length c3, .slice a4 (dig 1).length c4] 148)).alloc (.cells #[.bool s2, .slice b1 (dig n2).length e1, .slice b2 (dig d2).length e2, .bool false, .slice b3 (dig 0).length e3, .slice b4 (dig 1).length e4] 148)).alloc (.cells #[.bool false, .slice none 0 0, .slice none 0 0, .bool false, .slice none 0 0, .slice none 0 0] 148)) := ⟨_, rfl⟩
 have hz3 : W3.heap.size = w.heap.size + 3 := by rw [hW3]; simp
 have HBX : Hid (∀ {B : Nat} {w1 : World}, Below B W3 w1 -> w.heap.size + 2 < B -> (∀ i, w1.cell? ⟨w.heap.size, i, none⟩ = #[Value.bool s1, .slice a1 (dig n1).length c1, .slice a2 (dig d1).length c2, .bool false, .slice a3 (dig 0).length c3, .slice a4 (dig 1).length c4][i]?) /\ (∀ i, w1.cell? ⟨w.heap.size + 1, i, none⟩ = #[Value.bool s2, .slice b1 (dig n2).length e1, .slice b2 (dig d2).length e2, .bool false, .slice b3 (dig 0).length e3, .slice b4 (dig 1).length e4][i]?) /\ (∀ i, w1.cell? ⟨w.heap.size + 2, i, none⟩ = #[Value.bool false, .slice none 0 0, .slice none 0 0, .bool false, .slice none 0 0, .slice none 0 0][i]?) /\ (∀ i, w1.frozen? ⟨w.heap.size + 2, i, none⟩ = false)) := fun hb hB => by rw [hW3] at hb; exact boxes3 hb hB
 rw [<- hW3] at hal
 have HP1 : Hid (∀ W, Below W3.heap.size W3 W -> Calls Tryz.prog 162 #[.agg #[.bool s1, .slice a1 (dig n1).length c1, .slice a2 (dig d1).length c2], .agg #[.bool s2, .slice b1 (dig n2).length e1, .slice b2 (dig d2).length e2]] W (RatRes (rpS s1 n1 d1 s2 n2 d2) (rpN s1 n1 d1 s2 n2 d2) (rpD s1 n1 d1 s2 n2 d2) W)) := fun W hb => ratPlus_any _ _ s1 n1 d1 s2 n2 d2 W ⟨_, _, rfl, (k1.below hal (Nat.le_refl _)).below hb (Nat.le_refl _), (k2.below hal (Nat.le_refl _)).below hb (Nat.le_refl _)⟩ ⟨_, _, rfl, (j1.below hal (Nat.le_refl _)).below hb (Nat.le_refl _), (j2.below hal (Nat.le_refl _)).below hb (Nat.le_refl _)⟩ hd1 hd2 l1 l2 l3 l4
 have HP2 : Hid (∀ W, Below W3.heap.size W3 W -> Calls Tryz.prog 162 #[.agg #[.bool false, .slice a3 (dig 0).length c3, .slice a4 (dig 1).length c4], .agg #[.bool false, .slice b3 (dig 0).length e3, .slice b4 (dig 1).length e4]] W (RatRes false 0 1 W)) := fun W hb => by
  have := ratPlus_any _ _ false 0 1 false 0 1 W ⟨_, _, rfl, (k3.below hal (Nat.le_refl _)).below hb (Nat.le_refl _), (k4.below hal (Nat.le_refl _)).below hb (Nat.le_refl _)⟩ ⟨_, _, rfl, (j3.below hal (Nat.le_refl _)).below hb (Nat.le_refl _), (j4.below hal (Nat.le_refl _)).below hb (Nat.le_refl _)⟩ (by decide) (by decide) (by rw [dig_zero]; simp) (by rw [dig_1]; simp) (by rw [dig_zero]; simp) (by rw [dig_1]; simp)
  rwa [rp_zero.1, rp_zero.2.1, rp_zero.2.2] at this
 obtain ⟨ps, hps⟩ : ∃ ps, ps = rpS s1 n1 d1 s2 n2 d2 := ⟨_, rfl⟩
 obtain ⟨pn, hpn⟩ : ∃ pn, pn = rpN s1 n1 d1 s2 n2 d2 := ⟨_, rfl⟩
 obtain ⟨pd, hpd⟩ : ∃ pd, pd = rpD s1 n1 d1 s2 n2 d2 := ⟨_, rfl⟩
 rw [<- hps, <- hpn, <- hpd] at HP1 ⊢
 have HBW := Lib.hid hal
 obtain ⟨f0, f1, -, -⟩ := HBX.out (Below.refl (w.heap.size + 3) W3) (by omega)
 have x0 := f0 0
 have x1 := f0 1
 have x2 := f0 2
 have x3 := f0 3
 have x4 := f0 4
 have x5 := f0 5
 have y0 := f1 0
 have y1 := f1 1
 have y2 := f1 2
 have y3 := f1 3
 have y4 := f1 4
 have y5 := f1 5
 simp only [List.getElem?_toArray, List.getElem?_cons_succ, List.getElem?_cons_zero] at x0 x1 x2 x3 x4 x5 y0 y1 y2 y3 y4 y5
 clear f0 f1 hal h1 h2 k1 k2 k3 k4 j1 j2 j3 j4 hd1 hd2 hps hpn hpd
 go_enter Tryz.func138, Tryz.ntmps138
 go_wp2_with fail
 rw [<- hW3]
 have HW3 := Lib.hid hW3
 clear hW3
 have xd0 : W3.drew.cell? ⟨w.heap.size, 0, none⟩ = some (.bool s1) := x0
 have xd1 : W3.drew.cell? ⟨w.heap.size, 1, none⟩ = some (.slice a1 (dig n1).length c1) := x1
 have xd2 : W3.drew.cell? ⟨w.heap.size, 2, none⟩ = some (.slice a2 (dig d1).length c2) := x2
 have xd3 : W3.drew.cell? ⟨w.heap.size, 3, none⟩ = some (.bool false) := x3
 have xd4 : W3.drew.cell? ⟨w.heap.size, 4, none⟩ = some (.slice a3 (dig 0).length c3) := x4
 have xd5 : W3.drew.cell? ⟨w.heap.size, 5, none⟩ = some (.slice a4 (dig 1).length c4) := x5
 have yd0 : W3.drew.cell? ⟨w.heap.size + 1, 0, none⟩ = some (.bool s2) := y0
 have yd1 : W3.drew.cell? ⟨w.heap.size + 1, 1, none⟩ = some (.slice b1 (dig n2).length e1) := y1
 have yd2 : W3.drew.cell? ⟨w.heap.size + 1, 2, none⟩ = some (.slice b2 (dig d2).length e2) := y2
 have yd3 : W3.drew.cell? ⟨w.heap.size + 1, 3, none⟩ = some (.bool false) := y3
 have yd4 : W3.drew.cell? ⟨w.heap.size + 1, 4, none⟩ = some (.slice b3 (dig 0).length e3) := y4
 have yd5 : W3.drew.cell? ⟨w.heap.size + 1, 5, none⟩ = some (.slice b4 (dig 1).length e4) := y5
 go_region_held3 (fun w' => w'.cell? ⟨w.heap.size, 0, none⟩ = some (.bool s1) /\ w'.cell? ⟨w.heap.size, 1, none⟩ = some (.slice a1 (dig n1).length c1) /\ w'.cell? ⟨w.heap.size, 2, none⟩ = some (.slice a2 (dig d1).length c2) /\ w'.cell? ⟨w.heap.size, 3, none⟩ = some (.bool false) /\ w'.cell? ⟨w.heap.size, 4, none⟩ = some (.slice a3 (dig 0).length c3) /\ w'.cell? ⟨w.heap.size, 5, none⟩ = some (.slice a4 (dig 1).length c4) /\ w'.cell? ⟨w.heap.size + 1, 0, none⟩ = some (.bool s2) /\ w'.cell? ⟨w.heap.size + 1, 1, none⟩ = some (.slice b1 (dig n2).length e1) /\ w'.cell? ⟨w.heap.size + 1, 2, none⟩ = some (.slice b2 (dig d2).length e2) /\ w'.cell? ⟨w.heap.size + 1, 3, none⟩ = some (.bool false) /\ w'.cell? ⟨w.heap.size + 1, 4, none⟩ = some (.slice b3 (dig 0).length e3) /\ w'.cell? ⟨w.heap.size + 1, 5, none⟩ = some (.slice b4 (dig 1).length e4))
  (first | with_reducible exact ⟨x0, x1, x2, x3, x4, x5, y0, y1, y2, y3, y4, y5⟩ | with_reducible exact ⟨xd0, xd1, xd2, xd3, xd4, xd5, yd0, yd1, yd2, yd3, yd4, yd5⟩ | with_reducible exact ⟨px0, px1, px2, px3, px4, px5, py0, py1, py2, py3, py4, py5⟩ | with_reducible exact ⟨rx0, rx1, rx2, rx3, rx4, rx5, ry0, ry1, ry2, ry3, ry4, ry5⟩ | (refine ⟨?_, ?_, ?_, ?_, ?_, ?_, ?_, ?_, ?_, ?_, ?_, ?_⟩ <;> (repeat rw [World.cell?_setCell_other _ _ _ _ (by simp)]) <;> assumption) | go_keep)
  (first
   | (go_at_call 162; (with_reducible refine Calls.mono (HP1.out W3.drew ((Below.refl W3.heap.size W3).drew)) ?_); rintro e w4 ⟨⟨v4, rfl, h4⟩, hb4⟩; obtain ⟨g1, i1, g2, i2, rfl, m1, m2⟩ := h4.slices; have hbz : Below W3.heap.size W3 w4 := ((Below.refl W3.heap.size W3).drew).trans hb4; have HB4 := Lib.hid hbz; have px0 := cell_keep x0 hbz (Nat.le_refl _); have px1 := cell_keep x1 hbz (Nat.le_refl _); have px2 := cell_keep x2 hbz (Nat.le_refl _); have px3 := cell_keep x3 hbz (Nat.le_refl _); have px4 := cell_keep x4 hbz (Nat.le_refl _); have px5 := cell_keep x5 hbz (Nat.le_refl _); have py0 := cell_keep y0 hbz (Nat.le_refl _); have py1 := cell_keep y1 hbz (Nat.le_refl _); have py2 := cell_keep y2 hbz (Nat.le_refl _); have py3 := cell_keep y3 hbz (Nat.le_refl _); have py4 := cell_keep y4 hbz (Nat.le_refl _); have py5 := cell_keep y5 hbz (Nat.le_refl _); have M1 := Lib.hid m1; have M2 := Lib.hid m2; clear h4 hb4 m1 m2)
   | (go_at_call 162; (with_reducible refine Calls.mono (HP2.out w4 HB4.out) ?_); rintro e w5 ⟨⟨v5, rfl, h5⟩, hb5⟩; obtain ⟨g3, i3, g4, i4, rfl, m3, m4⟩ := h5.slices; have hbz : Below W3.heap.size W3 w5 := HB4.out.trans (hb5.mono HB4.out.size); have HB5 := Lib.hid hbz; have rx0 := cell_keep x0 hbz (Nat.le_refl _); have rx1 := cell_keep x1 hbz (Nat.le_refl _); have rx2 := cell_keep x2 hbz (Nat.le_refl _); have rx3 := cell_keep x3 hbz (Nat.le_refl _); have rx4 := cell_keep x4 hbz (Nat.le_refl _); have rx5 := cell_keep x5 hbz (Nat.le_refl _); have ry0 := cell_keep y0 hbz (Nat.le_refl _); have ry1 := cell_keep y1 hbz (Nat.le_refl _); have ry2 := cell_keep y2 hbz (Nat.le_refl _); have ry3 := cell_keep y3 hbz (Nat.le_refl _); have ry4 := cell_keep y4 hbz (Nat.le_refl _); have ry5 := cell_keep y5 hbz (Nat.le_refl _); have N1 := Lib.hid (M1.out.below hb5 (Nat.le_refl _)); have N2 := Lib.hid (M2.out.below hb5 (Nat.le_refl _)); have N3 := Lib.hid m3; have N4 := Lib.hid m4; obtain ⟨-, -, f2, ff⟩ := HBX.out HB5.out (by omega); have z0 := f2 0; have z1 := f2 1; have z2 := f2 2; have z3 := f2 3; have z4 := f2 4; have z5 := f2 5; simp only [List.getElem?_toArray, List.getElem?_cons_succ, List.getElem?_cons_zero] at z0 z1 z2 z3 z4 z5; have t0 := ff 0; have t1 := ff 1; have t2 := ff 2; have t3 := ff 3; have t4 := ff 4; have t5 := ff 5; clear h5 hb5 m3 m4 f2 ff))
 have hbw := HBW.out.trans (HB5.out.mono (by omega))
 have hle : w.heap.size <= w.heap.size + 1 + 1 := by omega
 go_wp2_with fail
 refine bodyPost_ret (v := .agg #[.bool ps, .slice g1 (dig pn).length i1, .slice g2 (dig pd).length i2, .bool false, .slice g3 (dig 0).length i3, .slice g4 (dig 1).length i4]) (by simp [results, Tryz.results138, go_sem, z0, z1, z2, z3, z4, z5]) rfl ?_
 exact ⟨⟨_, rfl, _, _, _, _, rfl, N1.out.box6 z0 z1 z2 z3 z4 z5 trivial trivial trivial trivial trivial trivial, N2.out.box6 z0 z1 z2 z3 z4 z5 trivial trivial trivial trivial trivial trivial, N3.out.box6 z0 z1 z2 z3 z4 z5 trivial trivial trivial trivial trivial trivial, N4.out.box6 z0 z1 z2 z3 z4 z5 trivial trivial trivial trivial trivial trivial⟩, (((((hbw.setCell hle _).setCell hle _).setCell hle _).setCell hle _).setCell hle _).setCell hle _⟩
end Go.Proofs.YtdpjdifoonfcdaaGreatDoor

namespace Go.Proofs.YtdpjdifoonfcdaaGreatDoor
open Go.RowKit
def NIB (w : World) (v : Value) : Prop := ∀ g, v.ownBlock = some g -> ∀ cs T fr, w.heap[g]? = some (.cells cs T fr) -> ∀ u ∈ cs.toList, NoNum u
theorem NIB.none (w : World) : NIB w (.slice none 0 0) := fun g h => by simp [Value.ownBlock] at h
theorem NIB.below {w w' : World} {B : Nat} {v : Value} (h : NIB w v) (hb : Below B w w') (hv : ∀ g, v.ownBlock = some g -> g < B) : NIB w' v := fun g hg cs T fr hc => by
 rw [hb.block g (hv g hg)] at hc
 exact h g hg cs T fr hc
theorem cells_grown_nib {w w' : World} {ao : Option Addr} {l : List Nat} {ov : Value} (h : Cells w ao (dgs l)) (hn : NIB w ov) (hg : w.grownBy w' ov.ownBlock) : Cells w' ao (dgs l) := by
 refine h.grown hg ?_
 rintro b off rfl hne hb
 obtain ⟨c, cs, hcs⟩ := List.exists_cons_of_ne_nil hne
 have h1 := h.at (j := 0) (u := c) (by rw [hcs]; rfl)
 have hlt := World.block_lt_of_cell? w _ h1
 have hint : ∃ d : Nat, c = .int .u64 d := by
  have : c ∈ dgs l := by rw [hcs]; simp
  obtain ⟨d, _, rfl⟩ := List.mem_map.1 this
  exact ⟨d, rfl⟩
 obtain ⟨d, rfl⟩ := hint
 unfold World.cell? at h1
 cases hh : w.heap[b]? with
 | none => simp [hh] at h1
 | some o =>
   cases o with
   | cells arr T fr =>
     simp only [hh] at h1
     have h2 : arr[off + 0]? = some (.int .u64 d) := by simpa using h1
     have := hn b hb.symm arr T fr hh (.int .u64 d) (by
      have := Array.mem_of_getElem? h2
      simpa using this)
     exact this
   | _ => simp [hh] at h1
theorem NatV.grown_nib {w w' : World} {v : Value} {n : Nat} {ov : Value} (h : NatV w v n) (hn : NIB w ov) (hg : w.grownBy w' ov.ownBlock) : NatV w' v n := by
 obtain ⟨a, c, h1, h2, h3⟩ := h
 exact ⟨a, c, h1, cells_grown_nib h2 hn hg, h3⟩
theorem zero_mem {z : Array Value} {n : Nat} {u : Value} (h : u ∈ (Builtin.zeroCells z n).toList) : u ∈ z.toList := by
 unfold Builtin.zeroCells at h
 simp at h
 obtain ⟨k, hk, rfl⟩ := h
 have hz : 0 < z.size := by
  rcases Nat.eq_zero_or_pos z.size with h0 | h0
  · rw [h0] at hk; simp at hk
  · exact h0
 have hm : k % z.size < z.size := Nat.mod_lt _ hz
 rw [getElem!_pos z (k % z.size) hm]
 simp
section
variable {P : Program} (w : World)
theorem run_append_nib (base : Nat) (t ty e : TypeId) (i : TypeInfo) (z : Value) (size bytes : Nat) (ht : P.underlying t = some (.slice e)) (hi : P.info? e = some i) (hz : i.zero = some z)
 (hsize : i.size = size) (hby : i.bytes = bytes) (hzs : z.cells.size = size) (hsz : 0 < size)
 (v : Value) (n : Nat) (xs : List Value) (hown : w.ownsRow base e size v n xs)
 (a : Addr) (m c : Nat) (news : List Value) (hl : news.length = m * size) (hnews : ∀ j u, news[j]? = some u -> w.cell? (a.add j) = some u) (h1 : ∀ u ∈ news, u.oneCell' = true)
 (h63 : n + m <= maxLen) (hbytes : (n + m) * bytes <= 140737488355328) (hbase : base <= w.heap.size)
 (hn : NIB w v) (hzn : ∀ u ∈ z.cells.toList, NoNum u) (hnn : ∀ u ∈ news, NoNum u) :
 ∃ v' w', (Builtin.append_ #[t, t] ty #[v, .slice (some a) m c]).run P w = .ok v' w' /\ w'.ownsRow base e size v' (n + m) (xs ++ news) /\ w.grownBy w' v.ownBlock /\ NIB w' v' := by
 obtain ⟨v', w', hr, h2, h3, _⟩ := run_append_own (P := P) w base t ty e i z size bytes ht hi hz hsize hby hzs hsz v n xs hown a m c news hl hnews h1 h63 hbytes hbase
 refine ⟨v', w', hr, h2, h3, ?_⟩
 subst hsize
 subst hby
 have hsmall : n + m <= 9223372036854775807 := by simp only [maxLen] at h63; omega
 have hxs : ∀ u ∈ xs, NoNum u := by
  rcases hown.2 with ⟨rfl, rfl⟩ | ⟨g, cap, cur, rfl, hbg, hg, hnc, hcm, hcs, htake⟩
  · intro u hu
    have hx : xs = [] := List.eq_nil_of_length_eq_zero (by simpa using hown.1)
    rw [hx] at hu; cases hu
  · intro u hu
    rw [<- htake] at hu
    exact hn g rfl cur e (0, 0) hg u (List.mem_of_mem_take hu)
 have hnew : ∀ (ys : List Value) (k : Nat), (∀ u ∈ ys, NoNum u) -> ∀ (W : World) (p q : Nat), NIB (W.alloc (.cells (ys.toArray ++ Builtin.zeroCells z.cells k) e)) (.slice (some ⟨W.heap.size, 0, none⟩) p q) := by
  intro ys k hys W p q g hg cs T fr hc u hu
  simp only [Value.ownBlock, Option.some.injEq] at hg
  subst hg
  rw [heap_alloc_new] at hc
  simp only [Option.some.injEq, Obj.cells.injEq] at hc
  obtain ⟨rfl, _⟩ := hc
  simp only [Array.toList_append, List.mem_append] at hu
  rcases hu with hu | hu
  · exact hys u hu
  · exact hzn u (zero_mem hu)
 rcases hown.2 with ⟨rfl, rfl⟩ | ⟨g, cap, cur, rfl, hbg, hg, hnc, hcm, hcs, htake⟩
 · by_cases hm : m = 0
   · subst hm
     have hr2 : (Builtin.append_ #[t, t] ty #[.slice none 0 0, .slice (some a) 0 c]).run P w = .ok (.slice none 0 0) w := by
      have hnl : news = [] := List.eq_nil_of_length_eq_zero (by simpa using hl)
      subst hnl
      simp [Builtin.append_, run_underlying ht, sizeOf, typeInfo, hi, Builtin.lenOf, Builtin.firstCells, loadCells, loadCellsFrom]
     rw [hr2] at hr
     cases hr
     exact NIB.none w
   · have hr2 := run_append_nil (P := P) w t ty e i z ht hi hz a m c news hl hnews (by omega) (by omega) (by have hb := hbytes; simp only [Nat.zero_add] at hb; omega)
     rw [hr2] at hr
     cases hr
     exact hnew news _ hnn w.drew _ _
 · by_cases hroom : n + m <= cap
   · have hfit : n * i.size + news.length <= cur.size := by rw [hl, hcs, <- Nat.add_mul]; exact Nat.mul_le_mul_right _ hroom
     have hr2 := run_append_room (P := P) w t ty e i ht hi g n cap cur hg a m c news hl hnews h1 hroom hfit
     rw [hr2] at hr
     cases hr
     intro g' hg' cs T fr hc u hu
     simp only [Value.ownBlock, Option.some.injEq] at hg'
     subst hg'
     rw [setRow_heap w g cur _ e _ hg] at hc
     simp only [Option.some.injEq, Obj.cells.injEq] at hc
     obtain ⟨rfl, _⟩ := hc
     simp only [List.mem_append] at hu
     have hcur := hn g rfl cur e (0, 0) hg
     rcases hu with (hu | hu) | hu
     · exact hcur u (List.mem_of_mem_take hu)
     · exact hnn u hu
     · exact hcur u (List.mem_of_mem_drop hu)
   · have holds : ∀ j u, xs[j]? = some u -> w.cell? ((⟨g, 0, none⟩ : Addr).add j) = some u := hown.cells (g := g) rfl
     have hr2 := run_append_grow (P := P) w t ty e i z ht hi hz ⟨g, 0, none⟩ n cap xs hown.1 holds a m c news hl hnews (by omega) (by omega) (growslice_fits (by omega) hbytes)
     rw [hr2] at hr
     cases hr
     have := hnew (xs ++ news) (grownCap w (n + m) cap e - (n + m)) (fun u hu => by rcases List.mem_append.1 hu with h | h; exact hxs u h; exact hnn u h) w.drew (n + m) (grownCap w (n + m) cap e)
     simpa using this
theorem wpList_append_nib {ops : Array Oper} {rest : List Oper} {o : Oper} {a : Act} {Q : Exit -> Act -> World -> Prop} (hgd : o.guard = none) (s x : Operand) (t : TypeId)
 (ho : o.op = .call { callee := .builtin .append, args := #[s, x], argTypes := #[t, t] })
 (base : Nat) (e : TypeId) (i : TypeInfo) (z : Value) (size bytes : Nat) (ht : P.underlying t = some (.slice e)) (hi : P.info? e = some i) (hz : i.zero = some z)
 (hsize : i.size = size) (hby : i.bytes = bytes) (hzs : z.cells.size = size) (hsz : 0 < size)
 (v : Value) (n : Nat) (xs : List Value) (hs : a.eval s = v) (hown : w.ownsRow base e size v n xs)
 (ad : Addr) (m c : Nat) (news : List Value) (hx : a.eval x = .slice (some ad) m c) (hl : news.length = m * size) (hnews : ∀ j u, news[j]? = some u -> w.cell? (ad.add j) = some u) (h1 : ∀ u ∈ news, u.oneCell' = true)
 (h63 : n + m <= maxLen) (hbytes : (n + m) * bytes <= 140737488355328) (hbase : base <= w.heap.size)
 (hn : NIB w v) (hzn : ∀ u ∈ z.cells.toList, NoNum u) (hnn : ∀ u ∈ news, NoNum u)
 (h : ∀ v' w', w'.ownsRow base e size v' (n + m) (xs ++ news) -> w.grownBy w' v.ownBlock -> NIB w' v' -> wpList P ops Q rest (a.put o.dst v') w') : wpList P ops Q (o :: rest) a w := by
 refine wpList_plain hgd fun K hK => ?_
 obtain ⟨v', w', hr, h2, h3, h4⟩ := run_append_nib (P := P) w base t o.type e i z size bytes ht hi hz hsize hby hzs hsz v n xs hown ad m c news hl hnews h1 h63 hbytes hbase hn hzn hnn
 unfold Oper.wp execOp
 simp only [ho, resolve, invoke, builtin, Sem.run_bind, Sem.run_pure, Result.andThen_ok, List.map_toArray, List.map_cons, List.map_nil, hs, hx, hr]
 exact hK _ _ (h v' w' h2 h3 h4)
end
end Go.Proofs.YtdpjdifoonfcdaaGreatDoor

namespace Go.Proofs.YtdpjdifoonfcdaaGreatDoor
open Go.RowKit
def getL : List ByteArray -> Option (List (Bool × Nat × Nat))
 | [] => some []
 | s :: r => match getR s with | none => none | some t => match getL r with | none => none | some l => some (t :: l)
theorem getL_none {ss : List ByteArray} {k : Nat} {s : ByteArray} (h : ss[k]? = some s) (hn : getR s = none) : getL ss = none := by
 induction ss generalizing k with
 | nil => simp at h
 | cons x r ih =>
   cases k with
   | zero =>
     simp at h; subst h
     simp [getL, hn]
   | succ k =>
     have := ih (by simpa using h)
     simp only [getL, this]
     split <;> rfl
theorem getL_snoc {xs : List ByteArray} {s : ByteArray} {l : List (Bool × Nat × Nat)} {t : Bool × Nat × Nat} (h : getL xs = some l) (hs : getR s = some t) : getL (xs ++ [s]) = some (l ++ [t]) := by
 induction xs generalizing l with
 | nil => simp only [getL, Option.some.injEq] at h; subst h; simp [getL, hs]
 | cons x r ih =>
   simp only [getL] at h
   cases hx : getR x with
   | none => rw [hx] at h; cases h
   | some u =>
     rw [hx] at h
     cases hr : getL r with
     | none => rw [hr] at h; cases h
     | some m =>
       rw [hr] at h
       simp only [Option.some.injEq] at h
       subst h
       simp [getL, hx, ih hr]
theorem getL_len {xs : List ByteArray} {l : List (Bool × Nat × Nat)} (h : getL xs = some l) : l.length = xs.length := by
 induction xs generalizing l with
 | nil => simp only [getL, Option.some.injEq] at h; subst h; rfl
 | cons x r ih =>
   simp only [getL] at h
   cases hx : getR x with
   | none => rw [hx] at h; cases h
   | some u =>
     rw [hx] at h
     cases hr : getL r with
     | none => rw [hr] at h; cases h
     | some m =>
       rw [hr] at h
       simp only [Option.some.injEq] at h
       subst h
       simp [ih hr]
def NCell (w : World) (c : List Value) (t : Bool × Nat × Nat) : Prop := ∃ a1 c1 a2 c2 a3 c3 a4 c4, c = [.bool t.1, .slice a1 (dig t.2.1).length c1, .slice a2 (dig t.2.2).length c2, .bool false, .slice a3 (dig 0).length c3, .slice a4 (dig 1).length c4] /\ NatV w (.slice a1 (dig t.2.1).length c1) t.2.1 /\ NatV w (.slice a2 (dig t.2.2).length c2) t.2.2 /\ NatV w (.slice a3 (dig 0).length c3) 0 /\ NatV w (.slice a4 (dig 1).length c4) 1
theorem NCell.below {w w' : World} {B : Nat} {c : List Value} {t : Bool × Nat × Nat} (h : NCell w c t) (hb : Below B w w') (hB : w.heap.size <= B) : NCell w' c t := by
 obtain ⟨a1, c1, a2, c2, a3, c3, a4, c4, rfl, h1, h2, h3, h4⟩ := h
 exact ⟨a1, c1, a2, c2, a3, c3, a4, c4, rfl, h1.below hb hB, h2.below hb hB, h3.below hb hB, h4.below hb hB⟩
theorem NCell.six {w : World} {c : List Value} {t : Bool × Nat × Nat} (h : NCell w c t) : c.length = 6 := by
 obtain ⟨a1, c1, a2, c2, a3, c3, a4, c4, rfl, _⟩ := h; rfl
def NRow (w : World) (cs : List (List Value)) (l : List (Bool × Nat × Nat)) : Prop := cs.length = l.length /\ ∀ (i : Nat) c t, cs[i]? = some c -> l[i]? = some t -> NCell w c t
theorem NRow.below {w w' : World} {B : Nat} {cs : List (List Value)} {l : List (Bool × Nat × Nat)} (h : NRow w cs l) (hb : Below B w w') (hB : w.heap.size <= B) : NRow w' cs l := ⟨h.1, fun i c t h1 h2 => (h.2 i c t h1 h2).below hb hB⟩
theorem NRow.snoc {w : World} {cs : List (List Value)} {l : List (Bool × Nat × Nat)} {c : List Value} {t : Bool × Nat × Nat} (h : NRow w cs l) (hc : NCell w c t) : NRow w (cs ++ [c]) (l ++ [t]) := by
 refine ⟨by simp [h.1], fun i d u h1 h2 => ?_⟩
 rcases Nat.lt_trichotomy i cs.length with hi | hi | hi
 · rw [List.getElem?_append_left hi] at h1
   rw [List.getElem?_append_left (by rw [<- h.1]; exact hi)] at h2
   exact h.2 i d u h1 h2
 · rw [List.getElem?_append_right (by omega), hi, Nat.sub_self] at h1
   rw [List.getElem?_append_right (by rw [<- h.1]; omega), <- h.1, hi, Nat.sub_self] at h2
   simp at h1 h2
   subst h1; subst h2; exact hc
 · rw [List.getElem?_eq_none (by simp; omega)] at h1; cases h1
theorem NRow.flat_len {w : World} {cs : List (List Value)} {l : List (Bool × Nat × Nat)} (h : NRow w cs l) : cs.flatten.length = l.length * 6 := by
 rw [<- h.1]
 have : ∀ c ∈ cs, c.length = 6 := fun c hc => by
  obtain ⟨i, hi⟩ := List.getElem?_of_mem hc
  obtain ⟨t, ht⟩ := get_of_lt (show i < l.length by rw [<- h.1]; exact (List.getElem?_eq_some_iff.1 hi).1)
  exact (h.2 i c t hi ht).six
 clear h
 induction cs with
 | nil => rfl
 | cons c r ih =>
   rw [List.flatten_cons, List.length_append, this c (by simp), ih (fun d hd => this d (by simp [hd])), List.length_cons]; omega
theorem NCell.grown_nib {w w' : World} {c : List Value} {t : Bool × Nat × Nat} {ov : Value} (h : NCell w c t) (hn : NIB w ov) (hg : w.grownBy w' ov.ownBlock) : NCell w' c t := by
 obtain ⟨a1, c1, a2, c2, a3, c3, a4, c4, rfl, h1, h2, h3, h4⟩ := h
 exact ⟨a1, c1, a2, c2, a3, c3, a4, c4, rfl, h1.grown_nib hn hg, h2.grown_nib hn hg, h3.grown_nib hn hg, h4.grown_nib hn hg⟩
theorem NRow.grown_nib {w w' : World} {cs : List (List Value)} {l : List (Bool × Nat × Nat)} {ov : Value} (h : NRow w cs l) (hn : NIB w ov) (hg : w.grownBy w' ov.ownBlock) : NRow w' cs l := ⟨h.1, fun i c t h1 h2 => (h.2 i c t h1 h2).grown_nib hn hg⟩
theorem own_succ {W : World} {base : Nat} {e : TypeId} {size : Nat} {v : Value} {k : Nat} {xs : List Value} (h : W.ownsRow base e size v (k + 1) xs) : ∃ g cap, v = .slice (some ⟨g, 0, none⟩) (k + 1) cap := by
 rcases h.2 with ⟨_, h0⟩ | ⟨g, cap, _, rfl, _⟩
 · omega
 · exact ⟨g, cap, rfl⟩
def AllRes (ss : List ByteArray) (w : World) (e : Ending) (w' : World) : Prop :=
 (match getL ss with
  | none => e = .returned (.tuple #[.slice none 0 0, .bool false])
  | some l => ∃ a c cs, e = .returned (.tuple #[.slice a l.length c, .bool true]) /\ Cells w' a cs.flatten /\ NRow w' cs l) /\ Below w.heap.size w w'
theorem allRes_none {ss : List ByteArray} {w w' : World} (h : getL ss = none) (hb : Below w.heap.size w w') : AllRes ss w (.returned (.tuple #[.slice none 0 0, .bool false])) w' := ⟨by rw [h], hb⟩
theorem allRes_some {ss : List ByteArray} {w w' : World} {l : List (Bool × Nat × Nat)} {a : Option Addr} {c n : Nat} {cs : List (List Value)} (h : getL ss = some l) (hn : n = l.length) (hc : Cells w' a cs.flatten) (hr : NRow w' cs l) (hb : Below w.heap.size w w') : AllRes ss w (.returned (.tuple #[.slice a n c, .bool true])) w' := ⟨by rw [h]; exact ⟨a, c, cs, by rw [hn], hc, hr⟩, hb⟩
theorem Tryz.infoVal : (Tryz.prog.info? 148).map (fun i => (i.zero, i.size, i.bytes)) = some (some (.agg #[.bool false, .slice none 0 0, .slice none 0 0, .bool false, .slice none 0 0, .slice none 0 0]), 6, 112) := by kernel_rfl
set_option maxRecDepth 100000 in
set_option maxHeartbeats 2000000 in
theorem all_get (ao : Option Addr) (ss : List ByteArray) (cap : Nat) (w : World) (ht : Tab w) (hc : Cells w ao (ss.map Value.string)) (hl : ss.length <= 1000000) (hs : ∀ s ∈ ss, s.size <= 1099511627776 /\ Lib.hasSuffix s.data.toList [105] = false) :
 Calls Tryz.prog 128 #[.slice ao ss.length cap, .func (.func 129) #[] #[]] w (AllRes ss w) := by
 obtain ⟨i0, hi, hz0, hz1, hz2⟩ := info_parts Tryz.infoVal
 have HC := Lib.hid hc; have HT := Lib.hid ht; have HS := Lib.hid hs
 clear hc ht hs
 go_enter Tryz.func128, Tryz.ntmps128
 go_wp2_with fail
 go_loopw [6, 13] (fun ov iv wr => ∃ (k : Nat) (l : List (Bool × Nat × Nat)) (cs : List (List Value)), k <= ss.length /\ iv = .int .i64 k /\ getL (ss.take k) = some l /\ NRow wr cs l /\ wr.ownsRow w.heap.size 148 6 ov k cs.flatten /\ NIB wr ov /\ Below w.heap.size w wr) (fun _ iv _ => ss.length - (intOf iv).toNat)
 case atStart => exact ⟨0, [], [], Nat.zero_le _, rfl, rfl, ⟨rfl, fun i c t h => by simp at h⟩, World.ownsRow_nil _ _ _ _, NIB.none _, Below.refl _ _⟩
 case round =>
  obtain ⟨k, l, cs, hk, rfl, hgl, hnr, hown, hnib, hb⟩ := hrel
  have hlk := getL_len hgl
  rw [List.length_take, Nat.min_eq_left hk] at hlk
  have HGL := Lib.hid hgl; have HNR := Lib.hid hnr; have HLK := Lib.hid hlk
  clear hgl hnr hlk
  have hsz := hb.size
  by_cases hlt : k < ss.length
  · obtain ⟨s, hs⟩ := get_of_lt hlt
    obtain ⟨b, off, rfl⟩ := HC.out.addr (by simpa using List.ne_nil_of_length_pos (by omega))
    have c0 := cell_keep (HC.out.at (j := k) (u := .string s) (by simp [hs])) hb (Nat.le_refl _)
    have hsm := HS.out s (List.mem_of_getElem? hs)
    have hg := get_noI s wr (HT.out.below hb (Nat.le_refl _)) (Nat.le_trans hsm.1 (by decide)) hsm.2
    have htk := take_get hs
    have HG := Lib.hid hg; have HTK := Lib.hid htk; have HHS := Lib.hid hs
    have j0 : (k : Int) < ss.length := by omega
    clear hsm hg htk hs
    go_wp2_with fail
    refine HG.out.mono ?_
    rintro e w1 ⟨hm, hb1⟩
    rcases hgr : getR s with _ | ⟨sb, n, d⟩
    · rw [hgr] at hm
      have HN := Lib.hid (getL_none HHS.out hgr)
      subst hm
      clear hgr
      go_wp2
      go_ret2
      exact allRes_none HN.out ((hb.trans (hb1.mono hsz)).alloc (Nat.le_trans hsz hb1.size) _)
    · rw [hgr] at hm
      obtain ⟨v, rfl, hv⟩ := hm
      have hgs := getL_snoc HGL.out hgr
      rw [<- HTK.out] at hgs
      have HGS := Lib.hid hgs
      obtain ⟨a1, c1, a2, c2, a3, c3, a4, c4, rfl, k1, k2, k3, k4⟩ := hv.slices
      have hnc : NCell w1 [.bool sb, .slice a1 (dig n).length c1, .slice a2 (dig d).length c2, .bool false, .slice a3 (dig 0).length c3, .slice a4 (dig 1).length c4] (sb, n, d) := ⟨a1, c1, a2, c2, a3, c3, a4, c4, rfl, k1, k2, k3, k4⟩
      have hns := (HNR.out.below hb1 (Nat.le_refl _)).snoc hnc
      have HNS := Lib.hid hns
      have hown1 := own_belowK hown hb1 (Nat.le_refl _)
      have hnib1 := hnib.below hb1 (fun g hg => (hown.lt g hg).2)
      have hbw1 := hb.trans (hb1.mono hsz)
      have hsz1 := hbw1.size
      have HOB : Hid (∀ j, u6.ownBlock = some j -> w.heap.size <= j) := fun j e => (hown.lt j e).1
      clear hgr hgs hv k1 k2 k3 k4 hnc hns hb1
      have hnn : ∀ u ∈ ([.bool sb, .slice a1 (dig n).length c1, .slice a2 (dig d).length c2, .bool false, .slice a3 (dig 0).length c3, .slice a4 (dig 1).length c4] : List Value), NoNum u := by
       intro u hu
       simp only [List.mem_cons, List.not_mem_nil, or_false] at hu
       rcases hu with rfl | rfl | rfl | rfl | rfl | rfl <;> trivial
      have hzz : ∀ u ∈ ((Value.agg #[.bool false, .slice none 0 0, .slice none 0 0, .bool false, .slice none 0 0, .slice none 0 0]).cells).toList, NoNum u := by
       intro u hu
       change u ∈ [Value.bool false, .slice none 0 0, .slice none 0 0, .bool false, .slice none 0 0, .slice none 0 0] at hu
       simp only [List.mem_cons, List.not_mem_nil, or_false] at hu
       rcases hu with rfl | rfl | rfl | rfl | rfl | rfl <;> trivial
      have hbb : Below w1.heap.size w1 ((w1.alloc (.cells #[Value.bool sb, .slice a1 (dig n).length c1, .slice a2 (dig d).length c2, .bool false, .slice a3 (dig 0).length c3, .slice a4 (dig 1).length c4] 148)).alloc (.cells #[Value.bool sb, .slice a1 (dig n).length c1, .slice a2 (dig d).length c2, .bool false, .slice a3 (dig 0).length c3, .slice a4 (dig 1).length c4] 148)) := ((Below.refl _ _).alloc (Nat.le_refl _) _).alloc (by simp) _
      have hnib2 := hnib1.below hbb (fun g hg => by have := (hown1.lt g hg).2; omega)
      have HNIB := Lib.hid hnib2; have HNN := Lib.hid hnn; have HZZ := Lib.hid hzz; have HBB := Lib.hid hbb
      clear hnib hnib1 hnib2 hnn hzz hbb
      go_wp2_with (at_builtin; refine wpList_append_nib _ rfl _ _ 227 rfl w.heap.size 148 i0 (.agg #[.bool false, .slice none 0 0, .slice none 0 0, .bool false, .slice none 0 0, .slice none 0 0]) 6 112 Tryz.underlying227 hi hz0 hz1 hz2 rfl (by decide) _ _ _ rfl ((hown1.alloc _).alloc _) ⟨w1.heap.size + 1, 0, none⟩ 1 1 [.bool sb, .slice a1 (dig n).length c1, .slice a2 (dig d).length c2, .bool false, .slice a3 (dig 0).length c3, .slice a4 (dig 1).length c4] rfl rfl (World.news_of_block (cs := #[Value.bool sb, .slice a1 (dig n).length c1, .slice a2 (dig d).length c2, .bool false, .slice a3 (dig 0).length c3, .slice a4 (dig 1).length c4]) (t := 148) (fr := (0, 0)) (by have := heap_alloc_new (w1.alloc (.cells #[Value.bool sb, .slice a1 (dig n).length c1, .slice a2 (dig d).length c2, .bool false, .slice a3 (dig 0).length c3, .slice a4 (dig 1).length c4] 148)) (.cells #[Value.bool sb, .slice a1 (dig n).length c1, .slice a2 (dig d).length c2, .bool false, .slice a3 (dig 0).length c3, .slice a4 (dig 1).length c4] 148); simpa using this)) (by simp [Value.oneCell']) (by unfold maxLen; omega) (by omega) (by simp; omega) HNIB.out HZZ.out HNN.out ?_; intro v1 wz hown2 hgrow hnib3)
      have hbz := ((hbw1.alloc hsz1 (.cells #[Value.bool sb, .slice a1 (dig n).length c1, .slice a2 (dig d).length c2, .bool false, .slice a3 (dig 0).length c3, .slice a4 (dig 1).length c4] 148)).alloc (by simp; omega) (.cells #[Value.bool sb, .slice a1 (dig n).length c1, .slice a2 (dig d).length c2, .bool false, .slice a3 (dig 0).length c3, .slice a4 (dig 1).length c4] 148)).grown hgrow (by simp; omega) HOB.out
      have hfl : cs.flatten ++ [.bool sb, .slice a1 (dig n).length c1, .slice a2 (dig d).length c2, .bool false, .slice a3 (dig 0).length c3, .slice a4 (dig 1).length c4] = (cs ++ [([.bool sb, .slice a1 (dig n).length c1, .slice a2 (dig d).length c2, .bool false, .slice a3 (dig 0).length c3, .slice a4 (dig 1).length c4] : List Value)]).flatten := by simp
      rw [hfl] at hown2
      have HFIN := Lib.hid hown2
      have hnz : NRow wz (cs ++ [([.bool sb, .slice a1 (dig n).length c1, .slice a2 (dig d).length c2, .bool false, .slice a3 (dig 0).length c3, .slice a4 (dig 1).length c4] : List Value)]) (l ++ [(sb, n, d)]) := (HNS.out.below HBB.out (Nat.le_refl _)).grown_nib HNIB.out hgrow
      have HNZ := Lib.hid hnz; have HN3 := Lib.hid hnib3
      clear hown2 hgrow hown hown1 hfl hnz hnib3
      obtain ⟨gg, cp, rfl⟩ := own_succ HFIN.out
      go_wp2
      go_roundw
      case rel => exact ⟨k + 1, _, _, by omega, by go_num, HGS.out, HNZ.out, by simpa using HFIN.out, HN3.out, hbz⟩
      case measure => simp [intOf]; omega
  · obtain rfl : k = ss.length := by omega
    have hg2 := HGL.out
    rw [List.take_length] at hg2
    have HG2 := Lib.hid hg2
    obtain ⟨g, c, rfl, hcs⟩ := own_cells hown
    have HCS := Lib.hid hcs
    clear hg2 hcs hown hnib
    go_wp2
    go_ret2
    exact allRes_some HG2.out HLK.out.symm HCS.out HNR.out hb
end Go.Proofs.YtdpjdifoonfcdaaGreatDoor
