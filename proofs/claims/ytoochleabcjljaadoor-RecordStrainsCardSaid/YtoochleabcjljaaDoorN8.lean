/- num.Of of small positive numbers. -/
import Derived.Test.YtoochleabcjljaaDoorN7
namespace Go.Proofs.YtoochleabcjljaaDoor
open Go.RowKit

theorem isReal_any (v : Value) (s1 s2 : Bool) (n1 d1 n2 d2 : Nat) (w : World) (hv : ValV w v s1 n1 d1 s2 n2 d2) :
    Calls Tryd.prog 73 #[v] w fun e w' => e = .returned (.bool (decide (n2 = 0))) ∧ Below w.heap.size w w' := by
  obtain ⟨va, vb, vc, vd, rfl, ha, hb, hc, hd⟩ := hv
  obtain ⟨aa, ca, rfl⟩ := ha.cases
  obtain ⟨ab, cb, rfl⟩ := hb.cases
  have HC := Lib.hid hc; have HD := Lib.hid hd
  obtain ⟨ac, cc, rfl⟩ := hc.cases
  obtain ⟨ad, cd, rfl⟩ := hd.cases
  clear ha hb hc hd
  go_enter Tryd.func73, Tryd.ntmps73
  go_wp2_with fail
  refine (zero_any _ s2 n2 d2 _ ⟨_, _, rfl, HC.out.below ((Below.refl _ _).alloc (Nat.le_refl _) _) (Nat.le_refl _), HD.out.below ((Below.refl _ _).alloc (Nat.le_refl _) _) (Nat.le_refl _)⟩).mono ?_
  rintro e w1 ⟨rfl, hb1⟩
  go_wp2
  go_ret
  exact ⟨rfl, ((Below.refl _ _).alloc (Nat.le_refl _) _).trans (hb1.mono (by simp))⟩

set_option maxRecDepth 100000 in
theorem valText_dig (v : Value) (n d : Nat) (s2 : Bool) (d2 : Nat) (w : World) (hv : ValV w v false n d s2 0 d2) (h : n < 10) (h2 : d < 10) (h3 : 2 ≤ d) :
    Calls Tryd.prog 68 #[v] w fun e w' => e = .returned (.string (digB n ++ (⟨#[47]⟩ ++ digB d))) ∧ Below w.heap.size w w' := by
  have HV := Lib.hid hv
  obtain ⟨va, vb, vc, vd, rfl, ha, hb, hc, hd⟩ := hv
  have HA := Lib.hid ha; have HB := Lib.hid hb
  obtain ⟨aa, ca, rfl⟩ := ha.cases
  obtain ⟨ab, cb, rfl⟩ := hb.cases
  obtain ⟨ac, cc, rfl⟩ := hc.cases
  obtain ⟨ad, cd, rfl⟩ := hd.cases
  clear ha hb hc hd
  go_enter Tryd.func68, Tryd.ntmps68
  go_wp2_with fail
  refine (isReal_any _ false s2 n d 0 d2 _ (HV.out.below ((Below.refl _ _).alloc (Nat.le_refl _) _) (Nat.le_refl _))).mono ?_
  rintro e w1 ⟨rfl, hb1⟩
  have hbw : Below w.heap.size w w1 := ((Below.refl _ _).alloc (Nat.le_refl _) _).trans (hb1.mono (by simp))
  have q0 : w1.cell? ⟨w.heap.size, 0, none⟩ = some (.bool false) := box_keep hb1 (by simp) 0
  have q1 : w1.cell? ⟨w.heap.size, 1, none⟩ = some (.slice aa (dig n).length ca) := box_keep hb1 (by simp) 1
  have q2 : w1.cell? ⟨w.heap.size, 2, none⟩ = some (.slice ab (dig d).length cb) := box_keep hb1 (by simp) 2
  go_wp2_with fail
  refine (ratText_dig _ n d _ ⟨_, _, rfl, HA.out.below hbw (Nat.le_refl _), HB.out.below hbw (Nat.le_refl _)⟩ h h2 h3).mono ?_
  rintro e w2 ⟨rfl, hb2⟩
  go_wp2
  go_ret
  exact ⟨rfl, hbw.trans (hb2.mono hbw.size)⟩

set_option maxRecDepth 100000 in
theorem put_dig (v : Value) (n d : Nat) (s2 : Bool) (d2 : Nat) (w : World) (hv : ValV w v false n d s2 0 d2) (h : n < 10) (h2 : d < 10) (h3 : 2 ≤ d) (h4 : d2 < 10) :
    Calls Tryd.prog 53 #[v] w fun e w' => e = .returned (.tuple #[.string (digB n ++ (⟨#[47]⟩ ++ digB d)), .int .i64 0]) ∧ Below w.heap.size w w' := by
  have HV := Lib.hid hv
  obtain ⟨va, vb, vc, vd, rfl, ha, hb, hc, hd⟩ := hv
  have HA := Lib.hid ha; have HB := Lib.hid hb; have HC := Lib.hid hc; have HD := Lib.hid hd
  obtain ⟨aa, ca, rfl⟩ := ha.cases
  obtain ⟨ab, cb, rfl⟩ := hb.cases
  obtain ⟨ac, cc, rfl⟩ := hc.cases
  obtain ⟨ad, cd, rfl⟩ := hd.cases
  clear ha hb hc hd
  go_enter Tryd.func53, Tryd.ntmps53
  go_wp2_with fail
  refine (big_dig _ false n d _ ⟨_, _, rfl, HA.out.below ((Below.refl _ _).alloc (Nat.le_refl _) _) (Nat.le_refl _), HB.out.below ((Below.refl _ _).alloc (Nat.le_refl _) _) (Nat.le_refl _)⟩ h h2).mono ?_
  rintro e w1 ⟨rfl, hb1⟩
  have hbw : Below w.heap.size w w1 := ((Below.refl _ _).alloc (Nat.le_refl _) _).trans (hb1.mono (by simp))
  have q3 : w1.cell? ⟨w.heap.size, 3, none⟩ = some (.bool s2) := box_keep hb1 (by simp) 3
  have q4 : w1.cell? ⟨w.heap.size, 4, none⟩ = some (.slice ac (dig 0).length cc) := box_keep hb1 (by simp) 4
  have q5 : w1.cell? ⟨w.heap.size, 5, none⟩ = some (.slice ad (dig d2).length cd) := box_keep hb1 (by simp) 5
  go_wp2_with fail
  refine (big_dig _ s2 0 d2 _ ⟨_, _, rfl, HC.out.below hbw (Nat.le_refl _), HD.out.below hbw (Nat.le_refl _)⟩ (by omega) h4).mono ?_
  rintro e w2 ⟨rfl, hb2⟩
  have hbx := hb1.trans (hb2.mono hb1.size)
  have hbw2 : Below w.heap.size w w2 := hbw.trans (hb2.mono hbw.size)
  clear q3 q4 q5
  have q0 : w2.cell? ⟨w.heap.size, 0, none⟩ = some (.bool false) := box_keep hbx (by simp) 0
  have q1 : w2.cell? ⟨w.heap.size, 1, none⟩ = some (.slice aa (dig n).length ca) := box_keep hbx (by simp) 1
  have q2 : w2.cell? ⟨w.heap.size, 2, none⟩ = some (.slice ab (dig d).length cb) := box_keep hbx (by simp) 2
  have q3 : w2.cell? ⟨w.heap.size, 3, none⟩ = some (.bool s2) := box_keep hbx (by simp) 3
  have q4 : w2.cell? ⟨w.heap.size, 4, none⟩ = some (.slice ac (dig 0).length cc) := box_keep hbx (by simp) 4
  have q5 : w2.cell? ⟨w.heap.size, 5, none⟩ = some (.slice ad (dig d2).length cd) := box_keep hbx (by simp) 5
  go_wp2_with fail
  refine (valText_dig _ n d s2 d2 _ (HV.out.below hbw2 (Nat.le_refl _)) h h2 h3).mono ?_
  rintro e w3 ⟨rfl, hb3⟩
  go_wp2
  go_ret2
  exact ⟨rfl, hbw2.trans (hb3.mono hbw2.size)⟩

set_option maxRecDepth 100000 in
theorem whole_pos (n : Nat) (w : World) (h : n < 9223372036854775808) :
    Calls Tryd.prog 52 #[.int .i64 (n : Nat)] w fun e w' => (∃ v, e = .returned v ∧ RatV w' v false n 1) ∧ Below w.heap.size w w' := by
  have h0 : (0 : Int) ≤ n := by omega
  have hn := fun wx => natural_any n wx (by omega)
  have HN := Lib.hid hn; clear hn
  have hle : (n : Int) ≤ 9223372036854775807 := by omega
  go_enter Tryd.func52, Tryd.ntmps52
  go_wp2_with fail
  refine (HN.out _).mono ?_
  rintro e w1 ⟨⟨a, c, rfl, hc, hc1, hc2⟩, hb1⟩
  have H1 : Hid (NatV w1 (.slice a (dig n).length c) n) := ⟨a, c, rfl, hc, hc1, hc2⟩
  clear hc
  have hbw : Below w.heap.size w w1 := ((Below.refl _ _).alloc (Nat.le_refl _) _).trans (hb1.mono (by simp))
  go_wp2_with fail
  refine (one_any _).mono ?_
  rintro e w2 ⟨⟨v1, rfl, h1⟩, hb2⟩
  have hbx := hb1.trans (hb2.mono hb1.size)
  have hbw2 : Below w.heap.size w w2 := hbw.trans (hb2.mono hbw.size)
  have H2 := Lib.hid (H1.out.below hb2 (Nat.le_refl _))
  have H3 := Lib.hid h1
  obtain ⟨a1, c1, hv1⟩ := h1.cases
  rw [dig_1] at hv1
  subst hv1
  clear h1
  have q0 : w2.cell? ⟨w.heap.size, 0, none⟩ = some (.bool false) := box_keep hbx (by simp) 0
  have q1 : w2.cell? ⟨w.heap.size, 1, none⟩ = some (.slice none 0 0) := box_keep hbx (by simp) 1
  have q2 : w2.cell? ⟨w.heap.size, 2, none⟩ = some (.slice none 0 0) := box_keep hbx (by simp) 2
  have f0 := box_free hbx (by simp) 0
  have f1 := box_free hbx (by simp) 1
  have f2 := box_free hbx (by simp) 2
  go_wp2
  refine bodyPost_ret (v := .agg #[.bool false, .slice a (dig n).length c, .slice a1 1 c1]) (by simp [results, Tryd.results52, go_sem, q0, q1, q2]) rfl ?_
  exact ⟨⟨_, rfl, _, _, rfl, H2.out.box3 q0 q1 q2 trivial trivial trivial, H3.out.box3 q0 q1 q2 trivial trivial trivial⟩, ((hbw2.setCell (Nat.le_refl _) _).setCell (Nat.le_refl _) _).setCell (Nat.le_refl _) _⟩

set_option maxRecDepth 100000 in
set_option maxHeartbeats 1000000 in
theorem of_dig (n d : Nat) (w : World) (hn : 0 < n) (hd0 : 0 < d) (hd : d < 1000000000) (hnn : n < 1000000000) (h : n / Nat.gcd n d < 10) (h2 : d / Nat.gcd n d < 10) (h3 : 2 ≤ d / Nat.gcd n d) :
    Calls Tryd.prog 41 #[.int .i64 (n : Nat), .int .i64 (d : Nat)] w fun e w' => e = .returned (.tuple #[.string (digB (n / Nat.gcd n d) ++ (⟨#[47]⟩ ++ digB (d / Nat.gcd n d))), .int .i64 0]) ∧ Below w.heap.size w w' := by
  have hl1 : (dig n).length ≤ 17592186044416 := by rw [dig_one (by omega) (by simp only [B]; omega)]; simp
  have hl2 : (dig d).length ≤ 17592186044416 := by rw [dig_one (by omega) (by simp only [B]; omega)]; simp
  have hne : ((d : Int) == 0) = false := by rw [beq_eq_false_iff_ne]; omega
  have hs : (false && decide (n ≠ 0)) = false := rfl
  have hred := fun va vb wx ha hb => reduced_any B overOK_small false va vb n d wx ha hb hl1 hl2 (by simp only [B]; omega) (by omega)
  have HR := Lib.hid hred; clear hred hs
  go_enter Tryd.func41, Tryd.ntmps41
  go_wp2_with fail
  refine (whole_pos n _ (by omega)).mono ?_
  rintro e w1 ⟨⟨v1, rfl, h1⟩, hb1⟩
  obtain ⟨v11, v12, rfl, h11, h12⟩ := h1
  go_wp2_with fail
  refine (whole_pos d _ (by omega)).mono ?_
  rintro e w2 ⟨⟨v2, rfl, hv2⟩, hb2⟩
  obtain ⟨v21, v22, rfl, h21, h22⟩ := hv2
  have hbw : Below w.heap.size w w2 := hb1.trans (hb2.mono hb1.size)
  have H11 := Lib.hid (h11.below hb2 (Nat.le_refl _))
  have H21 := Lib.hid h21
  obtain ⟨a11, c11, rfl⟩ := h11.cases
  obtain ⟨a12, c12, rfl⟩ := h12.cases
  obtain ⟨a21, c21, rfl⟩ := h21.cases
  obtain ⟨a22, c22, rfl⟩ := h22.cases
  clear h11 h12 h21 h22
  go_wp2_with fail
  refine (HR.out _ _ _ (H11.out.below (((Below.refl w2.heap.size _).alloc (Nat.le_refl _) _).alloc (by simp) _) (Nat.le_refl _)) (H21.out.below (((Below.refl w2.heap.size _).alloc (Nat.le_refl _) _).alloc (by simp) _) (Nat.le_refl _))).mono ?_
  rintro e w3 ⟨⟨v3, rfl, h3'⟩, hb3⟩
  have hbw3 : Below w.heap.size w w3 := ((hbw.alloc hbw.size _).alloc (by have := hbw.size; simp; omega) _).trans (hb3.mono (by have := hbw.size; simp; omega))
  have H3 := Lib.hid h3'
  obtain ⟨v31, v32, rfl, h31, h32⟩ := h3'
  clear h31 h32
  go_wp2_with fail
  refine (plain_any _ _ _ _ _ H3.out).mono ?_
  rintro e w4 ⟨⟨v4, rfl, h4⟩, hb4⟩
  have hbw4 : Below w.heap.size w w4 := hbw3.trans (hb4.mono hbw3.size)
  have H4 := Lib.hid h4; clear h4
  go_wp2_with fail
  refine (put_dig _ _ _ _ _ _ H4.out h h2 h3 (by omega)).mono ?_
  rintro e w5 ⟨rfl, hb5⟩
  go_wp2
  go_ret2
  exact ⟨rfl, hbw4.trans (hb5.mono hbw4.size)⟩
end Go.Proofs.YtoochleabcjljaaDoor
