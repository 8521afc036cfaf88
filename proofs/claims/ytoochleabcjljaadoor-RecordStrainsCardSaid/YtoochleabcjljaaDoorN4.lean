/- Rational numbers of package num: one, reduced. -/
import Derived.Test.YtoochleabcjljaaDoorN3
namespace Go.Proofs.YtoochleabcjljaaDoor
open Go.RowKit

theorem box_free {w w1 : World} {cs : Array Value} {T : TypeId} {B : Nat} (hb : Below B (w.alloc (.cells cs T)) w1) (hB : w.heap.size < B) (i : Nat) : w1.frozen? ⟨w.heap.size, i, none⟩ = false := by
  rw [hb.frozen (p := ⟨w.heap.size, i, none⟩) hB]; simp

/-- cells that hold no such value as is overwritten stay -/
theorem Cells.set {w : World} {ao : Option Addr} {cs : List Value} {p : Addr} {v0 u : Value} (h : Cells w ao cs) (hp : w.cell? p = some v0) (hn : ∀ x ∈ cs, x ≠ v0) : Cells (w.setCell p u) ao cs := by
  rcases h with h | ⟨b, off, h1, h2⟩
  · exact .inl h
  · refine .inr ⟨b, off, h1, fun j x hx => ?_⟩
    have h3 := h2 j x hx
    rw [World.cell?_setCell_other]
    · exact h3
    · rintro rfl
      rw [hp] at h3
      exact hn x (List.mem_of_getElem? hx) (Option.some.inj h3).symm

/-- a value that is no number -/
def NoNum : Value → Prop | .int _ _ => False | _ => True
theorem NatV.set {w : World} {v : Value} {n : Nat} {p : Addr} {v0 u : Value} (h : NatV w v n) (hp : w.cell? p = some v0) (hn : NoNum v0) : NatV (w.setCell p u) v n := by
  obtain ⟨a, c, h1, h2, h3⟩ := h
  refine ⟨a, c, h1, h2.set hp ?_, h3⟩
  intro x hx e
  simp only [dgs, List.mem_map] at hx
  obtain ⟨d, _, rfl⟩ := hx
  subst e; exact hn

theorem NatV.box3 {w : World} {v : Value} {n b : Nat} {x0 x1 x2 u0 u1 u2 : Value} (h : NatV w v n) (q0 : w.cell? ⟨b, 0, none⟩ = some x0) (q1 : w.cell? ⟨b, 1, none⟩ = some x1) (q2 : w.cell? ⟨b, 2, none⟩ = some x2)
    (n0 : NoNum x0) (n1 : NoNum x1) (n2 : NoNum x2) : NatV (((w.setCell ⟨b, 0, none⟩ u0).setCell ⟨b, 1, none⟩ u1).setCell ⟨b, 2, none⟩ u2) v n := by
  refine ((h.set q0 n0).set (v0 := x1) ?_ n1).set (v0 := x2) ?_ n2
  · rw [World.cell?_setCell_other _ _ _ _ (by simp)]; exact q1
  · rw [World.cell?_setCell_other _ _ _ _ (by simp), World.cell?_setCell_other _ _ _ _ (by simp)]; exact q2

theorem natV_nil (w : World) : NatV w (.slice none 0 0) 0 := ⟨none, 0, by rw [dig_zero]; rfl, by rw [dig_zero]; exact Cells.nil _ _, by rw [dig_zero]; simp, by omega⟩

theorem dig_1 : dig 1 = [1] := dig_small (by decide) (by decide)

theorem one_any (w : World) :
    Calls Tryd.prog 66 #[] w fun e w' => (∃ v, e = .returned v ∧ NatV w' v 1) ∧ Below w.heap.size w w' := by
  go_enter Tryd.func66, Tryd.ntmps66
  go_wp2
  go_ret
  refine ⟨⟨_, rfl, ⟨some ⟨w.heap.size, 0, none⟩, 1, by rw [dig_1]; rfl, ?_, by rw [dig_1]; simp, by omega⟩⟩, (Below.refl _ _).alloc (Nat.le_refl _) _⟩
  rw [dig_1]
  refine .inr ⟨w.heap.size, 0, rfl, fun j u hu => ?_⟩
  match j, hu with
  | 0, hu => simp [dgs] at hu; subst hu; simp

/-- a struct that is a rational number -/
def RatV (w : World) (v : Value) (s : Bool) (n d : Nat) : Prop := ∃ vn vd, v = .agg #[.bool s, vn, vd] ∧ NatV w vn n ∧ NatV w vd d
theorem RatV.below {w w' : World} {B : Nat} {v : Value} {s : Bool} {n d : Nat} (h : RatV w v s n d) (hb : Below B w w') (hB : w.heap.size ≤ B) : RatV w' v s n d := by
  obtain ⟨vn, vd, h1, h2, h3⟩ := h
  exact ⟨vn, vd, h1, h2.below hb hB, h3.below hb hB⟩

theorem NatV.cases {w : World} {v : Value} {n : Nat} (h : NatV w v n) : ∃ a c, v = .slice a (dig n).length c := by
  obtain ⟨a, c, h1, _⟩ := h; exact ⟨a, c, h1⟩

set_option maxRecDepth 100000 in
theorem reduced_any (K : Nat) (hov : OverOK K) (s : Bool) (va vb : Value) (m n : Nat) (w : World) (ha : NatV w va m) (hb : NatV w vb n) (hm : (dig m).length ≤ 17592186044416) (hn : (dig n).length ≤ 17592186044416) (hK : n < K) (hn0 : n ≠ 0) :
    Calls Tryd.prog 55 #[.bool s, va, vb] w fun e w' => (∃ v, e = .returned v ∧ RatV w' v (s && decide (m ≠ 0)) (m / Nat.gcd m n) (n / Nat.gcd m n)) ∧ Below w.heap.size w w' := by
  by_cases h0 : m = 0
  · subst h0
    have e1 : 0 / Nat.gcd 0 n = 0 := Nat.zero_div _
    have e2 : n / Nat.gcd 0 n = 1 := by rw [Nat.gcd_zero_left]; exact Nat.div_self (by omega)
    obtain ⟨a, c, rfl⟩ := ha.cases
    have hl0 : (dig 0).length = 0 := by rw [dig_zero]; rfl
    rw [hl0]
    have HE1 := Lib.hid e1; have HE2 := Lib.hid e2; clear e1 e2 ha hb hl0
    go_enter Tryd.func55, Tryd.ntmps55
    go_wp2_with fail
    refine (one_any _).mono ?_
    rintro e w1 ⟨⟨v1, rfl, h1⟩, hb1⟩
    have H1 := Lib.hid h1; clear h1
    have q0 : w1.cell? ⟨w.heap.size, 0, none⟩ = some (.bool false) := box_keep hb1 (by simp) 0
    have q1 : w1.cell? ⟨w.heap.size, 1, none⟩ = some (.slice none 0 0) := box_keep hb1 (by simp) 1
    have q2 : w1.cell? ⟨w.heap.size, 2, none⟩ = some (.slice none 0 0) := box_keep hb1 (by simp) 2
    have f0 := box_free hb1 (by simp) 0
    have f1 := box_free hb1 (by simp) 1
    have f2 := box_free hb1 (by simp) 2
    have hz : w.heap.size + 1 ≤ w1.heap.size := by have := hb1.size; simpa using this
    obtain ⟨a1, c1, hv1⟩ := H1.out.cases
    rw [dig_1] at hv1
    subst hv1
    go_wp2
    refine bodyPost_ret (v := .agg #[.bool false, .slice none 0 0, .slice a1 1 c1]) (by simp [results, Tryd.results55, go_sem, q0, q1, q2]) rfl ?_
    refine ⟨⟨_, rfl, ?_⟩, ((((Below.refl _ _).alloc (Nat.le_refl _) _).trans (hb1.mono (by simp))).setCell (Nat.le_refl _) _).setCell (Nat.le_refl _) _ |>.setCell (Nat.le_refl _) _⟩
    rw [HE1.out, HE2.out]
    exact ⟨.slice none 0 0, .slice a1 1 c1, by simp, (natV_nil w1).box3 q0 q1 q2 trivial trivial trivial, H1.out.box3 q0 q1 q2 trivial trivial trivial⟩
  · have hs : (s && decide (m ≠ 0)) = s := by simp [h0]
    have hgp : 0 < Nat.gcd m n := Nat.gcd_pos_of_pos_right _ (by omega)
    have hgn : Nat.gcd m n ≤ n := Nat.gcd_le_right _ (by omega)
    have hgl : (dig (Nat.gcd m n)).length ≤ 17592186044416 := Nat.le_trans (dig_len_mono hgn) hn
    have hcom := common_any K hov va vb m n
    have hov1 := hov
    obtain ⟨a, c, rfl⟩ := ha.cases
    have hml : (((dig m).length : Int) == 0) = false := by
      have : (dig m).length ≠ 0 := by rw [Ne, dig_len_pos]; exact h0
      rw [beq_eq_false_iff_ne]; omega
    have HS := Lib.hid hs; have HCOM := Lib.hid hcom; have HOV := Lib.hid hov1; have HA := Lib.hid ha; have HB := Lib.hid hb
    have HN := Lib.hid hn0; have HM := Lib.hid h0
    clear hs hcom hov hov1 ha hb hn0 h0
    generalize hg : Nat.gcd m n = g at *
    have hg1 := (show g ≠ 0 by omega)
    have hgK : g < K := by omega
    have HG := Lib.hid hg; clear hg
    by_cases hg2 : g = 1
    · subst hg2
      have e1 : m / 1 = m := Nat.div_one _
      have e2 : n / 1 = n := Nat.div_one _
      have HE1 := Lib.hid e1; have HE2 := Lib.hid e2; clear e1 e2 hg1 hgp
      go_enter Tryd.func55, Tryd.ntmps55
      go_wp2_with fail
      refine (HCOM.out _ (HA.out.below ((Below.refl _ _).alloc (Nat.le_refl _) _) (Nat.le_refl _)) (HB.out.below ((Below.refl _ _).alloc (Nat.le_refl _) _) (Nat.le_refl _)) hm hn hK).mono ?_
      rintro e w1 ⟨⟨v1, rfl, h1⟩, hb1⟩
      obtain ⟨a1, c1, hv1⟩ := h1.cases
      have hc1 : Cells w1 a1 (dgs (dig 1)) := by
        obtain ⟨a2, c2, hv2, h2, _⟩ := h1
        rw [hv1] at hv2; simp at hv2; rw [hv2.1]; exact h2
      rw [dig_1] at hv1 hc1
      subst hv1
      obtain ⟨b, off, rfl⟩ := hc1.addr (by simp [dgs])
      have c0 : w1.cell? ⟨b, off, none⟩ = some (.int .u64 1) := hc1.at (j := 0) rfl
      clear h1 hc1
      have q0 : w1.cell? ⟨w.heap.size, 0, none⟩ = some (.bool false) := box_keep hb1 (by simp) 0
      have q1 : w1.cell? ⟨w.heap.size, 1, none⟩ = some (.slice none 0 0) := box_keep hb1 (by simp) 1
      have q2 : w1.cell? ⟨w.heap.size, 2, none⟩ = some (.slice none 0 0) := box_keep hb1 (by simp) 2
      have f0 := box_free hb1 (by simp) 0
      have f1 := box_free hb1 (by simp) 1
      have f2 := box_free hb1 (by simp) 2
      obtain ⟨ab, cb, hvb⟩ := HB.out.cases
      subst hvb
      go_wp2
      refine bodyPost_ret (v := .agg #[.bool s, .slice a (dig m).length c, .slice ab (dig n).length cb]) (by simp [results, Tryd.results55, go_sem, q0, q1, q2]) rfl ?_
      have hbw : Below w.heap.size w w1 := ((Below.refl _ _).alloc (Nat.le_refl _) _).trans (hb1.mono (by simp))
      refine ⟨⟨_, rfl, ?_⟩, ((hbw.setCell (Nat.le_refl _) _).setCell (Nat.le_refl _) _).setCell (Nat.le_refl _) _⟩
      rw [HS.out, HE1.out, HE2.out]
      exact ⟨_, _, rfl, (HA.out.below hbw (Nat.le_refl _)).box3 q0 q1 q2 trivial trivial trivial, (HB.out.below hbw (Nat.le_refl _)).box3 q0 q1 q2 trivial trivial trivial⟩
    · have hg3 : 2 ≤ g := by omega
      go_enter Tryd.func55, Tryd.ntmps55
      go_wp2_with fail
      refine (HCOM.out _ (HA.out.below ((Below.refl _ _).alloc (Nat.le_refl _) _) (Nat.le_refl _)) (HB.out.below ((Below.refl _ _).alloc (Nat.le_refl _) _) (Nat.le_refl _)) hm hn hK).mono ?_
      rintro e w1 ⟨⟨v1, rfl, h1⟩, hb1⟩
      have H1 := Lib.hid h1
      obtain ⟨a1, c1, hv1, hc1, _⟩ := h1
      subst hv1
      have hlp : (dig g).length ≠ 0 := by rw [Ne, dig_len_pos]; exact hg1
      obtain ⟨b, off, rfl⟩ := hc1.addr (dgs_ne (by omega))
      obtain ⟨x, hx⟩ := get_of_lt (show 0 < (dig g).length by omega)
      have c0 : w1.cell? ⟨b, off, none⟩ = some (.int .u64 (x : Nat)) := hc1.dgs hx
      have hx1 : (dig g).length = 1 → 1 < x := by
        intro hl
        have hgs := val_dig g
        obtain ⟨y, hy⟩ : ∃ y, dig g = [y] := by
          match h : dig g, hl with
          | [y], _ => exact ⟨y, rfl⟩
        rw [hy] at hx hgs; simp at hx; subst hx; simp [val] at hgs; omega
      have hbw : Below w.heap.size w w1 := ((Below.refl _ _).alloc (Nat.le_refl _) _).trans (hb1.mono (by simp))
      have hbx := hb1
      have HC1 := Lib.hid hc1; clear hc1 hx
      have HB1 := Lib.hid hb1; clear hb1
      by_cases hl1 : 1 < (dig g).length
      · have hlI : (1 : Int) < (dig g).length := by omega
        clear hx1
        go_wp2_with fail
        refine (HOV.out _ _ m g w1 (HA.out.below hbw (Nat.le_refl _)) H1.out hm hg1 hgK).mono ?_
        rintro e w2 ⟨⟨vq, vr, rfl, hq, _⟩, hb2⟩
        have HQ := Lib.hid hq; clear hq
        have hbw2 : Below w.heap.size w w2 := hbw.trans (hb2.mono hbw.size)
        have hbx2 := hbx.trans (hb2.mono hbx.size)
        have H12 := Lib.hid (H1.out.below hb2 (Nat.le_refl _))
        clear hb2
        go_wp2_with fail
        refine (HOV.out _ _ n g w2 (HB.out.below hbw2 (Nat.le_refl _)) H12.out hn hg1 hgK).mono ?_
        rintro e w3 ⟨⟨vq2, vr2, rfl, hq2, _⟩, hb3⟩
        have HQ1 := Lib.hid (HQ.out.below hb3 (Nat.le_refl _))
        have HQ2 := Lib.hid hq2; clear hq2
        have hbw3 : Below w.heap.size w w3 := hbw2.trans (hb3.mono hbw2.size)
        have hbx3 := hbx2.trans (hb3.mono hbx2.size)
        clear hb3
        have q0 : w3.cell? ⟨w.heap.size, 0, none⟩ = some (.bool false) := box_keep hbx3 (by simp) 0
        have q1 : w3.cell? ⟨w.heap.size, 1, none⟩ = some (.slice none 0 0) := box_keep hbx3 (by simp) 1
        have q2 : w3.cell? ⟨w.heap.size, 2, none⟩ = some (.slice none 0 0) := box_keep hbx3 (by simp) 2
        have f0 := box_free hbx3 (by simp) 0
        have f1 := box_free hbx3 (by simp) 1
        have f2 := box_free hbx3 (by simp) 2
        obtain ⟨aq, cq, hvq⟩ := HQ1.out.cases
        obtain ⟨aq2, cq2, hvq2⟩ := HQ2.out.cases
        subst hvq hvq2
        clear hbx hbx2 hbx3
        go_wp2
        refine bodyPost_ret (v := .agg #[.bool s, .slice aq (dig (m / g)).length cq, .slice aq2 (dig (n / g)).length cq2]) (by simp [results, Tryd.results55, go_sem, q0, q1, q2]) rfl ?_
        refine ⟨⟨_, rfl, ?_⟩, ((hbw3.setCell (Nat.le_refl _) _).setCell (Nat.le_refl _) _).setCell (Nat.le_refl _) _⟩
        rw [HS.out]
        exact ⟨_, _, rfl, HQ1.out.box3 q0 q1 q2 trivial trivial trivial, HQ2.out.box3 q0 q1 q2 trivial trivial trivial⟩
      · have hlI : ¬ (1 : Int) < (dig g).length := by omega
        have hx2 : 1 < x := hx1 (by omega)
        have hlp2 : (0 : Int) < (dig g).length := by omega
        clear hx1
        go_wp2_with fail
        refine (HOV.out _ _ m g w1 (HA.out.below hbw (Nat.le_refl _)) H1.out hm hg1 hgK).mono ?_
        rintro e w2 ⟨⟨vq, vr, rfl, hq, _⟩, hb2⟩
        have HQ := Lib.hid hq; clear hq
        have hbw2 : Below w.heap.size w w2 := hbw.trans (hb2.mono hbw.size)
        have hbx2 := hbx.trans (hb2.mono hbx.size)
        have H12 := Lib.hid (H1.out.below hb2 (Nat.le_refl _))
        clear hb2
        go_wp2_with fail
        refine (HOV.out _ _ n g w2 (HB.out.below hbw2 (Nat.le_refl _)) H12.out hn hg1 hgK).mono ?_
        rintro e w3 ⟨⟨vq2, vr2, rfl, hq2, _⟩, hb3⟩
        have HQ1 := Lib.hid (HQ.out.below hb3 (Nat.le_refl _))
        have HQ2 := Lib.hid hq2; clear hq2
        have hbw3 : Below w.heap.size w w3 := hbw2.trans (hb3.mono hbw2.size)
        have hbx3 := hbx2.trans (hb3.mono hbx2.size)
        clear hb3
        have q0 : w3.cell? ⟨w.heap.size, 0, none⟩ = some (.bool false) := box_keep hbx3 (by simp) 0
        have q1 : w3.cell? ⟨w.heap.size, 1, none⟩ = some (.slice none 0 0) := box_keep hbx3 (by simp) 1
        have q2 : w3.cell? ⟨w.heap.size, 2, none⟩ = some (.slice none 0 0) := box_keep hbx3 (by simp) 2
        have f0 := box_free hbx3 (by simp) 0
        have f1 := box_free hbx3 (by simp) 1
        have f2 := box_free hbx3 (by simp) 2
        obtain ⟨aq, cq, hvq⟩ := HQ1.out.cases
        obtain ⟨aq2, cq2, hvq2⟩ := HQ2.out.cases
        subst hvq hvq2
        clear hbx hbx2 hbx3
        go_wp2
        refine bodyPost_ret (v := .agg #[.bool s, .slice aq (dig (m / g)).length cq, .slice aq2 (dig (n / g)).length cq2]) (by simp [results, Tryd.results55, go_sem, q0, q1, q2]) rfl ?_
        refine ⟨⟨_, rfl, ?_⟩, ((hbw3.setCell (Nat.le_refl _) _).setCell (Nat.le_refl _) _).setCell (Nat.le_refl _) _⟩
        rw [HS.out]
        exact ⟨_, _, rfl, HQ1.out.box3 q0 q1 q2 trivial trivial trivial, HQ2.out.box3 q0 q1 q2 trivial trivial trivial⟩
end Go.Proofs.YtoochleabcjljaaDoor
