/- RecordStrains: the walk. -/
import Derived.Test.YtoochleabcjljaaDoorF4
import Derived.Test.YtoochleabcjljaaDoorA6
namespace Go.Proofs.YtoochleabcjljaaDoor
open Go.RowKit

theorem same_bands_eq2 (aa ab : Option Addr) (ca cb : Nat) (w : World) (xs : List (Int × Int)) (hl : xs.length ≤ 9223372036854775807) (ha : Cells w aa (prs xs)) (hb : Cells w ab (prs xs)) :
    Calls Tryd.prog 12 #[.slice aa xs.length ca, .slice ab xs.length cb] w fun e w' => e = .returned (.bool true) ∧ Below w.heap.size w w' := same_bands_eq aa ab ca cb w xs _ rfl hl ha hb
theorem held_next {w2 wx wq : World} {b : Nat} {u v : Value} (h : wx.cell? ⟨b, 0, none⟩ = some u ∧ wx.cell? ⟨b, 1, none⟩ = some v ∧ Below w2.heap.size w2 wx) (hb : Below wx.heap.size wx wq) :
    wq.cell? ⟨b, 0, none⟩ = some u ∧ wq.cell? ⟨b, 1, none⟩ = some v ∧ Below w2.heap.size w2 wq :=
  ⟨cell_keep h.1 hb (Nat.le_refl _), cell_keep h.2.1 hb (Nat.le_refl _), h.2.2.trans (hb.mono h.2.2.size)⟩
theorem held_bel {A B C : Prop} (h : A ∧ B ∧ C) : C := h.2.2
theorem strain_length (ts : List (Int × Int)) (sh : Int) (xs : List Int) : (strain ts sh xs).length ≤ xs.length := by
  unfold strain; split
  · rw [bands_length]; omega
  · simp

set_option maxRecDepth 100000 in
set_option maxHeartbeats 2000000 in
theorem strains_any (ao : Option Addr) (ts : List (Int × Int)) (cap : Nat) (sh : Int) (ax : Option Addr) (xs : List Int) (cx : Nat) (w : World) (hc : Cells w ao (prs ts)) (hl : ts.length ≤ 9223372036854775807) (hx : Cells w ax (xs.map (Value.int .i64))) (hlx : xs.length ≤ 9223372036854775807) :
    Calls Tryd.prog 3 #[.agg #[.slice ao ts.length cap, .int .i64 sh], .slice ax xs.length cx] w fun e w' => e = .returned (.bool true) ∧ Below w.heap.size w w' := by
  have HC := Lib.hid hc; have HX := Lib.hid hx; clear hc hx
  have hsl := strain_length ts sh xs
  go_enter Tryd.func3, Tryd.ntmps3
  go_wp2_with fail
  have hb0 := (Below.refl w.heap.size w).alloc (Nat.le_refl _) (.cells #[.slice ao ts.length cap, .int .i64 sh] 24)
  refine (strain_any ao ts cap sh ax xs cx _ (HC.out.below hb0 (Nat.le_refl _)) hl (HX.out.below hb0 (Nat.le_refl _)) hlx).mono ?_
  rintro e w1 ⟨⟨a1, c1, rfl, hc1⟩, hb1⟩
  have q0 : w1.cell? ⟨w.heap.size, 0, none⟩ = some (.slice ao ts.length cap) := box_keep hb1 (by simp) 0
  have q1 : w1.cell? ⟨w.heap.size, 1, none⟩ = some (.int .i64 sh) := box_keep hb1 (by simp) 1
  have n1 := hb0.trans (hb1.mono (by simp))
  have HC1 := Lib.hid hc1
  clear hc1 hb0 hb1
  go_wp2_with fail
  refine (refStrain_any ao ts cap sh ax xs cx w1 (HC.out.below n1 (Nat.le_refl _)) hl (HX.out.below n1 (Nat.le_refl _)) hlx).mono ?_
  rintro e w2 ⟨⟨a2, c2, rfl, hc2⟩, hb2⟩
  have n2 := n1.trans (hb2.mono n1.size)
  have HC2 := Lib.hid hc2
  have HC12 := Lib.hid (HC1.out.below hb2 (Nat.le_refl _))
  have p0 := cell_keep q0 hb2 (Nat.le_refl _)
  have p1 := cell_keep q1 hb2 (Nat.le_refl _)
  have HCn := Lib.hid (HC.out.below n2 (Nat.le_refl _))
  have HXn := Lib.hid (HX.out.below n2 (Nat.le_refl _))
  clear hc2 q0 q1 n1 hb2 HC1
  have N2 := Lib.hid n2
  have hrf := Below.refl w2.heap.size w2
  clear n2
  go_wp2
  generalize modErr ts sh = me
  generalize serErr xs = se
  have p0d : w2.drew.cell? ⟨w.heap.size, 0, none⟩ = some (.slice ao ts.length cap) := p0
  have p1d : w2.drew.cell? ⟨w.heap.size, 1, none⟩ = some (.int .i64 sh) := p1
  have hrfd := hrf.drew
  go_region_held3 (fun w' => w'.cell? ⟨w.heap.size, 0, none⟩ = some (.slice ao ts.length cap) ∧ w'.cell? ⟨w.heap.size, 1, none⟩ = some (.int .i64 sh) ∧ Below w2.heap.size w2 w')
    (first | exact ⟨p0d, p1d, hrfd⟩ | exact held_next ⟨p0d, p1d, hrfd⟩ hbq | exact held_next (by assumption) hbq)
    (first
      | (go_at_call 8; refine (checkModel_any ao ts cap sh _ (HCn.out.below (by first | assumption | (apply held_bel; assumption)) (Nat.le_refl _)) hl).mono ?_; rintro e wq ⟨rfl, hbq⟩)
      | (go_at_call 9; refine (refCheckModel_any ao ts cap sh _ (HCn.out.below (by first | assumption | (apply held_bel; assumption)) (Nat.le_refl _)) hl).mono ?_; rintro e wq ⟨rfl, hbq⟩)
      | (go_at_call 10; refine (checkSeries_any ax xs cx _ (HXn.out.below (by first | assumption | (apply held_bel; assumption)) (Nat.le_refl _)) hlx).mono ?_; rintro e wq ⟨rfl, hbq⟩)
      | (go_at_call 11; refine (refCheckSeries_any ax xs cx _ (HXn.out.below (by first | assumption | (apply held_bel; assumption)) (Nat.le_refl _)) hlx).mono ?_; rintro e wq ⟨rfl, hbq⟩)
      | (go_at_call 12; refine (same_bands_eq2 a1 a2 c1 c2 _ (strain ts sh xs) (by omega) (HC12.out.below (by first | assumption | (apply held_bel; assumption)) (Nat.le_refl _)) (HC2.out.below (by first | assumption | (apply held_bel; assumption)) (Nat.le_refl _))).mono ?_; rintro e wq ⟨rfl, hbq⟩)
      | (go_at_call 13; refine (works_any _).mono ?_; rintro e wq ⟨rfl, hbq⟩))
  have hz : Below w2.heap.size w2 wq := by apply held_bel; assumption
  have hfin := N2.out.trans (hz.mono N2.out.size)
  go_wp2
  go_ret
  exact ⟨rfl, hfin⟩
end Go.Proofs.YtoochleabcjljaaDoor
