/- Numbers of package num: whole, plain. -/
import Derived.Test.YtoochleabcjljaaDoorN4
import Derived.Deep.RegionWith
namespace Go.Proofs.YtoochleabcjljaaDoor
open Go.RowKit

/-- a struct that is a complex number -/
def ValV (w : World) (v : Value) (s1 : Bool) (n1 d1 : Nat) (s2 : Bool) (n2 d2 : Nat) : Prop := ∃ a b c d, v = .agg #[.bool s1, a, b, .bool s2, c, d] ∧ NatV w a n1 ∧ NatV w b d1 ∧ NatV w c n2 ∧ NatV w d d2
theorem ValV.below {w w' : World} {B : Nat} {v : Value} {s1 s2 : Bool} {n1 d1 n2 d2 : Nat} (h : ValV w v s1 n1 d1 s2 n2 d2) (hb : Below B w w') (hB : w.heap.size ≤ B) : ValV w' v s1 n1 d1 s2 n2 d2 := by
  obtain ⟨a, b, c, d, h1, h2, h3, h4, h5⟩ := h
  exact ⟨a, b, c, d, h1, h2.below hb hB, h3.below hb hB, h4.below hb hB, h5.below hb hB⟩

theorem box_keep2 {w w1 : World} {o : Obj} {cs : Array Value} {T : TypeId} {B : Nat} (hb : Below B ((w.alloc (.cells cs T)).alloc o) w1) (hB : w.heap.size < B) (i : Nat) : w1.cell? ⟨w.heap.size, i, none⟩ = cs[i]? := by
  rw [hb.cell (p := ⟨w.heap.size, i, none⟩) hB]; simp
theorem box_keep1 {w w1 : World} {o : Obj} {cs : Array Value} {T : TypeId} {B : Nat} (hb : Below B ((w.alloc o).alloc (.cells cs T)) w1) (hB : w.heap.size + 1 < B) (i : Nat) : w1.cell? ⟨w.heap.size + 1, i, none⟩ = cs[i]? := by
  have := box_keep (w := w.alloc o) hb (by simpa using hB) i
  simpa using this
theorem box_free1 {w w1 : World} {o : Obj} {cs : Array Value} {T : TypeId} {B : Nat} (hb : Below B ((w.alloc o).alloc (.cells cs T)) w1) (hB : w.heap.size + 1 < B) (i : Nat) : w1.frozen? ⟨w.heap.size + 1, i, none⟩ = false := by
  have := box_free (w := w.alloc o) hb (by simpa using hB) i
  simpa using this

theorem bel_undrew {B : Nat} {a w : World} (h : Below B a.drew w) : Below B a w := ⟨h.os, h.tape, h.output, h.size, h.block⟩

theorem NatV.box6 {w : World} {v : Value} {n b : Nat} {x0 x1 x2 x3 x4 x5 u0 u1 u2 u3 u4 u5 : Value} (h : NatV w v n) (q0 : w.cell? ⟨b, 0, none⟩ = some x0) (q1 : w.cell? ⟨b, 1, none⟩ = some x1) (q2 : w.cell? ⟨b, 2, none⟩ = some x2)
    (q3 : w.cell? ⟨b, 3, none⟩ = some x3) (q4 : w.cell? ⟨b, 4, none⟩ = some x4) (q5 : w.cell? ⟨b, 5, none⟩ = some x5)
    (n0 : NoNum x0) (n1 : NoNum x1) (n2 : NoNum x2) (n3 : NoNum x3) (n4 : NoNum x4) (n5 : NoNum x5) :
    NatV ((((((w.setCell ⟨b, 0, none⟩ u0).setCell ⟨b, 1, none⟩ u1).setCell ⟨b, 2, none⟩ u2).setCell ⟨b, 3, none⟩ u3).setCell ⟨b, 4, none⟩ u4).setCell ⟨b, 5, none⟩ u5) v n := by
  refine (((h.box3 q0 q1 q2 n0 n1 n2).set (v0 := x3) ?_ n3).set (v0 := x4) ?_ n4).set (v0 := x5) ?_ n5
  all_goals
    repeat (rw [World.cell?_setCell_other _ _ _ _ (by simp)])
    assumption

set_option maxRecDepth 100000 in
theorem plain_any (s : Bool) (n d : Nat) (vx : Value) (w : World) (hx : RatV w vx s n d) :
    Calls Tryd.prog 54 #[vx] w fun e w' => (∃ v, e = .returned v ∧ ValV w' v s n d false 0 1) ∧ Below w.heap.size w w' := by
  obtain ⟨vn, vd, rfl, hn, hd⟩ := hx
  have HN := Lib.hid hn; have HD := Lib.hid hd
  obtain ⟨an, cn, rfl⟩ := hn.cases
  obtain ⟨ad, cd, rfl⟩ := hd.cases
  clear hn hd
  go_enter Tryd.func54, Tryd.ntmps54
  go_wp2_with fail
  go_region_with (go_at_call 66; refine (one_any _).mono ?_; rintro e w1 ⟨⟨v1, rfl, h1⟩, hb1⟩; have hb2 := bel_undrew hb1; have p0 : w1.cell? ⟨w.heap.size, 0, none⟩ = some (.bool s) := box_keep2 hb2 (by simp; omega) 0; have p1 : w1.cell? ⟨w.heap.size, 1, none⟩ = some (.slice an (dig n).length cn) := box_keep2 hb2 (by simp; omega) 1; have p2 : w1.cell? ⟨w.heap.size, 2, none⟩ = some (.slice ad (dig d).length cd) := box_keep2 hb2 (by simp; omega) 2; have q0 : w1.cell? ⟨w.heap.size + 1, 0, none⟩ = some (.bool false) := box_keep1 hb2 (by simp) 0; have q1 : w1.cell? ⟨w.heap.size + 1, 1, none⟩ = some (.slice none 0 0) := box_keep1 hb2 (by simp) 1; have q2 : w1.cell? ⟨w.heap.size + 1, 2, none⟩ = some (.slice none 0 0) := box_keep1 hb2 (by simp) 2; have q3 : w1.cell? ⟨w.heap.size + 1, 3, none⟩ = some (.bool false) := box_keep1 hb2 (by simp) 3; have q4 : w1.cell? ⟨w.heap.size + 1, 4, none⟩ = some (.slice none 0 0) := box_keep1 hb2 (by simp) 4; have q5 : w1.cell? ⟨w.heap.size + 1, 5, none⟩ = some (.slice none 0 0) := box_keep1 hb2 (by simp) 5; have f0 := box_free1 hb2 (by simp) 0; have f1 := box_free1 hb2 (by simp) 1; have f2 := box_free1 hb2 (by simp) 2; have f3 := box_free1 hb2 (by simp) 3; have f4 := box_free1 hb2 (by simp) 4; have f5 := box_free1 hb2 (by simp) 5; obtain ⟨a1, c1, hv1⟩ := h1.cases; rw [dig_1] at hv1; subst hv1)
  all_goals
    have H1 := Lib.hid h1; clear h1
    have hbw : Below w.heap.size w w1 := (((Below.refl _ _).alloc (Nat.le_refl _) _).alloc (by simp) _).trans (hb2.mono (by simp; omega))
    clear hb1 hb2
    go_wp2
    refine bodyPost_ret (v := .agg #[.bool s, .slice an (dig n).length cn, .slice ad (dig d).length cd, .bool false, .slice none 0 0, .slice a1 1 c1]) (by simp [results, Tryd.results54, go_sem, q0, q1, q2, q3, q4, q5]) rfl ?_
    refine ⟨⟨_, rfl, ?_⟩, ?_⟩
    · exact ⟨_, _, _, _, rfl, (HN.out.below hbw (Nat.le_refl _)).box6 q0 q1 q2 q3 q4 q5 trivial trivial trivial trivial trivial trivial, (HD.out.below hbw (Nat.le_refl _)).box6 q0 q1 q2 q3 q4 q5 trivial trivial trivial trivial trivial trivial, (natV_nil w1).box6 q0 q1 q2 q3 q4 q5 trivial trivial trivial trivial trivial trivial, H1.out.box6 q0 q1 q2 q3 q4 q5 trivial trivial trivial trivial trivial trivial⟩
    · exact (((((hbw.setCell (p := ⟨w.heap.size + 1, 0, none⟩) (by simp) _).setCell (p := ⟨w.heap.size + 1, 1, none⟩) (by simp) _).setCell (p := ⟨w.heap.size + 1, 2, none⟩) (by simp) _).setCell (p := ⟨w.heap.size + 1, 3, none⟩) (by simp) _).setCell (p := ⟨w.heap.size + 1, 4, none⟩) (by simp) _).setCell (p := ⟨w.heap.size + 1, 5, none⟩) (by simp) _
end Go.Proofs.YtoochleabcjljaaDoor
