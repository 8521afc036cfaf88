/- Parts of a proof, in build order: NJ, NK, NQ, NT, NX, NL. -/
import Derived.Test.YtdpjdifoonfcdaaGreatDoorKh11
import Derived.Deep.AppendLies

namespace Go.Proofs.YtdpjdifoonfcdaaGreatDoor
open Go.RowKit
theorem NCell.vq {w : World} {c : List Value} {q : Rat} (h : NCell w c (pq q)) : VQ w (.agg c.toArray) q := by
 obtain ⟨a1, c1, a2, c2, a3, c3, a4, c4, rfl, j1, j2, j3, j4⟩ := h
 exact ⟨_, _, _, _, rfl, j1, j2, j3, j4⟩
theorem VQ.cell {w : World} {q : Rat} {a1 a2 a3 a4 : Option Addr} {c1 c2 c3 c4 : Nat} (h : VQ w (.agg #[.bool (qS q), .slice a1 (dig (qN q)).length c1, .slice a2 (dig (qD q)).length c2, .bool false, .slice a3 (dig 0).length c3, .slice a4 (dig 1).length c4]) q) : NCell w [.bool (qS q), .slice a1 (dig (qN q)).length c1, .slice a2 (dig (qD q)).length c2, .bool false, .slice a3 (dig 0).length c3, .slice a4 (dig 1).length c4] (pq q) := by
 obtain ⟨b1, b2, b3, b4, e, k1, k2, k3, k4⟩ := h
 injection e with e
 simp only [Array.mk.injEq, List.cons.injEq, and_true, true_and] at e
 obtain ⟨rfl, rfl, rfl, rfl⟩ := e
 exact ⟨_, _, _, _, _, _, _, _, rfl, k1, k2, k3, k4⟩
theorem NCell.shape {w : World} {c : List Value} {q : Rat} (h : NCell w c (pq q)) : ∃ a1 c1 a2 c2 a3 c3 a4 c4, c = [.bool (qS q), .slice a1 (dig (qN q)).length c1, .slice a2 (dig (qD q)).length c2, .bool false, .slice a3 (dig 0).length c3, .slice a4 (dig 1).length c4] := by
 obtain ⟨a1, c1, a2, c2, a3, c3, a4, c4, rfl, -⟩ := h
 exact ⟨_, _, _, _, _, _, _, _, rfl⟩
def QRow (w : World) (cs : List (List Value)) (xs : List Rat) : Prop := NRow w cs (xs.map pq)
theorem QRow.len {w : World} {cs : List (List Value)} {xs : List Rat} (h : QRow w cs xs) : cs.length = xs.length := by have := h.1; rwa [List.length_map] at this
theorem QRow.below {w w' : World} {B : Nat} {cs : List (List Value)} {xs : List Rat} (h : QRow w cs xs) (hb : Below B w w') (hB : w.heap.size <= B) : QRow w' cs xs := NRow.below h hb hB
theorem QRow.six {w : World} {cs : List (List Value)} {xs : List Rat} (h : QRow w cs xs) : ∀ c ∈ cs, c.length = 6 := NRow.six h
theorem QRow.cell {w : World} {cs : List (List Value)} {xs : List Rat} (h : QRow w cs xs) {k : Nat} {c : List Value} {x : Rat} (hc : cs[k]? = some c) (hx : xs[k]? = some x) : NCell w c (pq x) := h.2 k c (pq x) hc (by rw [List.getElem?_map, hx]; rfl)
theorem QRow.get {w : World} {cs : List (List Value)} {xs : List Rat} (h : QRow w cs xs) {k : Nat} {x : Rat} (hx : xs[k]? = some x) : ∃ c, cs[k]? = some c /\ NCell w c (pq x) := by
 obtain ⟨c, hc⟩ := get_of_lt (show k < cs.length by rw [h.len]; exact (List.getElem?_eq_some_iff.1 hx).1)
 exact ⟨c, hc, h.cell hc hx⟩
theorem row_cells {w : World} {ao : Option Addr} {cs : List (List Value)} (hc : Cells w ao cs.flatten) (h6 : ∀ c ∈ cs, c.length = 6) {k : Nat} {c : List Value} (hk : cs[k]? = some c) : ∃ b off, ao = some ⟨b, off, none⟩ /\ ∀ j u, c[j]? = some u -> w.cell? ⟨b, off + (k * 6 + j), none⟩ = some u := by
 have hlen : c.length = 6 := h6 c (List.mem_of_getElem? hk)
 obtain ⟨u0, hu0⟩ := get_of_lt (show 0 < c.length by omega)
 obtain ⟨b, off, rfl⟩ := hc.addr (by intro h; have := flat_get h6 hk hu0; rw [h] at this; cases this)
 exact ⟨b, off, rfl, fun j u hu => hc.at (flat_get h6 hk hu)⟩
set_option maxRecDepth 100000 in
set_option maxHeartbeats 4000000 in
theorem dotV_any (ao bo : Option Addr) (cs ds : List (List Value)) (xs ys : List Rat) (ca cb : Nat) (w : World) (hc : Cells w ao cs.flatten) (hx : QRow w cs xs) (hd : Cells w bo ds.flatten) (hy : QRow w ds ys) (hl : ys.length = xs.length) (hl2 : xs.length <= 4096) (bx : ∀ x ∈ xs, hgt x <= 10000) (by' : ∀ y ∈ ys, hgt y <= 10000) :
 Calls Tryz.prog 205 #[.slice ao xs.length ca, .slice bo xs.length cb] w (VQRes (dotQ xs ys) w) := by
 have HC := Lib.hid hc; have HX := Lib.hid hx; have HD := Lib.hid hd; have HY := Lib.hid hy; have BX := Lib.hid bx; have BY := Lib.hid by'; have HL := Lib.hid hl
 clear hc hx hd hy bx by' hl
 have hwh := fun W => whole_any 0 W (by omega) (by omega)
 have HWH : Hid (∀ W, Calls Tryz.prog 82 #[.int .i64 0] W fun e w' => (∃ v, e = .returned v /\ RatV w' v false 0 1) /\ Below W.heap.size W w') := hwh
 clear hwh
 obtain ⟨W0, hW0⟩ : ∃ W0, W0 = w.alloc (.cells #[.bool false, .slice none 0 0, .slice none 0 0, .bool false, .slice none 0 0, .slice none 0 0] 148) := ⟨_, rfl⟩
 have hbk0 : Blk W0 w.heap.size 148 #[.bool false, .slice none 0 0, .slice none 0 0, .bool false, .slice none 0 0, .slice none 0 0] := by rw [hW0]; exact Blk.new w _ _
 have hb0 : Below w.heap.size w W0 := by rw [hW0]; exact (Below.refl _ _).alloc (Nat.le_refl _) _
 have hz0 : W0.heap.size = w.heap.size + 1 := by rw [hW0]; simp
 have HBK0 := Lib.hid hbk0; have HB0 := Lib.hid hb0
 clear hbk0 hb0
 go_enter Tryz.func205, Tryz.ntmps205
 go_wp2_with fail
 rw [<- hW0]
 clear hW0
 refine (HWH.out _).mono ?_
 rintro e w2 ⟨⟨v2, rfl, hv2⟩, hb2⟩
 obtain ⟨z1, y1, z2, y2, rfl, k1, k2⟩ := hv2.slices
 go_wp2_with fail
 refine (plain_any false 0 1 _ _ hv2).mono ?_
 rintro e w3 ⟨⟨v3, rfl, hv3⟩, hb3⟩
 clear hv2 k1 k2
 obtain ⟨b1, d1, b2, d2, b3, d3, b4, d4, rfl, j1, j2, j3, j4⟩ := hv3.slices
 have hb13 : Below W0.heap.size W0 w3 := hb2.trans (hb3.mono hb2.size)
 obtain ⟨W4, hW4⟩ : ∃ W4, W4 = w3.alloc (.cells #[Value.bool false, .slice b1 (dig 0).length d1, .slice b2 (dig 1).length d2, .bool false, .slice b3 (dig 0).length d3, .slice b4 (dig 1).length d4] 148) := ⟨_, rfl⟩
 have hbkG : Blk W4 w3.heap.size 148 #[Value.bool false, .slice b1 (dig 0).length d1, .slice b2 (dig 1).length d2, .bool false, .slice b3 (dig 0).length d3, .slice b4 (dig 1).length d4] := by rw [hW4]; exact Blk.new w3 _ _
 have hal3 : Below w3.heap.size w3 W4 := by rw [hW4]; exact (Below.refl w3.heap.size w3).alloc (Nat.le_refl _) _
 have hnc0 : NCell W4 [.bool false, .slice b1 (dig 0).length d1, .slice b2 (dig 1).length d2, .bool false, .slice b3 (dig 0).length d3, .slice b4 (dig 1).length d4] (pq (dotQ (xs.take 0) (ys.take 0))) := by
  have e0 : dotQ (xs.take 0) (ys.take 0) = 0 := rfl
  rw [e0]
  exact ⟨b1, d1, b2, d2, b3, d3, b4, d4, rfl, j1.below hal3 (Nat.le_refl _), j2.below hal3 (Nat.le_refl _), j3.below hal3 (Nat.le_refl _), j4.below hal3 (Nat.le_refl _)⟩
 have hb14 : Below W0.heap.size W0 W4 := hb13.trans (hal3.mono hb13.size)
 have HBKG := Lib.hid hbkG; have HNC0 := Lib.hid hnc0; have HB14 := Lib.hid hb14
 have hsz3 := hb13.size
 obtain ⟨G, hG⟩ : ∃ G, G = w3.heap.size := ⟨_, rfl⟩
 clear hv3 j1 j2 j3 j4 hbkG hnc0 hb14 hal3 hb13 hb2 hb3
 go_wp2_with fail
 rw [<- hW4]
 rw [<- hG] at HBKG hsz3 ⊢
 clear hW4 hG
 go_loopw [12] (fun iv wr => ∃ (k : Nat) (cc : List Value), k <= xs.length /\ iv = .int .i64 k /\ NCell wr cc (pq (dotQ (xs.take k) (ys.take k))) /\ Blk wr G 148 cc.toArray /\ Below W0.heap.size W0 wr) (fun iv _ => xs.length - (intOf iv).toNat)
 case atStart => exact ⟨0, _, Nat.zero_le _, rfl, HNC0.out, HBKG.out, HB14.out⟩
 case round =>
  clear HBKG HNC0 HB14
  obtain ⟨k, cq, hk, rfl, hnc, hbk, hbw⟩ := hrel
  have hGlt := hbk.lt
  have hq1 : hgt (dotQ (xs.take k) (ys.take k)) <= 110000000 := hgt_take BX.out BY.out (by omega) (by decide)
  obtain ⟨q, hq⟩ : ∃ q, dotQ (xs.take k) (ys.take k) = q := ⟨_, rfl⟩
  rw [hq] at hnc hq1
  have HQ := Lib.hid hq
  have HQV := Lib.hid hnc.vq
  obtain ⟨b1, d1, b2, d2, b3, d3, b4, d4, rfl⟩ := hnc.shape
  have HBK := Lib.hid hbk
  clear hnc hbk hq
  by_cases hlt : k < xs.length
  · obtain ⟨x, hxk⟩ := get_of_lt hlt
    obtain ⟨y, hyk⟩ := get_of_lt (show k < ys.length by rw [HL.out]; exact hlt)
    obtain ⟨te, htc, hte⟩ := HX.out.get hxk
    obtain ⟨ue, huc, hue⟩ := HY.out.get hyk
    have hbwW := HB0.out.trans (hbw.mono HB0.out.size)
    have hxv := (hte.below hbwW (Nat.le_refl _)).vq
    have hyv := (hue.below hbwW (Nat.le_refl _)).vq
    obtain ⟨a1, c1, a2, c2, a3, c3, a4, c4, rfl⟩ := hte.shape
    obtain ⟨m1, n1, m2, n2, m3, n3, m4, n4, rfl⟩ := hue.shape
    obtain ⟨ba, offa, rfl, hxc⟩ := row_cells HC.out HX.out.six htc
    obtain ⟨bb, offb, rfl, hyc⟩ := row_cells HD.out HY.out.six huc
    have hkx := fun (j : Nat) (u : Value) h => cell_keep (hxc j u h) hbwW (Nat.le_refl _)
    have hky := fun (j : Nat) (u : Value) h => cell_keep (hyc j u h) hbwW (Nat.le_refl _)
    have x0 := hkx 0 _ rfl
    have x1 := hkx 1 _ rfl
    have x2 := hkx 2 _ rfl
    have x3 := hkx 3 _ rfl
    have x4 := hkx 4 _ rfl
    have x5 := hkx 5 _ rfl
    have y0 := hky 0 _ rfl
    have y1 := hky 1 _ rfl
    have y2 := hky 2 _ rfl
    have y3 := hky 3 _ rfl
    have y4 := hky 4 _ rfl
    have y5 := hky 5 _ rfl
    simp only [<- Nat.add_assoc, Nat.add_zero] at x0 x1 x2 x3 x4 x5 y0 y1 y2 y3 y4 y5
    have hx1 : hgt x <= 10000 := BX.out x (List.mem_of_getElem? hxk)
    have hy1 : hgt y <= 10000 := BY.out y (List.mem_of_getElem? hyk)
    have hxy := hgt_mul x y
    have hsn : dotQ (xs.take (k + 1)) (ys.take (k + 1)) = q + x * y := by rw [dotQ_take hxk hyk, HQ.out]
    have HSN := Lib.hid hsn; have HXV := Lib.hid hxv; have HYV := Lib.hid hyv
    have i0 : (k : Int) < xs.length := by omega
    have hTI : ∀ W, Below wr.heap.size wr W -> Calls Tryz.prog 201 #[.agg #[.bool (qS x), .slice a1 (dig (qN x)).length c1, .slice a2 (dig (qD x)).length c2, .bool false, .slice a3 (dig 0).length c3, .slice a4 (dig 1).length c4], .agg #[.bool (qS y), .slice m1 (dig (qN y)).length n1, .slice m2 (dig (qD y)).length n2, .bool false, .slice m3 (dig 0).length n3, .slice m4 (dig 1).length n4]] W (VQRes (x * y) W) := fun W hb => timesQ _ _ x y W (HXV.out.below hb (Nat.le_refl _)) (HYV.out.below hb (Nat.le_refl _)) (by omega) (by omega)
    have hPL : ∀ v W, Below wr.heap.size wr W -> VQ W v (x * y) -> Calls Tryz.prog 138 #[.agg #[.bool (qS q), .slice b1 (dig (qN q)).length d1, .slice b2 (dig (qD q)).length d2, .bool false, .slice b3 (dig 0).length d3, .slice b4 (dig 1).length d4], v] W (VQRes (q + x * y) W) := fun v W hb hv => valPlusQ _ v q (x * y) W (HQV.out.below hb (Nat.le_refl _)) hv (by omega) (by omega)
    have HTI := Lib.hid hTI; have HPL := Lib.hid hPL
    obtain ⟨W1, hW1⟩ : ∃ W1, W1 = wr.alloc (.cells #[.bool (qS x), .slice a1 (dig (qN x)).length c1, .slice a2 (dig (qD x)).length c2, .bool false, .slice a3 (dig 0).length c3, .slice a4 (dig 1).length c4] 148) := ⟨_, rfl⟩
    have hal : Below wr.heap.size wr W1 := by rw [hW1]; exact (Below.refl _ _).alloc (Nat.le_refl _) _
    have hbkX : Blk W1 wr.heap.size 148 #[.bool (qS x), .slice a1 (dig (qN x)).length c1, .slice a2 (dig (qD x)).length c2, .bool false, .slice a3 (dig 0).length c3, .slice a4 (dig 1).length c4] := by rw [hW1]; exact Blk.new wr _ _
    have hz1 : W1.heap.size = wr.heap.size + 1 := by rw [hW1]; simp
    have HAL := Lib.hid hal; have HBW := Lib.hid hbw; have HBKX := Lib.hid hbkX
    have hwsz := hbw.size
    clear hte hue htc huc hxv hyv hxc hyc hkx hky hsn hTI hPL hal hbw hbwW hbkX hxk hyk
    have HBW1 := Lib.hid (HBK.out.below HAL.out hGlt)
    have hG1 : G < W1.heap.size := by omega
    have HPW : Hid (∀ W, Below W1.heap.size W1 W -> Below wr.heap.size wr W) := fun W h => HAL.out.trans (h.mono HAL.out.size)
    have n1' : ¬ G = wr.heap.size := by omega
    have i1 : 0 <= (k : Int) := by omega
    have so0 : W1.cell? ⟨G, 0, none⟩ = some (.bool (qS q)) := HBW1.out.cell 0
    have so1 : W1.cell? ⟨G, 1, none⟩ = some (.slice b1 (dig (qN q)).length d1) := HBW1.out.cell 1
    have so2 : W1.cell? ⟨G, 2, none⟩ = some (.slice b2 (dig (qD q)).length d2) := HBW1.out.cell 2
    have so3 : W1.cell? ⟨G, 3, none⟩ = some (.bool false) := HBW1.out.cell 3
    have so4 : W1.cell? ⟨G, 4, none⟩ = some (.slice b3 (dig 0).length d3) := HBW1.out.cell 4
    have so5 : W1.cell? ⟨G, 5, none⟩ = some (.slice b4 (dig 1).length d4) := HBW1.out.cell 5
    have se0 : W1.cell? ⟨wr.heap.size, 0, none⟩ = some (.bool (qS x)) := HBKX.out.cell 0
    have se1 : W1.cell? ⟨wr.heap.size, 1, none⟩ = some (.slice a1 (dig (qN x)).length c1) := HBKX.out.cell 1
    have se2 : W1.cell? ⟨wr.heap.size, 2, none⟩ = some (.slice a2 (dig (qD x)).length c2) := HBKX.out.cell 2
    have se3 : W1.cell? ⟨wr.heap.size, 3, none⟩ = some (.bool false) := HBKX.out.cell 3
    have se4 : W1.cell? ⟨wr.heap.size, 4, none⟩ = some (.slice a3 (dig 0).length c3) := HBKX.out.cell 4
    have se5 : W1.cell? ⟨wr.heap.size, 5, none⟩ = some (.slice a4 (dig 1).length c4) := HBKX.out.cell 5
    have sy0 : W1.cell? ⟨bb, offb + k * 6, none⟩ = some (.bool (qS y)) := cell_keep y0 HAL.out (Nat.le_refl _)
    have sy1 : W1.cell? ⟨bb, offb + k * 6 + 1, none⟩ = some (.slice m1 (dig (qN y)).length n1) := cell_keep y1 HAL.out (Nat.le_refl _)
    have sy2 : W1.cell? ⟨bb, offb + k * 6 + 2, none⟩ = some (.slice m2 (dig (qD y)).length n2) := cell_keep y2 HAL.out (Nat.le_refl _)
    have sy3 : W1.cell? ⟨bb, offb + k * 6 + 3, none⟩ = some (.bool false) := cell_keep y3 HAL.out (Nat.le_refl _)
    have sy4 : W1.cell? ⟨bb, offb + k * 6 + 4, none⟩ = some (.slice m3 (dig 0).length n3) := cell_keep y4 HAL.out (Nat.le_refl _)
    have sy5 : W1.cell? ⟨bb, offb + k * 6 + 5, none⟩ = some (.slice m4 (dig 1).length n4) := cell_keep y5 HAL.out (Nat.le_refl _)
    clear y0 y1 y2 y3 y4 y5
    go_wp2_with fail
    rw [<- hW1]
    clear hW1 x0 x1 x2 x3 x4 x5
    have hS : Below W1.heap.size W1 W1.drew := (Below.refl _ _).drew
    refine wp_region_drewJ (T := fun j w9 => j < 8 -> Below W1.heap.size W1 w9) (by kernel_rfl) ?_
    refine tjV 0 (.agg #[.bool (qS q), .slice b1 (dig (qN q)).length d1, .slice b2 (dig (qD q)).length d2, .bool false, .slice b3 (dig 0).length d3, .slice b4 (dig 1).length d4]) (fun w9 => Below W1.heap.size W1 w9) (fun j => decide (j < 8)) hS (fun _ h _ => h) (fun j hj _ h => h (of_decide_eq_true hj)) ?_ (hy := by intro w9 h9; have p0 := cell_keep so0 h9 (Nat.le_refl _); have p1 := cell_keep so1 h9 (Nat.le_refl _); have p2 := cell_keep so2 h9 (Nat.le_refl _); have p3 := cell_keep so3 h9 (Nat.le_refl _); have p4 := cell_keep so4 h9 (Nat.le_refl _); have p5 := cell_keep so5 h9 (Nat.le_refl _); go_simp)
    refine tjV 1 (.agg #[.bool (qS x), .slice a1 (dig (qN x)).length c1, .slice a2 (dig (qD x)).length c2, .bool false, .slice a3 (dig 0).length c3, .slice a4 (dig 1).length c4]) (fun w9 => Below W1.heap.size W1 w9) (fun j => decide (j < 8)) hS (fun _ h _ => h) (fun j hj _ h => h (of_decide_eq_true hj)) ?_ (hy := by intro w9 h9; have p0 := cell_keep se0 h9 (Nat.le_refl _); have p1 := cell_keep se1 h9 (Nat.le_refl _); have p2 := cell_keep se2 h9 (Nat.le_refl _); have p3 := cell_keep se3 h9 (Nat.le_refl _); have p4 := cell_keep se4 h9 (Nat.le_refl _); have p5 := cell_keep se5 h9 (Nat.le_refl _); go_simp)
    refine tjV 2 (.slice (some ⟨bb, offb, none⟩) xs.length cb) (fun w9 => Below W1.heap.size W1 w9) (fun j => decide (j < 8)) hS (fun _ h _ => h) (fun j hj _ h => h (of_decide_eq_true hj)) ?_
    refine tjV 3 (.int .i64 k) (fun w9 => Below W1.heap.size W1 w9) (fun j => decide (j < 8)) hS (fun _ h _ => h) (fun j hj _ h => h (of_decide_eq_true hj)) ?_
    refine tjV 4 (.pointer (some ⟨bb, offb + k * 6, none⟩)) (fun w9 => Below W1.heap.size W1 w9) (fun j => decide (j < 8)) hS (fun _ h _ => h) (fun j hj _ h => h (of_decide_eq_true hj)) ?_
    refine tjV 5 (.agg #[.bool (qS y), .slice m1 (dig (qN y)).length n1, .slice m2 (dig (qD y)).length n2, .bool false, .slice m3 (dig 0).length n3, .slice m4 (dig 1).length n4]) (fun w9 => Below W1.heap.size W1 w9) (fun j => decide (j < 8)) hS (fun _ h _ => h) (fun j hj _ h => h (of_decide_eq_true hj)) ?_ (hy := by intro w9 h9; have p0 := cell_keep sy0 h9 (Nat.le_refl _); have p1 := cell_keep sy1 h9 (Nat.le_refl _); have p2 := cell_keep sy2 h9 (Nat.le_refl _); have p3 := cell_keep sy3 h9 (Nat.le_refl _); have p4 := cell_keep sy4 h9 (Nat.le_refl _); have p5 := cell_keep sy5 h9 (Nat.le_refl _); go_simp)
    refine tjC 6 (fun K hK => ?_)
    go_simp
    refine (HTI.out _ (HPW.out _ hS)).mono ?_
    rintro e wc ⟨⟨u0, rfl, hv0⟩, hbc⟩
    have hS1 := hS.trans (hbc.mono hS.size)
    refine hK.out _ _ (fun _ => hS1) ?_
    clear hK K
    try simp only [Act.put, List.setIfInBounds_toArray, List.set_cons_zero, List.set_cons_succ]
    refine tjC 7 (fun K hK => ?_)
    go_simp
    refine (HPL.out _ _ (HPW.out _ hS1) hv0).mono ?_
    rintro e wd ⟨⟨u1, rfl, hv1⟩, hbd⟩
    have hS2 := hS1.trans (hbd.mono hS1.size)
    obtain ⟨g1, gc1, g2, gc2, g3, gc3, g4, gc4, rfl, _, _, _, _⟩ := hv1.slices
    have hbg := HBW1.out.below hS2 hG1
    refine hK.out _ _ (fun _ => hS2) ?_
    clear hK K
    try simp only [Act.put, List.setIfInBounds_toArray, List.set_cons_zero, List.set_cons_succ]
    refine tjC 8 (fun K hK => ?_)
    have po0 := cell_keep so0 hS2 (Nat.le_refl _)
    have t0 := hbg.free 0
    have po1 := cell_keep so1 hS2 (Nat.le_refl _)
    have t1 := hbg.free 1
    have po2 := cell_keep so2 hS2 (Nat.le_refl _)
    have t2 := hbg.free 2
    have po3 := cell_keep so3 hS2 (Nat.le_refl _)
    have t3 := hbg.free 3
    have po4 := cell_keep so4 hS2 (Nat.le_refl _)
    have t4 := hbg.free 4
    have po5 := cell_keep so5 hS2 (Nat.le_refl _)
    have t5 := hbg.free 5
    go_simp
    have hbf := (((((hbg.setAt 0 (.bool (qS (q + x * y)))).setAt 1 (.slice g1 (dig (qN (q + x * y))).length gc1)).setAt 2 (.slice g2 (dig (qD (q + x * y))).length gc2)).setAt 3 (.bool false)).setAt 4 (.slice g3 (dig 0).length gc3)).setAt 5 (.slice g4 (dig 1).length gc4)
    have hvf := hv1.box6 (b := G) (u0 := .bool (qS (q + x * y))) (u1 := .slice g1 (dig (qN (q + x * y))).length gc1) (u2 := .slice g2 (dig (qD (q + x * y))).length gc2) (u3 := .bool false) (u4 := .slice g3 (dig 0).length gc3) (u5 := .slice g4 (dig 1).length gc4) po0 po1 po2 po3 po4 po5 trivial trivial trivial trivial trivial trivial
    have hbx := HBW.out.trans ((HPW.out _ hS2).mono HBW.out.size)
    have hbe := (((((hbx.setCell (p := ⟨G, 0, none⟩) hsz3 (.bool (qS (q + x * y)))).setCell (p := ⟨G, 1, none⟩) hsz3 (.slice g1 (dig (qN (q + x * y))).length gc1)).setCell (p := ⟨G, 2, none⟩) hsz3 (.slice g2 (dig (qD (q + x * y))).length gc2)).setCell (p := ⟨G, 3, none⟩) hsz3 (.bool false)).setCell (p := ⟨G, 4, none⟩) hsz3 (.slice g3 (dig 0).length gc3)).setCell (p := ⟨G, 5, none⟩) hsz3 (.slice g4 (dig 1).length gc4)
    have HBF := Lib.hid hbf; have HVF := Lib.hid hvf.cell; have HBE := Lib.hid hbe
    refine hK.out _ _ (fun h => absurd h (by decide)) ?_
    clear hK K hbf hvf hbe hbx hbg hS hS1 hS2 hbc hbd hv0 hv1
    try simp only [Act.put, List.setIfInBounds_toArray, List.set_cons_zero, List.set_cons_succ]
    refine wpAnyJ_done (by kernel_rfl) ?_ _
    go_wp2_with fail
    go_roundw
    case rel => exact ⟨k + 1, _, by omega, by go_num, by rw [HSN.out]; exact HVF.out, HBF.out, HBE.out⟩
    case measure => simp [intOf]; omega
  · obtain rfl : k = xs.length := by omega
    have hqq : dotQ xs ys = q := by have := HQ.out; rwa [List.take_length, <- HL.out, List.take_length] at this
    have i0 : ¬ (xs.length : Int) < xs.length := by omega
    have o0 := HBK.out.cell 0
    have o1 := HBK.out.cell 1
    have o2 := HBK.out.cell 2
    have o3 := HBK.out.cell 3
    have o4 := HBK.out.cell 4
    have o5 := HBK.out.cell 5
    simp only [List.getElem?_toArray, List.getElem?_cons_succ, List.getElem?_cons_zero] at o0 o1 o2 o3 o4 o5
    have hbr := HBK0.out.below hbw (by omega)
    have z0 := hbr.cell 0
    have z1 := hbr.cell 1
    have z2 := hbr.cell 2
    have z3 := hbr.cell 3
    have z4 := hbr.cell 4
    have z5 := hbr.cell 5
    simp only [List.getElem?_toArray, List.getElem?_cons_succ, List.getElem?_cons_zero] at z0 z1 z2 z3 z4 z5
    have t0 := hbr.free 0
    have t1 := hbr.free 1
    have t2 := hbr.free 2
    have t3 := hbr.free 3
    have t4 := hbr.free 4
    have t5 := hbr.free 5
    have hbw2 := HB0.out.trans (hbw.mono HB0.out.size)
    have hle : w.heap.size <= w.heap.size := Nat.le_refl _
    clear hbr hbw
    go_wp2_with fail
    refine bodyPost_ret (v := .agg #[.bool (qS q), .slice b1 (dig (qN q)).length d1, .slice b2 (dig (qD q)).length d2, .bool false, .slice b3 (dig 0).length d3, .slice b4 (dig 1).length d4]) (by simp [results, Tryz.results205, go_sem, z0, z1, z2, z3, z4, z5]) rfl ?_
    exact ⟨⟨_, rfl, HQV.out.box6 z0 z1 z2 z3 z4 z5 trivial trivial trivial trivial trivial trivial⟩, (((((hbw2.setCell hle _).setCell hle _).setCell hle _).setCell hle _).setCell hle _).setCell hle _⟩
theorem all_tx (ao : Option Addr) (xs : List Rat) (n cap : Nat) (w : World) (ht : Tab w) (hc : Cells w ao ((xs.map txQ).map Value.string)) (hl : xs.length <= 1000000) (ho : ∀ q ∈ xs, okQ q = true) (hn : n = xs.length) :
 Calls Tryz.prog 128 #[.slice ao n cap, .func (.func 129) #[] #[]] w fun e w' => (∃ a c cs, e = .returned (.tuple #[.slice a xs.length c, .bool true]) /\ Cells w' a cs.flatten /\ QRow w' cs xs) /\ Below w.heap.size w w' := by
 subst hn
 have h := all_get ao (xs.map txQ) cap w ht hc (by simpa using hl) (tx_fits ho)
 unfold AllRes at h
 rw [getL_tx xs ho] at h
 simp only [List.length_map] at h
 exact h
set_option maxRecDepth 100000 in
set_option maxHeartbeats 2000000 in
theorem dotQ_any (ao bo : Option Addr) (xs ys : List Rat) (ca cb : Nat) (w : World) (ht : Tab w) (hc : Cells w ao ((xs.map txQ).map Value.string)) (hd : Cells w bo ((ys.map txQ).map Value.string)) (hl : ys.length = xs.length) (hl2 : xs.length <= 4096) (ox : ∀ q ∈ xs, okQ q = true) (oy : ∀ q ∈ ys, okQ q = true) :
 Calls Tryz.prog 134 #[.slice ao xs.length ca, .slice bo xs.length cb] w fun e w' => e = .returned (.tuple #[.string (ptQ (dotQ xs ys)), .int .i64 (peQ (dotQ xs ys))]) /\ Below w.heap.size w w' := by
 have hA := all_tx ao xs xs.length ca w ht hc (by omega) ox rfl
 have hB := fun W (hb : Below w.heap.size w W) => all_tx bo ys xs.length cb W (ht.below hb (Nat.le_refl _)) (hd.below hb (Nat.le_refl _)) (by omega) oy hl.symm
 have bx : ∀ x ∈ xs, hgt x <= 10000 := fun x hx => Nat.le_trans (ok_hgt (ox x hx)) (by decide)
 have by' : ∀ y ∈ ys, hgt y <= 10000 := fun y hy => Nat.le_trans (ok_hgt (oy y hy)) (by decide)
 have hD := fun (a b : Option Addr) cs ds c1 c2 W h1 h2 h3 h4 => dotV_any a b cs ds xs ys c1 c2 W h1 h2 h3 h4 hl hl2 bx by'
 have hz : hgt (dotQ xs ys) <= 1000000000 := by
  have := hgt_take (k := xs.length) bx by' (by omega) (by decide)
  rw [List.take_length, <- hl, List.take_length] at this; omega
 have hP := fun v W h1 h2 => putQ_any v (dotQ xs ys) W h1 h2 hz
 generalize dotQ xs ys = q at *
 have HA := Lib.hid hA; have HB := Lib.hid hB; have HD := Lib.hid hD; have HP := Lib.hid hP; have HT := Lib.hid ht; have HL := Lib.hid hl
 clear hA hB hD hP ht hc hd ox oy bx by' hz hl
 go_enter Tryz.func134, Tryz.ntmps134
 go_wp2_with fail
 refine HA.out.mono ?_
 rintro e w1 ⟨⟨a1, c1, cs, rfl, hc1, hr1⟩, hb1⟩
 have HB1 := Lib.hid hb1; have HC1 := Lib.hid hc1; have HR1 := Lib.hid hr1
 clear hb1 hc1 hr1
 go_wp2_with fail
 refine (HB.out _ HB1.out).mono ?_
 rintro e w2 ⟨⟨a2, c2, ds, rfl, hc2, hr2⟩, hb2⟩
 have HB2 := Lib.hid (HB1.out.trans (hb2.mono HB1.out.size)); have HC2 := Lib.hid hc2; have HR2 := Lib.hid hr2
 have HC12 := Lib.hid (HC1.out.below hb2 (Nat.le_refl _)); have HR12 := Lib.hid (HR1.out.below hb2 (Nat.le_refl _))
 rw [HL.out]
 clear hb2 hc2 hr2
 go_wp2_with fail
 refine (HD.out _ _ _ _ _ _ _ HC12.out HR12.out HC2.out HR2.out).mono ?_
 rintro e w3 ⟨⟨v3, rfl, hv3⟩, hb3⟩
 have HB3 := Lib.hid (HB2.out.trans (hb3.mono HB2.out.size)); have HV3 := Lib.hid hv3
 clear hb3 hv3
 go_wp2_with fail
 refine (HP.out _ _ HV3.out (HT.out.below HB3.out (Nat.le_refl _))).mono ?_
 rintro e w4 ⟨rfl, hb4⟩
 have hbf := HB3.out.trans (hb4.mono HB3.out.size)
 clear hb4
 go_wp2_with fail
 go_ret2
 exact ⟨rfl, hbf⟩
end Go.Proofs.YtdpjdifoonfcdaaGreatDoor

namespace Go.Proofs.YtdpjdifoonfcdaaGreatDoor
open Go.RowKit
abbrev set6 (w : World) (b o : Nat) (u0 u1 u2 u3 u4 u5 : Value) : World := (((((w.setCell ⟨b, o, none⟩ u0).setCell ⟨b, o + 1, none⟩ u1).setCell ⟨b, o + 2, none⟩ u2).setCell ⟨b, o + 3, none⟩ u3).setCell ⟨b, o + 4, none⟩ u4).setCell ⟨b, o + 5, none⟩ u5
theorem flat_set6 (u0 u1 u2 u3 u4 u5 : Value) (rest : List Value) : ∀ (cs : List (List Value)) (j : Nat), (∀ c ∈ cs, c.length = 6) -> j < cs.length ->
 ((((((cs.flatten ++ rest).set (j * 6) u0).set (j * 6 + 1) u1).set (j * 6 + 2) u2).set (j * 6 + 3) u3).set (j * 6 + 4) u4).set (j * 6 + 5) u5 = (cs.set j [u0, u1, u2, u3, u4, u5]).flatten ++ rest
 | [], j, _, hj => by simp at hj
 | c :: cs, j, h6, hj => by
   have hc := h6 c (by simp)
   match c, hc with
   | [a0, a1, a2, a3, a4, a5], _ =>
     match j, hj with
     | 0, _ => simp
     | j + 1, hj =>
       have ih := flat_set6 u0 u1 u2 u3 u4 u5 rest cs j (fun c hc => h6 c (by simp [hc])) (by simpa using hj)
       rw [show (j + 1) * 6 = j * 6 + 1 + 1 + 1 + 1 + 1 + 1 by omega]
       rw [show j * 6 + 1 + 1 + 1 + 1 + 1 + 1 + 1 = (j * 6 + 1) + 1 + 1 + 1 + 1 + 1 + 1 by omega, show j * 6 + 1 + 1 + 1 + 1 + 1 + 1 + 2 = (j * 6 + 2) + 1 + 1 + 1 + 1 + 1 + 1 by omega, show j * 6 + 1 + 1 + 1 + 1 + 1 + 1 + 3 = (j * 6 + 3) + 1 + 1 + 1 + 1 + 1 + 1 by omega, show j * 6 + 1 + 1 + 1 + 1 + 1 + 1 + 4 = (j * 6 + 4) + 1 + 1 + 1 + 1 + 1 + 1 by omega, show j * 6 + 1 + 1 + 1 + 1 + 1 + 1 + 5 = (j * 6 + 5) + 1 + 1 + 1 + 1 + 1 + 1 by omega]
       simp only [List.flatten_cons, List.cons_append, List.nil_append, List.set_cons_succ, ih]
theorem NatV.six {w : World} {v : Value} {n b o : Nat} {x0 x1 x2 x3 x4 x5 : Value} (h : NatV w v n) (q0 : w.cell? ⟨b, o, none⟩ = some x0) (q1 : w.cell? ⟨b, o + 1, none⟩ = some x1) (q2 : w.cell? ⟨b, o + 2, none⟩ = some x2)
 (q3 : w.cell? ⟨b, o + 3, none⟩ = some x3) (q4 : w.cell? ⟨b, o + 4, none⟩ = some x4) (q5 : w.cell? ⟨b, o + 5, none⟩ = some x5)
 (n0 : NoNum x0) (n1 : NoNum x1) (n2 : NoNum x2) (n3 : NoNum x3) (n4 : NoNum x4) (n5 : NoNum x5) (u0 u1 u2 u3 u4 u5 : Value) : NatV (set6 w b o u0 u1 u2 u3 u4 u5) v n := by
 refine ((((((h.set q0 n0).set (v0 := x1) ?_ n1).set (v0 := x2) ?_ n2).set (v0 := x3) ?_ n3).set (v0 := x4) ?_ n4).set (v0 := x5) ?_ n5)
 all_goals
  repeat (rw [World.cell?_setCell_other _ _ _ _ (by simp)])
  assumption
structure Kp (P : Nat -> Prop) (w w' : World) : Prop where
 os : w'.os = w.os
 tape : w'.tape = w.tape
 output : w'.output = w.output
 size : w.heap.size <= w'.heap.size
 block : ∀ g, g < w.heap.size -> ¬ P g -> w'.heap[g]? = w.heap[g]?
 num : ∀ v n, NatV w v n -> NatV w' v n
theorem Kp.refl (P : Nat -> Prop) (w : World) : Kp P w w := ⟨rfl, rfl, rfl, Nat.le_refl _, fun _ _ _ => rfl, fun _ _ h => h⟩
theorem Kp.trans {P : Nat -> Prop} {a b c : World} (h : Kp P a b) (k : Kp P b c) : Kp P a c :=
 ⟨k.os.trans h.os, k.tape.trans h.tape, k.output.trans h.output, Nat.le_trans h.size k.size, fun g hg hp => (k.block g (Nat.lt_of_lt_of_le hg h.size) hp).trans (h.block g hg hp), fun v n hv => k.num v n (h.num v n hv)⟩
theorem Kp.mono {P P' : Nat -> Prop} {w w' : World} (h : Kp P w w') (hp : ∀ g, P g -> P' g) : Kp P' w w' := ⟨h.os, h.tape, h.output, h.size, fun g hg hn => h.block g hg (fun h0 => hn (hp g h0)), h.num⟩
theorem Kp.of_below {P : Nat -> Prop} {w w' : World} (h : Below w.heap.size w w') : Kp P w w' := ⟨h.os, h.tape, h.output, h.size, fun g hg _ => h.block g hg, fun _ _ hv => hv.below h (Nat.le_refl _)⟩
theorem Kp.below {P : Nat -> Prop} {w w' : World} {B : Nat} (h : Kp P w w') (hB : B <= w.heap.size) (hp : ∀ g, P g -> B <= g) : Below B w w' :=
 ⟨h.os, h.tape, h.output, h.size, fun g hg => h.block g (Nat.lt_of_lt_of_le hg hB) (fun h0 => by have := hp g h0; omega)⟩
theorem Kp.vq {P : Nat -> Prop} {w w' : World} {v : Value} {q : Rat} (h : Kp P w w') (hv : VQ w v q) : VQ w' v q := by
 obtain ⟨a, b, c, d, rfl, h1, h2, h3, h4⟩ := hv
 exact ⟨a, b, c, d, rfl, h.num _ _ h1, h.num _ _ h2, h.num _ _ h3, h.num _ _ h4⟩
theorem Kp.cell {P : Nat -> Prop} {w w' : World} {c : List Value} {t : Bool × Nat × Nat} (h : Kp P w w') (hv : NCell w c t) : NCell w' c t := by
 obtain ⟨a1, c1, a2, c2, a3, c3, a4, c4, rfl, h1, h2, h3, h4⟩ := hv
 exact ⟨a1, c1, a2, c2, a3, c3, a4, c4, rfl, h.num _ _ h1, h.num _ _ h2, h.num _ _ h3, h.num _ _ h4⟩
theorem Kp.row {P : Nat -> Prop} {w w' : World} {cs : List (List Value)} {xs : List Rat} (h : Kp P w w') (hv : QRow w cs xs) : QRow w' cs xs := ⟨hv.1, fun i c t h1 h2 => h.cell (hv.2 i c t h1 h2)⟩
theorem Kp.blk {P : Nat -> Prop} {w w' : World} {g : Nat} {t : TypeId} {cs : Array Value} (h : Kp P w w') (hb : Blk w g t cs) (hp : ¬ P g) : Blk w' g t cs := (h.block g hb.lt hp).trans hb
theorem Kp.lt {P : Nat -> Prop} {w w' : World} (h : Kp P w w') {g : Nat} (hg : g < w.heap.size) : g < w'.heap.size := Nat.lt_of_lt_of_le hg h.size
def RowB (w : World) (R : Nat) (xs : List Rat) : Prop := ∃ cs rest, Blk w R 148 (cs.flatten ++ rest).toArray /\ QRow w cs xs
theorem RowB.lt {w : World} {R : Nat} {xs : List Rat} (h : RowB w R xs) : R < w.heap.size := by obtain ⟨_, _, h1, _⟩ := h; exact h1.lt
theorem RowB.kp {P : Nat -> Prop} {w w' : World} {R : Nat} {xs : List Rat} (h : RowB w R xs) (hk : Kp P w w') (hp : ¬ P R) : RowB w' R xs := by
 obtain ⟨cs, rest, h1, h2⟩ := h
 exact ⟨cs, rest, hk.blk h1 hp, hk.row h2⟩
theorem RowB.below {w w' : World} {R : Nat} {xs : List Rat} (h : RowB w R xs) (hb : Below w.heap.size w w') : RowB w' R xs := h.kp (P := fun _ => False) (Kp.of_below hb) (fun h => h)
theorem RowB.at {w : World} {R : Nat} {xs : List Rat} (h : RowB w R xs) {k : Nat} {x : Rat} (hk : xs[k]? = some x) : ∃ c, NCell w c (pq x) /\ ∀ j u, c[j]? = some u -> w.cell? ⟨R, k * 6 + j, none⟩ = some u := by
 obtain ⟨cs, rest, h1, h2⟩ := h
 obtain ⟨c, hc, hn⟩ := h2.get hk
 refine ⟨c, hn, fun j u hu => ?_⟩
 have hf := flat_get h2.six hc hu
 rw [h1.cell, List.getElem?_toArray, List.getElem?_append_left (List.getElem?_eq_some_iff.1 hf).1, hf]
theorem RowB.free {w : World} {R : Nat} {xs : List Rat} (h : RowB w R xs) (i : Nat) : w.frozen? ⟨R, i, none⟩ = false := by obtain ⟨_, _, h1, _⟩ := h; exact h1.free i
theorem NCell.nonum {w : World} {c : List Value} {t : Bool × Nat × Nat} (h : NCell w c t) {j : Nat} {u : Value} (hu : c[j]? = some u) : NoNum u := by
 obtain ⟨a1, c1, a2, c2, a3, c3, a4, c4, rfl, -⟩ := h
 match j, hu with
 | 0, hu => injection hu with hu; subst hu; trivial
 | 1, hu => injection hu with hu; subst hu; trivial
 | 2, hu => injection hu with hu; subst hu; trivial
 | 3, hu => injection hu with hu; subst hu; trivial
 | 4, hu => injection hu with hu; subst hu; trivial
 | 5, hu => injection hu with hu; subst hu; trivial
 | n + 6, hu => simp at hu
theorem QRow.put {w : World} {cs : List (List Value)} {xs : List Rat} (h : QRow w cs xs) {k : Nat} {c : List Value} {y : Rat} (hc : NCell w c (pq y)) : QRow w (cs.set k c) (xs.set k y) := by
 refine ⟨by rw [List.length_set, List.length_map, List.length_set]; exact h.len, fun i d t hd ht => ?_⟩
 rw [List.map_set, List.getElem?_set] at ht
 rw [List.getElem?_set] at hd
 by_cases hki : k = i
 · subst hki
   rw [if_pos rfl] at hd ht
   by_cases hl : k < cs.length
   · rw [if_pos hl] at hd
     rw [if_pos (by rw [List.length_map]; have := h.len; omega)] at ht
     have hd := Option.some.inj hd
     have ht := Option.some.inj ht
     subst hd; subst ht; exact hc
   · rw [if_neg hl] at hd; cases hd
 · rw [if_neg hki] at hd ht
   exact h.2 i d t hd ht
theorem RowB.put {w : World} {R : Nat} {xs : List Rat} (h : RowB w R xs) {k : Nat} {x y : Rat} (hk : xs[k]? = some x) {a1 a2 a3 a4 : Option Addr} {c1 c2 c3 c4 : Nat}
 (hv : VQ w (.agg #[.bool (qS y), .slice a1 (dig (qN y)).length c1, .slice a2 (dig (qD y)).length c2, .bool false, .slice a3 (dig 0).length c3, .slice a4 (dig 1).length c4]) y) :
 RowB (set6 w R (k * 6) (.bool (qS y)) (.slice a1 (dig (qN y)).length c1) (.slice a2 (dig (qD y)).length c2) (.bool false) (.slice a3 (dig 0).length c3) (.slice a4 (dig 1).length c4)) R (xs.set k y) /\
 Kp (fun g => g = R) w (set6 w R (k * 6) (.bool (qS y)) (.slice a1 (dig (qN y)).length c1) (.slice a2 (dig (qD y)).length c2) (.bool false) (.slice a3 (dig 0).length c3) (.slice a4 (dig 1).length c4)) := by
 obtain ⟨c0, hn0, hc0⟩ := h.at hk
 have hsix : c0.length = 6 := hn0.six
 obtain ⟨u0, e0⟩ := get_of_lt (show 0 < c0.length by omega)
 obtain ⟨u1, e1⟩ := get_of_lt (show 1 < c0.length by omega)
 obtain ⟨u2, e2⟩ := get_of_lt (show 2 < c0.length by omega)
 obtain ⟨u3, e3⟩ := get_of_lt (show 3 < c0.length by omega)
 obtain ⟨u4, e4⟩ := get_of_lt (show 4 < c0.length by omega)
 obtain ⟨u5, e5⟩ := get_of_lt (show 5 < c0.length by omega)
 have hnum := fun (v : Value) (n : Nat) (hv : NatV w v n) => hv.six (hc0 0 _ e0) (hc0 1 _ e1) (hc0 2 _ e2) (hc0 3 _ e3) (hc0 4 _ e4) (hc0 5 _ e5) (hn0.nonum e0) (hn0.nonum e1) (hn0.nonum e2) (hn0.nonum e3) (hn0.nonum e4) (hn0.nonum e5)
  (.bool (qS y)) (.slice a1 (dig (qN y)).length c1) (.slice a2 (dig (qD y)).length c2) (.bool false) (.slice a3 (dig 0).length c3) (.slice a4 (dig 1).length c4)
 have hb6 : Below 0 w (set6 w R (k * 6) (.bool (qS y)) (.slice a1 (dig (qN y)).length c1) (.slice a2 (dig (qD y)).length c2) (.bool false) (.slice a3 (dig 0).length c3) (.slice a4 (dig 1).length c4)) :=
  ((((((Below.refl 0 w).setCell (Nat.zero_le _) _).setCell (Nat.zero_le _) _).setCell (Nat.zero_le _) _).setCell (Nat.zero_le _) _).setCell (Nat.zero_le _) _).setCell (Nat.zero_le _) _
 have hkp : Kp (fun g => g = R) w (set6 w R (k * 6) (.bool (qS y)) (.slice a1 (dig (qN y)).length c1) (.slice a2 (dig (qD y)).length c2) (.bool false) (.slice a3 (dig 0).length c3) (.slice a4 (dig 1).length c4)) :=
  ⟨hb6.os, hb6.tape, hb6.output, hb6.size, fun g _ hp => by
   have hne : ∀ i, g ≠ (⟨R, i, none⟩ : Addr).block := fun i h0 => hp h0
   exact (heap_setCell_other _ _ _ _ (hne _)).trans ((heap_setCell_other _ _ _ _ (hne _)).trans ((heap_setCell_other _ _ _ _ (hne _)).trans ((heap_setCell_other _ _ _ _ (hne _)).trans ((heap_setCell_other _ _ _ _ (hne _)).trans (heap_setCell_other _ _ _ _ (hne _)))))), hnum⟩
 refine ⟨?_, hkp⟩
 obtain ⟨cs, rest, h1, h2⟩ := h
 have hkl : k < cs.length := by rw [h2.len]; exact (List.getElem?_eq_some_iff.1 hk).1
 refine ⟨cs.set k [.bool (qS y), .slice a1 (dig (qN y)).length c1, .slice a2 (dig (qD y)).length c2, .bool false, .slice a3 (dig 0).length c3, .slice a4 (dig 1).length c4], rest, ?_, ?_⟩
 · have := (((((h1.setAt (k * 6) (.bool (qS y))).setAt (k * 6 + 1) (.slice a1 (dig (qN y)).length c1)).setAt (k * 6 + 2) (.slice a2 (dig (qD y)).length c2)).setAt (k * 6 + 3) (.bool false)).setAt (k * 6 + 4) (.slice a3 (dig 0).length c3)).setAt (k * 6 + 5) (.slice a4 (dig 1).length c4)
   simp only [List.setIfInBounds_toArray] at this
   rw [flat_set6 _ _ _ _ _ _ rest cs k h2.six hkl] at this
   exact this
 · exact (hkp.row h2).put (hkp.vq hv).cell
end Go.Proofs.YtdpjdifoonfcdaaGreatDoor

namespace Go.Proofs.YtdpjdifoonfcdaaGreatDoor
open Go.RowKit
def AllOwn0 (ss : List ByteArray) (w : World) (e : Ending) (w' : World) : Prop :=
 (match getL ss with
  | none => e = .returned (.tuple #[.slice none 0 0, .bool false])
  | some l => ∃ v cs, e = .returned (.tuple #[v, .bool true]) /\ w'.ownsRow w.heap.size 148 6 v l.length cs.flatten /\ NRow w' cs l /\ NIB w' v) /\ Below w.heap.size w w'
theorem allOwn_none {ss : List ByteArray} {w w' : World} (h : getL ss = none) (hb : Below w.heap.size w w') : AllOwn0 ss w (.returned (.tuple #[.slice none 0 0, .bool false])) w' := ⟨by rw [h], hb⟩
theorem allOwn_some {ss : List ByteArray} {w w' : World} {l : List (Bool × Nat × Nat)} {v : Value} {n : Nat} {cs : List (List Value)} (h : getL ss = some l) (hn : n = l.length) (hc : w'.ownsRow w.heap.size 148 6 v n cs.flatten) (hr : NRow w' cs l) (hi : NIB w' v) (hb : Below w.heap.size w w') : AllOwn0 ss w (.returned (.tuple #[v, .bool true])) w' := ⟨by rw [h]; exact ⟨v, cs, rfl, by rw [<- hn]; exact hc, hr, hi⟩, hb⟩
set_option maxRecDepth 100000 in
set_option maxHeartbeats 2000000 in
theorem all_getO (ao : Option Addr) (ss : List ByteArray) (cap : Nat) (w : World) (ht : Tab w) (hc : Cells w ao (ss.map Value.string)) (hl : ss.length <= 1000000) (hs : ∀ s ∈ ss, s.size <= 1099511627776 /\ Lib.hasSuffix s.data.toList [105] = false) :
 Calls Tryz.prog 128 #[.slice ao ss.length cap, .func (.func 129) #[] #[]] w (AllOwn0 ss w) := by
 obtain ⟨i0, hi, hz0, hz1, hz2⟩ := info_parts Tryz.infoVal
 have HC := Lib.hid hc; have HT := Lib.hid ht; have HS := Lib.hid hs
 clear hc ht hs
 go_enter Tryz.func128, Tryz.ntmps128
 go_wp2_with fail
 go_loopw [6, 13] (fun ov iv wr => ∃ (k : Nat) (l : List (Bool × Nat × Nat)) (cs : List (List Value)), k <= ss.length /\ iv = .int .i64 k /\ getL (ss.take k) = some l /\ NRow wr cs l /\ wr.ownsRow w.heap.size 148 6 ov k cs.flatten /\ NIB wr ov /\ Below w.heap.size w wr) (fun _ iv _ => ss.length - (intOf iv).toNat)
 case atStart => exact ⟨0, [], [], Nat.zero_le _, rfl, rfl, ⟨rfl, fun i c t h => by simp at h⟩, World.ownsRow_nil _ _ _ _, NIB.none _, Below.refl _ _⟩
 case round =>
  obtain ⟨k, l, cs, hk, rfl, hgl, hnr, hown, hnib, hb⟩ := hrel
  have hlk := getL_len hgl
  rw [List.length_take, Nat.min_eq_left hk] at hlk
  have HGL := Lib.hid hgl; have HNR := Lib.hid hnr; have HLK := Lib.hid hlk
  clear hgl hnr hlk
  have hsz := hb.size
  by_cases hlt : k < ss.length
  · obtain ⟨s, hs⟩ := get_of_lt hlt
    obtain ⟨b, off, rfl⟩ := HC.out.addr (by simpa using List.ne_nil_of_length_pos (by omega))
    have c0 := cell_keep (HC.out.at (j := k) (u := .string s) (by simp [hs])) hb (Nat.le_refl _)
    have hsm := HS.out s (List.mem_of_getElem? hs)
    have hg := get_noI s wr (HT.out.below hb (Nat.le_refl _)) (Nat.le_trans hsm.1 (by decide)) hsm.2
    have htk := take_get hs
    have HG := Lib.hid hg; have HTK := Lib.hid htk; have HHS := Lib.hid hs
    have j0 : (k : Int) < ss.length := by omega
    clear hsm hg htk hs
    go_wp2_with fail
    refine HG.out.mono ?_
    rintro e w1 ⟨hm, hb1⟩
    rcases hgr : getR s with _ | ⟨sb, n, d⟩
    · rw [hgr] at hm
      have HN := Lib.hid (getL_none HHS.out hgr)
      subst hm
      clear hgr
      go_wp2
      go_ret2
      exact allOwn_none HN.out ((hb.trans (hb1.mono hsz)).alloc (Nat.le_trans hsz hb1.size) _)
    · rw [hgr] at hm
      obtain ⟨v, rfl, hv⟩ := hm
      have hgs := getL_snoc HGL.out hgr
      rw [<- HTK.out] at hgs
      have HGS := Lib.hid hgs
      obtain ⟨a1, c1, a2, c2, a3, c3, a4, c4, rfl, k1, k2, k3, k4⟩ := hv.slices
      have hnc : NCell w1 [.bool sb, .slice a1 (dig n).length c1, .slice a2 (dig d).length c2, .bool false, .slice a3 (dig 0).length c3, .slice a4 (dig 1).length c4] (sb, n, d) := ⟨a1, c1, a2, c2, a3, c3, a4, c4, rfl, k1, k2, k3, k4⟩
      have hns := (HNR.out.below hb1 (Nat.le_refl _)).snoc hnc
      have HNS := Lib.hid hns
      have hown1 := own_belowK hown hb1 (Nat.le_refl _)
      have hnib1 := hnib.below hb1 (fun g hg => (hown.lt g hg).2)
      have hbw1 := hb.trans (hb1.mono hsz)
      have hsz1 := hbw1.size
      have HOB : Hid (∀ j, u6.ownBlock = some j -> w.heap.size <= j) := fun j e => (hown.lt j e).1
      clear hgr hgs hv k1 k2 k3 k4 hnc hns hb1
      have hnn : ∀ u ∈ ([.bool sb, .slice a1 (dig n).length c1, .slice a2 (dig d).length c2, .bool false, .slice a3 (dig 0).length c3, .slice a4 (dig 1).length c4] : List Value), NoNum u := by
       intro u hu
       simp only [List.mem_cons, List.not_mem_nil, or_false] at hu
       rcases hu with rfl | rfl | rfl | rfl | rfl | rfl <;> trivial
      have hzz : ∀ u ∈ ((Value.agg #[.bool false, .slice none 0 0, .slice none 0 0, .bool false, .slice none 0 0, .slice none 0 0]).cells).toList, NoNum u := by
       intro u hu
       change u ∈ [Value.bool false, .slice none 0 0, .slice none 0 0, .bool false, .slice none 0 0, .slice none 0 0] at hu
       simp only [List.mem_cons, List.not_mem_nil, or_false] at hu
       rcases hu with rfl | rfl | rfl | rfl | rfl | rfl <;> trivial
      have hbb : Below w1.heap.size w1 ((w1.alloc (.cells #[Value.bool sb, .slice a1 (dig n).length c1, .slice a2 (dig d).length c2, .bool false, .slice a3 (dig 0).length c3, .slice a4 (dig 1).length c4] 148)).alloc (.cells #[Value.bool sb, .slice a1 (dig n).length c1, .slice a2 (dig d).length c2, .bool false, .slice a3 (dig 0).length c3, .slice a4 (dig 1).length c4] 148)) := ((Below.refl _ _).alloc (Nat.le_refl _) _).alloc (by simp) _
      have hnib2 := hnib1.below hbb (fun g hg => by have := (hown1.lt g hg).2; omega)
      have HNIB := Lib.hid hnib2; have HNN := Lib.hid hnn; have HZZ := Lib.hid hzz; have HBB := Lib.hid hbb
      clear hnib hnib1 hnib2 hnn hzz hbb
      go_wp2_with (at_builtin; refine wpList_append_nib _ rfl _ _ 227 rfl w.heap.size 148 i0 (.agg #[.bool false, .slice none 0 0, .slice none 0 0, .bool false, .slice none 0 0, .slice none 0 0]) 6 112 Tryz.underlying227 hi hz0 hz1 hz2 rfl (by decide) _ _ _ rfl ((hown1.alloc _).alloc _) ⟨w1.heap.size + 1, 0, none⟩ 1 1 [.bool sb, .slice a1 (dig n).length c1, .slice a2 (dig d).length c2, .bool false, .slice a3 (dig 0).length c3, .slice a4 (dig 1).length c4] rfl rfl (World.news_of_block (cs := #[Value.bool sb, .slice a1 (dig n).length c1, .slice a2 (dig d).length c2, .bool false, .slice a3 (dig 0).length c3, .slice a4 (dig 1).length c4]) (t := 148) (fr := (0, 0)) (by have := heap_alloc_new (w1.alloc (.cells #[Value.bool sb, .slice a1 (dig n).length c1, .slice a2 (dig d).length c2, .bool false, .slice a3 (dig 0).length c3, .slice a4 (dig 1).length c4] 148)) (.cells #[Value.bool sb, .slice a1 (dig n).length c1, .slice a2 (dig d).length c2, .bool false, .slice a3 (dig 0).length c3, .slice a4 (dig 1).length c4] 148); simpa using this)) (by simp [Value.oneCell']) (by unfold maxLen; omega) (by omega) (by simp; omega) HNIB.out HZZ.out HNN.out ?_; intro v1 wz hown2 hgrow hnib3)
      have hbz := ((hbw1.alloc hsz1 (.cells #[Value.bool sb, .slice a1 (dig n).length c1, .slice a2 (dig d).length c2, .bool false, .slice a3 (dig 0).length c3, .slice a4 (dig 1).length c4] 148)).alloc (by simp; omega) (.cells #[Value.bool sb, .slice a1 (dig n).length c1, .slice a2 (dig d).length c2, .bool false, .slice a3 (dig 0).length c3, .slice a4 (dig 1).length c4] 148)).grown hgrow (by simp; omega) HOB.out
      have hfl : cs.flatten ++ [.bool sb, .slice a1 (dig n).length c1, .slice a2 (dig d).length c2, .bool false, .slice a3 (dig 0).length c3, .slice a4 (dig 1).length c4] = (cs ++ [([.bool sb, .slice a1 (dig n).length c1, .slice a2 (dig d).length c2, .bool false, .slice a3 (dig 0).length c3, .slice a4 (dig 1).length c4] : List Value)]).flatten := by simp
      rw [hfl] at hown2
      have HFIN := Lib.hid hown2
      have hnz : NRow wz (cs ++ [([.bool sb, .slice a1 (dig n).length c1, .slice a2 (dig d).length c2, .bool false, .slice a3 (dig 0).length c3, .slice a4 (dig 1).length c4] : List Value)]) (l ++ [(sb, n, d)]) := (HNS.out.below HBB.out (Nat.le_refl _)).grown_nib HNIB.out hgrow
      have HNZ := Lib.hid hnz; have HN3 := Lib.hid hnib3
      clear hown2 hgrow hown hown1 hfl hnz hnib3
      obtain ⟨gg, cp, rfl⟩ := own_succ HFIN.out
      go_wp2
      go_roundw
      case rel => exact ⟨k + 1, _, _, by omega, by go_num, HGS.out, HNZ.out, by simpa using HFIN.out, HN3.out, hbz⟩
      case measure => simp [intOf]; omega
  · obtain rfl : k = ss.length := by omega
    have hg2 := HGL.out
    rw [List.take_length] at hg2
    have HG2 := Lib.hid hg2
    have HOW := Lib.hid hown; have HNIB := Lib.hid hnib
    obtain ⟨g, c, rfl, -⟩ := own_cells hown
    clear hg2 hown hnib
    go_wp2
    go_ret2
    exact allOwn_some HG2.out HLK.out.symm HOW.out HNR.out HNIB.out hb
def OwnQ (w : World) (base : Nat) (v : Value) (xs : List Rat) : Prop := ∃ cs, w.ownsRow base 148 6 v xs.length cs.flatten /\ QRow w cs xs /\ NIB w v
theorem all_txO (ao : Option Addr) (xs : List Rat) (n cap : Nat) (w : World) (ht : Tab w) (hc : Cells w ao ((xs.map txQ).map Value.string)) (hl : xs.length <= 1000000) (ho : ∀ q ∈ xs, okQ q = true) (hn : n = xs.length) :
 Calls Tryz.prog 128 #[.slice ao n cap, .func (.func 129) #[] #[]] w fun e w' => (∃ v, e = .returned (.tuple #[v, .bool true]) /\ OwnQ w' w.heap.size v xs) /\ Below w.heap.size w w' := by
 subst hn
 have h := all_getO ao (xs.map txQ) cap w ht hc (by simpa using hl) (tx_fits ho)
 unfold AllOwn0 at h
 rw [getL_tx xs ho] at h
 simp only [List.length_map] at h
 refine h.mono ?_
 rintro e w' ⟨⟨v, cs, h1, h2, h3, h4⟩, h5⟩
 exact ⟨⟨v, h1, cs, h2, h3, h4⟩, h5⟩
theorem OwnQ.kp {P : Nat -> Prop} {w w' : World} {base : Nat} {v : Value} {xs : List Rat} (h : OwnQ w base v xs) (hk : Kp P w w') (hp : ∀ g, v.ownBlock = some g -> ¬ P g) : OwnQ w' base v xs := by
 obtain ⟨cs, h1, h2, h3⟩ := h
 refine ⟨cs, ⟨h1.1, ?_⟩, hk.row h2, fun g hg a T fr hc => ?_⟩
 · rcases h1.2 with h | ⟨g, cap, cur, e1, e2, e3, e4⟩
   · exact .inl h
   · refine .inr ⟨g, cap, cur, e1, e2, ?_, e4⟩
     rw [hk.block g (Array.getElem?_eq_some_iff.1 e3).1 (hp g (by rw [e1]; rfl))]; exact e3
 · have hlt := (h1.lt g hg).2
   rw [hk.block g hlt (hp g hg)] at hc
   exact h3 g hg a T fr hc
theorem OwnQ.below {w w' : World} {base : Nat} {v : Value} {xs : List Rat} (h : OwnQ w base v xs) (hb : Below w.heap.size w w') : OwnQ w' base v xs := h.kp (P := fun _ => False) (Kp.of_below hb) (fun _ _ h => h)
theorem OwnQ.base {w : World} {base base' : Nat} {v : Value} {xs : List Rat} (h : OwnQ w base v xs) (hb : base' <= base) : OwnQ w base' v xs := by
 obtain ⟨cs, h1, h2, h3⟩ := h
 refine ⟨cs, ⟨h1.1, ?_⟩, h2, h3⟩
 rcases h1.2 with h | ⟨g, cap, cur, e1, e2, e3⟩
 · exact .inl h
 · exact .inr ⟨g, cap, cur, e1, by omega, e3⟩
theorem OwnQ.lt {w : World} {base : Nat} {v : Value} {xs : List Rat} (h : OwnQ w base v xs) : ∀ g, v.ownBlock = some g -> base <= g /\ g < w.heap.size := by obtain ⟨cs, h1, _⟩ := h; exact h1.lt
theorem OwnQ.slice {w : World} {base : Nat} {v : Value} {xs : List Rat} (h : OwnQ w base v xs) (hx : 0 < xs.length) : ∃ g c, v = .slice (some ⟨g, 0, none⟩) xs.length c /\ xs.length <= c := by
 obtain ⟨cs, h1, _⟩ := h
 rcases h1.2 with ⟨_, h⟩ | ⟨g, cap, cur, e1, e2, e3, e4, e5, _⟩
 · omega
 · exact ⟨g, cap, e1, e4⟩
theorem OwnQ.rowB {w : World} {base g c : Nat} {xs : List Rat} {n : Nat} (h : OwnQ w base (.slice (some ⟨g, 0, none⟩) n c) xs) : RowB w g xs := by
 obtain ⟨cs, h1, h2, _⟩ := h
 rcases h1.2 with ⟨h, _⟩ | ⟨g', cap, cur, e1, e2, e3, e4, e5, e6, e7⟩
 · cases h
 · injection e1 with e1
   injection e1 with e1
   injection e1 with e1
   subst e1
   refine ⟨cs, cur.toList.drop (xs.length * 6), ?_, h2⟩
   unfold Blk
   rw [e3, <- e7, List.take_append_drop]
theorem Kp.grown {w w' : World} {v : Value} (hg : w.grownBy w' v.ownBlock) (hn : NIB w v) : Kp (fun g => v.ownBlock = some g) w w' :=
 ⟨hg.os, hg.tape, hg.output, hg.size, fun g hlt hp => hg.block g hlt (fun e => hp e.symm), fun _ _ hv => hv.grown_nib hn hg⟩
end Go.Proofs.YtdpjdifoonfcdaaGreatDoor

namespace Go.Proofs.YtdpjdifoonfcdaaGreatDoor
open Go.RowKit
set_option maxRecDepth 100000 in
set_option maxHeartbeats 2000000 in
theorem puts1_any (v : Value) (q : Rat) (w : World) (hv : VQ w v q) (ht : Tab w) (h : hgt q <= 1000000000) :
 Calls Tryz.prog 204 #[v] w fun e w' => e = .returned (.tuple #[.string (ptQ q), .bool (okQ q)]) /\ Below w.heap.size w w' := by
 obtain ⟨a1, c1, a2, c2, a3, c3, a4, c4, rfl, -, -, -, -⟩ := hv.slices
 have hal : Below w.heap.size w (w.alloc (.cells #[.bool (qS q), .slice a1 (dig (qN q)).length c1, .slice a2 (dig (qD q)).length c2, .bool false, .slice a3 (dig 0).length c3, .slice a4 (dig 1).length c4] 148)) := (Below.refl _ _).alloc (Nat.le_refl _) _
 have hp := putQ_any _ q _ (hv.below hal (Nat.le_refl _)) (ht.below hal (Nat.le_refl _)) h
 have hpe : peQ q = if okQ q = true then 0 else 11 := by
  cases ho : okQ q
  · rw [(ptQ_big ho).2]; rfl
  · rw [(ptQ_ok ho).2]; rfl
 have HAL := Lib.hid hal; have HP := Lib.hid hp; have HPE := Lib.hid hpe
 generalize ptQ q = t at *
 generalize peQ q = pe at *
 generalize okQ q = ok at *
 clear hv ht h hal hp hpe
 go_enter Tryz.func204, Tryz.ntmps204
 go_wp2_with fail
 refine HP.out.mono ?_
 rintro e w1 ⟨rfl, hb⟩
 have hbf := HAL.out.trans (hb.mono HAL.out.size)
 have hpe := HPE.out
 clear hb
 cases ok
 · obtain rfl : pe = 11 := hpe
   go_wp2_with fail
   go_ret2
   exact ⟨rfl, hbf⟩
 · obtain rfl : pe = 0 := hpe
   go_wp2_with fail
   go_ret2
   exact ⟨rfl, hbf⟩
def okL (l : List Rat) : Bool := l.all okQ
theorem okL_iff {l : List Rat} : okL l = true ↔ ∀ q ∈ l, okQ q = true := List.all_eq_true
theorem okL_snoc {l : List Rat} {q : Rat} : okL (l ++ [q]) = (okL l && okQ q) := by unfold okL; simp
theorem okL_bad {l : List Rat} {k : Nat} {q : Rat} (h : l[k]? = some q) (hq : okQ q = false) : okL l = false := by
 cases hl : okL l
 · rfl
 · have := okL_iff.1 hl q (List.mem_of_getElem? h)
   rw [hq] at this; cases this
def PutsRes (l : List Rat) (w : World) (e : Ending) (w' : World) : Prop :=
 (if okL l = true then ∃ v, e = .returned (.tuple #[v, .int .i64 0]) /\ w'.ownsRow w.heap.size 34 1 v l.length ((l.map txQ).map Value.string)
  else e = .returned (.tuple #[.slice none 0 0, .int .i64 11])) /\ Below w.heap.size w w'
theorem putsRes_bad {l : List Rat} {w w' : World} (h : okL l = false) (hb : Below w.heap.size w w') : PutsRes l w (.returned (.tuple #[.slice none 0 0, .int .i64 11])) w' := ⟨by rw [if_neg (by rw [h]; decide)], hb⟩
theorem putsRes_ok {l : List Rat} {w w' : World} {v : Value} (h : okL l = true) (ho : w'.ownsRow w.heap.size 34 1 v l.length ((l.map txQ).map Value.string)) (hb : Below w.heap.size w w') : PutsRes l w (.returned (.tuple #[v, .int .i64 0])) w' := ⟨by rw [if_pos h]; exact ⟨v, rfl, ho⟩, hb⟩
def AllPut (l : List Rat) (w : World) (e : Ending) (w' : World) : Prop :=
 (if okL l = true then ∃ v, e = .returned (.tuple #[v, .bool true]) /\ w'.ownsRow w.heap.size 34 1 v l.length ((l.map txQ).map Value.string) else e = .returned (.tuple #[.slice none 0 0, .bool false])) /\ Below w.heap.size w w'
theorem allPut_bad {l : List Rat} {w w' : World} (h : okL l = false) (hb : Below w.heap.size w w') : AllPut l w (.returned (.tuple #[.slice none 0 0, .bool false])) w' := ⟨by rw [if_neg (by rw [h]; decide)], hb⟩
theorem allPut_ok {l : List Rat} {w w' : World} {v : Value} (h : okL l = true) (ho : w'.ownsRow w.heap.size 34 1 v l.length ((l.map txQ).map Value.string)) (hb : Below w.heap.size w w') : AllPut l w (.returned (.tuple #[v, .bool true])) w' := ⟨by rw [if_pos h]; exact ⟨v, rfl, ho⟩, hb⟩
set_option maxRecDepth 100000 in
set_option maxHeartbeats 2000000 in
theorem allPut_any (ao : Option Addr) (cs : List (List Value)) (l : List Rat) (cap : Nat) (w : World) (ht : Tab w) (hc : Cells w ao cs.flatten) (hr : QRow w cs l) (hl : l.length <= 5000) (hh : ∀ q ∈ l, hgt q <= 1000000000) :
 Calls Tryz.prog 203 #[.slice ao l.length cap, .func (.func 204) #[] #[]] w (AllPut l w) := by
 obtain ⟨i0, hi, hz0, hz1, hz2⟩ := info_parts Tryz.infoNum
 have HC := Lib.hid hc; have HT := Lib.hid ht; have HR := Lib.hid hr; have HH := Lib.hid hh
 clear hc ht hr hh
 go_enter Tryz.func203, Tryz.ntmps203
 go_wp2_with fail
 go_loopw [6, 13] (fun ov iv wr => ∃ (k : Nat), k <= l.length /\ iv = .int .i64 k /\ okL (l.take k) = true /\ wr.ownsRow w.heap.size 34 1 ov k (((l.take k).map txQ).map Value.string) /\ Below w.heap.size w wr) (fun _ iv _ => l.length - (intOf iv).toNat)
 case atStart => exact ⟨0, Nat.zero_le _, rfl, rfl, World.ownsRow_nil _ _ _ _, Below.refl _ _⟩
 case round =>
  obtain ⟨k, hk, rfl, hok, hown, hb⟩ := hrel
  have HOK := Lib.hid hok
  have hsz := hb.size
  clear hok
  by_cases hlt : k < l.length
  · obtain ⟨q, hq⟩ := get_of_lt hlt
    obtain ⟨c, hcc, hn⟩ := HR.out.get hq
    obtain ⟨ba, offa, rfl, hxc⟩ := row_cells HC.out HR.out.six hcc
    have hv := (hn.below hb (Nat.le_refl _)).vq
    obtain ⟨a1, c1, a2, c2, a3, c3, a4, c4, rfl⟩ := hn.shape
    have hkx := fun (j : Nat) (u : Value) h => cell_keep (hxc j u h) hb (Nat.le_refl _)
    have x0 := hkx 0 _ rfl
    have x1 := hkx 1 _ rfl
    have x2 := hkx 2 _ rfl
    have x3 := hkx 3 _ rfl
    have x4 := hkx 4 _ rfl
    have x5 := hkx 5 _ rfl
    simp only [<- Nat.add_assoc, Nat.add_zero] at x0 x1 x2 x3 x4 x5
    have hal : Below wr.heap.size wr (wr.alloc (.cells #[.bool (qS q), .slice a1 (dig (qN q)).length c1, .slice a2 (dig (qD q)).length c2, .bool false, .slice a3 (dig 0).length c3, .slice a4 (dig 1).length c4] 148)) := (Below.refl _ _).alloc (Nat.le_refl _) _
    have hp := puts1_any _ q _ (hv.below hal (Nat.le_refl _)) (HT.out.below (hb.trans (hal.mono hsz)) (Nat.le_refl _)) (HH.out q (List.mem_of_getElem? hq))
    have htk := take_get hq
    have HAL := Lib.hid hal; have HP := Lib.hid hp; have HTK := Lib.hid htk; have HQ := Lib.hid hq
    have j0 : (k : Int) < l.length := by omega
    clear hv hn hcc hxc hkx hal hp htk hq
    go_wp2_with fail
    refine HP.out.mono ?_
    rintro e w1 ⟨rfl, hb1⟩
    have hb01 : Below wr.heap.size wr w1 := HAL.out.trans (hb1.mono HAL.out.size)
    have hbw1 := hb.trans (hb01.mono hsz)
    have hsz1 := hbw1.size
    have hown1 := own_belowK hown hb01 (Nat.le_refl _)
    clear hb1 hown x0 x1 x2 x3 x4 x5
    cases hoq : okQ q
    · have HBAD := Lib.hid (okL_bad HQ.out hoq)
      clear hoq hown1
      go_wp2_with fail
      go_ret2
      exact allPut_bad HBAD.out hbw1
    · have hok2 : okL (l.take (k + 1)) = true := by rw [HTK.out, okL_snoc, HOK.out, hoq]; rfl
      have htx : ptQ q = txQ q := (ptQ_ok hoq).1
      rw [htx]
      have HOK2 := Lib.hid hok2
      clear hoq hok2 htx
      go_wp2_with (at_builtin; refine wpList_append_own _ rfl _ _ 33 rfl w.heap.size 34 i0 (.string ⟨#[]⟩) 1 16 Tryz.underlying33 hi hz0 hz1 hz2 rfl (by decide) _ _ _ rfl (hown1.alloc _) ⟨w1.heap.size, 0, none⟩ 1 1 [.string (txQ q)] rfl rfl (World.news_of_block (cs := #[.string (txQ q)]) (t := 34) (fr := (0, 0)) (by have := heap_alloc_new w1 (.cells #[.string (txQ q)] 34); simpa using this)) (by simp [Value.oneCell']) (by unfold maxLen; omega) (by omega) (by simp; omega) ?_; intro v1 wz hown2 hgrow _)
      have hbz := (hbw1.alloc hsz1 (.cells #[.string (txQ q)] 34)).grown hgrow (by simp; omega) (fun j e => (hown1.lt j e).1)
      have he : (((l.take k).map txQ).map Value.string) ++ [.string (txQ q)] = ((l.take (k + 1)).map txQ).map Value.string := by rw [HTK.out]; simp
      rw [he] at hown2
      obtain ⟨gg, cp, rfl⟩ := own_succ hown2
      have HOWN := Lib.hid hown2
      clear hown2 hgrow he hown1
      go_wp2_with fail
      go_roundw
      case rel => exact ⟨k + 1, by omega, by go_num, HOK2.out, HOWN.out, hbz⟩
      case measure => simp [intOf]; omega
  · obtain rfl : k = l.length := by omega
    have hok := HOK.out
    rw [List.take_length] at hok hown
    have HOF := Lib.hid hok; have HOWN := Lib.hid hown
    obtain ⟨g, c, rfl, -⟩ := own_cells hown
    have j0 : ¬ (l.length : Int) < l.length := by omega
    clear hok hown HOK
    go_wp2_with fail
    go_ret2
    exact allPut_ok HOF.out HOWN.out hb
set_option maxRecDepth 100000 in
set_option maxHeartbeats 2000000 in
theorem puts_any (ao : Option Addr) (cs : List (List Value)) (l : List Rat) (cap : Nat) (w : World) (ht : Tab w) (hc : Cells w ao cs.flatten) (hr : QRow w cs l) (hl : l.length <= 5000) (hh : ∀ q ∈ l, hgt q <= 1000000000) :
 Calls Tryz.prog 132 #[.slice ao l.length cap] w (PutsRes l w) := by
 have hA := allPut_any ao cs l cap w ht hc hr hl hh
 have HA := Lib.hid hA
 clear hA ht hc hr hl hh
 go_enter Tryz.func132, Tryz.ntmps132
 go_wp2_with fail
 refine HA.out.mono ?_
 rintro e w1 ⟨hm, hb⟩
 cases hok : okL l
 · rw [if_neg (by rw [hok]; decide)] at hm
   subst hm
   have HOK := Lib.hid hok
   clear hok
   go_wp2_with fail
   go_ret2
   exact putsRes_bad HOK.out hb
 · rw [if_pos hok] at hm
   obtain ⟨v, rfl, hown⟩ := hm
   have HOWN := Lib.hid hown; have HOK := Lib.hid hok
   obtain ⟨g, c, rfl, -⟩ := own_cells hown
   clear hok hown
   go_wp2_with fail
   go_ret2
   exact putsRes_ok HOK.out HOWN.out hb
end Go.Proofs.YtdpjdifoonfcdaaGreatDoor

namespace Go.Proofs.YtdpjdifoonfcdaaGreatDoor
open Go.RowKit
theorem Tryz.infoNumQ : (Tryz.prog.info? 34).map (fun i => (i.zero, i.size, i.bytes)) = some (some (.string ⟨#[]⟩), 1, 16) := by kernel_rfl
abbrev txs (l : List Rat) : List Value := (l.map txQ).map Value.string
theorem txs_snoc (l : List Rat) (q : Rat) : txs (l ++ [q]) = txs l ++ [.string (txQ q)] := by simp [txs]
def timeOK (ws : List (List Int)) (y : List Int) (f : List Rat) (t : Nat) : Bool := okQ (dotQ (colQ ws t) f) && okQ (leftQ ws y f t)
def clOK (ws : List (List Int)) (y : List Int) (f : List Rat) : Bool := (List.range y.length).all (timeOK ws y f)
theorem clOK_bad {ws : List (List Int)} {y : List Int} {f : List Rat} {t : Nat} (ht : t < y.length) (h : timeOK ws y f t = false) : clOK ws y f = false := by
 cases hc : clOK ws y f
 · rfl
 · have := List.all_eq_true.1 hc t (List.mem_range.2 ht)
   rw [h] at this; cases this
def CleanRes (ws : List (List Int)) (y : List Int) (f : List Rat) (w : World) (e : Ending) (w' : World) : Prop :=
 (if clOK ws y f = true then ∃ v, e = .returned (.tuple #[v, .int .i64 0]) /\ w'.ownsRow w.heap.size 34 1 v y.length (txs (cleanQ ws y f)) else e = .returned (.tuple #[.slice none 0 0, .int .i64 11])) /\ Below w.heap.size w w'
theorem clean_big {ws : List (List Int)} {y : List Int} {f : List Rat} {w w' : World} (h : clOK ws y f = false) (hb : Below w.heap.size w w') : CleanRes ws y f w (.returned (.tuple #[.slice none 0 0, .int .i64 11])) w' := ⟨by rw [if_neg (by rw [h]; decide)], hb⟩
theorem clean_ok {ws : List (List Int)} {y : List Int} {f : List Rat} {w w' : World} {v : Value} (h : clOK ws y f = true) (ho : w'.ownsRow w.heap.size 34 1 v y.length (txs (cleanQ ws y f))) (hb : Below w.heap.size w w') : CleanRes ws y f w (.returned (.tuple #[v, .int .i64 0])) w' := ⟨by rw [if_pos h]; exact ⟨v, rfl, ho⟩, hb⟩
theorem cleanQ_take {ws : List (List Int)} {y : List Int} {f : List Rat} {t : Nat} (h : t < y.length) : (cleanQ ws y f).take (t + 1) = (cleanQ ws y f).take t ++ [leftQ ws y f t] := by
 have : (cleanQ ws y f)[t]? = some (leftQ ws y f t) := by unfold cleanQ; rw [List.getElem?_map, List.getElem?_range h]; rfl
 exact take_get this
theorem colQ_get {ws : List (List Int)} {k t : Nat} {a : List Int} (h : ws[k]? = some a) : (colQ ws t)[k]? = some ((a.getD t 0 : Int) : Rat) := by unfold colQ; rw [List.getElem?_map, h]; rfl
theorem small_okQ {n : Int} (h : n.natAbs < 1000000000000000000000000000) : okQ (n : Rat) = true := ok_small (Nat.le_trans (hgt_int h) (by decide))
theorem getD_sm {xs : List Int} (h : ∀ x ∈ xs, -1048576 <= x /\ x <= 1048576) (i : Nat) : (xs.getD i 0).natAbs <= 1048576 := by
 rw [List.getD]
 cases e : xs[i]? with
 | none => decide
 | some v => have := h v (List.mem_of_getElem? e); show v.natAbs <= _; omega
theorem colQ_ok {ws : List (List Int)} (h : ∀ a ∈ ws, ∀ x ∈ a, -1048576 <= x /\ x <= 1048576) (t : Nat) : ∀ q ∈ colQ ws t, okQ q = true := by
 intro q hq
 unfold colQ at hq
 obtain ⟨a, ha, rfl⟩ := List.mem_map.1 hq
 exact small_okQ (by have := getD_sm (h a ha) t; omega)
set_option maxRecDepth 100000 in
set_option maxHeartbeats 4000000 in
theorem clean_any (ao wo fo : Option Addr) (y : List Int) (vs : List Value) (ws : List (List Int)) (f : List Rat) (ca cw cf N : Nat) (w : World) (ht : Tab w) (hc : Cells w ao (y.map (Value.int .i64))) (hd : Cells w wo vs) (hr : RowsI w vs ws) (hfc : Cells w fo (txs f))
 (hl : y.length <= 64) (hsm : ∀ x ∈ y, -1048576 <= x /\ x <= 1048576) (hw : ∀ a ∈ ws, a.length = y.length /\ ∀ x ∈ a, -1048576 <= x /\ x <= 1048576) (hN : ws.length = N) (hN4 : N <= 4) (hf : f.length = N) (hfo : ∀ q ∈ f, okQ q = true) :
 Calls Tryz.prog 133 #[.slice ao y.length ca, .slice wo N cw, .slice fo N cf] w (CleanRes ws y f w) := by
 obtain ⟨i0, hi, hz0, hz1, hz2⟩ := info_parts Tryz.infoNumQ
 have hco := fun t => colQ_ok (fun a ha => (hw a ha).2) t
 have HT := Lib.hid ht; have HC := Lib.hid hc; have HD := Lib.hid hd; have HR := Lib.hid hr; have HF := Lib.hid hfc; have HSM := Lib.hid hsm; have HW := Lib.hid hw; have HN := Lib.hid hN; have HFL := Lib.hid hf; have HFO := Lib.hid hfo; have HCO := Lib.hid hco
 have HVL : Hid (vs.length = N) := Lib.hid (hr.1.trans hN)
 clear ht hc hd hr hfc hsm hw hN hf hfo hco
 obtain ⟨M, hM⟩ : ∃ M, y.length = M := ⟨_, rfl⟩
 rw [hM] at hl ⊢
 have HM := Lib.hid hM
 clear hM
 go_enter Tryz.func133, Tryz.ntmps133
 go_wp2_with fail
 go_loopw [8, 18] (fun ov iv wr => ∃ t : Nat, t <= M /\ iv = .int .i64 t /\ (∀ s, s < t -> timeOK ws y f s = true) /\ wr.ownsRow w.heap.size 34 1 ov t (txs ((cleanQ ws y f).take t)) /\ Below w.heap.size w wr) (fun _ iv _ => M - (intOf iv).toNat)
 case atStart => exact ⟨0, Nat.zero_le _, rfl, fun s h => by omega, World.ownsRow_nil _ _ _ _, Below.refl _ _⟩
 case round =>
  obtain ⟨t, htM, rfl, htk, hown, hb⟩ := hrel
  have HTK := Lib.hid htk
  have hsz := hb.size
  clear htk
  by_cases hlt : t < M
  · have i0' : (t : Int) < M := by omega
    have i1' : 0 <= (t : Int) := by omega
    obtain ⟨wq, hwq⟩ : ∃ wq, wq = wr := ⟨_, rfl⟩
    rw [<- hwq] at hown hb hsz
    have HOWN := Lib.hid hown; have HB := Lib.hid hb
    obtain ⟨og, oc, rfl, -⟩ := own_cells hown
    clear hown hb
    go_wp2_with fail
    rw [<- hwq]
    clear hwq wr
    go_loopw [10, 23] (fun rv iv wr => ∃ k : Nat, k <= N /\ iv = .int .i64 k /\ wr.ownsRow wq.heap.size 34 1 rv k (txs ((colQ ws t).take k)) /\ Below wq.heap.size wq wr) (fun _ iv _ => N - (intOf iv).toNat)
    case atStart => exact ⟨0, Nat.zero_le _, rfl, World.ownsRow_nil _ _ _ _, Below.refl _ _⟩
    case round =>
     obtain ⟨k, hkN, rfl, hrow, hbq⟩ := hrel
     have hbw := HB.out.trans (hbq.mono hsz)
     have hszq := hbq.size
     by_cases hkl : k < N
     · obtain ⟨a, ha⟩ := get_of_lt (show k < ws.length by rw [HN.out]; exact hkl)
       obtain ⟨v, hv⟩ := get_of_lt (show k < vs.length by rw [HVL.out]; exact hkl)
       obtain ⟨aa, cc, rfl, hac, hal⟩ := HR.out.2 k v a hv ha
       obtain ⟨haM, hasm⟩ := HW.out a (List.mem_of_getElem? ha)
       rw [HM.out] at haM
       obtain ⟨x, hx⟩ := get_of_lt (show t < a.length by omega)
       obtain ⟨bw, offw, rfl⟩ := HD.out.addr (by intro h; rw [h] at hv; simp at hv)
       obtain ⟨ba, offa, rfl⟩ := hac.addr (by simpa using List.ne_nil_of_length_pos (show 0 < a.length by omega))
       have c0 := cell_keep (HD.out.at hv) hbw (Nat.le_refl _)
       have c1 := cell_keep (hac.int hx) hbw (Nat.le_refl _)
       rw [haM] at c0
       have hxs := hasm x (List.mem_of_getElem? hx)
       have hgw := gwhole_any x wr (HT.out.below hbw (Nat.le_refl _)) (by omega) (by omega)
       have hcg := colQ_get (t := t) ha
       rw [show a.getD t 0 = x by rw [List.getD, hx]; rfl] at hcg
       have htk2 := take_get hcg
       have HGW := Lib.hid hgw; have HTK2 := Lib.hid htk2
       obtain ⟨tx, htx⟩ : ∃ tx, txQ (x : Rat) = tx := ⟨_, rfl⟩
       rw [htx] at HGW
       have HTX := Lib.hid htx
       have j0 : (k : Int) < N := by omega
       clear ha hv hac hal haM hasm hx hxs hgw hcg htk2 htx
       go_wp2_with fail
       refine HGW.out.mono ?_
       rintro e w1 ⟨rfl, hb1⟩
       have hbq1 := hbq.trans (hb1.mono hszq)
       have hsz1 := hbq1.size
       have hrow1 := own_belowK hrow hb1 (Nat.le_refl _)
       clear hb1 hrow c0 c1
       go_wp2_with (at_builtin; refine wpList_append_own _ rfl _ _ 33 rfl wq.heap.size 34 i0 (.string ⟨#[]⟩) 1 16 Tryz.underlying33 hi hz0 hz1 hz2 rfl (by decide) _ _ _ rfl (hrow1.alloc _) ⟨w1.heap.size, 0, none⟩ 1 1 [.string tx] rfl rfl (World.news_of_block (cs := #[.string tx]) (t := 34) (fr := (0, 0)) (by have := heap_alloc_new w1 (.cells #[.string tx] 34); simpa using this)) (by simp [Value.oneCell']) (by unfold maxLen; omega) (by omega) (by simp; omega) ?_; intro v1 wz hown2 hgrow _)
       have hbz := (hbq1.alloc hsz1 (.cells #[.string tx] 34)).grown hgrow (by simp; omega) (fun j e => (hrow1.lt j e).1)
       have he : txs ((colQ ws t).take k) ++ [.string tx] = txs ((colQ ws t).take (k + 1)) := by rw [HTK2.out, txs_snoc, HTX.out]
       rw [he] at hown2
       obtain ⟨gg, cp, rfl⟩ := own_succ hown2
       have HOW := Lib.hid hown2
       clear hown2 hgrow he hrow1
       go_wp2_with fail
       go_roundw
       case rel => exact ⟨k + 1, by omega, by go_num, HOW.out, hbz⟩
       case measure => simp [intOf]; omega
     · obtain rfl : N = k := by omega
       have hcl : (colQ ws t).length = N := by unfold colQ; rw [List.length_map, HN.out]
       rw [List.take_of_length_le (by rw [hcl]; exact Nat.le_refl _)] at hrow
       obtain ⟨rg, rc, rfl, hrc⟩ := own_cells hrow
       have hdt := dotQ_any rg fo (colQ ws t) f rc cf wr (HT.out.below hbw (Nat.le_refl _)) hrc (HF.out.below hbw (Nat.le_refl _)) (by rw [hcl, HFL.out]) (by rw [hcl]; omega) (HCO.out t) HFO.out
       rw [hcl] at hdt
       obtain ⟨D, hD⟩ : ∃ D, dotQ (colQ ws t) f = D := ⟨_, rfl⟩
       rw [hD] at hdt
       have HDT := Lib.hid hdt; have HDD := Lib.hid hD
       have j0 : ¬ (N : Int) < N := by omega
       clear hcl hrow hrc hdt hD
       go_wp2_with fail
       refine HDT.out.mono ?_
       rintro e w1 ⟨rfl, hb1⟩
       have hbq1 := hbq.trans (hb1.mono hszq)
       have hbw1 := HB.out.trans (hbq1.mono hsz)
       have HB1 := Lib.hid hbw1; have HBQ1 := Lib.hid hbq1
       clear hb1 hbq1 hbw1 hbq hbw HDT
       cases hok : okQ D
       · rw [(ptQ_big hok).1, (ptQ_big hok).2]
         have hbad : clOK ws y f = false := clOK_bad (t := t) (by rw [HM.out]; exact hlt) (by unfold timeOK; rw [HDD.out, hok]; rfl)
         have HBAD := Lib.hid hbad
         clear hok hbad
         go_wp2_with fail
         go_ret2
         exact clean_big HBAD.out HB1.out
       · rw [(ptQ_ok hok).1, (ptQ_ok hok).2]
         obtain ⟨yt, hyt⟩ := get_of_lt (show t < y.length by rw [HM.out]; exact hlt)
         have hys := HSM.out yt (List.mem_of_getElem? hyt)
         obtain ⟨ba, offa, rfl⟩ := HC.out.addr (by simpa using List.ne_nil_of_length_pos (show 0 < y.length by rw [HM.out]; omega))
         have c1 := cell_keep (HC.out.int hyt) HB1.out (Nat.le_refl _)
         have hgw := gwhole_any yt w1 (HT.out.below HB1.out (Nat.le_refl _)) (by omega) (by omega)
         have hsb := fun W (hb : Below w.heap.size w W) => subQ_own (yt : Rat) D W (HT.out.below hb (Nat.le_refl _)) (small_okQ (by omega)) hok
         have hlq : leftQ ws y f t = (yt : Rat) - D := by unfold leftQ; rw [HDD.out, show y.getD t 0 = yt by rw [List.getD, hyt]; rfl]
         have HGW := Lib.hid hgw; have HSB := Lib.hid hsb; have HLQ := Lib.hid hlq; have HOKD := Lib.hid hok
         obtain ⟨q, hq⟩ : ∃ q, (yt : Rat) - D = q := ⟨_, rfl⟩
         rw [hq] at HSB HLQ
         obtain ⟨tx, htx⟩ : ∃ tx, txQ (yt : Rat) = tx := ⟨_, rfl⟩
         obtain ⟨td, htd⟩ : ∃ td, txQ D = td := ⟨_, rfl⟩
         rw [htx] at HGW HSB
         rw [htd] at HSB ⊢
         clear hok hyt hys hgw hsb hlq hq htx htd
         go_wp2_with fail
         refine HGW.out.mono ?_
         rintro e w2 ⟨rfl, hb2⟩
         have HB2 := Lib.hid (HB1.out.trans (hb2.mono HB1.out.size))
         have HBQ2 := Lib.hid (HBQ1.out.trans (hb2.mono HBQ1.out.size))
         clear hb2 c1
         go_wp2_with fail
         refine (HSB.out _ HB2.out).mono ?_
         rintro e w3 ⟨rfl, hb3⟩
         have HB3 := Lib.hid (HB2.out.trans (hb3.mono HB2.out.size))
         have hbq3 := HBQ2.out.trans (hb3.mono HBQ2.out.size)
         have hown3 := own_belowK HOWN.out hbq3 (Nat.le_refl _)
         clear hb3 hbq3
         cases hok2 : okQ q
         · rw [(ptQ_big hok2).1, (ptQ_big hok2).2]
           have hbad : clOK ws y f = false := clOK_bad (t := t) (by rw [HM.out]; exact hlt) (by unfold timeOK; rw [HLQ.out, hok2, Bool.and_false])
           have HBAD := Lib.hid hbad
           clear hok2 hbad hown3
           go_wp2_with fail
           go_ret2
           exact clean_big HBAD.out HB3.out
         · rw [(ptQ_ok hok2).1, (ptQ_ok hok2).2]
           have htok : ∀ s, s < t + 1 -> timeOK ws y f s = true := fun s hs => by
            by_cases hst : s < t
            · exact HTK.out s hst
            · obtain rfl : s = t := by omega
              unfold timeOK; rw [HDD.out, HOKD.out, HLQ.out, hok2]; rfl
           have HTOK := Lib.hid htok
           obtain ⟨tq, htq⟩ : ∃ tq, txQ q = tq := ⟨_, rfl⟩
           rw [htq]
           have HTQ := Lib.hid htq
           have hsz3 := HB3.out.size
           clear hok2 htok htq
           go_wp2_with (at_builtin; refine wpList_append_own _ rfl _ _ 33 rfl w.heap.size 34 i0 (.string ⟨#[]⟩) 1 16 Tryz.underlying33 hi hz0 hz1 hz2 rfl (by decide) _ _ _ rfl (hown3.alloc _) ⟨w3.heap.size, 0, none⟩ 1 1 [.string tq] rfl rfl (World.news_of_block (cs := #[.string tq]) (t := 34) (fr := (0, 0)) (by have := heap_alloc_new w3 (.cells #[.string tq] 34); simpa using this)) (by simp [Value.oneCell']) (by unfold maxLen; omega) (by omega) (by simp; omega) ?_; intro v1 wz hown2 hgrow _)
           have hbz := (HB3.out.alloc hsz3 (.cells #[.string tq] 34)).grown hgrow (by simp; omega) (fun j e => (hown3.lt j e).1)
           have he : txs ((cleanQ ws y f).take t) ++ [.string tq] = txs ((cleanQ ws y f).take (t + 1)) := by rw [cleanQ_take (by rw [HM.out]; exact hlt), txs_snoc, HLQ.out, HTQ.out]
           rw [he] at hown2
           obtain ⟨gg, cp, rfl⟩ := own_succ hown2
           have HOW := Lib.hid hown2
           clear hown2 hgrow he hown3
           go_wp2_with fail
           go_roundw
           case rel => exact ⟨t + 1, by omega, by go_num, HTOK.out, HOW.out, hbz⟩
           case measure => simp [intOf]; omega
  · obtain rfl : M = t := by omega
    have hall : clOK ws y f = true := List.all_eq_true.2 (fun s hs => HTK.out s (by rw [<- HM.out]; exact List.mem_range.1 hs))
    rw [List.take_of_length_le (by unfold cleanQ; rw [List.length_map, List.length_range, HM.out]; exact Nat.le_refl _)] at hown
    have HALL := Lib.hid hall
    have howf : wr.ownsRow w.heap.size 34 1 u8 y.length (txs (cleanQ ws y f)) := by rw [HM.out]; exact hown
    have HOW := Lib.hid howf
    obtain ⟨g, c, rfl, -⟩ := own_cells hown
    have j0 : ¬ (M : Int) < M := by omega
    clear hall hown howf
    go_wp2_with fail
    go_ret2
    exact clean_ok HALL.out HOW.out hb
end Go.Proofs.YtdpjdifoonfcdaaGreatDoor

namespace Go.Proofs.YtdpjdifoonfcdaaGreatDoor
open Go.RowKit
def lessTo (f : Rat) (ys xs : List Rat) (i : Nat) : List Rat := (lessRow f ys xs).take i ++ xs.drop i
theorem lessTo_zero (f : Rat) (ys xs : List Rat) : lessTo f ys xs 0 = xs := by simp [lessTo]
theorem lessTo_all {f : Rat} {ys xs : List Rat} (h : ys.length = xs.length) : lessTo f ys xs xs.length = lessRow f ys xs := by
 unfold lessTo
 rw [List.drop_length, List.append_nil, List.take_of_length_le (by rw [lessRow_len h.symm]; exact Nat.le_refl _)]
theorem lessTo_get {f : Rat} {ys xs : List Rat} {i : Nat} {x : Rat} (h : ys.length = xs.length) (hx : xs[i]? = some x) : (lessTo f ys xs i)[i]? = some x := by
 have hi := (List.getElem?_eq_some_iff.1 hx).1
 have hl : ((lessRow f ys xs).take i).length = i := by rw [List.length_take, lessRow_len h.symm]; omega
 unfold lessTo
 rw [List.getElem?_append_right (by omega), hl, Nat.sub_self, List.getElem?_drop, Nat.add_zero, hx]
theorem lessTo_set {f : Rat} {ys xs : List Rat} {i : Nat} {x y : Rat} (h : ys.length = xs.length) (hx : xs[i]? = some x) (hy : ys[i]? = some y) : (lessTo f ys xs i).set i (x - f * y) = lessTo f ys xs (i + 1) := by
 have hi := (List.getElem?_eq_some_iff.1 hx).1
 have hl : ((lessRow f ys xs).take i).length = i := by rw [List.length_take, lessRow_len h.symm]; omega
 unfold lessTo
 rw [List.set_append_right _ _ (by omega), hl, Nat.sub_self, List.drop_eq_getElem_cons hi, List.set_cons_zero, List.take_add_one, lessRow_get hx hy]
 simp
set_option maxRecDepth 100000 in
set_option maxHeartbeats 4000000 in
theorem reduce_any (R S : Nat) (xs ys : List Rat) (k : Nat) (c1 c2 : Nat) (w : World) (hR : RowB w R xs) (hS : RowB w S ys) (hne : R ≠ S) (hl : ys.length = xs.length) (hk : k < xs.length) (hl2 : xs.length <= 100) (bx : ∀ x ∈ xs, hgt x <= 1000000) (by' : ∀ y ∈ ys, hgt y <= 1000000) :
 Calls Tryz.prog 200 #[.slice (some ⟨R, 0, none⟩) xs.length c1, .slice (some ⟨S, 0, none⟩) xs.length c2, .int .i64 k] w fun e w' => e = .returned (.tuple #[]) /\ RowB w' R (lessRow (xs.getD k 0) ys xs) /\ Kp (fun g => g = R) w w' := by
 obtain ⟨f, hf⟩ : ∃ f, xs.getD k 0 = f := ⟨_, rfl⟩
 have hfk : xs[k]? = some f := by rw [getD_get hk, hf]
 rw [hf]
 obtain ⟨fc, hfn, hfc⟩ := hR.at hfk
 have HFV := Lib.hid hfn.vq
 obtain ⟨f1, fc1, f2, fc2, f3, fc3, f4, fc4, rfl⟩ := hfn.shape
 have x0 := hfc 0 _ rfl
 have x1 := hfc 1 _ rfl
 have x2 := hfc 2 _ rfl
 have x3 := hfc 3 _ rfl
 have x4 := hfc 4 _ rfl
 have x5 := hfc 5 _ rfl
 simp only [Nat.add_zero] at x0
 have hf1 : hgt f <= 1000000 := bx f (List.mem_of_getElem? hfk)
 have HR := Lib.hid hR; have HS := Lib.hid hS; have HL := Lib.hid hl; have BX := Lib.hid bx; have BY := Lib.hid by'
 have hRl := hR.lt
 have hSl := hS.lt
 obtain ⟨W1, hW1⟩ : ∃ W1, W1 = w.alloc (.cells #[.bool (qS f), .slice f1 (dig (qN f)).length fc1, .slice f2 (dig (qD f)).length fc2, .bool false, .slice f3 (dig 0).length fc3, .slice f4 (dig 1).length fc4] 148) := ⟨_, rfl⟩
 have hal : Below w.heap.size w W1 := by rw [hW1]; exact (Below.refl _ _).alloc (Nat.le_refl _) _
 have hbkF : Blk W1 w.heap.size 148 #[.bool (qS f), .slice f1 (dig (qN f)).length fc1, .slice f2 (dig (qD f)).length fc2, .bool false, .slice f3 (dig 0).length fc3, .slice f4 (dig 1).length fc4] := by rw [hW1]; exact Blk.new w _ _
 have hz1 : W1.heap.size = w.heap.size + 1 := by rw [hW1]; simp
 have b0 : W1.cell? ⟨w.heap.size, 0, none⟩ = some (.bool (qS f)) := hbkF.cell 0
 have b1 : W1.cell? ⟨w.heap.size, 1, none⟩ = some (.slice f1 (dig (qN f)).length fc1) := hbkF.cell 1
 have b2 : W1.cell? ⟨w.heap.size, 2, none⟩ = some (.slice f2 (dig (qD f)).length fc2) := hbkF.cell 2
 have b3 : W1.cell? ⟨w.heap.size, 3, none⟩ = some (.bool false) := hbkF.cell 3
 have b4 : W1.cell? ⟨w.heap.size, 4, none⟩ = some (.slice f3 (dig 0).length fc3) := hbkF.cell 4
 have b5 : W1.cell? ⟨w.heap.size, 5, none⟩ = some (.slice f4 (dig 1).length fc4) := hbkF.cell 5
 have HAL := Lib.hid hal; have HBF := Lib.hid hbkF
 have k0 : (k : Int) < xs.length := by omega
 have k1 : 0 <= (k : Int) := by omega
 have hzf := valZeroQ _ f W1 (HFV.out.below hal (Nat.le_refl _))
 have HZF := Lib.hid hzf
 clear hR hS hl bx by' hfc hfn hfk hf hal hbkF hzf
 go_enter Tryz.func200, Tryz.ntmps200
 go_wp2_with fail
 rw [<- hW1]
 clear hW1
 refine HZF.out.mono ?_
 rintro e w2 ⟨rfl, hb2⟩
 have HB2 := Lib.hid (HAL.out.trans (hb2.mono HAL.out.size))
 have HBF2 := Lib.hid (HBF.out.below hb2 (by omega))
 have hz2 : w.heap.size < w2.heap.size := by have := hb2.size; omega
 clear hb2 b0 b1 b2 b3 b4 b5 x0 x1 x2 x3 x4 x5
 by_cases h0 : f = 0
 · rw [decide_eq_true h0]
   have hfin : RowB w2 R (lessRow f ys xs) := by rw [h0, lessRow_zero _ _ HL.out.symm]; exact HR.out.below HB2.out
   have hkp : Kp (fun g => g = R) w w2 := Kp.of_below HB2.out
   have HFI := Lib.hid hfin; have HKP := Lib.hid hkp
   clear hfin hkp h0
   go_wp2_with fail
   refine bodyPost_ret (v := .tuple #[]) (by simp [results, Tryz.results200, go_sem]) rfl ?_
   exact ⟨rfl, HFI.out, HKP.out⟩
 · rw [decide_eq_false h0]
   clear h0
   go_wp2_with fail
   go_loopw [16] (fun iv wr => ∃ (i : Nat), i <= xs.length /\ iv = .int .i64 i /\ RowB wr R (lessTo f ys xs i) /\ Kp (fun g => g = R) w2 wr) (fun iv _ => xs.length - (intOf iv).toNat)
   case atStart => exact ⟨0, Nat.zero_le _, rfl, by rw [lessTo_zero]; exact HR.out.below HB2.out, Kp.refl _ _⟩
   case round =>
    obtain ⟨i, hi, rfl, hrow, hkp⟩ := hrel
    have hkw : Kp (fun g => g = R) w wr := (Kp.of_below HB2.out).trans hkp
    have hsr := HS.out.kp hkw (fun h => hne h.symm)
    have hbf := hkp.blk HBF2.out (by omega)
    have hfv := hkw.vq HFV.out
    have HROW := Lib.hid hrow; have HKP := Lib.hid hkp; have HKW := Lib.hid hkw; have HSR := Lib.hid hsr; have HBFR := Lib.hid hbf; have HFVR := Lib.hid hfv
    have hRr := hrow.lt
    have hGr := hbf.lt
    clear hrow hkp hkw hsr hbf hfv
    by_cases hlt : i < xs.length
    · obtain ⟨x, hxi⟩ := get_of_lt hlt
      obtain ⟨y, hyi⟩ := get_of_lt (show i < ys.length by rw [HL.out]; exact hlt)
      have hxg := lessTo_get (f := f) HL.out hxi
      obtain ⟨xc, hxn, hxc⟩ := HROW.out.at hxg
      obtain ⟨yc, hyn, hyc⟩ := HSR.out.at hyi
      have HXV := Lib.hid hxn.vq; have HYV := Lib.hid hyn.vq
      obtain ⟨x1, xc1, x2, xc2, x3, xc3, x4, xc4, rfl⟩ := hxn.shape
      obtain ⟨y1, yc1, y2, yc2, y3, yc3, y4, yc4, rfl⟩ := hyn.shape
      have sx0 := hxc 0 _ rfl
      have sy0 := hyc 0 _ rfl
      have sf0 : wr.cell? ⟨w.heap.size, 0, none⟩ = some (.bool (qS f)) := HBFR.out.cell 0
      have sx1 := hxc 1 _ rfl
      have sy1 := hyc 1 _ rfl
      have sf1 : wr.cell? ⟨w.heap.size, 1, none⟩ = some (.slice f1 (dig (qN f)).length fc1) := HBFR.out.cell 1
      have sx2 := hxc 2 _ rfl
      have sy2 := hyc 2 _ rfl
      have sf2 : wr.cell? ⟨w.heap.size, 2, none⟩ = some (.slice f2 (dig (qD f)).length fc2) := HBFR.out.cell 2
      have sx3 := hxc 3 _ rfl
      have sy3 := hyc 3 _ rfl
      have sf3 : wr.cell? ⟨w.heap.size, 3, none⟩ = some (.bool false) := HBFR.out.cell 3
      have sx4 := hxc 4 _ rfl
      have sy4 := hyc 4 _ rfl
      have sf4 : wr.cell? ⟨w.heap.size, 4, none⟩ = some (.slice f3 (dig 0).length fc3) := HBFR.out.cell 4
      have sx5 := hxc 5 _ rfl
      have sy5 := hyc 5 _ rfl
      have sf5 : wr.cell? ⟨w.heap.size, 5, none⟩ = some (.slice f4 (dig 1).length fc4) := HBFR.out.cell 5
      simp only [Nat.add_zero] at sx0 sy0
      have hx1 : hgt x <= 1000000 := BX.out x (List.mem_of_getElem? hxi)
      have hy1 : hgt y <= 1000000 := BY.out y (List.mem_of_getElem? hyi)
      have hfy := hgt_mul f y
      have hTI : ∀ W, Below wr.heap.size wr W -> Calls Tryz.prog 201 #[.agg #[.bool (qS f), .slice f1 (dig (qN f)).length fc1, .slice f2 (dig (qD f)).length fc2, .bool false, .slice f3 (dig 0).length fc3, .slice f4 (dig 1).length fc4], .agg #[.bool (qS y), .slice y1 (dig (qN y)).length yc1, .slice y2 (dig (qD y)).length yc2, .bool false, .slice y3 (dig 0).length yc3, .slice y4 (dig 1).length yc4]] W (VQRes (f * y) W) := fun W hb => timesQ _ _ f y W (HFVR.out.below hb (Nat.le_refl _)) (HYV.out.below hb (Nat.le_refl _)) (by omega) (by omega)
      have hLE : ∀ v W, Below wr.heap.size wr W -> VQ W v (f * y) -> Calls Tryz.prog 72 #[.agg #[.bool (qS x), .slice x1 (dig (qN x)).length xc1, .slice x2 (dig (qD x)).length xc2, .bool false, .slice x3 (dig 0).length xc3, .slice x4 (dig 1).length xc4], v] W (VQRes (x - f * y) W) := fun v W hb hv => lessQ _ v x (f * y) W (HXV.out.below hb (Nat.le_refl _)) hv (by omega) (by omega)
      have HTI := Lib.hid hTI; have HLE := Lib.hid hLE
      have hset := lessTo_set (f := f) HL.out hxi hyi
      have HSET := Lib.hid hset; have HXG := Lib.hid hxg
      have i0 : (i : Int) < xs.length := by omega
      have i1 : 0 <= (i : Int) := by omega
      have hS0 : Below wr.heap.size wr wr.drew := (Below.refl _ _).drew
      clear hxi hyi hxg hxn hyn hxc hyc hTI hLE hset
      go_wp2_with fail
      refine wp_region_drewJ (T := fun j w9 => j < 14 -> Below wr.heap.size wr w9) (by kernel_rfl) ?_
      refine tjV 0 (.slice (some ⟨R, 0, none⟩) xs.length c1) (fun w9 => Below wr.heap.size wr w9) (fun j => decide (j < 14)) hS0 (fun _ h _ => h) (fun j hj _ h => h (of_decide_eq_true hj)) ?_
      refine tjV 1 (.int .i64 i) (fun w9 => Below wr.heap.size wr w9) (fun j => decide (j < 14)) hS0 (fun _ h _ => h) (fun j hj _ h => h (of_decide_eq_true hj)) ?_
      refine tjV 2 (.slice (some ⟨R, 0, none⟩) xs.length c1) (fun w9 => Below wr.heap.size wr w9) (fun j => decide (j < 14)) hS0 (fun _ h _ => h) (fun j hj _ h => h (of_decide_eq_true hj)) ?_
      refine tjV 3 (.int .i64 i) (fun w9 => Below wr.heap.size wr w9) (fun j => decide (j < 14)) hS0 (fun _ h _ => h) (fun j hj _ h => h (of_decide_eq_true hj)) ?_
      refine tjV 4 (.pointer (some ⟨R, i * 6, none⟩)) (fun w9 => Below wr.heap.size wr w9) (fun j => decide (j < 14)) hS0 (fun _ h _ => h) (fun j hj _ h => h (of_decide_eq_true hj)) ?_
      refine tjV 5 (.agg #[.bool (qS x), .slice x1 (dig (qN x)).length xc1, .slice x2 (dig (qD x)).length xc2, .bool false, .slice x3 (dig 0).length xc3, .slice x4 (dig 1).length xc4]) (fun w9 => Below wr.heap.size wr w9) (fun j => decide (j < 14)) hS0 (fun _ h _ => h) (fun j hj _ h => h (of_decide_eq_true hj)) ?_ (hy := by intro w9 h9; have p0 := cell_keep sx0 h9 (Nat.le_refl _); have p1 := cell_keep sx1 h9 (Nat.le_refl _); have p2 := cell_keep sx2 h9 (Nat.le_refl _); have p3 := cell_keep sx3 h9 (Nat.le_refl _); have p4 := cell_keep sx4 h9 (Nat.le_refl _); have p5 := cell_keep sx5 h9 (Nat.le_refl _); go_simp)
      refine tjV 6 (.agg #[.bool (qS f), .slice f1 (dig (qN f)).length fc1, .slice f2 (dig (qD f)).length fc2, .bool false, .slice f3 (dig 0).length fc3, .slice f4 (dig 1).length fc4]) (fun w9 => Below wr.heap.size wr w9) (fun j => decide (j < 14)) hS0 (fun _ h _ => h) (fun j hj _ h => h (of_decide_eq_true hj)) ?_ (hy := by intro w9 h9; have p0 := cell_keep sf0 h9 (Nat.le_refl _); have p1 := cell_keep sf1 h9 (Nat.le_refl _); have p2 := cell_keep sf2 h9 (Nat.le_refl _); have p3 := cell_keep sf3 h9 (Nat.le_refl _); have p4 := cell_keep sf4 h9 (Nat.le_refl _); have p5 := cell_keep sf5 h9 (Nat.le_refl _); go_simp)
      refine tjV 7 (.slice (some ⟨S, 0, none⟩) xs.length c2) (fun w9 => Below wr.heap.size wr w9) (fun j => decide (j < 14)) hS0 (fun _ h _ => h) (fun j hj _ h => h (of_decide_eq_true hj)) ?_
      refine tjV 8 (.int .i64 i) (fun w9 => Below wr.heap.size wr w9) (fun j => decide (j < 14)) hS0 (fun _ h _ => h) (fun j hj _ h => h (of_decide_eq_true hj)) ?_
      refine tjV 9 (.pointer (some ⟨S, i * 6, none⟩)) (fun w9 => Below wr.heap.size wr w9) (fun j => decide (j < 14)) hS0 (fun _ h _ => h) (fun j hj _ h => h (of_decide_eq_true hj)) ?_
      refine tjV 10 (.agg #[.bool (qS y), .slice y1 (dig (qN y)).length yc1, .slice y2 (dig (qD y)).length yc2, .bool false, .slice y3 (dig 0).length yc3, .slice y4 (dig 1).length yc4]) (fun w9 => Below wr.heap.size wr w9) (fun j => decide (j < 14)) hS0 (fun _ h _ => h) (fun j hj _ h => h (of_decide_eq_true hj)) ?_ (hy := by intro w9 h9; have p0 := cell_keep sy0 h9 (Nat.le_refl _); have p1 := cell_keep sy1 h9 (Nat.le_refl _); have p2 := cell_keep sy2 h9 (Nat.le_refl _); have p3 := cell_keep sy3 h9 (Nat.le_refl _); have p4 := cell_keep sy4 h9 (Nat.le_refl _); have p5 := cell_keep sy5 h9 (Nat.le_refl _); go_simp)
      refine tjC 11 (fun K hK => ?_)
      go_simp
      refine (HTI.out _ hS0).mono ?_
      rintro e wc ⟨⟨u0, rfl, hv0⟩, hbc⟩
      have hS1 := hS0.trans (hbc.mono hS0.size)
      refine hK.out _ _ (fun _ => hS1) ?_
      clear hK K
      try simp only [Act.put, List.setIfInBounds_toArray, List.set_cons_zero, List.set_cons_succ]
      refine tjC 12 (fun K hK => ?_)
      go_simp
      refine (HLE.out _ _ hS1 hv0).mono ?_
      rintro e wd ⟨⟨u1, rfl, hv1⟩, hbd⟩
      have hS2 := hS1.trans (hbd.mono hS1.size)
      obtain ⟨g1, gc1, g2, gc2, g3, gc3, g4, gc4, rfl, _, _, _, _⟩ := hv1.slices
      refine hK.out _ _ (fun _ => hS2) ?_
      clear hK K
      try simp only [Act.put, List.setIfInBounds_toArray, List.set_cons_zero, List.set_cons_succ]
      refine tjV 13 (.pointer (some ⟨R, i * 6, none⟩)) (fun w9 => Below wr.heap.size wr w9) (fun j => decide (j < 14)) hS2 (fun _ h _ => h) (fun j hj _ h => h (of_decide_eq_true hj)) ?_
      refine tjC 14 (fun K hK => ?_)
      have hrw2 := HROW.out.below hS2
      obtain ⟨hput, hkpp⟩ := hrw2.put HXG.out hv1
      rw [HSET.out] at hput
      have hkw2 := (HKP.out.trans (Kp.of_below hS2)).trans hkpp
      have po0 := cell_keep sx0 hS2 (Nat.le_refl _)
      have t0 := hrw2.free (i * 6)
      have po1 := cell_keep sx1 hS2 (Nat.le_refl _)
      have t1 := hrw2.free (i * 6 + 1)
      have po2 := cell_keep sx2 hS2 (Nat.le_refl _)
      have t2 := hrw2.free (i * 6 + 2)
      have po3 := cell_keep sx3 hS2 (Nat.le_refl _)
      have t3 := hrw2.free (i * 6 + 3)
      have po4 := cell_keep sx4 hS2 (Nat.le_refl _)
      have t4 := hrw2.free (i * 6 + 4)
      have po5 := cell_keep sx5 hS2 (Nat.le_refl _)
      have t5 := hrw2.free (i * 6 + 5)
      have HPUT := Lib.hid hput; have HKW2 := Lib.hid hkw2
      clear hput hkpp hkw2
      go_simp
      refine hK.out _ _ (fun h => absurd h (by decide)) ?_
      clear hK K hv0 hv1 hbc hbd hS0 hS1 hS2 hrw2
      try simp only [Act.put, List.setIfInBounds_toArray, List.set_cons_zero, List.set_cons_succ]
      refine wpAnyJ_done (by kernel_rfl) ?_ _
      go_wp2_with fail
      go_roundw
      case rel => exact ⟨i + 1, by omega, by go_num, HPUT.out, HKW2.out⟩
      case measure => simp [intOf]; omega
    · obtain rfl : i = xs.length := by omega
      have hfin : RowB wr R (lessRow f ys xs) := by have := HROW.out; rwa [lessTo_all HL.out] at this
      have HFI := Lib.hid hfin
      have i0 : ¬ (xs.length : Int) < xs.length := by omega
      clear hfin
      go_wp2_with fail
      go_end0
      exact ⟨rfl, HFI.out, HKW.out⟩
end Go.Proofs.YtdpjdifoonfcdaaGreatDoor
