/- Parts of a proof, in build order: LL, LP, LT, JR, JA, Z0, Z1, Z2. -/
import Derived.Test.YtdpjdifoonfcdaaGreatDoorKn12
import Derived.Lib.ItoaLen

namespace Go.Proofs.YtdpjdifoonfcdaaGreatDoor
open Go.RowKit Go.Shelf
structure Bls (B : Nat) (L : Int) (pre : List (Pt L)) (v8 v9 : Value) (W : World) : Prop where
 b8 : Blk W B 44 #[v8]
 r8 : W.ownsRow (B + 3) 23 2 v8 pre.length (prs (pairsOf pre))
 b9 : Blk W (B + 1) 152 #[v9]
 r9 : W.ownsRow (B + 3) 129 65 v9 pre.length (shpL L (wvP L pre))
theorem Bls.keptF {B : Nat} {L : Int} {pre : List (Pt L)} {v8 v9 : Value} {W X : World} {row : Option Nat} (h : Bls B L pre v8 v9 W) (hg : W.grownBy X row) (hr : ∀ r, row = some r -> ∃ o : Obj, W.heap[r]? = some o /\ o.isCells = false) : Bls B L pre v8 v9 X :=
 ⟨row_kept h.b8 hg hr, own_keptF h.r8 hg hr, row_kept h.b9 hg hr, own_keptF h.r9 hg hr⟩
theorem Bls.below {B : Nat} {L : Int} {pre : List (Pt L)} {v8 v9 : Value} {W X : World} (h : Bls B L pre v8 v9 W) (hb : Below W.heap.size W X) : Bls B L pre v8 v9 X :=
 ⟨h.b8.below hb h.b8.lt, own_belowK h.r8 hb (Nat.le_refl _), h.b9.below hb h.b9.lt, own_belowK h.r9 hb (Nat.le_refl _)⟩
def Apt (B Bx : Nat) (W : World) : Prop := ∃ v8 v9, Blk W B 44 #[v8] /\ Blk W (B + 1) 152 #[v9] /\ some Bx ≠ v8.ownBlock /\ some (Bx + 1) ≠ v9.ownBlock
theorem Apt.keptF {B Bx : Nat} {W X : World} {row : Option Nat} (h : Apt B Bx W) (hg : W.grownBy X row) (hr : ∀ r, row = some r -> ∃ o : Obj, W.heap[r]? = some o /\ o.isCells = false) : Apt B Bx X := by
 obtain ⟨v8, v9, h1, h2, h3⟩ := h
 exact ⟨v8, v9, row_kept h1 hg hr, row_kept h2 hg hr, h3⟩
theorem Apt.below {B Bx : Nat} {W X : World} (h : Apt B Bx W) (hb : Below W.heap.size W X) : Apt B Bx X := by
 obtain ⟨v8, v9, h1, h2, h3⟩ := h
 exact ⟨v8, v9, h1.below hb h1.lt, h2.below hb h2.lt, h3⟩
theorem Bls.apt {B : Nat} {L : Int} {pre : List (Pt L)} {v8 v9 : Value} {W : World} (h : Bls B L pre v8 v9 W) : Apt B W.heap.size W :=
 ⟨v8, v9, h.b8, h.b9, fun e => by have := (h.r8.lt _ e.symm).2; omega, fun e => by have := (h.r9.lt _ e.symm).2; omega⟩
theorem Apt.of {B Bx : Nat} {L : Int} {pre : List (Pt L)} {v8 v9 : Value} {W : World} (h : Apt B Bx W) (hb : Bls B L pre v8 v9 W) : some Bx ≠ v8.ownBlock /\ some (Bx + 1) ≠ v9.ownBlock := by
 obtain ⟨u8, u9, h1, h2, h3⟩ := h
 have e1 := h1.symm.trans hb.b8
 have e2 := h2.symm.trans hb.b9
 simp only [Option.some.injEq, Obj.cells.injEq, Array.mk.injEq, List.cons.injEq, and_true] at e1 e2
 rw [<- e1, <- e2]
 exact h3
theorem run_make_slices {n : Nat} {z : Int} (hz : z = n) (h : n <= 100000) (w : World) : (Instr.makeSlice 31 (.int .i64 z) (.int .i64 z)).run Tryz.prog w = .ok (.slice (some ⟨w.heap.size, 0, none⟩) n n) (w.alloc (.cells (List.replicate n (.slice none 0 0)).toArray 24)) := by
 subst hz
 obtain ⟨i0, hi, hz0, hz1, hz2⟩ := info_parts Tryz.infoInts
 have hr := run_make (P := Tryz.prog) w 31 24 i0 (.slice none 0 0) Tryz.underlying31 hi hz0 .i64 .i64 n n (by omega) (by omega) (by rw [hz2]; omega) (by omega)
 rw [hr, hz1]
 simp only [Int.toNat_natCast, Nat.mul_one]
 have : madeCells (Value.slice none 0 0).cells n = (List.replicate n (Value.slice none 0 0)).toArray := by
  apply Array.ext
  · simp [madeCells]
  · intro i h1 h2
    simp [madeCells, Value.cells, Nat.mod_one]
 rw [this]
set_option maxRecDepth 1000000 in
set_option maxHeartbeats 8000000 in
theorem Build_good (n m : Nat) (L a b c d : Int) (s : ByteArray) (w : World) (ht : Tab w) (hs : s.size <= 140737488351232) (hE0 : covE L a b c d [] s = 0) (hbs0 : barS s = some (n, m)) :
 Calls Tryz.prog 19 #[.agg #[.int .i64 L, .int .i64 a, .int .i64 b, .int .i64 c, .int .i64 d], .string s] w fun e w' => (∃ ao co, e = .returned (.tuple #[.slice ao (bldL L (ptsAll L a c (d - c + 1).toNat (b - a + 1).toNat) (bldO n m L (ptsAll L a c (d - c + 1).toNat (b - a + 1).toNat))).length co, .int .i64 (bldX (bldO n m L (ptsAll L a c (d - c + 1).toNat (b - a + 1).toNat)))]) /\ Cells w' ao (prs (bldL L (ptsAll L a c (d - c + 1).toNat (b - a + 1).toNat) (bldO n m L (ptsAll L a c (d - c + 1).toNat (b - a + 1).toNat)))) /\ (bldL L (ptsAll L a c (d - c + 1).toNat (b - a + 1).toNat) (bldO n m L (ptsAll L a c (d - c + 1).toNat (b - a + 1).toNat))).length <= co /\ co <= 9223372036854775807) /\ Below w.heap.size w w' := by
 obtain ⟨W0, hW0⟩ : ∃ W0, w.alloc (.cells #[.int .i64 L, .int .i64 a, .int .i64 b, .int .i64 c, .int .i64 d] 43) = W0 := ⟨_, rfl⟩
 have hB0 : Below w.heap.size w W0 := by rw [<- hW0]; exact (Below.refl _ w).alloc (Nat.le_refl _) _
 have hs0 : W0.heap.size = w.heap.size + 1 := by rw [<- hW0]; simp
 have q0 : Blk W0 w.heap.size 43 #[.int .i64 L, .int .i64 a, .int .i64 b, .int .i64 c, .int .i64 d] := by rw [<- hW0]; exact Blk.new w _ _
 have ht0 := ht.below hB0 (Nat.le_refl _)
 have hcv := covering_any L a b c d [] none 0 s W0 ht0 hs (Cells.nil _ _) (by simp) (by simp) (by simp)
 rw [List.length_nil] at hcv
 have HW0 := Lib.hid hW0; have HCV := Lib.hid hcv; have HB0 := Lib.hid hB0; have HS0 := Lib.hid hs0; have Q0 := Lib.hid q0; have HT0 := Lib.hid ht0
 clear hW0 hcv ht ht0 hB0 hs0 q0
 refine (callsIn_wide (n := 8)).1 ?_
 refine callsIn_of_wp_marks Tryz.func19 rfl trivial ?_ rfl
 simp only [Tryz.ntmps19, List.size_toArray, List.length_cons, List.length_nil, Nat.reduceAdd, Nat.reduceSub, Array.replicate_succ, Array.replicate_zero, List.push_toArray, List.append_toArray, List.nil_append, List.cons_append]
 gi_wp2_with fail
 refine wpIn_wide.2 ?_
 apply wp_scope_straight
 go_wp2_with fail
 rw [HW0.out]
 refine HCV.out.mono ?_
 rintro r w1 ⟨⟨hE, hf, -, C, bo, cb, N, D, rfl, hbs, hC, -⟩ | ⟨hE, rfl⟩, hb1⟩
 rotate_left
 · exact absurd hE0 hE
 have hnm := hbs0.symm.trans hbs
 simp only [Option.some.injEq, Prod.mk.injEq] at hnm
 obtain ⟨rfl, rfl⟩ := hnm
 have hbw := HB0.out.trans (hb1.mono HB0.out.size)
 have hsz := HS0.out
 have hs1 := hb1.size
 obtain ⟨z0, z1, z2, z3, z4⟩ : w1.cell? ⟨w.heap.size, 0, none⟩ = some (.int .i64 L) /\ w1.cell? ⟨w.heap.size, 1, none⟩ = some (.int .i64 a) /\ w1.cell? ⟨w.heap.size, 2, none⟩ = some (.int .i64 b) /\ w1.cell? ⟨w.heap.size, 3, none⟩ = some (.int .i64 c) /\ w1.cell? ⟨w.heap.size, 4, none⟩ = some (.int .i64 d) := by
  have h := Q0.out.below hb1 (by omega)
  exact ⟨h.cell 0, h.cell 1, h.cell 2, h.cell 3, h.cell 4⟩
 have hlt : w.heap.size < w1.heap.size := by omega
 have HCC := Lib.hid hC; have HB1 := Lib.hid hb1; have HBW := Lib.hid hbw; have HF := Lib.hid hf
 clear hC hb1 hbw hE hE0 hf hbs
 go_wp2_with fail
 refine (points_any L a b c d _).mono ?_
 rintro r w2 ⟨rfl, rfl⟩
 go_wp2_with fail
 clear z0 z1 z2 z3 z4
 obtain ⟨W1, hW1⟩ : ∃ W1, ((w1.alloc (.cells #[.slice none 0 0] 44)).alloc (.cells #[.slice none 0 0] 152)).alloc (.cells #[.int .i64 L, .int .i64 a, .int .i64 b, .int .i64 c, .int .i64 d] 43) = W1 := ⟨_, rfl⟩
 have hBW1 : Below w1.heap.size w1 W1 := by rw [<- hW1]; exact (((Below.refl _ _).alloc (Nat.le_refl _) _).alloc (by simp) _).alloc (by simp; omega) _
 have hsW1 : W1.heap.size = w1.heap.size + 3 := by rw [<- hW1]; simp
 have y0 : Blk W1 w1.heap.size 44 #[.slice none 0 0] := by unfold Blk; rw [<- hW1, hold_old _ _ _ (by simp; omega)]; exact heap_alloc2_old w1 _ _
 have y1 : Blk W1 (w1.heap.size + 1) 152 #[.slice none 0 0] := by unfold Blk; rw [<- hW1, hold_old _ _ _ (by simp)]; exact heap_alloc2_new w1 _ _
 have y2 : W1.heap[w1.heap.size + 1 + 1]? = some (.cells #[.int .i64 L, .int .i64 a, .int .i64 b, .int .i64 c, .int .i64 d] 43 (0, 0)) := by
  have h := heap_alloc_new ((w1.alloc (.cells #[.slice none 0 0] 44)).alloc (.cells #[.slice none 0 0] 152)) (.cells #[.int .i64 L, .int .i64 a, .int .i64 b, .int .i64 c, .int .i64 d] 43)
  rw [show ((w1.alloc (.cells #[.slice none 0 0] 44)).alloc (.cells #[.slice none 0 0] 152)).heap.size = w1.heap.size + 1 + 1 by simp] at h
  rw [<- hW1]; exact h
 rw [hW1]
 have HW1 := Lib.hid hW1
 clear hW1
 have hF0 : Bls w1.heap.size L [] (.slice none 0 0) (.slice none 0 0) W1 := ⟨y0, World.ownsRow_nil _ _ _ _, y1, World.ownsRow_nil _ _ _ _⟩
 clear y0 y1
 obtain ⟨Z, hZ⟩ : ∃ Z, Z = shp 0 (smp 0 0 0) := ⟨_, rfl⟩
 have z : Tryz.zeroCells129 = Z := by rw [hZ]; exact zero101
 have hZs : Z.size = 65 := by rw [hZ, shp_size, smp_length]
 have HZ := Lib.hid hZ
 have HL4 : Hid ((ptsAll L a c (d - c + 1).toNat (b - a + 1).toNat).length <= 400) := Lib.hid (Nat.le_trans (ptsAll_len L a c (d - c + 1).toNat (b - a + 1).toNat) (fam_true HF.out).2.2.2.2.2.2.2.2)
 clear hZ
 refine (wpIn_wide (n := 8)).1 ?_
 refine wpIn_rangeFunc_ownH rfl (by omega) (gf := 141) (lb := #[.pointer (some ⟨w1.heap.size + 1 + 1, 0, none⟩)]) rfl trivial (enters_of Tryz.func141 (by kernel_rfl) rfl)
  (points_stops _ (by omega) (w1.heap.size + 1 + 1) L a b c d HF.out W1 y2) KeepB.trans (keepB_b (by omega)) (Below.refl _ _) (fun _ => rfl)
  (fun pre W => (∃ v8 v9, Bls w1.heap.size L pre v8 v9 W) /\ Below w1.heap.size w1 W /\ W1.heap.size <= W.heap.size)
  (fun _ _ _ => False)
  (OwnFrom.and (Own.from (fun s A B row hs hg hr => by obtain ⟨v8, v9, h⟩ := hs; exact ⟨v8, v9, h.keptF hg hr⟩) _) (OwnFrom.and (ownFrom_below (Nat.le_refl _) (by omega)) (fun _ _ _ _ hs hg _ => Nat.le_trans hs hg.size)))
  (fun _ _ _ _ _ hs _ _ => hs)
  ⟨⟨_, _, hF0⟩, hBW1, Nat.le_refl _⟩
  (fun x a' W => ∃ Bx, w1.heap.size + 3 <= Bx /\ Apt w1.heap.size Bx W /\ W.heap[Bx]? = some (.cells #[.int .i64 x.1.1, .int .i64 x.1.2] 23 (0, 0)) /\ W.heap[Bx + 1]? = some (.cells (shp L (wav L x.1.1 x.1.2)) 129 (0, 0)) /\ a' = { tmps := #[.agg #[.int .i64 L, .int .i64 a, .int .i64 b, .int .i64 c, .int .i64 d], .string s, .pointer (some ⟨w.heap.size, 0, none⟩), undef, .slice none 0 0, .int .i64 0, .pointer (some ⟨C, 0, none⟩), .int .i64 0, .pointer (some ⟨w1.heap.size, 0, none⟩), .pointer (some ⟨w1.heap.size + 1, 0, none⟩), .pointer (some ⟨Bx, 0, none⟩), .pointer (some ⟨Bx + 1, 0, none⟩), undef, undef, undef, undef, undef, undef, undef, undef, undef, undef, undef, undef, undef, undef, undef, undef, undef, undef, .tuple #[.pointer (some ⟨C, 0, none⟩), .int .i64 0], .agg #[.int .i64 L, .int .i64 a, .int .i64 b, .int .i64 c, .int .i64 d], .string s, .tuple #[.pointer (some ⟨C, 0, none⟩), .int .i64 0], .pointer (some ⟨C, 0, none⟩), .int .i64 0, .int .i64 0, .bool false, undef, .agg #[.int .i64 L, .int .i64 a, .int .i64 b, .int .i64 c, .int .i64 d], .func (.func 141) #[] #[.pointer (some ⟨w1.heap.size + 1 + 1, 0, none⟩)], .agg #[.int .i64 x.1.1, .int .i64 x.1.2], .agg (shp L (wav L x.1.1 x.1.2)), undef, undef, undef, undef, undef, undef, undef, undef, undef, undef, undef, undef, undef, undef, undef, undef, undef, undef, undef, undef, undef, undef, undef, undef, undef, undef, undef, undef, undef, undef, undef, undef, undef, undef, undef, undef, undef, undef, undef, undef, undef, undef, undef, undef, undef, undef, undef, undef, undef, undef, undef, undef, undef, undef, undef, undef, undef, undef, undef, undef, undef, undef, undef, undef, undef, undef, undef, undef, undef, undef, undef, undef, undef, undef, undef, undef, undef, undef, undef, undef, undef, undef, undef, undef, undef, undef, undef, undef, undef, undef, undef, undef, undef, undef, undef, undef, undef, undef, undef, undef, undef, undef, undef, undef, undef, undef, undef, undef, undef], defers := [] })
  (fun x a' _ X Y row hs hg hr => by
   obtain ⟨Bx, h1, h0, h2, h3, h4⟩ := hs
   refine ⟨Bx, h1, h0.keptF hg (fun r e => (hr r e).2), (hg.block Bx (Array.getElem?_eq_some_iff.1 h2).1 (fun e => ?_)).trans h2, (hg.block (Bx + 1) (Array.getElem?_eq_some_iff.1 h3).1 (fun e => ?_)).trans h3, h4⟩
   · obtain ⟨_, o, ho, hc⟩ := hr Bx e.symm
     rw [h2] at ho; cases ho; cases hc
   · obtain ⟨_, o, ho, hc⟩ := hr (Bx + 1) e.symm
     rw [h3] at ho; cases ho; cases hc)
  ?assign ?body ?done ?stop
 case assign =>
  --<<
  rintro l pre x W K ⟨⟨v8, v9, hF1⟩, hB1, hs⟩ hK
  have hst := store_shape (shp L (wav L x.1.1 x.1.2)) Z (by rw [shp_size, wav_length]) hZs shp_mem
  have hVs : (shp L (wav L x.1.1 x.1.2)).size = 65 := by rw [shp_size, wav_length]
  unfold ptV
  generalize shp L (wav L x.1.1 x.1.2) = V at *
  have hne : ¬ V = #[] := by intro h; rw [h] at hVs; simp at hVs
  have hst2 := hst (W.alloc (.cells #[.int .i64 x.1.1, .int .i64 x.1.2] 23))
  rw [show (W.alloc (.cells #[.int .i64 x.1.1, .int .i64 x.1.2] 23)).heap.size = W.heap.size + 1 by simp] at hst2
  clear hst
  gi_wp2_with (rw [Oper.semAt_eq _ _ _ (fun c h => by cases h)]; go_simp; try go_bits)
  have hal := ((Below.refl W.heap.size W).alloc (Nat.le_refl _) (.cells #[.int .i64 x.1.1, .int .i64 x.1.2] 23)).alloc (by simp) (.cells V 129)
  have hn1 := heap_alloc2_old W (.cells #[.int .i64 x.1.1, .int .i64 x.1.2] 23) (.cells V 129)
  have hn2 := heap_alloc2_new W (.cells #[.int .i64 x.1.1, .int .i64 x.1.2] 23) (.cells V 129)
  exact hK _ _ (((KeepsOthers.alloc _ _).trans (KeepsOthers.alloc _ _)).from _) (KeepB.of hal (by omega)) ⟨⟨v8, v9, hF1.below hal⟩, hB1.trans (hal.mono hB1.size), by simp; omega⟩ ⟨W.heap.size, by omega, (hF1.apt).below hal, hn1, hn2, rfl⟩
  -->>
 case body =>
  --<<
  rintro l pre x a' W hl ⟨r, hr⟩ ⟨⟨v8, v9, hF1⟩, hB, hs⟩ ⟨Bx, hBx, hap, bC, bX, rfl⟩ hlt
  have hVs : (shp L (wav L x.1.1 x.1.2)).size = 65 := by rw [shp_size, wav_length]
  have hinf : (Tryz.prog.info? 129).map (·.size) = some (shp L (wav L x.1.1 x.1.2)).size := by rw [hVs]; kernel_rfl
  have hone : ∀ u ∈ (shp L (wav L x.1.1 x.1.2)).toList, u.oneCell' = true := shp_mem
  have hp2 : prs (pairsOf (pre ++ [x])) = prs (pairsOf pre) ++ [.int .i64 x.1.1, .int .i64 x.1.2] := prs_pairs_snoc _ _
  have hp3 : shpL L (wvP L (pre ++ [x])) = shpL L (wvP L pre) ++ (shp L (wav L x.1.1 x.1.2)).toList := by rw [wvP, List.map_append, List.map_cons, List.map_nil, shpL_snoc]; rfl
  have hl2 : (pre ++ [x]).length = pre.length + 1 := by simp
  have hap := hap.of hF1
  have hlen : pre.length < 400 := by have h1 := ptsAll_len L a c (d - c + 1).toNat (b - a + 1).toNat; have h2 := (fam_true HF.out).2.2.2.2.2.2.2.2; omega
  obtain ⟨i8, hi8, hz8, hs8, hb8⟩ := info_parts Tryz.infoChirp
  obtain ⟨i9, hi9, hz9, hs9, hb9⟩ := info_parts Tryz.infoShape
  have hz9 : i9.zero = some (.agg Z) := by rw [hz9, HZ.out]
  generalize shp L (wav L x.1.1 x.1.2) = V at *
  have hr0 : Rd w1.heap.size Bx x.1.1 x.1.2 V W W.drew v8 v8 pre.length (prs (pairsOf pre)) v9 v9 pre.length (shpL L (wvP L pre)) := ⟨KeepsOthers.drew _, (Below.refl _ _).drew, by have := hs; show _ <= W.heap.size; omega, rfl, hF1.b8, hF1.b9, hF1.r8, hF1.r9, bC, bX⟩
  have hsF : W.drew.cell? ⟨w1.heap.size, 0, none⟩ = some v8 /\ W.drew.cell? ⟨w1.heap.size + 1, 0, none⟩ = some v9 /\ W.drew.cell? ⟨Bx, 0, none⟩ = some (.int .i64 x.1.1) /\ W.drew.cell? ⟨Bx, 1, none⟩ = some (.int .i64 x.1.2) /\ W.drew.heap[Bx + 1]? = some (.cells V 129 (0, 0)) := ⟨hr0.b8.c0, hr0.b9.c0, hr0.c.cell 0, hr0.c.cell 1, hr0.x⟩
  clear bC bX hF1 hlt hr hl
  gi_wp2_with fail
  refine wpIn_region_roundJ (T := fun j w' => (j ≠ 4 -> j ≠ 5 -> j < 8 -> w'.cell? ⟨w1.heap.size, 0, none⟩ = some v8) /\ (j < 9 -> (w'.cell? ⟨w1.heap.size + 1, 0, none⟩ = some v9 /\ w'.cell? ⟨Bx, 0, none⟩ = some (.int .i64 x.1.1) /\ w'.cell? ⟨Bx, 1, none⟩ = some (.int .i64 x.1.2) /\ w'.heap[Bx + 1]? = some (.cells V 129 (0, 0))))) (by kernel_rfl) (by kernel_rfl) (fun ⟨_, _, h⟩ => h) ?_
  refine tjV 4 v9 (fun w' => (w'.cell? ⟨w1.heap.size + 1, 0, none⟩ = some v9 /\ w'.cell? ⟨Bx, 0, none⟩ = some (.int .i64 x.1.1) /\ w'.cell? ⟨Bx, 1, none⟩ = some (.int .i64 x.1.2) /\ w'.heap[Bx + 1]? = some (.cells V 129 (0, 0)))) (fun j => decide (j < 9)) hsF.2 (fun _ h => ⟨fun h4 h5 _ => absurd rfl h4, fun _ => h⟩) (fun j hj _ h => h.2 (of_decide_eq_true hj)) ?_
  refine tjV 5 (.agg V) (fun w' => (w'.cell? ⟨w1.heap.size + 1, 0, none⟩ = some v9 /\ w'.cell? ⟨Bx, 0, none⟩ = some (.int .i64 x.1.1) /\ w'.cell? ⟨Bx, 1, none⟩ = some (.int .i64 x.1.2) /\ w'.heap[Bx + 1]? = some (.cells V 129 (0, 0)))) (fun j => decide (j < 9)) hsF.2 (fun _ h => ⟨fun h4 h5 _ => absurd rfl h5, fun _ => h⟩) (fun j hj _ h => h.2 (of_decide_eq_true hj)) ?_ (hy := by intro w9 h; exact exec_load_row 129 _ rfl (Bx + 1) rfl 129 V (0, 0) _ h.2.2.2 Tryz.underlying129 (by rfl) hinf)
  refine tjV 0 v8 (fun w' => (w'.cell? ⟨w1.heap.size, 0, none⟩ = some v8 /\ w'.cell? ⟨w1.heap.size + 1, 0, none⟩ = some v9 /\ w'.cell? ⟨Bx, 0, none⟩ = some (.int .i64 x.1.1) /\ w'.cell? ⟨Bx, 1, none⟩ = some (.int .i64 x.1.2) /\ w'.heap[Bx + 1]? = some (.cells V 129 (0, 0)))) (fun j => decide (j ≠ 4 /\ j ≠ 5 /\ j < 8)) hsF (fun _ h => ⟨fun _ _ _ => h.1, fun _ => h.2⟩) (fun j hj _ h => have h9 := of_decide_eq_true hj; ⟨h.1 h9.1 h9.2.1 h9.2.2, h.2 (by omega)⟩) ?_
  refine tjV 1 (.agg #[.int .i64 x.1.1, .int .i64 x.1.2]) (fun w' => (w'.cell? ⟨w1.heap.size, 0, none⟩ = some v8 /\ w'.cell? ⟨w1.heap.size + 1, 0, none⟩ = some v9 /\ w'.cell? ⟨Bx, 0, none⟩ = some (.int .i64 x.1.1) /\ w'.cell? ⟨Bx, 1, none⟩ = some (.int .i64 x.1.2) /\ w'.heap[Bx + 1]? = some (.cells V 129 (0, 0)))) (fun j => decide (j ≠ 4 /\ j ≠ 5 /\ j < 8)) hsF (fun _ h => ⟨fun _ _ _ => h.1, fun _ => h.2⟩) (fun j hj _ h => have h9 := of_decide_eq_true hj; ⟨h.1 h9.1 h9.2.1 h9.2.2, h.2 (by omega)⟩) ?_
  --BODY9<<
  obtain ⟨wd, hwd⟩ : ∃ W9, W.drew = W9 := ⟨_, rfl⟩
  rw [hwd]
  rw [hwd] at hr0
  clear hsF
  refine tjB 2 6 (fun K hK => ?_) (fun K hK => ?_)
  go_simp
  have hr1 := hr0.alloc (.cells #[.int .i64 x.1.1, .int .i64 x.1.2] 23)
  have hn1 := Blk.new wd 23 #[.int .i64 x.1.1, .int .i64 x.1.2]
  refine hK.out _ _ ⟨fun _ _ _ => hr1.b8.c0, fun _ => ⟨hr1.b9.c0, hr1.c.cell 0, hr1.c.cell 1, hr1.x⟩⟩ ?_
  clear hK K
  try simp only [Act.put, List.setIfInBounds_toArray, List.set_cons_zero, List.set_cons_succ]
  generalize hX1 : wd.alloc (.cells #[.int .i64 x.1.1, .int .i64 x.1.2] 23) = X1 at *
  generalize hk1 : wd.heap.size = k1 at *
  refine tjB 3 6 (fun K hK => ?_) (fun K hK => ?_)
  have hzz2 := hr1.sz
  refine step_append_lies _ (by rfl) _ _ _ (by rfl) (w1.heap.size + 3) 23 i8 _ 2 16 Tryz.underlying44 hi8 hz8 hs8 hb8 rfl (by omega) v8 pre.length (prs (pairsOf pre)) (by rfl) hr1.r8 ⟨k1, 0, none⟩ 1 1 [.int .i64 x.1.1, .int .i64 x.1.2] (by rfl) (by rfl) (World.news_of_block (cs := #[.int .i64 x.1.1, .int .i64 x.1.2]) (t := 23) (fr := (0, 0)) hn1) (by simp [Value.oneCell']) (by omega) (by unfold maxLen; omega) (by omega) (by omega) X1.heap.size rfl ?_
  intro g2 c2 X2 ho2 hg2 hat2 hlt2
  have hr2 := hr1.grow8 ho2 hg2 hap.1
  refine hK.out _ _ ⟨fun _ _ _ => hr2.b8.c0, fun _ => ⟨hr2.b9.c0, hr2.c.cell 0, hr2.c.cell 1, hr2.x⟩⟩ ?_
  clear hK K
  try simp only [Act.put, List.setIfInBounds_toArray, List.set_cons_zero, List.set_cons_succ]
  refine tjC 6 (fun K hK => ?_)
  refine step_build_one (by rfl) 152 129 _ (by rfl) i9 V Z (by rfl) Tryz.underlying152 hi9 hz9 (hs9.trans hVs.symm) (hZs.trans hVs.symm) (by omega) (by omega) ?_
  have hr3 := hr2.alloc (.cells V 129)
  have hn3 := Blk.new X2 129 V
  refine hK.out _ _ ⟨fun _ _ _ => hr3.b8.c0, fun _ => ⟨hr3.b9.c0, hr3.c.cell 0, hr3.c.cell 1, hr3.x⟩⟩ ?_
  clear hK K
  try simp only [Act.put, List.setIfInBounds_toArray, List.set_cons_zero, List.set_cons_succ]
  generalize hX3 : X2.alloc (.cells V 129) = X3 at *
  generalize hk3 : X2.heap.size = k3 at *
  refine tjC 7 (fun K hK => ?_)
  have hzz4 := hr3.sz
  refine step_append_lies _ (by rfl) _ _ _ (by rfl) (w1.heap.size + 3) 129 i9 _ 65 520 Tryz.underlying152 hi9 hz9 hs9 hb9 (by rw [Value.cells]; exact hZs) (by omega) v9 pre.length (shpL L (wvP L pre)) (by rfl) hr3.r9 ⟨k3, 0, none⟩ 1 1 V.toList (by rfl) (by rw [Array.length_toList, hVs]) (World.news_of_block (cs := V) (t := 129) (fr := (0, 0)) hn3) hone (by omega) (by unfold maxLen; omega) (by omega) (by omega) X3.heap.size rfl ?_
  intro g4 c4 X4 ho4 hg4 hat4 hlt4
  have hr4 := hr3.grow9 ho4 hg4 hap.2
  refine hK.out _ _ ⟨fun _ _ _ => hr4.b8.c0, fun _ => ⟨hr4.b9.c0, hr4.c.cell 0, hr4.c.cell 1, hr4.x⟩⟩ ?_
  clear hK K
  try simp only [Act.put, List.setIfInBounds_toArray, List.set_cons_zero, List.set_cons_succ]
  refine tjC 8 (fun K hK => ?_)
  have ha5 := hr4.b8.c0
  have hf5 := hr4.b8.free 0
  go_simp
  have hr5 := hr4.store8 hBx (.slice (some ⟨g2, 0, none⟩) (pre.length + 1) c2)
  refine hK.out _ _ ⟨fun _ _ h => absurd h (by decide), fun _ => ⟨hr5.b9.c0, hr5.c.cell 0, hr5.c.cell 1, hr5.x⟩⟩ ?_
  clear hK K
  try simp only [Act.put, List.setIfInBounds_toArray, List.set_cons_zero, List.set_cons_succ]
  refine tjC 9 (fun K hK => ?_)
  have ha6 := hr5.b9.c0
  have hf6 := hr5.b9.free 0
  go_simp
  have hr6 := hr5.store9 hBx (.slice (some ⟨g4, 0, none⟩) (pre.length + 1) c4)
  refine hK.out _ _ ⟨fun _ _ h => absurd h (by decide), fun h => absurd h (by decide)⟩ ?_
  clear hK K
  try simp only [Act.put, List.setIfInBounds_toArray, List.set_cons_zero, List.set_cons_succ]
  refine wpAnyJ_done (by kernel_rfl) ?_ _
  exact ⟨hr6.k.from _, ⟨hr6.fam, hr6.be.size⟩, ⟨_, _, ⟨hr6.b8, by rw [hp2, hl2]; exact hr6.r8, hr6.b9, by rw [hp3, hl2]; exact hr6.r9⟩⟩, hB.trans hr6.be, Nat.le_trans hs hr6.be.size⟩
  refine step_build_one (by rfl) 152 129 _ (by rfl) i9 V Z (by rfl) Tryz.underlying152 hi9 hz9 (hs9.trans hVs.symm) (hZs.trans hVs.symm) (by omega) (by omega) ?_
  have hr7 := hr1.alloc (.cells V 129)
  have hn7 := Blk.new X1 129 V
  refine hK.out _ _ ⟨fun _ _ _ => hr7.b8.c0, fun _ => ⟨hr7.b9.c0, hr7.c.cell 0, hr7.c.cell 1, hr7.x⟩⟩ ?_
  clear hK K
  try simp only [Act.put, List.setIfInBounds_toArray, List.set_cons_zero, List.set_cons_succ]
  have hm7 := hn1.alloc (.cells V 129)
  generalize hX7 : X1.alloc (.cells V 129) = X7 at *
  generalize hk7 : X1.heap.size = k7 at *
  refine tjC 3 (fun K hK => ?_)
  have hzz8 := hr7.sz
  refine step_append_lies _ (by rfl) _ _ _ (by rfl) (w1.heap.size + 3) 23 i8 _ 2 16 Tryz.underlying44 hi8 hz8 hs8 hb8 rfl (by omega) v8 pre.length (prs (pairsOf pre)) (by rfl) hr7.r8 ⟨k1, 0, none⟩ 1 1 [.int .i64 x.1.1, .int .i64 x.1.2] (by rfl) (by rfl) (World.news_of_block (cs := #[.int .i64 x.1.1, .int .i64 x.1.2]) (t := 23) (fr := (0, 0)) hm7) (by simp [Value.oneCell']) (by omega) (by unfold maxLen; omega) (by omega) (by omega) X7.heap.size rfl ?_
  intro g8 c8 X8 ho8 hg8 hat8 hlt8
  have hr8 := hr7.grow8 ho8 hg8 hap.1
  have hm8 := hn7.kept hg8 (own_ne_blk hr7.r8 hn7 (by decide))
  refine hK.out _ _ ⟨fun _ _ _ => hr8.b8.c0, fun _ => ⟨hr8.b9.c0, hr8.c.cell 0, hr8.c.cell 1, hr8.x⟩⟩ ?_
  clear hK K
  try simp only [Act.put, List.setIfInBounds_toArray, List.set_cons_zero, List.set_cons_succ]
  refine tjC 7 (fun K hK => ?_)
  have hzz9 := hr8.sz
  refine step_append_lies _ (by rfl) _ _ _ (by rfl) (w1.heap.size + 3) 129 i9 _ 65 520 Tryz.underlying152 hi9 hz9 hs9 hb9 (by rw [Value.cells]; exact hZs) (by omega) v9 pre.length (shpL L (wvP L pre)) (by rfl) hr8.r9 ⟨k7, 0, none⟩ 1 1 V.toList (by rfl) (by rw [Array.length_toList, hVs]) (World.news_of_block (cs := V) (t := 129) (fr := (0, 0)) hm8) hone (by omega) (by unfold maxLen; omega) (by omega) (by omega) X8.heap.size rfl ?_
  intro g9 c9 X9 ho9 hg9 hat9 hlt9
  have hr9 := hr8.grow9 ho9 hg9 hap.2
  refine hK.out _ _ ⟨fun _ _ _ => hr9.b8.c0, fun _ => ⟨hr9.b9.c0, hr9.c.cell 0, hr9.c.cell 1, hr9.x⟩⟩ ?_
  clear hK K
  try simp only [Act.put, List.setIfInBounds_toArray, List.set_cons_zero, List.set_cons_succ]
  refine tjC 8 (fun K hK => ?_)
  have ha10 := hr9.b8.c0
  have hf10 := hr9.b8.free 0
  go_simp
  have hr10 := hr9.store8 hBx (.slice (some ⟨g8, 0, none⟩) (pre.length + 1) c8)
  refine hK.out _ _ ⟨fun _ _ h => absurd h (by decide), fun _ => ⟨hr10.b9.c0, hr10.c.cell 0, hr10.c.cell 1, hr10.x⟩⟩ ?_
  clear hK K
  try simp only [Act.put, List.setIfInBounds_toArray, List.set_cons_zero, List.set_cons_succ]
  refine tjC 9 (fun K hK => ?_)
  have ha11 := hr10.b9.c0
  have hf11 := hr10.b9.free 0
  go_simp
  have hr11 := hr10.store9 hBx (.slice (some ⟨g9, 0, none⟩) (pre.length + 1) c9)
  refine hK.out _ _ ⟨fun _ _ h => absurd h (by decide), fun h => absurd h (by decide)⟩ ?_
  clear hK K
  try simp only [Act.put, List.setIfInBounds_toArray, List.set_cons_zero, List.set_cons_succ]
  refine wpAnyJ_done (by kernel_rfl) ?_ _
  exact ⟨hr11.k.from _, ⟨hr11.fam, hr11.be.size⟩, ⟨_, _, ⟨hr11.b8, by rw [hp2, hl2]; exact hr11.r8, hr11.b9, by rw [hp3, hl2]; exact hr11.r9⟩⟩, hB.trans hr11.be, Nat.le_trans hs hr11.be.size⟩
  refine step_build_one (by rfl) 152 129 _ (by rfl) i9 V Z (by rfl) Tryz.underlying152 hi9 hz9 (hs9.trans hVs.symm) (hZs.trans hVs.symm) (by omega) (by omega) ?_
  have hr12 := hr0.alloc (.cells V 129)
  have hn12 := Blk.new wd 129 V
  refine hK.out _ _ ⟨fun _ _ _ => hr12.b8.c0, fun _ => ⟨hr12.b9.c0, hr12.c.cell 0, hr12.c.cell 1, hr12.x⟩⟩ ?_
  clear hK K
  try simp only [Act.put, List.setIfInBounds_toArray, List.set_cons_zero, List.set_cons_succ]
  generalize hX12 : wd.alloc (.cells V 129) = X12 at *
  generalize hk12 : wd.heap.size = k12 at *
  refine tjC 2 (fun K hK => ?_)
  go_simp
  have hr13 := hr12.alloc (.cells #[.int .i64 x.1.1, .int .i64 x.1.2] 23)
  have hn13 := Blk.new X12 23 #[.int .i64 x.1.1, .int .i64 x.1.2]
  refine hK.out _ _ ⟨fun _ _ _ => hr13.b8.c0, fun _ => ⟨hr13.b9.c0, hr13.c.cell 0, hr13.c.cell 1, hr13.x⟩⟩ ?_
  clear hK K
  try simp only [Act.put, List.setIfInBounds_toArray, List.set_cons_zero, List.set_cons_succ]
  generalize hX13 : X12.alloc (.cells #[.int .i64 x.1.1, .int .i64 x.1.2] 23) = X13 at *
  generalize hk13 : X12.heap.size = k13 at *
  have hm13 := hn12.alloc (.cells #[.int .i64 x.1.1, .int .i64 x.1.2] 23)
  rw [hX13] at hm13
  refine tjC 3 (fun K hK => ?_)
  have hzz14 := hr13.sz
  refine step_append_lies _ (by rfl) _ _ _ (by rfl) (w1.heap.size + 3) 23 i8 _ 2 16 Tryz.underlying44 hi8 hz8 hs8 hb8 rfl (by omega) v8 pre.length (prs (pairsOf pre)) (by rfl) hr13.r8 ⟨k13, 0, none⟩ 1 1 [.int .i64 x.1.1, .int .i64 x.1.2] (by rfl) (by rfl) (World.news_of_block (cs := #[.int .i64 x.1.1, .int .i64 x.1.2]) (t := 23) (fr := (0, 0)) hn13) (by simp [Value.oneCell']) (by omega) (by unfold maxLen; omega) (by omega) (by omega) X13.heap.size rfl ?_
  intro g14 c14 X14 ho14 hg14 hat14 hlt14
  have hr14 := hr13.grow8 ho14 hg14 hap.1
  have hm14 := hm13.kept hg14 (own_ne_blk hr13.r8 hm13 (by decide))
  refine hK.out _ _ ⟨fun _ _ _ => hr14.b8.c0, fun _ => ⟨hr14.b9.c0, hr14.c.cell 0, hr14.c.cell 1, hr14.x⟩⟩ ?_
  clear hK K
  try simp only [Act.put, List.setIfInBounds_toArray, List.set_cons_zero, List.set_cons_succ]
  refine tjC 7 (fun K hK => ?_)
  have hzz15 := hr14.sz
  refine step_append_lies _ (by rfl) _ _ _ (by rfl) (w1.heap.size + 3) 129 i9 _ 65 520 Tryz.underlying152 hi9 hz9 hs9 hb9 (by rw [Value.cells]; exact hZs) (by omega) v9 pre.length (shpL L (wvP L pre)) (by rfl) hr14.r9 ⟨k12, 0, none⟩ 1 1 V.toList (by rfl) (by rw [Array.length_toList, hVs]) (World.news_of_block (cs := V) (t := 129) (fr := (0, 0)) hm14) hone (by omega) (by unfold maxLen; omega) (by omega) (by omega) X14.heap.size rfl ?_
  intro g15 c15 X15 ho15 hg15 hat15 hlt15
  have hr15 := hr14.grow9 ho15 hg15 hap.2
  refine hK.out _ _ ⟨fun _ _ _ => hr15.b8.c0, fun _ => ⟨hr15.b9.c0, hr15.c.cell 0, hr15.c.cell 1, hr15.x⟩⟩ ?_
  clear hK K
  try simp only [Act.put, List.setIfInBounds_toArray, List.set_cons_zero, List.set_cons_succ]
  refine tjC 8 (fun K hK => ?_)
  have ha16 := hr15.b8.c0
  have hf16 := hr15.b8.free 0
  go_simp
  have hr16 := hr15.store8 hBx (.slice (some ⟨g14, 0, none⟩) (pre.length + 1) c14)
  refine hK.out _ _ ⟨fun _ _ h => absurd h (by decide), fun _ => ⟨hr16.b9.c0, hr16.c.cell 0, hr16.c.cell 1, hr16.x⟩⟩ ?_
  clear hK K
  try simp only [Act.put, List.setIfInBounds_toArray, List.set_cons_zero, List.set_cons_succ]
  refine tjC 9 (fun K hK => ?_)
  have ha17 := hr16.b9.c0
  have hf17 := hr16.b9.free 0
  go_simp
  have hr17 := hr16.store9 hBx (.slice (some ⟨g15, 0, none⟩) (pre.length + 1) c15)
  refine hK.out _ _ ⟨fun _ _ h => absurd h (by decide), fun h => absurd h (by decide)⟩ ?_
  clear hK K
  try simp only [Act.put, List.setIfInBounds_toArray, List.set_cons_zero, List.set_cons_succ]
  refine wpAnyJ_done (by kernel_rfl) ?_ _
  exact ⟨hr17.k.from _, ⟨hr17.fam, hr17.be.size⟩, ⟨_, _, ⟨hr17.b8, by rw [hp2, hl2]; exact hr17.r8, hr17.b9, by rw [hp3, hl2]; exact hr17.r9⟩⟩, hB.trans hr17.be, Nat.le_trans hs hr17.be.size⟩
  --BODY9>>
  -->>
 case done =>
  rintro Dd ys' W hD rfl ⟨⟨v8, v9, hF⟩, hB, hs⟩ hK
  generalize hlp : ptsAll L a c (d - c + 1).toNat (b - a + 1).toNat = l at *
  have HLP := Lib.hid hlp
  clear hlp
  obtain ⟨a8, e8, hv8, -⟩ := own_cells hF.r8
  obtain ⟨a9, e9, hv9, -⟩ := own_cells hF.r9
  subst hv8; subst hv9
  have c8 := hF.b8.c0
  have c9 := hF.b9.c0
  have hl4 : l.length <= 400 := HL4.out
  have hmk := fun W => run_make_slices (n := l.length) (z := (l.length : Int)) rfl (by omega) W
  obtain ⟨Z0, hZ0⟩ : ∃ Z0, (List.replicate l.length (Value.slice none 0 0)).toArray = Z0 := ⟨_, rfl⟩
  rw [hZ0] at hmk
  have hal := (Below.refl W.heap.size W).alloc (Nat.le_refl _) (.cells Z0 24)
  have d9 := cell_keep c9 hal (Nat.le_refl _)
  have hZb := Blk.new W 24 Z0
  have hc9 := (own_cells hF.r9)
  obtain ⟨a9', e9', h9', hcc9⟩ := hc9
  obtain ⟨rfl, -, rfl⟩ := Value.slice.inj h9'
  have hc8 := (own_cells hF.r8)
  obtain ⟨a8', e8', h8', hcc8⟩ := hc8
  obtain ⟨rfl, -, rfl⟩ := Value.slice.inj h8'
  have hCW := (hB.block C (Array.getElem?_eq_some_iff.1 HCC.out).1).trans HCC.out
  have hfm := fam_true HF.out
  obtain ⟨-, -, hn6, hm6, hnm, -⟩ := barS_some hbs0
  have hkk : ∀ ws, Below W.heap.size W ws -> ws.cell? ⟨w1.heap.size, 0, none⟩ = some (.slice a8 l.length e8) /\ Cells ws a8 (prs (pairsOf l)) /\ ws.cell? ⟨w1.heap.size + 1, 0, none⟩ = some (.slice a9 l.length e9) /\ Cells ws a9 (shpL L (wvP L l)) /\ ws.cell? ⟨C, 6, none⟩ = some (.int .i64 n) /\ ws.cell? ⟨C, 7, none⟩ = some (.int .i64 m) := fun ws h =>
   ⟨cell_keep c8 h (Nat.le_refl _), hcc8.below h (Nat.le_refl _), cell_keep c9 h (Nat.le_refl _), hcc9.below h (Nat.le_refl _), cell_keep ((cell_of_row W _ 6 _ _ _ hCW).trans rfl) h (Nat.le_refl _), cell_keep ((cell_of_row W _ 7 _ _ _ hCW).trans rfl) h (Nat.le_refl _)⟩
  have hWW : Below w.heap.size w W := HBW.out.trans (hB.mono (by have := HBW.out.size; omega))
  have hbB : w1.heap.size + 1 < W.heap.size := by omega
  have HGG : Hid (∀ b, b < l.length -> ∃ row, (svM n m L l l)[b]? = some row /\ row.length = l.length /\ rowAt (svM n m L l l) b = row) := Lib.hid fun b h => svM_row h
  have HSF : Hid (∀ mm : List Bool, mm.length = l.length -> ((bestTo (svM n m L l l) mm l.length).2 = 0 ↔ mm.count true = 0)) := Lib.hid fun mm h => by
   rw [<- h]
   exact most_zero fun a ha => svM_self (by omega) (by omega)
  have HRS : Hid (bldO n m L l = grd (svM n m L l l) l.length 65 (List.replicate l.length true) []) := Lib.hid (by unfold bldO; rw [List.map_const'])
  have HKK := Lib.hid hkk; have HZB := Lib.hid hZb; have HWW := Lib.hid hWW; have HDD := Lib.hid hK; have HAL := Lib.hid hal
  have HL1 := Lib.hid (show 1 <= L by omega); have HL64 := Lib.hid (show L <= 64 by omega)
  clear hkk hZb hWW hK hal hcc9 hcc8 hCW hfm hF c8
  go_wp2_with fail
  clear c9
  have hw4 : W.heap.size < (W.alloc (.cells Z0 24)).heap.size := by simp
  generalize W.alloc (.cells Z0 24) = W4 at *
  clear d9 hmk
  refine build_loop1 n m L l (svM n m L l l) W.heap.size (w1.heap.size + 1) C a9 e9 W4 _ _ _ _ _ _ _ _ _ _ _ _ _ _ _ _ _ _ _ _ _ _ _ _ _ _ _ _ _ _ _ _ _ _ _ _ _ _ _ _ _ _ _ _ _ _ _ _ _ _ _ _ _ _ _ _ _ _ _ _ _ _ _ _ _ _ _ _ _ _ _ _ _ _ _ _ _ _ _ _ _ _ _ _ _ _ _ _ _ _ _ _ _ _ _ _ _ _ _ _ _ _ _ _ _ _ _ _ _ _ _ _ _ _ _ _ _ _ _ _ _ _ _ _ _ _ _ _ _ _ _ _ _ _ _ _ _ _ _ _ _ _ _ _ _ _ _ _ rfl HL1.out HL64.out (by omega) (by omega) hl4 hw4 (Lib.hid fun ws h => (HKK.out ws (HAL.out.trans h)).2.2) (by rw [hZ0]; exact HZB) ?_
  intro a' w5 hx
  unfold Loop1X at hx
  obtain ⟨⟨vs, hb5, hv5, hr5⟩, hbe5, v13, v14, v15, v16, v17, v18, v56, v57, v58, v59, v60, v61, v62, v63, v64, v65, v66, v67, v68, v69, v70, v71, v72, v73, v74, v75, v76, v77, v78, v79, v80, v81, v82, v83, v84, v85, v86, v87, v88, v89, v90, rfl⟩ := hx
  have hdd5 := (hbe5.block Dd (by have := (Array.getElem?_eq_some_iff.1 HDD.out).1; omega)).trans ((HAL.out.block Dd (Array.getElem?_eq_some_iff.1 HDD.out).1).trans HDD.out)
  have hb05 := HAL.out.trans hbe5
  have hmm := @run_makeMap Tryz.prog
  have hal6 := (Below.refl w5.heap.size w5).alloc (Nat.le_refl _) (.map #[] 0)
  have z9 := ((HKK.out _ (hb05.trans (hal6.mono hb05.size))).2.2.1)
  have hk6 : ∀ ws, Below w5.heap.size w5 ws -> ws.cell? ⟨w1.heap.size, 0, none⟩ = some (.slice a8 l.length e8) /\ Cells ws a8 (prs (pairsOf l)) /\ ws.cell? ⟨w1.heap.size + 1, 0, none⟩ = some (.slice a9 l.length e9) /\ Blk ws W.heap.size 24 vs.toArray /\ RowsOf ws W.heap.size 3 vs (ixC (svM n m L l l) l.length) := fun ws h => by
   obtain ⟨h1, h2, h3, -⟩ := HKK.out ws (hb05.trans (h.mono hb05.size))
   exact ⟨h1, h2, h3, hb5.below h hb5.lt, hr5.below h (Nat.le_refl _)⟩
  have HDD5 := Lib.hid hdd5; have HB05 := Lib.hid hb05; have HAL6 := Lib.hid hal6; have HK6 := Lib.hid hk6; have HV5 := Lib.hid hv5
  have hM6 := World.ownsMap_made w5 Tryz.prog 3 (plainElem (H := Unit) Tryz.prog 4)
  have HM6 := Lib.hid hM6
  clear hdd5 hb05 hal6 hk6 hv5 hb5 hr5 hbe5 hM6
  dsimp only
  go_wp2_with fail
  have hsz6 : (w5.alloc (.map #[] 0)).heap.size = w5.heap.size + 1 := by simp
  generalize w5.alloc (.map #[] 0) = W6 at *
  clear z9 hmm
  refine build_loop3 l.length w5.heap.size W6 _ _ _ _ _ _ _ _ _ _ _ _ _ _ _ _ _ _ _ _ _ _ _ _ _ _ _ _ _ _ _ _ _ _ _ _ _ _ _ _ _ _ _ _ _ _ _ _ _ _ _ _ _ _ _ _ _ _ _ _ _ _ _ _ _ _ _ _ _ _ _ _ _ _ _ _ _ _ _ _ _ _ _ _ _ _ _ _ _ _ _ _ _ _ _ _ _ _ _ _ _ _ _ _ _ _ _ _ _ _ _ _ _ _ _ _ _ _ _ _ _ _ _ _ _ _ _ _ _ _ _ _ _ _ _ _ _ _ _ _ _ _ _ _ _ _ _ _ _ _ _  hl4 HM6 ?_
  intro a' w7 hx
  unfold Loop3X at hx
  obtain ⟨hD7, hbe7, v20, v94, v95, v96, v97, v98, v99, rfl⟩ := hx
  have hb67 := HAL6.out.trans hbe7
  have hsz7 := hbe7.size
  have HD7 := Lib.hid hD7; have HB67 := Lib.hid hb67
  clear hD7 hbe7 hb67
  dsimp only
  go_wp2_with fail
  go_step3
  go_wp2_with fail
  refine build_loop4 l (svM n m L l l) (bldO n m L l) vs W.heap.size w5.heap.size w1.heap.size (w1.heap.size + 1) a8 a9 e8 e9 w7 _ _ _ _ _ _ _ _ _ _ _ _ _ _ _ _ _ _ _ _ _ _ _ _ _ _ _ _ _ _ _ _ _ _ _ _ _ _ _ _ _ _ _ _ _ _ _ _ _ _ _ _ _ _ _ _ _ _ _ _ _ _ _ _ _ _ _ _ _ _ _ _ _ _ _ _ _ _ _ _ _ _ _ _ _ _ _ _ _ _ _ _ _ _ _ _ _ _ _ _ _ _ _ _ _ _ _ _ _ _ _ _ _ _ _ _ _ _ _ _ _ _ _ _ _ _ _ _ _ _ _ _ _ _ _ _ _ _ _ _ _ _ _ _ _ _ _ _ _  hl4 (by have := HB67.out.size; have := HAL6.out.size; omega) HV5.out HGG HSF HRS (Lib.hid fun ws h => HK6.out ws (HB67.out.trans h)) HD7 ?_ ?_
  · intro a' w8 hx
    unfold Loop4B at hx
    obtain ⟨hbe8, out, ov, hres, ho64, how, x4, x5, x22, x23, x24, x25, x26, x27, x28, x29, x100, x101, x102, x103, x104, x105, x106, x107, x108, x109, x110, x111, x112, x113, x114, x115, x116, x117, x118, x119, x120, x121, x122, x123, x124, x125, x126, x127, x128, x129, x130, x131, x132, x133, x134, x135, x136, x137, x138, x139, x140, x141, x142, x143, x144, x145, x146, x147, x148, x149, x150, rfl⟩ := hx
    have hdd8 := ((HB67.out.trans hbe8).block Dd (by have := (Array.getElem?_eq_some_iff.1 HDD.out).1; have := HAL.out.size; have := HB05.out.size; omega)).trans HDD5.out
    have hb8 := HWW.out.trans ((HB05.out.trans ((HB67.out.trans hbe8).mono HB05.out.size)).mono HWW.out.size)
    obtain ⟨oa, oc, rfl, hoc, hon, hom⟩ := own_cap how
    have hdl : Dd < w8.heap.size := (Array.getElem?_eq_some_iff.1 hdd8).1
    have hgp := grownBy_putObj' w8 Dd (.deferred none)
    have hfin := hb8.trans (belowK_b (w := w) (Nat.le_refl _) w8 Dd _ (.deferred none) (by omega) hdd8 rfl rfl)
    dsimp only
    have hpl : (pick (pairsOf l) out).length = out.length := List.length_map _
    have hmx : maxLen = 9223372036854775807 := rfl
    obtain ⟨a', c', h1, hcells⟩ := own_cells (own_keptF how hgp (fun r e => by cases e; exact ⟨_, hdd8, rfl⟩))
    obtain ⟨rfl, -, rfl⟩ := Value.slice.inj h1
    have HCE := Lib.hid hcells; have HFIN := Lib.hid hfin; have HPL := Lib.hid hpl; have HRES := Lib.hid hres; have HD8 := Lib.hid hdd8
    clear hcells hfin hpl hres how hoc hgp hb8 hbe8 hdd8 h1
    go_wp2_with fail
    rw [Exit.noGoto_ret]
    refine ⟨by simp, .inl ⟨_, _, rfl, run_takeDeferred HD8.out, ?_⟩⟩
    refine ⟨.tuple #[.slice oa out.length oc, .int .i64 0], ?_, ⟨oa, oc, ?_, ?_, ?_, by omega⟩, HFIN.out⟩
    · simp [results, Tryz.f19, go_sem]
    · rw [HLP.out, HRES.out]
      show _ = Ending.returned (.tuple #[.slice oa (pick (pairsOf l) out).length oc, .int .i64 0])
      rw [HPL.out]
    · rw [HLP.out, HRES.out]; exact HCE.out
    · rw [HLP.out, HRES.out]
      show (pick (pairsOf l) out).length <= oc
      rw [HPL.out]; exact hon
  · intro a' w8 hx
    unfold Loop4R at hx
    obtain ⟨hbe8, hres, ov, x22, x23, x24, x25, x26, x27, x28, x29, x100, x101, x102, x103, x104, x105, x106, x107, x108, x109, x110, x111, x112, x113, x114, x115, x116, x117, x118, x119, x120, x121, x122, x123, x124, x125, x126, x127, x128, x129, x130, x131, x132, x133, x134, x135, x136, x137, x138, x139, x140, x141, x142, x143, x144, x145, x146, x147, x148, x149, x150, rfl⟩ := hx
    have hdd8 := ((HB67.out.trans hbe8).block Dd (by have := (Array.getElem?_eq_some_iff.1 HDD.out).1; have := HAL.out.size; have := HB05.out.size; omega)).trans HDD5.out
    have hb8 := HWW.out.trans ((HB05.out.trans ((HB67.out.trans hbe8).mono HB05.out.size)).mono HWW.out.size)
    have hdl : Dd < w8.heap.size := (Array.getElem?_eq_some_iff.1 hdd8).1
    have hgp := grownBy_putObj' w8 Dd (.deferred none)
    have hfin := hb8.trans (belowK_b (w := w) (Nat.le_refl _) w8 Dd _ (.deferred none) (by omega) hdd8 rfl rfl)
    have HFIN := Lib.hid hfin; have HRES := Lib.hid hres; have HD8 := Lib.hid hdd8
    clear hfin hres hgp hb8 hbe8 hdd8
    dsimp only
    go_wp2_with fail
    rw [Exit.noGoto_ret]
    refine ⟨by simp, .inl ⟨_, _, rfl, run_takeDeferred HD8.out, ?_⟩⟩
    refine ⟨.tuple #[.slice none 0 0, .int .i64 3], ?_, ⟨none, 0, ?_, ?_, ?_, by decide⟩, HFIN.out⟩
    · simp [results, Tryz.f19, go_sem]
    · rw [HLP.out, HRES.out]; rfl
    · rw [HLP.out, HRES.out]; exact Cells.nil _ _
    · rw [HLP.out, HRES.out]; exact Nat.le_refl _
 case stop =>
  rintro Dd cc pre W hD hpre h _
  exact h.elim
end Go.Proofs.YtdpjdifoonfcdaaGreatDoor

namespace Go.Proofs.YtdpjdifoonfcdaaGreatDoor
open Go.RowKit Go.Shelf
set_option maxRecDepth 1000000 in
set_option maxHeartbeats 2000000 in
theorem Build_bad (L a b c d : Int) (s : ByteArray) (w : World) (ht : Tab w) (hs : s.size <= 140737488351232) (hE0 : covE L a b c d [] s ≠ 0) :
 Calls Tryz.prog 19 #[.agg #[.int .i64 L, .int .i64 a, .int .i64 b, .int .i64 c, .int .i64 d], .string s] w fun e w' => (∃ ao co, e = .returned (.tuple #[.slice ao (buiR L a b c d s).length co, .int .i64 (buiE L a b c d s)]) /\ Cells w' ao (prs (buiR L a b c d s)) /\ (buiR L a b c d s).length <= co /\ co <= 9223372036854775807) /\ Below w.heap.size w w' := by
 obtain ⟨h1, h2⟩ := bui_no hE0
 rw [h1, h2]
 obtain ⟨W0, hW0⟩ : ∃ W0, w.alloc (.cells #[.int .i64 L, .int .i64 a, .int .i64 b, .int .i64 c, .int .i64 d] 43) = W0 := ⟨_, rfl⟩
 have hB0 : Below w.heap.size w W0 := by rw [<- hW0]; exact (Below.refl _ w).alloc (Nat.le_refl _) _
 have hcv := covering_any L a b c d [] none 0 s W0 (ht.below hB0 (Nat.le_refl _)) hs (Cells.nil _ _) (by simp) (by simp) (by simp)
 rw [List.length_nil] at hcv
 have HW0 := Lib.hid hW0; have HCV := Lib.hid hcv; have HB0 := Lib.hid hB0; have HE0 := Lib.hid hE0
 clear hW0 hcv ht hB0 hE0 h1 h2
 go_enter Tryz.func19, Tryz.ntmps19
 go_wp2_with fail
 apply wp_scope_straight
 go_wp2_with fail
 rw [HW0.out]
 refine HCV.out.mono ?_
 rintro r w1 ⟨⟨hE, -⟩ | ⟨hE, rfl⟩, hb1⟩
 · exact absurd hE HE0.out
 have hbw := HB0.out.trans (hb1.mono HB0.out.size)
 have HBW := Lib.hid hbw
 generalize hvv : covE L a b c d [] s = v at *
 have HVV := Lib.hid hvv
 have hv : (v != 0) = true := by simpa using hE
 clear hvv hb1 hbw
 go_wp2_with fail
 rw [Exit.noGoto_ret]
 go_ret2
 exact ⟨⟨none, 0, by rw [HVV.out]; rfl, Cells.nil _ _, Nat.le_refl _, by decide⟩, HBW.out⟩
end Go.Proofs.YtdpjdifoonfcdaaGreatDoor

namespace Go.Proofs.YtdpjdifoonfcdaaGreatDoor
open Go.RowKit
theorem Build_any (L a b c d : Int) (s : ByteArray) (w : World) (ht : Tab w) (hs : s.size <= 140737488351232) :
 Calls Tryz.prog 19 #[.agg #[.int .i64 L, .int .i64 a, .int .i64 b, .int .i64 c, .int .i64 d], .string s] w fun e w' => (∃ ao co, e = .returned (.tuple #[.slice ao (buiR L a b c d s).length co, .int .i64 (buiE L a b c d s)]) /\ Cells w' ao (prs (buiR L a b c d s)) /\ (buiR L a b c d s).length <= co /\ co <= 9223372036854775807) /\ Below w.heap.size w w' := by
 by_cases hE : covE L a b c d [] s = 0
 · obtain ⟨_, _, n, m, hb⟩ := covE_0 hE
   have h := Build_good n m L a b c d s w ht hs hE hb
   obtain ⟨h1, h2⟩ := bui_yes hE hb
   rw [h1, h2]
   exact h
 · exact Build_bad L a b c d s w ht hs hE
end Go.Proofs.YtdpjdifoonfcdaaGreatDoor

namespace Go.Proofs.YtdpjdifoonfcdaaGreatDoor
open Go.RowKit Go.Shelf
def worV (L a b c d : Int) (cs : List (Int × Int)) : ByteArray := if covE L a b c d cs ⟨#[48]⟩ = 0 then worT (wrsF L cs (ptsAll L a c (d - c + 1).toNat (b - a + 1).toNat)) else ⟨#[]⟩
def worX (L a b c d : Int) (cs : List (Int × Int)) : Int := if covE L a b c d cs ⟨#[48]⟩ = 0 then worE (wrsF L cs (ptsAll L a c (d - c + 1).toNat (b - a + 1).toNat)) else covE L a b c d cs ⟨#[48]⟩
set_option maxRecDepth 100000 in
set_option maxHeartbeats 2000000 in
theorem Worst_any (L a b c d : Int) (cs : List (Int × Int)) (ao : Option Addr) (cap : Nat) (w : World) (ht : Tab w) (hc : Cells w ao (prs cs)) (hl : cs.length <= 9223372036854775807) (hcap : cs.length <= cap) (hcap2 : cap <= 9223372036854775807) :
 Calls Tryz.prog 31 #[.agg #[.int .i64 L, .int .i64 a, .int .i64 b, .int .i64 c, .int .i64 d], .slice ao cs.length cap] w fun e w' => e = .returned (.tuple #[.string (worV L a b c d cs), .int .i64 (worX L a b c d cs)]) /\ Below w.heap.size w w' := by
 by_cases hE : covE L a b c d cs ⟨#[48]⟩ = 0
 · have h := Worst_good L a b c d cs ao cap w ht hc hl hcap hcap2 hE
   rw [show worV L a b c d cs = worT (wrsF L cs (ptsAll L a c (d - c + 1).toNat (b - a + 1).toNat)) from if_pos hE, show worX L a b c d cs = worE (wrsF L cs (ptsAll L a c (d - c + 1).toNat (b - a + 1).toNat)) from if_pos hE]
   exact h
 · rw [show worV L a b c d cs = ⟨#[]⟩ from if_neg hE, show worX L a b c d cs = covE L a b c d cs ⟨#[48]⟩ from if_neg hE]
   obtain ⟨W0, hW0⟩ : ∃ W0, w.alloc (.cells #[.int .i64 L, .int .i64 a, .int .i64 b, .int .i64 c, .int .i64 d] 43) = W0 := ⟨_, rfl⟩
   have hB0 : Below w.heap.size w W0 := by rw [<- hW0]; exact (Below.refl _ w).alloc (Nat.le_refl _) _
   have hs0 : W0.heap.size = w.heap.size + 1 := by rw [<- hW0]; simp
   have q0 : Blk W0 w.heap.size 43 #[.int .i64 L, .int .i64 a, .int .i64 b, .int .i64 c, .int .i64 d] := by rw [<- hW0]; exact Blk.new w _ _
   have hcv := covering_any L a b c d cs ao cap ⟨#[48]⟩ W0 (ht.below hB0 (Nat.le_refl _)) (by decide) (hc.below hB0 (Nat.le_refl _)) hl hcap hcap2
   have HW0 := Lib.hid hW0; have HCV := Lib.hid hcv; have HB0 := Lib.hid hB0; have HE := Lib.hid hE
   clear hW0 hcv ht hc hB0 hs0 q0 hE
   go_enter Tryz.func31, Tryz.ntmps31
   go_wp2_with fail
   rw [HW0.out]
   refine HCV.out.mono ?_
   rintro r w1 ⟨⟨h0, _⟩ | ⟨hE, rfl⟩, hb1⟩
   · exact absurd h0 HE.out
   · have hbw := HB0.out.trans (hb1.mono HB0.out.size)
     generalize hvv : covE L a b c d cs ⟨#[48]⟩ = v at hE ⊢
     have HVV := Lib.hid hvv
     have hv : (v != 0) = true := by simpa using hE
     clear hvv hb1
     go_wp2_with fail
     go_ret2
     exact ⟨by rw [HVV.out]; rfl, hbw.alloc hbw.size _⟩
end Go.Proofs.YtdpjdifoonfcdaaGreatDoor

namespace Go.Proofs.YtdpjdifoonfcdaaGreatDoor
open Go.RowKit Go.Shelf
def chkB (L : Int) (cs : List (Int × Int)) : Int := if inB 4 L 64 = false then 70 else if bankOK L cs = false then 72 else 0
set_option maxRecDepth 100000 in
set_option maxHeartbeats 2000000 in
theorem checkBank_any (L : Int) (cs : List (Int × Int)) (ao : Option Addr) (cap : Nat) (w : World) (hc : Cells w ao (prs cs)) (hl : cs.length <= 9223372036854775807) (hcap : cs.length <= cap) (hcap2 : cap <= 9223372036854775807) :
 Calls Tryz.prog 28 #[.int .i64 L, .slice ao cs.length cap] w fun e w' => e = .returned (.int .i64 (chkB L cs)) /\ Below w.heap.size w w' := by
 have hwv := waves_any L cs ao cap w hc hl hcap hcap2
 have hwi := fun W => bwithin_any L 4 64 W
 have hE : chkB L cs = if inB 4 L 64 = false then 70 else if bankOK L cs = false then 72 else 0 := rfl
 have HWV := Lib.hid hwv
 clear hwv hc
 cases h4 : inB 4 L 64 with
 | false =>
   rw [h4, if_pos rfl] at hE
   rw [h4] at hwi
   have HW := Lib.hid hwi; have HE := Lib.hid hE
   clear hwi hE h4
   go_enter Tryz.func28, Tryz.ntmps28
   go_wp2_with (go_at_call 66; refine (HW.out _).mono ?_; rintro e w1 ⟨rfl, rfl⟩)
   go_ret
   exact ⟨by rw [HE.out]; rfl, Below.refl _ _⟩
 | true =>
   rw [h4, if_neg (by decide)] at hE
   rw [h4] at hwi
   have HW := Lib.hid hwi
   clear hwi h4
   cases hb : bankOK L cs with
   | false =>
     rw [hb, if_pos rfl] at hE
     have HE := Lib.hid hE; have HB := Lib.hid hb
     clear hE hb
     go_enter Tryz.func28, Tryz.ntmps28
     go_wp2_with (first
      | (go_at_call 66; refine (HW.out _).mono ?_; rintro e w1 ⟨rfl, rfl⟩)
      | (go_at_call 87; refine HWV.out.mono ?_; rintro e w1 ⟨hr, hb1⟩; rw [HB.out] at hr; obtain rfl : e = _ := hr))
     go_ret
     exact ⟨by rw [HE.out]; rfl, hb1⟩
   | true =>
     rw [hb, if_neg (by decide)] at hE
     have HE := Lib.hid hE; have HB := Lib.hid hb
     clear hE hb
     go_enter Tryz.func28, Tryz.ntmps28
     go_wp2_with (first
      | (go_at_call 66; refine (HW.out _).mono ?_; rintro e w1 ⟨rfl, rfl⟩)
      | (go_at_call 87; refine HWV.out.mono ?_; rintro e w1 ⟨hr, hb1⟩; rw [HB.out] at hr; obtain ⟨bo, cb, rfl, _⟩ := hr))
     go_ret
     exact ⟨by rw [HE.out]; rfl, hb1⟩
end Go.Proofs.YtdpjdifoonfcdaaGreatDoor

namespace Go.Proofs.YtdpjdifoonfcdaaGreatDoor.Z4
def B : Nat := 10000
def val : List Nat -> Nat
 | [] => 0
 | d :: ds => d + B * val ds
def dig (n : Nat) : List Nat := if n = 0 then [] else n % B :: dig (n / B)
termination_by n
decreasing_by exact Nat.div_lt_self (Nat.pos_of_ne_zero ‹_›) (by decide)
theorem B_pos : 0 < B := by decide
theorem dig_zero : dig 0 = [] := by rw [dig]; simp
theorem dig_pos {n : Nat} (h : n ≠ 0) : dig n = n % B :: dig (n / B) := by rw [dig]; simp [h]
theorem val_dig (n : Nat) : val (dig n) = n := by
 induction n using Nat.strongRecOn with
 | _ n ih =>
   by_cases h : n = 0
   · subst h; simp [dig_zero, val]
   · rw [dig_pos h, val, ih _ (Nat.div_lt_self (Nat.pos_of_ne_zero h) (by decide))]
     exact Nat.mod_add_div n B
def Sm (xs : List Nat) : Prop := ∀ d ∈ xs, d < B
theorem sm_dig (n : Nat) : Sm (dig n) := by
 induction n using Nat.strongRecOn with
 | _ n ih =>
   by_cases h : n = 0
   · subst h; simp [dig_zero, Sm]
   · rw [dig_pos h]
     intro d hd
     rcases List.mem_cons.1 hd with rfl | hd
     · exact Nat.mod_lt _ B_pos
     · exact ih _ (Nat.div_lt_self (Nat.pos_of_ne_zero h) (by decide)) d hd
theorem val_nil : val [] = 0 := rfl
theorem val_cons (d : Nat) (ds : List Nat) : val (d :: ds) = d + B * val ds := rfl
theorem val_append (xs ys : List Nat) : val (xs ++ ys) = val xs + B ^ xs.length * val ys := by
 induction xs with
 | nil => simp [val]
 | cons d ds ih => simp only [List.cons_append, val_cons, ih, List.length_cons, Nat.pow_succ]; rw [Nat.mul_add, Nat.add_assoc, Nat.mul_comm (B ^ ds.length) B, Nat.mul_assoc]
theorem val_snoc (xs : List Nat) (d : Nat) : val (xs ++ [d]) = val xs + B ^ xs.length * d := by
 rw [val_append]; simp [val]
theorem val_lt {xs : List Nat} (h : Sm xs) : val xs < B ^ xs.length := by
 induction xs with
 | nil => simp [val]
 | cons d ds ih =>
   have h1 : d < B := h d (by simp)
   have h2 := ih (fun x hx => h x (by simp [hx]))
   simp only [val_cons, List.length_cons, Nat.pow_succ]
   have : B * (val ds + 1) <= B * B ^ ds.length := Nat.mul_le_mul_left _ h2
   rw [Nat.mul_add, Nat.mul_one] at this
   rw [Nat.mul_comm (B ^ ds.length) B]; omega
theorem val_eq_zero {xs : List Nat} : val xs = 0 ↔ ∀ d ∈ xs, d = 0 := by
 induction xs with
 | nil => simp [val]
 | cons d ds ih =>
   simp only [val_cons, List.mem_cons, forall_eq_or_imp, <- ih]
   constructor
   · intro h
     have h1 : d = 0 := by omega
     have h2 : B * val ds = 0 := by omega
     refine ⟨h1, ?_⟩
     rcases Nat.mul_eq_zero.1 h2 with h | h
     · exact absurd h (by decide)
     · exact h
   · rintro ⟨rfl, h⟩; simp [h]
theorem dig_val {xs : List Nat} (h : Sm xs) (hl : xs.getLast? ≠ some 0) : dig (val xs) = xs := by
 induction xs with
 | nil => simp [val, dig_zero]
 | cons d ds ih =>
   have h1 : d < B := h d (by simp)
   have hs : Sm ds := fun x hx => h x (by simp [hx])
   have hne : val (d :: ds) ≠ 0 := by
    intro h0
    have h0' := val_eq_zero.1 h0
    have : ((d :: ds).getLast (by simp)) = 0 := h0' _ (List.getLast_mem _)
    exact hl (by rw [List.getLast?_eq_some_getLast (by simp), this])
   rw [dig_pos hne, val_cons]
   have e1 : (d + B * val ds) % B = d := by rw [Nat.add_mul_mod_self_left, Nat.mod_eq_of_lt h1]
   have e2 : (d + B * val ds) / B = val ds := by rw [Nat.add_mul_div_left _ _ B_pos, Nat.div_eq_of_lt h1, Nat.zero_add]
   rw [e1, e2, ih hs]
   cases ds with
   | nil => simp
   | cons x xs => simpa [List.getLast?_cons_cons] using hl
theorem last_dig (n : Nat) : (dig n).getLast? ≠ some 0 := by
 induction n using Nat.strongRecOn with
 | _ n ih =>
   by_cases h : n = 0
   · subst h; simp [dig_zero]
   · rw [dig_pos h]
     have := ih (n / B) (Nat.div_lt_self (Nat.pos_of_ne_zero h) (by decide))
     by_cases h2 : n / B = 0
     · rw [h2, dig_zero]; simp
       have h3 : n < B := by
        rcases Nat.div_eq_zero_iff.1 h2 with h | h
        · exact absurd h (by decide)
        · exact h
       rw [Nat.mod_eq_of_lt h3]; exact h
     · rw [dig_pos h2] at this ⊢
       simpa [List.getLast?_cons_cons] using this
theorem dig_len_pos {n : Nat} : (dig n).length = 0 ↔ n = 0 := by
 by_cases h : n = 0
 · subst h; simp [dig_zero]
 · rw [dig_pos h]; simp [h]
theorem dig_small {n : Nat} (h : n < B) (h0 : n ≠ 0) : dig n = [n] := by
 rw [dig_pos h0, Nat.mod_eq_of_lt h, Nat.div_eq_of_lt h, dig_zero]
theorem lt_pow_len (n : Nat) : n < B ^ (dig n).length := by
 have := val_lt (sm_dig n); rwa [val_dig] at this
theorem pow_len_le {n : Nat} (h : n ≠ 0) : B ^ ((dig n).length - 1) <= n := by
 induction n using Nat.strongRecOn with
 | _ n ih =>
   rw [dig_pos h]
   by_cases h2 : n / B = 0
   · rw [h2, dig_zero]; simp; omega
   · have := ih _ (Nat.div_lt_self (Nat.pos_of_ne_zero h) (by decide)) h2
     have hl : (dig (n / B)).length ≠ 0 := by rw [Ne, dig_len_pos]; exact h2
     simp only [List.length_cons, Nat.add_sub_cancel]
     obtain ⟨k, hk⟩ : ∃ k, (dig (n / B)).length = k + 1 := ⟨(dig (n/B)).length - 1, by omega⟩
     rw [hk, Nat.add_sub_cancel] at this
     rw [hk, Nat.pow_succ]
     calc B ^ k * B <= n / B * B := Nat.mul_le_mul_right _ this
      _ <= n := Nat.div_mul_le_self n B
theorem lt_of_len {m n : Nat} (h : (dig m).length < (dig n).length) : m < n := by
 have hn : n ≠ 0 := by rintro rfl; simp [dig_zero] at h
 have h1 := lt_pow_len m
 have h2 := pow_len_le hn
 have h3 : B ^ (dig m).length <= B ^ ((dig n).length - 1) := Nat.pow_le_pow_right B_pos (by omega)
 omega
theorem dig_len_mono {m n : Nat} (h : m <= n) : (dig m).length <= (dig n).length := by
 apply Nat.le_of_not_lt
 intro hc
 have := lt_of_len hc
 omega
end Go.Proofs.YtdpjdifoonfcdaaGreatDoor.Z4

namespace Go.Proofs.YtdpjdifoonfcdaaGreatDoor.Z4
theorem val_split {l : List Nat} {j x : Nat} (hx : l[j]? = some x) : val l = val (l.take j) + B ^ j * (x + B * val (l.drop (j + 1))) := by
 have hj : j < l.length := (List.getElem?_eq_some_iff.1 hx).1
 have h1 : l = l.take j ++ (x :: l.drop (j + 1)) := by
  have := (List.take_append_drop j l).symm
  rw [List.drop_eq_getElem_cons hj, (List.getElem?_eq_some_iff.1 hx).2] at this
  exact this
 have h2 := congrArg val h1
 rw [val_append, val_cons, List.length_take, Nat.min_eq_left (by omega)] at h2
 exact h2
theorem cmp_digit {l1 l2 : List Nat} (h1 : Sm l1) {j x y : Nat} (hx : l1[j]? = some x) (hy : l2[j]? = some y) (hd : l1.drop (j + 1) = l2.drop (j + 1)) (hlt : x < y) : val l1 < val l2 := by
 rw [val_split hx, val_split hy, hd]
 have hj : j < l1.length := (List.getElem?_eq_some_iff.1 hx).1
 have h3 : val (l1.take j) < B ^ j := by
  have := val_lt (xs := l1.take j) (fun d hd => h1 d (List.mem_of_mem_take hd))
  rwa [List.length_take, Nat.min_eq_left (by omega)] at this
 have h4 : B ^ j * (x + 1 + B * val (l2.drop (j + 1))) <= B ^ j * (y + B * val (l2.drop (j + 1))) := Nat.mul_le_mul_left _ (by omega)
 have h5 : B ^ j * (x + 1 + B * val (l2.drop (j + 1))) = B ^ j * (x + B * val (l2.drop (j + 1))) + B ^ j := by
  rw [show x + 1 + B * val (l2.drop (j + 1)) = (x + B * val (l2.drop (j + 1))) + 1 from by omega, Nat.mul_add, Nat.mul_one]
 omega
def cmpN (m n : Nat) : Int := if m < n then -1 else if n < m then 1 else 0
theorem cmpN_lt {m n : Nat} (h : m < n) : cmpN m n = -1 := by simp [cmpN, h]
theorem cmpN_gt {m n : Nat} (h : n < m) : cmpN m n = 1 := by simp [cmpN, h]; omega
theorem cmpN_eq (n : Nat) : cmpN n n = 0 := by simp [cmpN]
theorem short_step {H d x : Nat} (hd : 0 < d) : ((H % d) * B + x) / d + B * (H / d) = (x + B * H) / d /\ ((H % d) * B + x) % d = (x + B * H) % d := by
 have h : x + B * H = ((H % d) * B + x) + d * (B * (H / d)) := by
  have h1 : d * (H / d) + H % d = H := Nat.div_add_mod H d
  have h2 : B * H = B * (d * (H / d)) + B * (H % d) := by rw [<- Nat.mul_add, h1]
  rw [h2, Nat.mul_comm (H % d) B, Nat.mul_left_comm d B]; omega
 rw [h, Nat.add_mul_div_left _ _ hd, Nat.add_mul_mod_self_left]
 exact ⟨rfl, rfl⟩
theorem short_dig {r d x : Nat} (hr : r < d) (hx : x < B) : (r * B + x) / d < B := by
 apply Nat.div_lt_of_lt_mul
 have : (r + 1) * B <= d * B := Nat.mul_le_mul_right _ hr
 rw [Nat.add_mul] at this; omega
theorem dig_len_val {l : List Nat} (h : Sm l) : (dig (val l)).length <= l.length := by
 have h1 := val_lt h
 apply Nat.le_of_not_lt
 intro hc
 have hne : val l ≠ 0 := by
  intro h0; rw [h0, dig_zero] at hc; simp at hc
 have h2 := pow_len_le hne
 have h3 : B ^ l.length <= B ^ ((dig (val l)).length - 1) := Nat.pow_le_pow_right B_pos (by omega)
 omega
end Go.Proofs.YtdpjdifoonfcdaaGreatDoor.Z4

namespace Go.Proofs.YtdpjdifoonfcdaaGreatDoor.Z4
open Go.RowKit
def zs (l : List Nat) : List Value := l.map fun d => Value.int .i64 (d : Nat)
theorem zs_length (l : List Nat) : (zs l).length = l.length := by simp [zs]
theorem zs_ne {l : List Nat} (h : 0 < l.length) : zs l ≠ [] := by
 intro h2; have := congrArg List.length h2; rw [zs_length, List.length_nil] at this; omega
theorem zs_get {l : List Nat} {i d : Nat} (hd : l[i]? = some d) : (zs l)[i]? = some (.int .i64 (d : Nat)) := by simp [zs, hd]
theorem zcell {w : World} {b off : Nat} {l : List Nat} (h : Cells w (some ⟨b, off, none⟩) (zs l)) {i d : Nat} (hd : l[i]? = some d) : w.cell? ⟨b, off + i, none⟩ = some (.int .i64 (d : Nat)) :=
 h.at (zs_get hd)
theorem sm_get {l : List Nat} (h : Sm l) {i d : Nat} (hd : l[i]? = some d) : d <= 9999 := by
 have := h d (List.mem_of_getElem? hd); simp only [B] at this; omega
theorem val_take_zero {l : List Nat} {k : Nat} (h0 : l[k]? = some 0) : val (l.take (k + 1)) = val (l.take k) := by
 rw [take_get h0, val_snoc]; simp
def ZV (w : World) (v : Value) (n : Int) : Prop := ∃ a c, v = .agg #[.bool (decide (n < 0)), .slice a (dig n.natAbs).length c] /\ Cells w a (zs (dig n.natAbs)) /\ (dig n.natAbs).length <= c /\ c <= 9223372036854775807
theorem ZV.below {w w' : World} {B : Nat} {v : Value} {n : Int} (h : ZV w v n) (hb : Below B w w') (hB : w.heap.size <= B) : ZV w' v n := by
 obtain ⟨a, c, h1, h2, h3⟩ := h
 exact ⟨a, c, h1, h2.below hb hB, h3⟩
def sg (s : Bool) (k : Nat) : Int := if s then -(k : Int) else (k : Int)
end Go.Proofs.YtdpjdifoonfcdaaGreatDoor.Z4
