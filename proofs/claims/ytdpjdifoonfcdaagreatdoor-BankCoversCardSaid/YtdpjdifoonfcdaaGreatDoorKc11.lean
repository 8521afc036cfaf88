/- Parts of a proof, in build order: YI2, YH, YL, V9, LA, LB, LD, LS, LG, LH, LI, LF, LQ, JB. -/
import Derived.Test.YtdpjdifoonfcdaaGreatDoorKc10
import Derived.Deep.Strs
import Derived.Lib.SmallJoins
import Derived.Maps.OwnSet
import Derived.Shelf.SlSortCmp.WholeK
import Derived.Test.YtdpjdifoonfcdaaGreatDoorProg

namespace Go.Proofs.YtdpjdifoonfcdaaGreatDoor
open Go.RowKit Go.Shelf
theorem prvL_len {n d L : Int} {ys : List (List Int)} {l : List (Pt L)} : ∀ {fs : List (Int × Int)}, prvL n d L ys l (fs.take l.length) = true -> l.length <= fs.length -> prvL n d L ys l fs = decide (fs.length = l.length) := by
 induction l with
 | nil => intro fs _ _; rfl
 | cons x r ih =>
   intro fs h hl
   cases fs with
   | nil => simp at hl
   | cons f fs =>
     rw [List.length_cons, List.take_succ_cons] at h
     simp only [prvL, Bool.and_eq_true] at h
     simp only [prvL, h.1, Bool.true_and]
     rw [ih h.2 (by simpa using hl)]
     simp
theorem prvL_step {n d L : Int} {ys : List (List Int)} {x : Pt L} {f : Int × Int} {l : List (Pt L)} : ∀ {fs : List (Int × Int)}, prvL n d L ys l (fs.take l.length) = true -> fs[l.length]? = some f -> prvI n d L ys x f = true -> prvL n d L ys (l ++ [x]) (fs.take (l.length + 1)) = true := by
 induction l with
 | nil =>
   intro fs _ hf hx
   cases fs with
   | nil => simp at hf
   | cons g r =>
     simp only [List.length_nil, List.getElem?_cons_zero, Option.some.injEq] at hf
     subst hf
     simp [prvL, hx]
 | cons y r ih =>
   intro fs h hf hx
   cases fs with
   | nil => simp at hf
   | cons g fs =>
     rw [List.length_cons, List.take_succ_cons] at h
     rw [List.length_cons, List.getElem?_cons_succ] at hf
     simp only [prvL, Bool.and_eq_true] at h
     rw [List.cons_append, List.length_cons, List.take_succ_cons]
     simp only [prvL, h.1, Bool.true_and]
     exact ih h.2 hf hx
theorem prvL_bad {n d L : Int} {ys : List (List Int)} {x : Pt L} {l : List (Pt L)} : ∀ {fs : List (Int × Int)}, prvL n d L ys l (fs.take l.length) = true -> (fs.length <= l.length ∨ ∃ f, fs[l.length]? = some f /\ prvI n d L ys x f = false) -> ∀ t : List (Pt L), l ++ [x] <+: t -> prvL n d L ys t fs = false := by
 induction l with
 | nil =>
   rintro fs _ hb t ⟨u, rfl⟩
   rw [List.nil_append, List.singleton_append]
   cases fs with
   | nil => rfl
   | cons g r =>
     rcases hb with hb | ⟨f, hf, hx⟩
     · simp at hb
     · simp only [List.length_nil, List.getElem?_cons_zero, Option.some.injEq] at hf
       subst hf
       simp [prvL, hx]
 | cons y r ih =>
   rintro fs h hb t ⟨u, rfl⟩
   rw [List.cons_append, List.cons_append]
   cases fs with
   | nil => rfl
   | cons g fs =>
     rw [List.length_cons, List.take_succ_cons] at h
     simp only [prvL, Bool.and_eq_true] at h
     simp only [prvL, h.1, Bool.true_and]
     refine ih h.2 ?_ _ ⟨u, rfl⟩
     rcases hb with hb | ⟨f, hf, hx⟩
     · exact .inl (by simpa using hb)
     · exact .inr ⟨f, by simpa using hf, hx⟩
theorem add_none (b o j : Nat) : (⟨b, o, none⟩ : Addr).add j = ⟨b, o + j, none⟩ := by unfold Addr.add; split <;> simp_all
set_option maxRecDepth 1000000 in
set_option maxHeartbeats 8000000 in
theorem Proves_good (L a b c d : Int) (cs : List (Int × Int)) (ao : Option Addr) (cap : Nat) (s : ByteArray) (fs : List (Int × Int)) (fo : Option Addr) (fc : Nat) (w : World) (ht : Tab w) (hs : s.size <= 140737488351232) (hc : Cells w ao (prs cs)) (hl : cs.length <= 9223372036854775807) (hcap : cs.length <= cap) (hcap2 : cap <= 9223372036854775807) (hfc : Cells w fo (prs fs)) (hfl : fs.length <= 9223372036854775807) (hE0 : covE L a b c d cs s = 0) :
 Calls Tryz.prog 30 #[.agg #[.int .i64 L, .int .i64 a, .int .i64 b, .int .i64 c, .int .i64 d], .slice ao cs.length cap, .string s, .slice fo fs.length fc] w fun e w' => e = .returned (.tuple #[.bool (prvR L a b c d cs s fs), .int .i64 (covE L a b c d cs s)]) /\ Below w.heap.size w w' := by
 obtain ⟨W0, hW0⟩ : ∃ W0, (((w.alloc (.cells #[.int .i64 L, .int .i64 a, .int .i64 b, .int .i64 c, .int .i64 d] 43)).alloc (.cells #[.slice fo fs.length fc] 58)).alloc (.cells #[.bool false] 4)).alloc (.cells #[.int .i64 0] 35) = W0 := ⟨_, rfl⟩
 have hB0 : Below w.heap.size w W0 := by rw [<- hW0]; exact ((((Below.refl _ w).alloc (Nat.le_refl _) _).alloc (by simp) _).alloc (by simp; omega) _).alloc (by simp; omega) _
 have hs0 : W0.heap.size = w.heap.size + 4 := by rw [<- hW0]; simp
 have q0 : Blk W0 w.heap.size 43 #[.int .i64 L, .int .i64 a, .int .i64 b, .int .i64 c, .int .i64 d] := by
  unfold Blk; rw [<- hW0, hold_old _ _ _ (by simp <;> omega), hold_old _ _ _ (by simp <;> omega)]; exact heap_alloc2_old w _ _
 have q1 : Blk W0 (w.heap.size + 1) 58 #[.slice fo fs.length fc] := by
  unfold Blk; rw [<- hW0, hold_old _ _ _ (by simp <;> omega), hold_old _ _ _ (by simp)]; exact heap_alloc2_new w _ _
 obtain ⟨W2, hW2⟩ : ∃ W2, (w.alloc (.cells #[.int .i64 L, .int .i64 a, .int .i64 b, .int .i64 c, .int .i64 d] 43)).alloc (.cells #[.slice fo fs.length fc] 58) = W2 := ⟨_, rfl⟩
 have hs2 : W2.heap.size = w.heap.size + 2 := by rw [<- hW2]; simp
 have q2 : Blk W0 (w.heap.size + 1 + 1) 4 #[.bool false] := by
  unfold Blk; rw [<- hW0, hW2, show w.heap.size + 1 + 1 = W2.heap.size by omega]; exact heap_alloc2_old W2 _ _
 have q3 : Blk W0 (w.heap.size + 1 + 1 + 1) 35 #[.int .i64 0] := by
  unfold Blk; rw [<- hW0, hW2, show w.heap.size + 1 + 1 + 1 = W2.heap.size + 1 by omega]; exact heap_alloc2_new W2 _ _
 have hcv := covering_any L a b c d cs ao cap s W0 (ht.below hB0 (Nat.le_refl _)) hs (hc.below hB0 (Nat.le_refl _)) hl hcap hcap2
 have HW0 := Lib.hid hW0; have HCV := Lib.hid hcv; have HB0 := Lib.hid hB0; have HS0 := Lib.hid hs0
 have Q0 := Lib.hid q0; have Q1 := Lib.hid q1; have Q2 := Lib.hid q2; have Q3 := Lib.hid q3
 have HFC := Lib.hid (hfc.below hB0 (Nat.le_refl _))
 clear hW0 hcv ht hc hB0 hs0 hfc hW2 hs2 q0 q1 q2 q3
 refine (callsIn_wide (n := 8)).1 ?_
 refine callsIn_of_wp_marks Tryz.func30 rfl trivial ?_ rfl
 simp only [Tryz.ntmps30, List.size_toArray, List.length_cons, List.length_nil, Nat.reduceAdd, Nat.reduceSub, Array.replicate_succ, Array.replicate_zero, List.push_toArray, List.append_toArray, List.nil_append, List.cons_append]
 gi_wp2_with (refine ⟨trivial, ?_⟩; gi_at_call 73; rw [HW0.out]; refine (callsIn_wide.2 HCV.out).mono ?_; rintro r w1 ⟨⟨hE, hf, hbk, C, bo, cb, N, D, rfl, hbs, hC, hcs⟩ | ⟨hE, rfl⟩, hb1⟩ <;> refine Hid.out ?_)
 rotate_left
 · exact absurd hE0 hE
 refine Lib.hid ?_
 have hbw := HB0.out.trans (hb1.mono HB0.out.size)
 have hsz := HS0.out
 have hs1 := hb1.size
 obtain ⟨z0, z1, z2, z3, z4⟩ : w1.cell? ⟨w.heap.size, 0, none⟩ = some (.int .i64 L) /\ w1.cell? ⟨w.heap.size, 1, none⟩ = some (.int .i64 a) /\ w1.cell? ⟨w.heap.size, 2, none⟩ = some (.int .i64 b) /\ w1.cell? ⟨w.heap.size, 3, none⟩ = some (.int .i64 c) /\ w1.cell? ⟨w.heap.size, 4, none⟩ = some (.int .i64 d) := by
  have h := Q0.out.below hb1 (by omega)
  exact ⟨h.cell 0, h.cell 1, h.cell 2, h.cell 3, h.cell 4⟩
 have hlt : w.heap.size < w1.heap.size := by omega
 have HCC := Lib.hid hC; have HCS := Lib.hid hcs; have HB1 := Lib.hid hb1; have HBW := Lib.hid hbw; have HE := Lib.hid hE; have HF := Lib.hid hf; have HBK := Lib.hid hbk; have HBS := Lib.hid hbs
 clear hC hcs hb1 hbw hE hE0 hf hbk hbs
 gi_wp2_with (refine ⟨trivial, ?_⟩; gi_at_call 74; refine (callsIn_wide.2 (points_any L a b c d _)).mono ?_; rintro r w2 ⟨rfl, rfl⟩; refine Hid.out ?_)
 refine Lib.hid ?_
 gi_wp2
 clear z0 z1 z2 z3 z4
 obtain ⟨W1, hW1⟩ : ∃ W1, ((w1.alloc (.cells #[.pointer (some ⟨C, 0, none⟩)] 149)).alloc (.cells #[.int .i64 0] 3)).alloc (.cells #[.int .i64 L, .int .i64 a, .int .i64 b, .int .i64 c, .int .i64 d] 43) = W1 := ⟨_, rfl⟩
 have hBW1 : Below w1.heap.size w1 W1 := by rw [<- hW1]; exact (((Below.refl _ _).alloc (Nat.le_refl _) _).alloc (by simp) _).alloc (by simp; omega) _
 have hsW1 : W1.heap.size = w1.heap.size + 3 := by rw [<- hW1]; simp
 have y0 : Blk W1 w1.heap.size 149 #[.pointer (some ⟨C, 0, none⟩)] := by unfold Blk; rw [<- hW1, hold_old _ _ _ (by simp; omega)]; exact heap_alloc2_old w1 _ _
 have y1 : Blk W1 (w1.heap.size + 1) 3 #[.int .i64 0] := by unfold Blk; rw [<- hW1, hold_old _ _ _ (by simp)]; exact heap_alloc2_new w1 _ _
 have y2 : W1.heap[w1.heap.size + 1 + 1]? = some (.cells #[.int .i64 L, .int .i64 a, .int .i64 b, .int .i64 c, .int .i64 d] 43 (0, 0)) := by
  have h := heap_alloc_new ((w1.alloc (.cells #[.pointer (some ⟨C, 0, none⟩)] 149)).alloc (.cells #[.int .i64 0] 3)) (.cells #[.int .i64 L, .int .i64 a, .int .i64 b, .int .i64 c, .int .i64 d] 43)
  rw [show ((w1.alloc (.cells #[.pointer (some ⟨C, 0, none⟩)] 149)).alloc (.cells #[.int .i64 0] 3)).heap.size = w1.heap.size + 1 + 1 by simp] at h
  rw [<- hW1]; exact h
 rw [hW1]
 have HW1 := Lib.hid hW1
 clear hW1
 obtain ⟨Z, hZ⟩ : ∃ Z, Z = shp 0 (smp 0 0 0) := ⟨_, rfl⟩
 have z : Tryz.zeroCells129 = Z := by rw [hZ]; exact zero101
 have hZs : Z.size = 65 := by rw [hZ, shp_size, smp_length]
 clear hZ
 refine wpIn_rangeFunc_ownH rfl (by omega) (gf := 141) (lb := #[.pointer (some ⟨w1.heap.size + 1 + 1, 0, none⟩)]) rfl trivial (enters_of Tryz.func141 (by kernel_rfl) rfl)
  (points_stops _ (by omega) (w1.heap.size + 1 + 1) L a b c d HF.out W1 y2) KeepB.trans (keepB_b (by omega)) (Below.refl _ _) (fun _ => rfl)
  (fun pre W => (Blk W w1.heap.size 149 #[.pointer (some ⟨C, 0, none⟩)] /\ Blk W (w1.heap.size + 1) 3 #[.int .i64 ((pre.length : Nat) : Int)] /\ pre.length <= fs.length /\ prvL N D L (wvs L cs) pre (fs.take pre.length) = true) /\ Below w1.heap.size w1 W /\ W1.heap.size <= W.heap.size)
  (fun cc pre W => (cc = .ret /\ (∀ t : List (Pt L), pre <+: t -> prvL N D L (wvs L cs) t fs = false) /\ W.cell? ⟨w.heap.size + 1 + 1, 0, none⟩ = some (.bool false) /\ W.cell? ⟨w.heap.size + 1 + 1 + 1, 0, none⟩ = some (.int .i64 0)) /\ Below w.heap.size w W)
  (OwnFrom.and (Own.from (fun s A B row hs hg hr => ⟨row_kept hs.1 hg hr, row_kept hs.2.1 hg hr, hs.2.2⟩) _) (OwnFrom.and (ownFrom_below (Nat.le_refl _) (by omega)) (fun _ _ _ _ hs hg _ => Nat.le_trans hs hg.size)))
  (fun cc => OwnFrom.and (Own.from (fun s A B row hs hg hr => ⟨hs.1, hs.2.1, cell_kept hs.2.2.1 hg hr, cell_kept hs.2.2.2 hg hr⟩) _) (ownFrom_below (Nat.le_refl _) (by omega)))
  ⟨⟨y0, y1, Nat.zero_le _, rfl⟩, hBW1, Nat.le_refl _⟩
  (fun x a' W => ∃ Bx, w1.heap.size + 3 <= Bx /\ W.heap[Bx]? = some (.cells (shp L (wav L x.1.1 x.1.2)) 129 (0, 0)) /\ a' = { tmps := #[.agg #[.int .i64 L, .int .i64 a, .int .i64 b, .int .i64 c, .int .i64 d], .slice ao cs.length cap, .string s, .slice fo fs.length fc, .pointer (some ⟨w.heap.size, 0, none⟩), undef, undef, .pointer (some ⟨w.heap.size + 1, 0, none⟩), .pointer (some ⟨w.heap.size + 1 + 1, 0, none⟩), .pointer (some ⟨w.heap.size + 1 + 1 + 1, 0, none⟩), .pointer (some ⟨w1.heap.size, 0, none⟩), .int .i64 0, .pointer (some ⟨w1.heap.size + 1, 0, none⟩), undef, .pointer (some ⟨Bx, 0, none⟩), undef, .tuple #[.pointer (some ⟨C, 0, none⟩), .int .i64 0], .agg #[.int .i64 L, .int .i64 a, .int .i64 b, .int .i64 c, .int .i64 d], .slice ao cs.length cap, .string s, .tuple #[.pointer (some ⟨C, 0, none⟩), .int .i64 0], .pointer (some ⟨C, 0, none⟩), .int .i64 0, .int .i64 0, .bool false, undef, .agg #[.int .i64 L, .int .i64 a, .int .i64 b, .int .i64 c, .int .i64 d], .func (.func 141) #[] #[.pointer (some ⟨w1.heap.size + 1 + 1, 0, none⟩)], .agg #[.int .i64 x.1.1, .int .i64 x.1.2], .agg (shp L (wav L x.1.1 x.1.2)), undef, undef, undef, undef, undef, undef, undef, undef, undef, undef, undef, undef, undef, undef, undef, undef, undef, undef, undef, undef, undef, undef, undef, undef, undef, undef, undef, undef, undef, undef, undef, undef, undef, undef, undef, undef, undef, undef, undef, undef, undef, undef, undef, undef, undef, undef, undef, undef, undef, undef, undef, undef, undef, undef, undef], defers := [] })
  (fun x a' _ X Y row hs hg hr => by
   obtain ⟨Bx, h1, h2, h3⟩ := hs
   refine ⟨Bx, h1, (hg.block Bx (Array.getElem?_eq_some_iff.1 h2).1 (fun e => ?_)).trans h2, h3⟩
   obtain ⟨_, o, ho, hc⟩ := hr Bx e.symm
   rw [h2] at ho; cases ho; cases hc)
  ?assign ?body ?done ?stop
 case assign =>
  rintro l pre x W K ⟨⟨h1, h2, h3, h4⟩, hB1, hs⟩ hK
  have hst := store_shape (shp L (wav L x.1.1 x.1.2)) Z (by rw [shp_size, wav_length]) hZs shp_mem
  have hVs : (shp L (wav L x.1.1 x.1.2)).size = 65 := by rw [shp_size, wav_length]
  unfold ptV
  generalize shp L (wav L x.1.1 x.1.2) = V at *
  have hne : ¬ V = #[] := by intro h; rw [h] at hVs; simp at hVs
  gi_wp2_with (rw [Oper.semAt_eq _ _ _ (fun c h => by cases h)]; go_simp; try go_bits)
  have hal := (Below.refl W.heap.size W).alloc (Nat.le_refl _) (.cells V 129)
  exact hK _ _ ((KeepsOthers.alloc _ _).from _) (KeepB.of hal (by omega)) ⟨⟨h1.below hal h1.lt, h2.below hal h2.lt, h3, h4⟩, hB1.alloc hB1.size _, by simp; omega⟩ ⟨W.heap.size, by omega, heap_alloc_new _ _, rfl⟩
 case body =>
  rintro l pre x a' W hl ⟨r, hr⟩ ⟨⟨h1, h2, h3, h4⟩, hB, hs⟩ ⟨Bx, hBx, bX, rfl⟩ hlt
  have hfm := fam_true HF.out
  have hlen : pre.length < 400 := by omega
  clear hfm
  have hb0 := HB1.out.trans (hB.mono hs1)
  have k1 := (Q1.out.below hb0 (by omega)).c0
  have k2 := (Q2.out.below hb0 (by omega)).c0
  have k3 := (Q3.out.below hb0 (by omega)).c0
  have f2 := (Q2.out.below hb0 (by omega)).free 0
  have f3 := (Q3.out.below hb0 (by omega)).free 0
  have i1 := h2.c0
  have B2 := Lib.hid (Q2.out.below hb0 (by omega)); have B3 := Lib.hid (Q3.out.below hb0 (by omega))
  have HB := Lib.hid hB; have HH1 := Lib.hid h1; have HH2 := Lib.hid h2; have H4 := Lib.hid h4; have HB0W := Lib.hid hb0
  have l2 : w.heap.size + 1 + 1 < W.heap.size := by omega
  have l3 : w.heap.size + 1 + 1 + 1 < W.heap.size := by omega
  have hbad := prvL_bad (x := x) (fs := fs) h4
  have HBAD := Lib.hid hbad
  clear hbad h1 h2 h4 hb0 hB
  by_cases hge : fs.length <= pre.length
  · have hgi : (fs.length : Int) <= pre.length := by omega
    gi_wp2_with (rw [Oper.semAt_eq _ _ _ (fun c h => by cases h)]; go_simp; try go_bits)
    have hk := ((KeepsOthers.setCell W ⟨w.heap.size + 1 + 1, 0, none⟩ (.bool false)).trans (KeepsOthers.setCell _ ⟨w.heap.size + 1 + 1 + 1, 0, none⟩ (.int .i64 0)))
    have v2 : Blk ((W.setCell ⟨w.heap.size + 1 + 1, 0, none⟩ (.bool false)).setCell ⟨w.heap.size + 1 + 1 + 1, 0, none⟩ (.int .i64 0)) (w.heap.size + 1 + 1) 4 #[.bool false] := (B2.out.set0 _).other (by omega) _ _
    have v3 : Blk ((W.setCell ⟨w.heap.size + 1 + 1, 0, none⟩ (.bool false)).setCell ⟨w.heap.size + 1 + 1 + 1, 0, none⟩ (.int .i64 0)) (w.heap.size + 1 + 1 + 1) 35 #[.int .i64 0] := (B3.out.other (by omega) _ _).set0 _
    have hbb : Below w.heap.size W ((W.setCell ⟨w.heap.size + 1 + 1, 0, none⟩ (.bool false)).setCell ⟨w.heap.size + 1 + 1 + 1, 0, none⟩ (.int .i64 0)) := ((Below.refl _ W).setCell (p := ⟨w.heap.size + 1 + 1, 0, none⟩) (by show w.heap.size <= w.heap.size + 1 + 1; omega) _).setCell (p := ⟨w.heap.size + 1 + 1 + 1, 0, none⟩) (by show w.heap.size <= w.heap.size + 1 + 1 + 1; omega) _
    exact ⟨hk.from _, ⟨rfl, HBAD.out (.inl hge), v2.c0, v3.c0⟩, (HBW.out.trans (HB.out.mono (by omega))).trans hbb⟩
  · obtain ⟨⟨fi, fj⟩, hfx⟩ := get_of_lt (show pre.length < fs.length by omega)
    obtain ⟨fb, fof, rfl⟩ := HFC.out.addr (prs_ne (by omega))
    have e1 := cell_keep ((HFC.out.below HB1.out (Nat.le_refl _)).at (prs_fst hfx)) HB.out (Nat.le_refl _)
    have e2 := cell_keep ((HFC.out.below HB1.out (Nat.le_refl _)).at (prs_snd hfx)) HB.out (Nat.le_refl _)
    rw [<- Nat.add_assoc] at e2
    simp only at e1 e2
    have hlt2 : (pre.length : Int) < fs.length := by omega
    have HFX := Lib.hid hfx
    clear hfx
    gi_wp2_with (rw [Oper.semAt_eq _ _ _ (fun c h => by cases h)]; go_simp; try go_bits)
    have hfm := fam_true HF.out
    have hcell : ∀ j v, (#[Value.int .i64 L, .int .i64 a, .int .i64 b, .int .i64 c, .int .i64 d, .slice bo cs.length cb, .int .i64 N, .int .i64 D] : Array Value)[j]? = some v -> w1.cell? ⟨C, j, none⟩ = some v := fun j v hv => (cell_of_row w1 _ j _ _ _ HCC.out).trans hv
    have hal : Below W.heap.size W (W.alloc (.cells #[.int .i64 fi, .int .i64 fj] 182)).drew := bel_drewN ((Below.refl _ _).alloc (Nat.le_refl _) _) 1
    have hB9 := HB.out.trans (hal.mono HB.out.size)
    have hbx9 : (W.alloc (.cells #[.int .i64 fi, .int .i64 fj] 182)).drew.heap[W.heap.size]? = some (.cells #[.int .i64 fi, .int .i64 fj] 182 (0, 0)) := heap_alloc_new W _
    generalize hVV : shp L (wav L x.1.1 x.1.2) = V at *
    have h9 : (fun w' : World => w'.cell? ⟨W.heap.size, 0, none⟩ = some (.int .i64 fi) /\ w'.cell? ⟨W.heap.size, 1, none⟩ = some (.int .i64 fj) /\ w'.cell? ⟨w1.heap.size, 0, none⟩ = some (.pointer (some ⟨C, 0, none⟩)) /\ w'.cell? ⟨C, 5, none⟩ = some (.slice bo cs.length cb) /\ w'.cell? ⟨C, 6, none⟩ = some (.int .i64 N) /\ w'.cell? ⟨C, 7, none⟩ = some (.int .i64 D) /\ w'.cell? ⟨w.heap.size, 0, none⟩ = some (.int .i64 L) /\ w'.heap[Bx]? = some (.cells V 129 (0, 0)) /\ Cells w' bo (shpL L (wvs L cs))) (W.alloc (.cells #[.int .i64 fi, .int .i64 fj] 182)).drew :=
     ⟨(cell_of_row _ _ 0 _ _ _ hbx9).trans rfl, (cell_of_row _ _ 1 _ _ _ hbx9).trans rfl, (HH1.out.below hal HH1.out.lt).c0, cell_keep (hcell 5 _ rfl) hB9 (Nat.le_refl _), cell_keep (hcell 6 _ rfl) hB9 (Nat.le_refl _), cell_keep (hcell 7 _ rfl) hB9 (Nat.le_refl _), cell_keep ((Q0.out.below HB1.out (by omega)).c0) hB9 (Nat.le_refl _), (hal.block _ (Array.getElem?_eq_some_iff.1 bX).1).trans bX, HCS.out.below hB9 (Nat.le_refl _)⟩
    have HVV := Lib.hid hVV
    have hl64 : cs.length <= 64 := by
     have h := HBK.out
     simp only [bankOK, Bool.and_eq_true, decide_eq_true_eq] at h
     exact h.1.1
    have hwi := fun W => bwithin_any fi 0 ((cs.length : Nat) - 1) W
    have HAL := Lib.hid hal
    clear hcell hbx9 hVV bX hal
    cases hin1 : inB 0 fi ((cs.length : Nat) - 1) with
    | false =>
      rw [hin1] at hwi
      have HWI := Lib.hid hwi; have HIN1 := Lib.hid hin1
      clear hwi hin1
      refine wpIn_region_round (S := fun w' : World => w'.cell? ⟨W.heap.size, 0, none⟩ = some (.int .i64 fi) /\ w'.cell? ⟨W.heap.size, 1, none⟩ = some (.int .i64 fj) /\ w'.cell? ⟨w1.heap.size, 0, none⟩ = some (.pointer (some ⟨C, 0, none⟩)) /\ w'.cell? ⟨C, 5, none⟩ = some (.slice bo cs.length cb) /\ w'.cell? ⟨C, 6, none⟩ = some (.int .i64 N) /\ w'.cell? ⟨C, 7, none⟩ = some (.int .i64 D) /\ w'.cell? ⟨w.heap.size, 0, none⟩ = some (.int .i64 L) /\ w'.heap[Bx]? = some (.cells V 129 (0, 0)) /\ Cells w' bo (shpL L (wvs L cs))) (by kernel_rfl) (by kernel_rfl) (fun ⟨_, _, h⟩ => h) h9 (fun hHeld => ?_)
      refine tkV 0 (.pointer (some ⟨W.heap.size, 0, none⟩)) hHeld ?_
      refine tkV 1 (.int .i64 fi) hHeld ?_
      refine tkV 2 (.pointer (some ⟨C, 0, none⟩)) hHeld ?_
      refine tkV 3 (.pointer (some ⟨C, 0, none⟩)) hHeld ?_
      refine tkV 4 (.pointer (some ⟨C, 5, none⟩)) hHeld ?_
      refine tkV 5 (.slice bo cs.length cb) hHeld ?_
      refine tkV 6 (.int .i64 (cs.length : Nat)) hHeld ?_
      refine tkV 7 (.int .i64 ((cs.length : Nat) - 1)) hHeld ?_
      refine tkC 8 (fun K hK => ?_)
      go_simp
      refine (HWI.out _).mono ?_
      rintro e w9 ⟨rfl, rfl⟩
      refine hK.out _ _ h9 (fun _ => ?_)
      clear hK K
      try simp only [Act.put, List.setIfInBounds_toArray, List.set_cons_zero, List.set_cons_succ]
      refine tkV 9 (.bool true) h9 ?_
      refine tkV 10 (.bool true) h9 ?_
      refine tkS 11 h9 ?_
      refine tkS 12 h9 ?_
      refine tkS 13 h9 ?_
      refine tkS 14 h9 ?_
      refine tkS 15 h9 ?_
      refine tkS 16 h9 ?_
      refine tkS 17 h9 ?_
      refine tkS 18 h9 ?_
      refine tkS 19 h9 ?_
      refine tkS 20 h9 ?_
      refine tkV 21 (.bool true) h9 ?_
      refine tkV 22 (.bool true) h9 ?_
      refine tkS 23 h9 ?_
      refine tkS 24 h9 ?_
      refine tkS 25 h9 ?_
      refine tkS 26 h9 ?_
      refine tkS 27 h9 ?_
      refine tkS 28 h9 ?_
      refine tkS 29 h9 ?_
      refine tkS 30 h9 ?_
      refine tkS 31 h9 ?_
      refine tkS 32 h9 ?_
      refine tkS 33 h9 ?_
      refine tkS 34 h9 ?_
      refine tkS 35 h9 ?_
      refine tkS 36 h9 ?_
      refine tkS 37 h9 ?_
      refine tkS 38 h9 ?_
      refine tkS 39 h9 ?_
      refine tkV 40 (.bool true) h9 ?_
      refine wpAnyH_done (by kernel_rfl) ?_ _
      have hn := HAL.out
      clear h9 hHeld
      generalize (W.alloc (.cells #[.int .i64 fi, .int .i64 fj] 182)).drew = WN at *
      have kk2 := (B2.out.below hn l2).c0
      have kk3 := (B3.out.below hn l3).c0
      have ff2 := (B2.out.below hn l2).free 0
      have ff3 := (B3.out.below hn l3).free 0
      have HN := Lib.hid hn
      clear hn
      gi_wp2_with (rw [Oper.semAt_eq _ _ _ (fun c h => by cases h)]; go_simp; try go_bits)
      have hk := (keepsOthers_below HN.out).trans ((KeepsOthers.setCell (WN) ⟨w.heap.size + 1 + 1, 0, none⟩ (.bool false)).trans (KeepsOthers.setCell _ ⟨w.heap.size + 1 + 1 + 1, 0, none⟩ (.int .i64 0)))
      have v2 : Blk (((WN).setCell ⟨w.heap.size + 1 + 1, 0, none⟩ (.bool false)).setCell ⟨w.heap.size + 1 + 1 + 1, 0, none⟩ (.int .i64 0)) (w.heap.size + 1 + 1) 4 #[.bool false] := ((B2.out.below HN.out l2).set0 _).other (by omega) _ _
      have v3 : Blk (((WN).setCell ⟨w.heap.size + 1 + 1, 0, none⟩ (.bool false)).setCell ⟨w.heap.size + 1 + 1 + 1, 0, none⟩ (.int .i64 0)) (w.heap.size + 1 + 1 + 1) 35 #[.int .i64 0] := ((B3.out.below HN.out l3).other (by omega) _ _).set0 _
      have hbb : Below w.heap.size (WN) (((WN).setCell ⟨w.heap.size + 1 + 1, 0, none⟩ (.bool false)).setCell ⟨w.heap.size + 1 + 1 + 1, 0, none⟩ (.int .i64 0)) := ((Below.refl _ _).setCell (p := ⟨w.heap.size + 1 + 1, 0, none⟩) (by show w.heap.size <= w.heap.size + 1 + 1; omega) _).setCell (p := ⟨w.heap.size + 1 + 1 + 1, 0, none⟩) (by show w.heap.size <= w.heap.size + 1 + 1 + 1; omega) _
      exact ⟨hk.from _, ⟨rfl, HBAD.out (.inr ⟨_, HFX.out, by unfold prvI; simp only [show (wvs L cs).length = cs.length by simp [wvs], HIN1.out, Bool.false_and]⟩), v2.c0, v3.c0⟩, (HBW.out.trans ((HB.out.mono (by omega)).trans (HN.out.mono (by omega)))).trans hbb⟩
    | true =>
      rw [hin1] at hwi
      have HWI := Lib.hid hwi; have HIN1 := Lib.hid hin1
      have hwj := fun W => bwithin_any fj (1 - L) (L - 1) W
      clear hwi hin1
      cases hin2 : inB (1 - L) fj (L - 1) with
      | false =>
        rw [hin2] at hwj
        have HWJ := Lib.hid hwj; have HIN2 := Lib.hid hin2
        clear hwj hin2
        refine wpIn_region_round (S := fun w' : World => w'.cell? ⟨W.heap.size, 0, none⟩ = some (.int .i64 fi) /\ w'.cell? ⟨W.heap.size, 1, none⟩ = some (.int .i64 fj) /\ w'.cell? ⟨w1.heap.size, 0, none⟩ = some (.pointer (some ⟨C, 0, none⟩)) /\ w'.cell? ⟨C, 5, none⟩ = some (.slice bo cs.length cb) /\ w'.cell? ⟨C, 6, none⟩ = some (.int .i64 N) /\ w'.cell? ⟨C, 7, none⟩ = some (.int .i64 D) /\ w'.cell? ⟨w.heap.size, 0, none⟩ = some (.int .i64 L) /\ w'.heap[Bx]? = some (.cells V 129 (0, 0)) /\ Cells w' bo (shpL L (wvs L cs))) (by kernel_rfl) (by kernel_rfl) (fun ⟨_, _, h⟩ => h) h9 (fun hHeld => ?_)
        refine tkV 0 (.pointer (some ⟨W.heap.size, 0, none⟩)) hHeld ?_
        refine tkV 1 (.int .i64 fi) hHeld ?_
        refine tkV 2 (.pointer (some ⟨C, 0, none⟩)) hHeld ?_
        refine tkV 3 (.pointer (some ⟨C, 0, none⟩)) hHeld ?_
        refine tkV 4 (.pointer (some ⟨C, 5, none⟩)) hHeld ?_
        refine tkV 5 (.slice bo cs.length cb) hHeld ?_
        refine tkV 6 (.int .i64 (cs.length : Nat)) hHeld ?_
        refine tkV 7 (.int .i64 ((cs.length : Nat) - 1)) hHeld ?_
        refine tkC 8 (fun K hK => ?_)
        go_simp
        refine (HWI.out _).mono ?_
        rintro e w9 ⟨rfl, rfl⟩
        refine hK.out _ _ h9 (fun _ => ?_)
        clear hK K
        try simp only [Act.put, List.setIfInBounds_toArray, List.set_cons_zero, List.set_cons_succ]
        refine tkV 9 (.bool false) h9 ?_
        refine tkV 10 (.bool false) h9 ?_
        refine tkV 11 (.pointer (some ⟨W.heap.size, 1, none⟩)) h9 ?_
        refine tkV 12 (.int .i64 fj) h9 ?_
        refine tkV 13 (.pointer (some ⟨w.heap.size, 0, none⟩)) h9 ?_
        refine tkV 14 (.int .i64 L) h9 ?_
        refine tkV 15 (.int .i64 (1 - L)) h9 ?_
        refine tkV 16 (.pointer (some ⟨w.heap.size, 0, none⟩)) h9 ?_
        refine tkV 17 (.int .i64 L) h9 ?_
        refine tkV 18 (.int .i64 (L - 1)) h9 ?_
        refine tkC 19 (fun K hK => ?_)
        go_simp
        refine (HWJ.out _).mono ?_
        rintro e w9 ⟨rfl, rfl⟩
        refine hK.out _ _ h9 (fun _ => ?_)
        clear hK K
        try simp only [Act.put, List.setIfInBounds_toArray, List.set_cons_zero, List.set_cons_succ]
        refine tkV 20 (.bool true) h9 ?_
        refine tkV 21 (.bool true) h9 ?_
        refine tkV 22 (.bool true) h9 ?_
        refine tkS 23 h9 ?_
        refine tkS 24 h9 ?_
        refine tkS 25 h9 ?_
        refine tkS 26 h9 ?_
        refine tkS 27 h9 ?_
        refine tkS 28 h9 ?_
        refine tkS 29 h9 ?_
        refine tkS 30 h9 ?_
        refine tkS 31 h9 ?_
        refine tkS 32 h9 ?_
        refine tkS 33 h9 ?_
        refine tkS 34 h9 ?_
        refine tkS 35 h9 ?_
        refine tkS 36 h9 ?_
        refine tkS 37 h9 ?_
        refine tkS 38 h9 ?_
        refine tkS 39 h9 ?_
        refine tkV 40 (.bool true) h9 ?_
        refine wpAnyH_done (by kernel_rfl) ?_ _
        have hn := HAL.out
        clear h9 hHeld
        generalize (W.alloc (.cells #[.int .i64 fi, .int .i64 fj] 182)).drew = WN at *
        have kk2 := (B2.out.below hn l2).c0
        have kk3 := (B3.out.below hn l3).c0
        have ff2 := (B2.out.below hn l2).free 0
        have ff3 := (B3.out.below hn l3).free 0
        have HN := Lib.hid hn
        clear hn
        gi_wp2_with (rw [Oper.semAt_eq _ _ _ (fun c h => by cases h)]; go_simp; try go_bits)
        have hk := (keepsOthers_below HN.out).trans ((KeepsOthers.setCell (WN) ⟨w.heap.size + 1 + 1, 0, none⟩ (.bool false)).trans (KeepsOthers.setCell _ ⟨w.heap.size + 1 + 1 + 1, 0, none⟩ (.int .i64 0)))
        have v2 : Blk (((WN).setCell ⟨w.heap.size + 1 + 1, 0, none⟩ (.bool false)).setCell ⟨w.heap.size + 1 + 1 + 1, 0, none⟩ (.int .i64 0)) (w.heap.size + 1 + 1) 4 #[.bool false] := ((B2.out.below HN.out l2).set0 _).other (by omega) _ _
        have v3 : Blk (((WN).setCell ⟨w.heap.size + 1 + 1, 0, none⟩ (.bool false)).setCell ⟨w.heap.size + 1 + 1 + 1, 0, none⟩ (.int .i64 0)) (w.heap.size + 1 + 1 + 1) 35 #[.int .i64 0] := ((B3.out.below HN.out l3).other (by omega) _ _).set0 _
        have hbb : Below w.heap.size (WN) (((WN).setCell ⟨w.heap.size + 1 + 1, 0, none⟩ (.bool false)).setCell ⟨w.heap.size + 1 + 1 + 1, 0, none⟩ (.int .i64 0)) := ((Below.refl _ _).setCell (p := ⟨w.heap.size + 1 + 1, 0, none⟩) (by show w.heap.size <= w.heap.size + 1 + 1; omega) _).setCell (p := ⟨w.heap.size + 1 + 1 + 1, 0, none⟩) (by show w.heap.size <= w.heap.size + 1 + 1 + 1; omega) _
        exact ⟨hk.from _, ⟨rfl, HBAD.out (.inr ⟨_, HFX.out, by unfold prvI; simp only [show (wvs L cs).length = cs.length by simp [wvs], HIN1.out, HIN2.out, Bool.and_false, Bool.false_and]⟩), v2.c0, v3.c0⟩, (HBW.out.trans ((HB.out.mono (by omega)).trans (HN.out.mono (by omega)))).trans hbb⟩
      | true =>
        rw [hin2] at hwj
        have HWJ := Lib.hid hwj; have HIN2 := Lib.hid hin2
        have hfr : 0 <= fi /\ fi < cs.length := by have h := HIN1.out; simp only [inB, decide_eq_true_eq] at h; omega
        have hjr : -1000 <= fj /\ fj <= 1000 := by simp only [inB, decide_eq_true_eq] at hin2; omega
        have hwl : (wvs L cs).length = cs.length := by simp [wvs]
        obtain ⟨y, hy⟩ := get_of_lt (show fi.toNat < (wvs L cs).length by omega)
        obtain ⟨hy64, hybd⟩ := wvs_bd L cs y (List.mem_of_getElem? hy)
        have hget := fun (j : Nat) (v : Value) (hv : (shp L y)[j]? = some v) => shpL_get (fun z hz => (wvs_bd L cs z hz).1) hy hv
        obtain ⟨bob, boo, rfl⟩ := HCS.out.addr (by intro h; have h0 := hget 0 (.int .i64 L) rfl; rw [h] at h0; simp at h0)
        obtain ⟨_, _, hNb, hDb, _, _⟩ := barS_some HBS.out
        have hrc := fun W => reaches_any (N : Int) (D : Int) L (wav L x.1.1 x.1.2) y fj W (wav_length _ _ _) hy64 (by omega) (by omega) (wav_bd _ _ _) hybd hjr.1 hjr.2 (by omega) (by omega) (by omega) (by omega)
        have hiv2 : (Tryz.prog.info? 129).map (·.size) = some (shp L y).size := by rw [shp_size, hy64]; kernel_rfl
        have hiv : (Tryz.prog.info? 129).map (·.size) = some V.size := by rw [<- HVV.out, shp_size, wav_length]; kernel_rfl
        rw [HVV.out] at hrc
        have hgd : (wvs L cs).getD fi.toNat [] = y := by rw [List.getD_eq_getElem?_getD, hy]; rfl
        generalize shp L y = V2 at hget hrc hiv2
        have HGET := Lib.hid hget; have HIV := Lib.hid hiv; have HIV2 := Lib.hid hiv2; have HGD := Lib.hid hgd
        have f0 := hfr.1; have f1 := hfr.2
        clear hwj hin2 hget hiv hiv2 hgd hy hwl hy64 hybd hNb hDb hjr hfr
        cases hrb : rchB N D (wav L x.1.1 x.1.2) y L fj with
        | false =>
          rw [hrb] at hrc
          have HRC := Lib.hid hrc; have HRB := Lib.hid hrb
          clear hrc hrb
          refine wpIn_region_round (S := fun w' : World => w'.cell? ⟨W.heap.size, 0, none⟩ = some (.int .i64 fi) /\ w'.cell? ⟨W.heap.size, 1, none⟩ = some (.int .i64 fj) /\ w'.cell? ⟨w1.heap.size, 0, none⟩ = some (.pointer (some ⟨C, 0, none⟩)) /\ w'.cell? ⟨C, 5, none⟩ = some (.slice (some ⟨bob, boo, none⟩) cs.length cb) /\ w'.cell? ⟨C, 6, none⟩ = some (.int .i64 N) /\ w'.cell? ⟨C, 7, none⟩ = some (.int .i64 D) /\ w'.cell? ⟨w.heap.size, 0, none⟩ = some (.int .i64 L) /\ w'.heap[Bx]? = some (.cells V 129 (0, 0)) /\ Cells w' (some ⟨bob, boo, none⟩) (shpL L (wvs L cs))) (by kernel_rfl) (by kernel_rfl) (fun ⟨_, _, h⟩ => h) h9 (fun hHeld => ?_)
          refine tkV 0 (.pointer (some ⟨W.heap.size, 0, none⟩)) hHeld ?_
          refine tkV 1 (.int .i64 fi) hHeld ?_
          refine tkV 2 (.pointer (some ⟨C, 0, none⟩)) hHeld ?_
          refine tkV 3 (.pointer (some ⟨C, 0, none⟩)) hHeld ?_
          refine tkV 4 (.pointer (some ⟨C, 5, none⟩)) hHeld ?_
          refine tkV 5 (.slice (some ⟨bob, boo, none⟩) cs.length cb) hHeld ?_
          refine tkV 6 (.int .i64 (cs.length : Nat)) hHeld ?_
          refine tkV 7 (.int .i64 ((cs.length : Nat) - 1)) hHeld ?_
          refine tkC 8 (fun K hK => ?_)
          go_simp
          refine (HWI.out _).mono ?_
          rintro e w9 ⟨rfl, rfl⟩
          refine hK.out _ _ h9 (fun _ => ?_)
          clear hK K
          try simp only [Act.put, List.setIfInBounds_toArray, List.set_cons_zero, List.set_cons_succ]
          refine tkV 9 (.bool false) h9 ?_
          refine tkV 10 (.bool false) h9 ?_
          refine tkV 11 (.pointer (some ⟨W.heap.size, 1, none⟩)) h9 ?_
          refine tkV 12 (.int .i64 fj) h9 ?_
          refine tkV 13 (.pointer (some ⟨w.heap.size, 0, none⟩)) h9 ?_
          refine tkV 14 (.int .i64 L) h9 ?_
          refine tkV 15 (.int .i64 (1 - L)) h9 ?_
          refine tkV 16 (.pointer (some ⟨w.heap.size, 0, none⟩)) h9 ?_
          refine tkV 17 (.int .i64 L) h9 ?_
          refine tkV 18 (.int .i64 (L - 1)) h9 ?_
          refine tkC 19 (fun K hK => ?_)
          go_simp
          refine (HWJ.out _).mono ?_
          rintro e w9 ⟨rfl, rfl⟩
          refine hK.out _ _ h9 (fun _ => ?_)
          clear hK K
          try simp only [Act.put, List.setIfInBounds_toArray, List.set_cons_zero, List.set_cons_succ]
          refine tkV 20 (.bool false) h9 ?_
          refine tkV 21 (.bool false) h9 ?_
          refine tkV 22 (.bool false) h9 ?_
          refine tkV 23 (.pointer (some ⟨C, 0, none⟩)) h9 ?_
          refine tkV 24 (.pointer (some ⟨C, 0, none⟩)) h9 ?_
          refine tkV 25 (.pointer (some ⟨C, 6, none⟩)) h9 ?_
          refine tkV 26 (.agg #[.int .i64 N, .int .i64 D]) h9 ?_
          refine tkV 27 (.agg V) h9 ?_ (hy := by intro w9 h; exact exec_load_row 129 _ rfl Bx rfl 129 V (0, 0) _ h.2.2.2.2.2.2.2.1 Tryz.underlying129 (by rfl) HIV.out)
          refine tkV 28 (.pointer (some ⟨C, 0, none⟩)) h9 ?_
          refine tkV 29 (.pointer (some ⟨C, 0, none⟩)) h9 ?_
          refine tkV 30 (.pointer (some ⟨C, 5, none⟩)) h9 ?_
          refine tkV 31 (.slice (some ⟨bob, boo, none⟩) cs.length cb) h9 ?_
          refine tkV 32 (.pointer (some ⟨W.heap.size, 0, none⟩)) h9 ?_
          refine tkV 33 (.int .i64 fi) h9 ?_
          refine tkV 34 (.pointer (some ⟨bob, boo + fi.toNat * 65, none⟩)) h9 ?_
          refine tkV 35 (.agg V2) h9 ?_ (hy := by intro w9 h; exact exec_load_arr 129 _ rfl ⟨bob, boo + fi.toNat * 65, none⟩ rfl V2 _ (fun j v hv => by rw [add_none, Nat.add_assoc]; exact h.2.2.2.2.2.2.2.2.at (HGET.out j v hv)) Tryz.underlying129 (by rfl) HIV2.out)
          refine tkV 36 (.pointer (some ⟨W.heap.size, 1, none⟩)) h9 ?_
          refine tkV 37 (.int .i64 fj) h9 ?_
          refine tkC 38 (fun K hK => ?_)
          go_simp
          refine (HRC.out _).mono ?_
          rintro e w10 ⟨rfl, hb10⟩
          have h10 : (fun w' : World => w'.cell? ⟨W.heap.size, 0, none⟩ = some (.int .i64 fi) /\ w'.cell? ⟨W.heap.size, 1, none⟩ = some (.int .i64 fj) /\ w'.cell? ⟨w1.heap.size, 0, none⟩ = some (.pointer (some ⟨C, 0, none⟩)) /\ w'.cell? ⟨C, 5, none⟩ = some (.slice (some ⟨bob, boo, none⟩) cs.length cb) /\ w'.cell? ⟨C, 6, none⟩ = some (.int .i64 N) /\ w'.cell? ⟨C, 7, none⟩ = some (.int .i64 D) /\ w'.cell? ⟨w.heap.size, 0, none⟩ = some (.int .i64 L) /\ w'.heap[Bx]? = some (.cells V 129 (0, 0)) /\ Cells w' (some ⟨bob, boo, none⟩) (shpL L (wvs L cs))) w10 := by
           obtain ⟨FC1, FC2, FC3, FC4, FC5, FC6, FC7, FC8, FC9⟩ := h9
           exact ⟨cell_keep FC1 hb10 (Nat.le_refl _), cell_keep FC2 hb10 (Nat.le_refl _), cell_keep FC3 hb10 (Nat.le_refl _), cell_keep FC4 hb10 (Nat.le_refl _), cell_keep FC5 hb10 (Nat.le_refl _), cell_keep FC6 hb10 (Nat.le_refl _), cell_keep FC7 hb10 (Nat.le_refl _), (hb10.block _ (Array.getElem?_eq_some_iff.1 FC8).1).trans FC8, FC9.below hb10 (Nat.le_refl _)⟩
          have HN := Lib.hid (HAL.out.trans (hb10.mono HAL.out.size))
          refine hK.out _ _ h10 (fun _ => ?_)
          clear hK K hb10
          try simp only [Act.put, List.setIfInBounds_toArray, List.set_cons_zero, List.set_cons_succ]
          refine tkV 39 (.bool true) h10 ?_
          refine tkV 40 (.bool true) h10 ?_
          refine wpAnyH_done (by kernel_rfl) ?_ _
          clear h10 h9 hHeld
          have kk2 := (B2.out.below HN.out l2).c0
          have kk3 := (B3.out.below HN.out l3).c0
          have ff2 := (B2.out.below HN.out l2).free 0
          have ff3 := (B3.out.below HN.out l3).free 0
          gi_wp2_with (rw [Oper.semAt_eq _ _ _ (fun c h => by cases h)]; go_simp; try go_bits)
          have hk := (keepsOthers_below HN.out).trans ((KeepsOthers.setCell (w10) ⟨w.heap.size + 1 + 1, 0, none⟩ (.bool false)).trans (KeepsOthers.setCell _ ⟨w.heap.size + 1 + 1 + 1, 0, none⟩ (.int .i64 0)))
          have v2 : Blk (((w10).setCell ⟨w.heap.size + 1 + 1, 0, none⟩ (.bool false)).setCell ⟨w.heap.size + 1 + 1 + 1, 0, none⟩ (.int .i64 0)) (w.heap.size + 1 + 1) 4 #[.bool false] := ((B2.out.below HN.out l2).set0 _).other (by omega) _ _
          have v3 : Blk (((w10).setCell ⟨w.heap.size + 1 + 1, 0, none⟩ (.bool false)).setCell ⟨w.heap.size + 1 + 1 + 1, 0, none⟩ (.int .i64 0)) (w.heap.size + 1 + 1 + 1) 35 #[.int .i64 0] := ((B3.out.below HN.out l3).other (by omega) _ _).set0 _
          have hbb : Below w.heap.size (w10) (((w10).setCell ⟨w.heap.size + 1 + 1, 0, none⟩ (.bool false)).setCell ⟨w.heap.size + 1 + 1 + 1, 0, none⟩ (.int .i64 0)) := ((Below.refl _ _).setCell (p := ⟨w.heap.size + 1 + 1, 0, none⟩) (by show w.heap.size <= w.heap.size + 1 + 1; omega) _).setCell (p := ⟨w.heap.size + 1 + 1 + 1, 0, none⟩) (by show w.heap.size <= w.heap.size + 1 + 1 + 1; omega) _
          exact ⟨hk.from _, ⟨rfl, HBAD.out (.inr ⟨_, HFX.out, by unfold prvI; simp only [show (wvs L cs).length = cs.length by simp [wvs], HGD.out, HRB.out, Bool.and_false]⟩), v2.c0, v3.c0⟩, (HBW.out.trans ((HB.out.mono (by omega)).trans (HN.out.mono (by omega)))).trans hbb⟩
        | true =>
          rw [hrb] at hrc
          have HRC := Lib.hid hrc; have HRB := Lib.hid hrb
          clear hrc hrb
          refine wpIn_region_round (S := fun w' : World => w'.cell? ⟨W.heap.size, 0, none⟩ = some (.int .i64 fi) /\ w'.cell? ⟨W.heap.size, 1, none⟩ = some (.int .i64 fj) /\ w'.cell? ⟨w1.heap.size, 0, none⟩ = some (.pointer (some ⟨C, 0, none⟩)) /\ w'.cell? ⟨C, 5, none⟩ = some (.slice (some ⟨bob, boo, none⟩) cs.length cb) /\ w'.cell? ⟨C, 6, none⟩ = some (.int .i64 N) /\ w'.cell? ⟨C, 7, none⟩ = some (.int .i64 D) /\ w'.cell? ⟨w.heap.size, 0, none⟩ = some (.int .i64 L) /\ w'.heap[Bx]? = some (.cells V 129 (0, 0)) /\ Cells w' (some ⟨bob, boo, none⟩) (shpL L (wvs L cs))) (by kernel_rfl) (by kernel_rfl) (fun ⟨_, _, h⟩ => h) h9 (fun hHeld => ?_)
          refine tkV 0 (.pointer (some ⟨W.heap.size, 0, none⟩)) hHeld ?_
          refine tkV 1 (.int .i64 fi) hHeld ?_
          refine tkV 2 (.pointer (some ⟨C, 0, none⟩)) hHeld ?_
          refine tkV 3 (.pointer (some ⟨C, 0, none⟩)) hHeld ?_
          refine tkV 4 (.pointer (some ⟨C, 5, none⟩)) hHeld ?_
          refine tkV 5 (.slice (some ⟨bob, boo, none⟩) cs.length cb) hHeld ?_
          refine tkV 6 (.int .i64 (cs.length : Nat)) hHeld ?_
          refine tkV 7 (.int .i64 ((cs.length : Nat) - 1)) hHeld ?_
          refine tkC 8 (fun K hK => ?_)
          go_simp
          refine (HWI.out _).mono ?_
          rintro e w9 ⟨rfl, rfl⟩
          refine hK.out _ _ h9 (fun _ => ?_)
          clear hK K
          try simp only [Act.put, List.setIfInBounds_toArray, List.set_cons_zero, List.set_cons_succ]
          refine tkV 9 (.bool false) h9 ?_
          refine tkV 10 (.bool false) h9 ?_
          refine tkV 11 (.pointer (some ⟨W.heap.size, 1, none⟩)) h9 ?_
          refine tkV 12 (.int .i64 fj) h9 ?_
          refine tkV 13 (.pointer (some ⟨w.heap.size, 0, none⟩)) h9 ?_
          refine tkV 14 (.int .i64 L) h9 ?_
          refine tkV 15 (.int .i64 (1 - L)) h9 ?_
          refine tkV 16 (.pointer (some ⟨w.heap.size, 0, none⟩)) h9 ?_
          refine tkV 17 (.int .i64 L) h9 ?_
          refine tkV 18 (.int .i64 (L - 1)) h9 ?_
          refine tkC 19 (fun K hK => ?_)
          go_simp
          refine (HWJ.out _).mono ?_
          rintro e w9 ⟨rfl, rfl⟩
          refine hK.out _ _ h9 (fun _ => ?_)
          clear hK K
          try simp only [Act.put, List.setIfInBounds_toArray, List.set_cons_zero, List.set_cons_succ]
          refine tkV 20 (.bool false) h9 ?_
          refine tkV 21 (.bool false) h9 ?_
          refine tkV 22 (.bool false) h9 ?_
          refine tkV 23 (.pointer (some ⟨C, 0, none⟩)) h9 ?_
          refine tkV 24 (.pointer (some ⟨C, 0, none⟩)) h9 ?_
          refine tkV 25 (.pointer (some ⟨C, 6, none⟩)) h9 ?_
          refine tkV 26 (.agg #[.int .i64 N, .int .i64 D]) h9 ?_
          refine tkV 27 (.agg V) h9 ?_ (hy := by intro w9 h; exact exec_load_row 129 _ rfl Bx rfl 129 V (0, 0) _ h.2.2.2.2.2.2.2.1 Tryz.underlying129 (by rfl) HIV.out)
          refine tkV 28 (.pointer (some ⟨C, 0, none⟩)) h9 ?_
          refine tkV 29 (.pointer (some ⟨C, 0, none⟩)) h9 ?_
          refine tkV 30 (.pointer (some ⟨C, 5, none⟩)) h9 ?_
          refine tkV 31 (.slice (some ⟨bob, boo, none⟩) cs.length cb) h9 ?_
          refine tkV 32 (.pointer (some ⟨W.heap.size, 0, none⟩)) h9 ?_
          refine tkV 33 (.int .i64 fi) h9 ?_
          refine tkV 34 (.pointer (some ⟨bob, boo + fi.toNat * 65, none⟩)) h9 ?_
          refine tkV 35 (.agg V2) h9 ?_ (hy := by intro w9 h; exact exec_load_arr 129 _ rfl ⟨bob, boo + fi.toNat * 65, none⟩ rfl V2 _ (fun j v hv => by rw [add_none, Nat.add_assoc]; exact h.2.2.2.2.2.2.2.2.at (HGET.out j v hv)) Tryz.underlying129 (by rfl) HIV2.out)
          refine tkV 36 (.pointer (some ⟨W.heap.size, 1, none⟩)) h9 ?_
          refine tkV 37 (.int .i64 fj) h9 ?_
          refine tkC 38 (fun K hK => ?_)
          go_simp
          refine (HRC.out _).mono ?_
          rintro e w10 ⟨rfl, hb10⟩
          have h10 : (fun w' : World => w'.cell? ⟨W.heap.size, 0, none⟩ = some (.int .i64 fi) /\ w'.cell? ⟨W.heap.size, 1, none⟩ = some (.int .i64 fj) /\ w'.cell? ⟨w1.heap.size, 0, none⟩ = some (.pointer (some ⟨C, 0, none⟩)) /\ w'.cell? ⟨C, 5, none⟩ = some (.slice (some ⟨bob, boo, none⟩) cs.length cb) /\ w'.cell? ⟨C, 6, none⟩ = some (.int .i64 N) /\ w'.cell? ⟨C, 7, none⟩ = some (.int .i64 D) /\ w'.cell? ⟨w.heap.size, 0, none⟩ = some (.int .i64 L) /\ w'.heap[Bx]? = some (.cells V 129 (0, 0)) /\ Cells w' (some ⟨bob, boo, none⟩) (shpL L (wvs L cs))) w10 := by
           obtain ⟨FC1, FC2, FC3, FC4, FC5, FC6, FC7, FC8, FC9⟩ := h9
           exact ⟨cell_keep FC1 hb10 (Nat.le_refl _), cell_keep FC2 hb10 (Nat.le_refl _), cell_keep FC3 hb10 (Nat.le_refl _), cell_keep FC4 hb10 (Nat.le_refl _), cell_keep FC5 hb10 (Nat.le_refl _), cell_keep FC6 hb10 (Nat.le_refl _), cell_keep FC7 hb10 (Nat.le_refl _), (hb10.block _ (Array.getElem?_eq_some_iff.1 FC8).1).trans FC8, FC9.below hb10 (Nat.le_refl _)⟩
          have HN := Lib.hid (HAL.out.trans (hb10.mono HAL.out.size))
          refine hK.out _ _ h10 (fun _ => ?_)
          clear hK K hb10
          try simp only [Act.put, List.setIfInBounds_toArray, List.set_cons_zero, List.set_cons_succ]
          refine tkV 39 (.bool false) h10 ?_
          refine tkV 40 (.bool false) h10 ?_
          refine wpAnyH_done (by kernel_rfl) ?_ _
          clear h10 h9 hHeld
          have w0' : IntKind.i64.wrap ((pre.length : Int) + 1) = (pre.length : Int) + 1 := IntWalk.i64_in _ (by omega)
          have N2 := Lib.hid (HH2.out.below HN.out HH2.out.lt); have N1 := Lib.hid (HH1.out.below HN.out HH1.out.lt)
          have ii1 := N2.out.c0
          have jj1 := N2.out.free 0
          gi_wp2_with (rw [Oper.semAt_eq _ _ _ (fun c h => by cases h)]; go_simp; try go_bits)
          have hk := (keepsOthers_below HN.out).trans (KeepsOthers.setCell w10 ⟨w1.heap.size + 1, 0, none⟩ (.int .i64 ((pre.length : Int) + 1)))
          have hbz : Below w1.heap.size W (w10.setCell ⟨w1.heap.size + 1, 0, none⟩ (.int .i64 ((pre.length : Int) + 1))) := (HN.out.mono (by omega)).setCell (p := ⟨w1.heap.size + 1, 0, none⟩) (by show w1.heap.size <= w1.heap.size + 1; omega) _
          have hst := prvL_step H4.out HFX.out (show prvI N D L (wvs L cs) x (fi, fj) = true by unfold prvI; simp only [show (wvs L cs).length = cs.length by simp [wvs], HIN1.out, HIN2.out, HGD.out, HRB.out, Bool.and_self])
          have hpl : (pre ++ [x]).length = pre.length + 1 := by simp
          have hpi : (((pre ++ [x]).length : Nat) : Int) = (pre.length : Int) + 1 := by rw [hpl]; omega
          refine ⟨hk.from _, ⟨(heap_setCell_other _ _ _ _ (by show w1.heap.size + 1 + 1 ≠ w1.heap.size + 1; omega)).trans (HN.out.block _ (by omega)), hbz.size⟩, ⟨N1.out.other (by omega) _ _, ?_, by rw [hpl]; omega, by rw [hpl]; exact hst⟩, HB.out.trans hbz, by have := hbz.size; omega⟩
          rw [hpi]; exact N2.out.set0 _
 case done =>
  rintro Dd ys' W hD rfl ⟨⟨h1, h2, h3, h4⟩, hB, hs⟩ hK
  have hpr : prvR L a b c d cs s fs = decide (fs.length = (ptsAll L a c (d - c + 1).toNat (b - a + 1).toNat).length) := by
   unfold prvR
   rw [if_pos HE.out, HBS.out]
   exact prvL_len h4 h3
  generalize (ptsAll L a c (d - c + 1).toNat (b - a + 1).toNat).length = m at *
  have hb0 := HB1.out.trans (hB.mono hs1)
  have k1 := (Q1.out.below hb0 (by omega)).c0
  have k2 := (Q2.out.below hb0 (by omega)).c0
  have k3 := (Q3.out.below hb0 (by omega)).c0
  have f2 := (Q2.out.below hb0 (by omega)).free 0
  have f3 := (Q3.out.below hb0 (by omega)).free 0
  have i1 := h2.c0
  have l2 : w.heap.size + 1 + 1 < W.heap.size := by omega
  have l3 : w.heap.size + 1 + 1 + 1 < W.heap.size := by omega
  have B2 := Lib.hid (Q2.out.below hb0 (by omega)); have B3 := Lib.hid (Q3.out.below hb0 (by omega)); have HB := Lib.hid hB; have HPR := Lib.hid hpr
  clear h1 h2 h3 h4 hpr hb0 hB
  have hbe : (((m : Int) == (fs.length : Int)) : Bool) = decide (fs.length = m) := by
   rw [Bool.eq_iff_iff, beq_iff_eq, decide_eq_true_iff]; omega
  have HBE := Lib.hid hbe
  clear hbe
  gi_wp2
  have hk := ((KeepsOthers.setCell W ⟨w.heap.size + 1 + 1, 0, none⟩ (.bool ((m : Int) == (fs.length : Int)))).trans (KeepsOthers.setCell _ ⟨w.heap.size + 1 + 1 + 1, 0, none⟩ (.int .i64 0))).same Dd _ hK rfl
  have v2 : Blk ((W.setCell ⟨w.heap.size + 1 + 1, 0, none⟩ (.bool ((m : Int) == (fs.length : Int)))).setCell ⟨w.heap.size + 1 + 1 + 1, 0, none⟩ (.int .i64 0)) (w.heap.size + 1 + 1) 4 #[.bool ((m : Int) == (fs.length : Int))] := (B2.out.set0 _).other (by omega) _ _
  have v3 : Blk ((W.setCell ⟨w.heap.size + 1 + 1, 0, none⟩ (.bool ((m : Int) == (fs.length : Int)))).setCell ⟨w.heap.size + 1 + 1 + 1, 0, none⟩ (.int .i64 0)) (w.heap.size + 1 + 1 + 1) 35 #[.int .i64 0] := (B3.out.other (by omega) _ _).set0 _
  have hbb : Below w.heap.size W ((W.setCell ⟨w.heap.size + 1 + 1, 0, none⟩ (.bool ((m : Int) == (fs.length : Int)))).setCell ⟨w.heap.size + 1 + 1 + 1, 0, none⟩ (.int .i64 0)) := ((Below.refl _ W).setCell (p := ⟨w.heap.size + 1 + 1, 0, none⟩) (by show w.heap.size <= w.heap.size + 1 + 1; omega) _).setCell (p := ⟨w.heap.size + 1 + 1 + 1, 0, none⟩) (by show w.heap.size <= w.heap.size + 1 + 1 + 1; omega) _
  refine ⟨by simp, .inl ⟨_, _, rfl, run_takeDeferred hk, ?_⟩⟩
  have p2 := cell_kept v2.c0 (grownBy_putObj' _ Dd (.deferred none)) (fun r e => by cases e; exact ⟨_, hk, rfl⟩)
  have p4 := cell_kept v3.c0 (grownBy_putObj' _ Dd (.deferred none)) (fun r e => by cases e; exact ⟨_, hk, rfl⟩)
  refine ⟨.tuple #[.bool ((m : Int) == (fs.length : Int)), .int .i64 0], ?_, by rw [HBE.out, HPR.out, HE.out], ((HBW.out.trans (HB.out.mono (by omega))).trans hbb).trans (belowK_b (w := w) (Nat.le_refl _) _ Dd _ _ (by omega) hk rfl rfl)⟩
  simp [results, Tryz.f30, go_sem, p2, p4]
 case stop =>
  rintro Dd cc pre W hD hpre ⟨⟨rfl, hp, u1, u2⟩, hB⟩ hK
  have HP : Hid (prvR L a b c d cs s fs = false) := Lib.hid (by unfold prvR; rw [if_pos HE.out, HBS.out]; exact hp _ hpre)
  clear hp hpre
  gi_wp2
  refine ⟨by simp, .inl ⟨_, _, rfl, run_takeDeferred hK, ?_⟩⟩
  have p2 := cell_kept u1 (grownBy_putObj' _ Dd (.deferred none)) (fun r e => by cases e; exact ⟨_, hK, rfl⟩)
  have p4 := cell_kept u2 (grownBy_putObj' _ Dd (.deferred none)) (fun r e => by cases e; exact ⟨_, hK, rfl⟩)
  refine ⟨.tuple #[.bool false, .int .i64 0], ?_, by rw [HP.out, HE.out], hB.trans (belowK_b (w := w) (Nat.le_refl _) _ Dd _ _ (by omega) hK rfl rfl)⟩
  simp [results, Tryz.f30, go_sem, p2, p4]
end Go.Proofs.YtdpjdifoonfcdaaGreatDoor

namespace Go.Proofs.YtdpjdifoonfcdaaGreatDoor
open Go.RowKit Go.Shelf
set_option maxRecDepth 1000000 in
set_option maxHeartbeats 8000000 in
theorem Proves_bad (L a b c d : Int) (cs : List (Int × Int)) (ao : Option Addr) (cap : Nat) (s : ByteArray) (fs : List (Int × Int)) (fo : Option Addr) (fc : Nat) (w : World) (ht : Tab w) (hs : s.size <= 140737488351232) (hc : Cells w ao (prs cs)) (hl : cs.length <= 9223372036854775807) (hcap : cs.length <= cap) (hcap2 : cap <= 9223372036854775807) (hfc : Cells w fo (prs fs)) (_hfl : fs.length <= 9223372036854775807) (hE : covE L a b c d cs s ≠ 0) :
 Calls Tryz.prog 30 #[.agg #[.int .i64 L, .int .i64 a, .int .i64 b, .int .i64 c, .int .i64 d], .slice ao cs.length cap, .string s, .slice fo fs.length fc] w fun e w' => e = .returned (.tuple #[.bool (prvR L a b c d cs s fs), .int .i64 (covE L a b c d cs s)]) /\ Below w.heap.size w w' := by
 obtain ⟨W0, hW0⟩ : ∃ W0, (((w.alloc (.cells #[.int .i64 L, .int .i64 a, .int .i64 b, .int .i64 c, .int .i64 d] 43)).alloc (.cells #[.slice fo fs.length fc] 58)).alloc (.cells #[.bool false] 4)).alloc (.cells #[.int .i64 0] 35) = W0 := ⟨_, rfl⟩
 have hB0 : Below w.heap.size w W0 := by rw [<- hW0]; exact ((((Below.refl _ w).alloc (Nat.le_refl _) _).alloc (by simp) _).alloc (by simp; omega) _).alloc (by simp; omega) _
 have hs0 : W0.heap.size = w.heap.size + 4 := by rw [<- hW0]; simp
 have q0 : Blk W0 w.heap.size 43 #[.int .i64 L, .int .i64 a, .int .i64 b, .int .i64 c, .int .i64 d] := by
  unfold Blk; rw [<- hW0, hold_old _ _ _ (by simp <;> omega), hold_old _ _ _ (by simp <;> omega)]; exact heap_alloc2_old w _ _
 have q1 : Blk W0 (w.heap.size + 1) 58 #[.slice fo fs.length fc] := by
  unfold Blk; rw [<- hW0, hold_old _ _ _ (by simp <;> omega), hold_old _ _ _ (by simp)]; exact heap_alloc2_new w _ _
 obtain ⟨W2, hW2⟩ : ∃ W2, (w.alloc (.cells #[.int .i64 L, .int .i64 a, .int .i64 b, .int .i64 c, .int .i64 d] 43)).alloc (.cells #[.slice fo fs.length fc] 58) = W2 := ⟨_, rfl⟩
 have hs2 : W2.heap.size = w.heap.size + 2 := by rw [<- hW2]; simp
 have q2 : Blk W0 (w.heap.size + 1 + 1) 4 #[.bool false] := by
  unfold Blk; rw [<- hW0, hW2, show w.heap.size + 1 + 1 = W2.heap.size by omega]; exact heap_alloc2_old W2 _ _
 have q3 : Blk W0 (w.heap.size + 1 + 1 + 1) 35 #[.int .i64 0] := by
  unfold Blk; rw [<- hW0, hW2, show w.heap.size + 1 + 1 + 1 = W2.heap.size + 1 by omega]; exact heap_alloc2_new W2 _ _
 have hcv := covering_any L a b c d cs ao cap s W0 (ht.below hB0 (Nat.le_refl _)) hs (hc.below hB0 (Nat.le_refl _)) hl hcap hcap2
 have HW0 := Lib.hid hW0; have HCV := Lib.hid hcv; have HB0 := Lib.hid hB0; have HS0 := Lib.hid hs0
 have Q0 := Lib.hid q0; have Q1 := Lib.hid q1; have Q2 := Lib.hid q2; have Q3 := Lib.hid q3
 have HFC := Lib.hid (hfc.below hB0 (Nat.le_refl _))
 clear hW0 hcv ht hc hB0 hs0 hfc hW2 hs2 q0 q1 q2 q3
 have hp : prvR L a b c d cs s fs = false := if_neg hE
 have HP := Lib.hid hp; have HE := Lib.hid hE
 clear hp hE
 go_enter Tryz.func30, Tryz.ntmps30
 go_wp2_with fail
 rw [HW0.out]
 refine HCV.out.mono ?_
 rintro r w1 ⟨⟨h0, _⟩ | ⟨hE, rfl⟩, hb1⟩
 · exact absurd h0 HE.out
 · have hbw := HB0.out.trans (hb1.mono HB0.out.size)
   have hsz := HS0.out
   have k2 := (Q2.out.below hb1 (by omega)).c0
   have k3 := (Q3.out.below hb1 (by omega)).c0
   have g2 := (Q2.out.below hb1 (by omega)).free 0
   have g3 := (Q3.out.below hb1 (by omega)).free 0
   have hlt : w.heap.size + 1 + 1 + 1 < w1.heap.size := by have := hb1.size; omega
   generalize hvv : covE L a b c d cs s = v at hE ⊢
   have HVV := Lib.hid hvv
   have hv : (v != 0) = true := by simpa using hE
   clear hvv hb1 hsz
   have hlt2 : w.heap.size + 1 + 1 < w1.heap.size := by omega
   go_wp2_with fail
   refine bodyPost_ret (v := .tuple #[.bool false, .int .i64 v]) (by simp [results, Tryz.results30, go_sem, k2, k3, hlt, hlt2]) rfl ?_
   rw [HP.out, HVV.out]
   exact ⟨rfl, ((hbw.setCell (p := ⟨w.heap.size + 1 + 1, 0, none⟩) (by show w.heap.size <= w.heap.size + 1 + 1; omega) _).setCell (p := ⟨w.heap.size + 1 + 1 + 1, 0, none⟩) (by show w.heap.size <= w.heap.size + 1 + 1 + 1; omega) _).alloc (by simp; omega) _⟩
end Go.Proofs.YtdpjdifoonfcdaaGreatDoor

namespace Go.Proofs.YtdpjdifoonfcdaaGreatDoor
open Go.RowKit Go.Shelf
theorem Proves_any (L a b c d : Int) (cs : List (Int × Int)) (ao : Option Addr) (cap : Nat) (s : ByteArray) (fs : List (Int × Int)) (fo : Option Addr) (fc : Nat) (w : World) (ht : Tab w) (hs : s.size <= 140737488351232) (hc : Cells w ao (prs cs)) (hl : cs.length <= 9223372036854775807) (hcap : cs.length <= cap) (hcap2 : cap <= 9223372036854775807) (hfc : Cells w fo (prs fs)) (hfl : fs.length <= 9223372036854775807) :
 Calls Tryz.prog 30 #[.agg #[.int .i64 L, .int .i64 a, .int .i64 b, .int .i64 c, .int .i64 d], .slice ao cs.length cap, .string s, .slice fo fs.length fc] w fun e w' => e = .returned (.tuple #[.bool (prvR L a b c d cs s fs), .int .i64 (covE L a b c d cs s)]) /\ Below w.heap.size w w' := by
 by_cases hE : covE L a b c d cs s = 0
 · exact Proves_good L a b c d cs ao cap s fs fo fc w ht hs hc hl hcap hcap2 hfc hfl hE
 · exact Proves_bad L a b c d cs ao cap s fs fo fc w ht hs hc hl hcap hcap2 hfc hfl hE
end Go.Proofs.YtdpjdifoonfcdaaGreatDoor

namespace Go.Proofs.YtdpjdifoonfcdaaGreatDoor
open Go.RowKit Go.WideShapes Go.ChangeShapes Go.Deep Go.Joins
section
variable {H : Type} {enc : TypeId × Value -> H} {P : Program} {w : World} {base : Nat} {spare : Nat -> Bool} {held : Bool}
theorem trod_fam {c i : TypeId} {g0 g1 g2 g3 g4 : Field} {n : Nat} {v0 v1 v2 v3 v4 : Value} {x : DataW H × List MemPlace} (hc : P.underlying c = some (.struct #[g0, g1, g2, g3, g4])) (k0 : g0.type = i /\ g0.offset = 0) (k1 : g1.type = i /\ g1.offset = 1) (k2 : g2.type = i /\ g2.offset = 2) (k3 : g3.type = i /\ g3.offset = 3) (k4 : g4.type = i /\ g4.offset = 4)
 (ci : P.cellsOf i = 1) (hi : P.underlying i = some (.int .i64)) (h : DataW.trod enc P w base spare held n c [v0, v1, v2, v3, v4] = some x) :
 ∃ a b c d e : Int, v0 = .int .i64 a /\ v1 = .int .i64 b /\ v2 = .int .i64 c /\ v3 = .int .i64 d /\ v4 = .int .i64 e := by
 obtain ⟨xs, m, _, hx, _, hlen, hfs⟩ := DataW.trod_struct hc h
 match xs, hlen with
 | [y0, y1, y2, y3, y4], _ =>
   have t0 := hfs 0 g0 rfl
   have t1 := hfs 1 g1 rfl
   have t2 := hfs 2 g2 rfl
   have t3 := hfs 3 g3 rfl
   have t4 := hfs 4 g4 rfl
   rw [k0.1, k0.2, ci] at t0
   rw [k1.1, k1.2, ci] at t1
   rw [k2.1, k2.2, ci] at t2
   rw [k3.1, k3.2, ci] at t3
   rw [k4.1, k4.2, ci] at t4
   obtain ⟨a, e0, _, _⟩ := DataW.trod_int hi (show DataW.trod enc P w base spare held m i [v0] = some y0 from t0)
   obtain ⟨b, e1, _, _⟩ := DataW.trod_int hi (show DataW.trod enc P w base spare held m i [v1] = some y1 from t1)
   obtain ⟨c, e2, _, _⟩ := DataW.trod_int hi (show DataW.trod enc P w base spare held m i [v2] = some y2 from t2)
   obtain ⟨d, e3, _, _⟩ := DataW.trod_int hi (show DataW.trod enc P w base spare held m i [v3] = some y3 from t3)
   obtain ⟨e, e4, _, _⟩ := DataW.trod_int hi (show DataW.trod enc P w base spare held m i [v4] = some y4 from t4)
   simp only [List.cons.injEq, and_true] at e0 e1 e2 e3 e4
   exact ⟨a, b, c, d, e, e0, e1, e2, e3, e4⟩
theorem open_fam {r : Reach} {b0 : Nat} {t i : TypeId} {g0 g1 g2 g3 g4 : Field} {v : Value} {d : DataW H} {p : List MemPlace} (hc : P.underlying t = some (.struct #[g0, g1, g2, g3, g4])) (k0 : g0.type = i /\ g0.offset = 0) (k1 : g1.type = i /\ g1.offset = 1) (k2 : g2.type = i /\ g2.offset = 2) (k3 : g3.type = i /\ g3.offset = 3) (k4 : g4.type = i /\ g4.offset = 4)
 (ci : P.cellsOf i = 1) (ct : P.cellsOf t = 5) (hi : P.underlying i = some (.int .i64)) (hv : Value.okWide P w r b0 t v) (h : DataW.Trod enc P w base spare held t v d p) : ∃ a b c d e : Int, v = .agg #[.int .i64 a, .int .i64 b, .int .i64 c, .int .i64 d, .int .i64 e] := by
 obtain ⟨cs, rfl, hsz⟩ := okWide_struct hc hv
 obtain ⟨c0, c1, c2, c3, c4, rfl⟩ := array5 (hsz.trans ct)
 obtain ⟨fuel, hf⟩ := h
 obtain ⟨a, b, c, d, e, rfl, rfl, rfl, rfl, rfl⟩ := trod_fam hc k0 k1 k2 k3 k4 ci hi hf
 exact ⟨a, b, c, d, e, rfl⟩
theorem reach_str {s : List UInt8} {t : TypeId} (h : ∀ n ∈ (DataW.lit (H := H) (.string s)).weights P t, n <= reachBytes) : s.length <= 140737488351232 := h _ (by simp [DataW.weights])
end
end Go.Proofs.YtdpjdifoonfcdaaGreatDoor

namespace Go.Proofs.YtdpjdifoonfcdaaGreatDoor
open Go.RowKit
def gainTo (r m : List Bool) (k : Nat) : Nat := ((r.take k).zip (m.take k)).countP fun x => x.1 && x.2
theorem gainTo_step {r m : List Bool} {k : Nat} {p q : Bool} (h : r[k]? = some p) (h2 : m[k]? = some q) : gainTo r m (k + 1) = gainTo r m k + if (p && q) = true then 1 else 0 := by
 have h3 := (List.getElem?_eq_some_iff.1 h).1
 have h4 := (List.getElem?_eq_some_iff.1 h2).1
 unfold gainTo
 rw [List.take_add_one, List.take_add_one, h, h2]
 simp only [Option.toList_some]
 rw [List.zip_append (by rw [List.length_take, List.length_take]; omega), List.countP_append]
 simp [List.countP_cons]
theorem gainTo_le (r m : List Bool) (k : Nat) : gainTo r m k <= k := by
 unfold gainTo
 refine Nat.le_trans List.countP_le_length ?_
 rw [List.length_zip, List.length_take]
 omega
end Go.Proofs.YtdpjdifoonfcdaaGreatDoor

namespace Go.Proofs.YtdpjdifoonfcdaaGreatDoor
open Go.RowKit
theorem own_baseL {w : World} {B B' : Nat} {e : TypeId} {s : Nat} {v : Value} {n : Nat} {xs : List Value} (h : w.ownsRow B e s v n xs) (hB : B' <= B) : w.ownsRow B' e s v n xs := by
 refine ⟨h.1, h.2.imp id ?_⟩
 rintro ⟨g, cap, cur, h1, h2, h3⟩
 exact ⟨g, cap, cur, h1, by omega, h3⟩
def RowsOf (w : World) (base : Nat) (e : TypeId) (vs : List Value) (xss : List (List Value)) : Prop := vs.length = xss.length /\ ∀ (j : Nat) v xs, vs[j]? = some v -> xss[j]? = some xs -> w.ownsRow base e 1 v xs.length xs
theorem RowsOf.nil (w : World) (base : Nat) (e : TypeId) : RowsOf w base e [] [] := ⟨rfl, fun _ _ _ h => by simp at h⟩
theorem RowsOf.below {w w' : World} {base B : Nat} {e : TypeId} {vs : List Value} {xss : List (List Value)} (h : RowsOf w base e vs xss) (hb : Below B w w') (hB : w.heap.size <= B) : RowsOf w' base e vs xss :=
 ⟨h.1, fun j v xs h1 h2 => own_belowK (h.2 j v xs h1 h2) hb hB⟩
theorem RowsOf.kept {w w' : World} {base b' : Nat} {e e' : TypeId} {s n : Nat} {v' : Value} {ys : List Value} {vs : List Value} {xss : List (List Value)} (h : RowsOf w base e vs xss) (hg : w.grownBy w' v'.ownBlock) (ho : w.ownsRow b' e' s v' n ys) (hne : e ≠ e') : RowsOf w' base e vs xss :=
 ⟨h.1, fun j v xs h1 h2 => (h.2 j v xs h1 h2).kept hg (own_ne3 (h.2 j v xs h1 h2) ho hne)⟩
theorem RowsOf.base {w : World} {base base' : Nat} {e : TypeId} {vs : List Value} {xss : List (List Value)} (h : RowsOf w base e vs xss) (hB : base' <= base) : RowsOf w base' e vs xss := ⟨h.1, fun j v xs h1 h2 => own_baseL (h.2 j v xs h1 h2) hB⟩
theorem RowsOf.at {w : World} {base : Nat} {e : TypeId} {vs : List Value} {xss : List (List Value)} (h : RowsOf w base e vs xss) {j : Nat} {xs : List Value} (hj : xss[j]? = some xs) : ∃ a c, vs[j]? = some (.slice a xs.length c) /\ Cells w a xs := by
 obtain ⟨v, hv⟩ := get_of_lt (xs := vs) (show j < vs.length by have := (List.getElem?_eq_some_iff.1 hj).1; have := h.1; omega)
 obtain ⟨a, c, rfl, hc⟩ := own_cells (h.2 j v xs hv hj)
 exact ⟨a, c, hv, hc⟩
theorem RowsOf.snoc {w : World} {base : Nat} {e : TypeId} {vs : List Value} {xss : List (List Value)} {v : Value} {xs : List Value} (h : RowsOf w base e vs xss) (hv : w.ownsRow base e 1 v xs.length xs) : RowsOf w base e (vs ++ [v]) (xss ++ [xs]) := by
 refine ⟨by simp [h.1], fun j u ys h1 h2 => ?_⟩
 by_cases hj : j < vs.length
 · rw [List.getElem?_append_left hj] at h1
   rw [List.getElem?_append_left (by rw [<- h.1]; exact hj)] at h2
   exact h.2 j u ys h1 h2
 · have hj2 : j = vs.length := by
    have := (List.getElem?_eq_some_iff.1 h1).1
    simp at this; omega
   subst hj2
   rw [List.getElem?_append_right (Nat.le_refl _), Nat.sub_self] at h1
   rw [List.getElem?_append_right (by rw [h.1]; exact Nat.le_refl _), h.1, Nat.sub_self] at h2
   simp only [List.getElem?_cons_zero, Option.some.injEq] at h1 h2
   subst h1; subst h2; exact hv
end Go.Proofs.YtdpjdifoonfcdaaGreatDoor

namespace Go.Proofs.YtdpjdifoonfcdaaGreatDoor
open Go.RowKit
def rowAt (g : List (List Bool)) (i : Nat) : List Bool := (g[i]?).getD []
def bestTo (g : List (List Bool)) (m : List Bool) : Nat -> Nat × Nat
 | 0 => (0, 0)
 | k + 1 => if (bestTo g m k).2 < gainTo (rowAt g k) m m.length then (k, gainTo (rowAt g k) m m.length) else bestTo g m k
theorem bestTo_lt (g : List (List Bool)) (m : List Bool) (k : Nat) : (bestTo g m k).2 ≠ 0 -> (bestTo g m k).1 < k := by
 induction k with
 | zero => intro h; exact absurd rfl h
 | succ k ih =>
   intro h
   unfold bestTo at h ⊢
   split
   · exact Nat.lt_succ_self k
   · rename_i hc
     rw [if_neg hc] at h
     exact Nat.lt_succ_of_lt (ih h)
theorem bestTo_le (g : List (List Bool)) (m : List Bool) (k : Nat) : (bestTo g m k).2 <= m.length := by
 induction k with
 | zero => exact Nat.zero_le _
 | succ k ih =>
   unfold bestTo
   split
   · exact gainTo_le _ _ _
   · exact ih
def strike (row m : List Bool) : List Bool := List.zipWith (fun x y => x && !y) m row
theorem strike_len {row m : List Bool} (h : row.length = m.length) : (strike row m).length = m.length := by
 unfold strike
 rw [List.length_zipWith]; omega
def midTo (row m : List Bool) (k : Nat) : List Bool := (strike row m).take k ++ m.drop k
theorem midTo_zero (row m : List Bool) : midTo row m 0 = m := by simp [midTo]
theorem midTo_full {row m : List Bool} (h : row.length = m.length) : midTo row m m.length = strike row m := by
 unfold midTo
 rw [List.take_of_length_le (by rw [strike_len h]; exact Nat.le_refl _), List.drop_of_length_le (Nat.le_refl _), List.append_nil]
theorem midTo_get {row m : List Bool} (h : row.length = m.length) {k : Nat} (hk : k < m.length) : (midTo row m k)[k]? = m[k]? := by
 unfold midTo
 rw [List.getElem?_append_right (by rw [List.length_take, strike_len h]; omega), List.length_take, strike_len h, Nat.min_eq_left (by omega), Nat.sub_self, List.getElem?_drop, Nat.add_zero]
theorem midTo_set {row m : List Bool} (h : row.length = m.length) {k : Nat} {p q : Bool} (hq : m[k]? = some q) (hp : row[k]? = some p) : (midTo row m k).set k (q && !p) = midTo row m (k + 1) := by
 have hk := (List.getElem?_eq_some_iff.1 hq).1
 have hs : (strike row m)[k]? = some (q && !p) := by
  unfold strike
  rw [List.getElem?_zipWith, hq, hp]
 unfold midTo
 rw [List.set_append_right _ _ (by rw [List.length_take, strike_len h]; omega), List.length_take, strike_len h, Nat.min_eq_left (by omega), Nat.sub_self]
 rw [List.take_add_one, hs, List.drop_eq_getElem_cons hk, List.set_cons_zero]
 simp
def grd (g : List (List Bool)) (p : Nat) : Nat -> List Bool -> List Nat -> Option (List Nat)
 | 0, _, _ => none
 | f + 1, m, out => if (bestTo g m p).2 = 0 then some out else if out.length = 64 then none else grd g p f (strike (rowAt g (bestTo g m p).1) m) (out ++ [(bestTo g m p).1])
theorem grd_step (g : List (List Bool)) (p : Nat) (m : List Bool) (out : List Nat) (h : out.length <= 64) : grd g p (65 - out.length) m out = if (bestTo g m p).2 = 0 then some out else if out.length = 64 then none else grd g p (65 - (out ++ [(bestTo g m p).1]).length) (strike (rowAt g (bestTo g m p).1) m) (out ++ [(bestTo g m p).1]) := by
 rw [show 65 - out.length = (64 - out.length) + 1 by omega, grd]
 rw [List.length_append, List.length_singleton, show 65 - (out.length + 1) = 64 - out.length by omega]
end Go.Proofs.YtdpjdifoonfcdaaGreatDoor

namespace Go.Proofs.YtdpjdifoonfcdaaGreatDoor
open Go.RowKit
theorem Tryz.infoInts : (Tryz.prog.info? 24).map (fun i => (i.zero, i.size, i.bytes)) = some (some (.slice none 0 0), 1, 24) := by kernel_rfl
def svB (n d L : Int) (xb xa : Int × Int) : Bool := (srv n d L.toNat (wav L xa.1 xa.2) (wav L xb.1 xb.2)).isSome
def svM (n d L : Int) (l xs : List (Pt L)) : List (List Bool) := xs.map fun xb => l.map fun xa => svB n d L xb.1 xa.1
def pick (ps : List (Int × Int)) (out : List Nat) : List (Int × Int) := out.map fun i => (ps[i]?).getD (0, 0)
theorem pick_snoc {ps : List (Int × Int)} (out : List Nat) {i : Nat} {t : Int × Int} (h : ps[i]? = some t) : prs (pick ps (out ++ [i])) = prs (pick ps out) ++ [.int .i64 t.1, .int .i64 t.2] := by simp [pick, prs, h]
def vlen : Value -> Nat
 | .slice _ n _ => n
 | _ => 0
theorem own_vlen {w : World} {b : Nat} {e : TypeId} {s n : Nat} {v : Value} {xs : List Value} (h : w.ownsRow b e s v n xs) : vlen v = n := by
 obtain ⟨a, c, rfl, -⟩ := own_cells h
 rfl
theorem svM_len (n d L : Int) (l : List (Pt L)) : (svM n d L l l).length = l.length := List.length_map _
theorem svM_row {n d L : Int} {l : List (Pt L)} {i : Nat} (h : i < l.length) : ∃ row, (svM n d L l l)[i]? = some row /\ row.length = l.length /\ rowAt (svM n d L l l) i = row := by
 obtain ⟨x, hx⟩ := get_of_lt h
 refine ⟨l.map fun xa => svB n d L x.1 xa.1, ?_, List.length_map _, ?_⟩
 · rw [svM, List.getElem?_map, hx]; rfl
 · unfold rowAt
   rw [svM, List.getElem?_map, hx]; rfl
def bldO (n m : Nat) (L : Int) (l : List (Pt L)) : Option (List Nat) := grd (svM n m L l l) l.length 65 (l.map fun _ => true) []
def bldL (L : Int) (l : List (Pt L)) (o : Option (List Nat)) : List (Int × Int) := match o with | some out => pick (pairsOf l) out | none => []
def bldX (o : Option (List Nat)) : Int := match o with | some _ => 0 | none => 3
def buiR (L a b c d : Int) (s : ByteArray) : List (Int × Int) := if covE L a b c d [] s = 0 then (match barS s with | some (n, m) => bldL L (ptsAll L a c (d - c + 1).toNat (b - a + 1).toNat) (bldO n m L (ptsAll L a c (d - c + 1).toNat (b - a + 1).toNat)) | none => []) else []
def buiE (L a b c d : Int) (s : ByteArray) : Int := if covE L a b c d [] s = 0 then (match barS s with | some (n, m) => bldX (bldO n m L (ptsAll L a c (d - c + 1).toNat (b - a + 1).toNat)) | none => 0) else covE L a b c d [] s
theorem bui_yes {L a b c d : Int} {s : ByteArray} {n m : Nat} (h : covE L a b c d [] s = 0) (hb : barS s = some (n, m)) : buiR L a b c d s = bldL L (ptsAll L a c (d - c + 1).toNat (b - a + 1).toNat) (bldO n m L (ptsAll L a c (d - c + 1).toNat (b - a + 1).toNat)) /\ buiE L a b c d s = bldX (bldO n m L (ptsAll L a c (d - c + 1).toNat (b - a + 1).toNat)) := by
 unfold buiR buiE
 rw [if_pos h, if_pos h, hb]
 exact ⟨rfl, rfl⟩
theorem bui_no {L a b c d : Int} {s : ByteArray} (h : covE L a b c d [] s ≠ 0) : buiR L a b c d s = [] /\ buiE L a b c d s = covE L a b c d [] s := by
 unfold buiR buiE
 rw [if_neg h, if_neg h]
 exact ⟨rfl, rfl⟩
end Go.Proofs.YtdpjdifoonfcdaaGreatDoor

namespace Go.Proofs.YtdpjdifoonfcdaaGreatDoor
open Go.RowKit
theorem svB_self {n d L : Int} (x : Pt L) (hd : n <= d) : svB n d L x.1 x.1 = true := by
 obtain ⟨h1, h2⟩ := x.2
 have hL := waveOK_true h1
 have hp := norm_pos h2
 unfold svB srv fstS
 rw [List.find?_isSome]
 refine ⟨mkS (1 - (L.toNat : Int) + ((L.toNat - 1 : Nat) : Int)), List.mem_map.2 ⟨L.toNat - 1, List.mem_range.2 (by omega), rfl⟩, ?_⟩
 have h0 : 1 - (L.toNat : Int) + ((L.toNat - 1 : Nat) : Int) = 0 := by omega
 rw [h0, mkS_val (by omega) (by omega)]
 unfold rchB
 rw [show ((L.toNat : Nat) : Int) = L by omega]
 generalize ovl (wav L x.1.1 x.1.2) (wav L x.1.1 x.1.2) L 0 = N at *
 have hN : 0 <= N * N := Int.mul_nonneg (by omega) (by omega)
 rw [Bool.and_eq_true, decide_eq_true_eq, decide_eq_true_eq]
 exact ⟨by omega, Int.mul_le_mul_of_nonneg_left hd hN⟩
theorem gainTo_mono {r m : List Bool} {k : Nat} : ∀ j, gainTo r m k <= gainTo r m (k + j) := by
 intro j
 unfold gainTo
 refine List.Sublist.countP_le ?_
 have h1 : (r.take k).zip (m.take k) = (r.zip m).take k := by rw [List.zip_eq_zipWith, List.zip_eq_zipWith, List.take_zipWith]
 have h2 : (r.take (k + j)).zip (m.take (k + j)) = (r.zip m).take (k + j) := by rw [List.zip_eq_zipWith, List.zip_eq_zipWith, List.take_zipWith]
 rw [h1, h2]
 exact (List.take_prefix_take_left (by omega)).sublist
theorem gainTo_pos {r m : List Bool} {a k : Nat} (h1 : r[a]? = some true) (h2 : m[a]? = some true) (hk : a < k) : 0 < gainTo r m k := by
 have hs := gainTo_step h1 h2
 simp only [Bool.and_self, if_true] at hs
 have := gainTo_mono (r := r) (m := m) (k := a + 1) (k - (a + 1))
 rw [show a + 1 + (k - (a + 1)) = k by omega] at this
 omega
theorem gainTo_none {r m : List Bool} (h : m.count true = 0) (k : Nat) : gainTo r m k = 0 := by
 unfold gainTo
 rw [List.countP_eq_zero]
 rintro ⟨x, y⟩ hx
 have hy := (List.of_mem_zip hx).2
 have hm : y ∈ m := List.mem_of_mem_take hy
 simp only [Bool.and_eq_true, not_and, Bool.not_eq_true]
 intro _
 cases y
 · rfl
 · have := List.count_pos_iff.2 hm; omega
theorem bestTo_ge (g : List (List Bool)) (m : List Bool) : ∀ k i, i < k -> gainTo (rowAt g i) m m.length <= (bestTo g m k).2 := by
 intro k
 induction k with
 | zero => intro i h; omega
 | succ k ih =>
   intro i hi
   unfold bestTo
   by_cases hik : i = k
   · subst hik
     split
     · exact Nat.le_refl _
     · omega
   · have := ih i (by omega)
     split
     · simp only; omega
     · exact this
theorem bestTo_none {g : List (List Bool)} {m : List Bool} (h : m.count true = 0) (k : Nat) : (bestTo g m k).2 = 0 := by
 induction k with
 | zero => rfl
 | succ k ih =>
   unfold bestTo
   rw [gainTo_none h, if_neg (by omega)]
   exact ih
theorem most_zero {g : List (List Bool)} {m : List Bool} (hself : ∀ a, a < m.length -> (rowAt g a)[a]? = some true) : (bestTo g m m.length).2 = 0 ↔ m.count true = 0 := by
 constructor
 · intro h
   refine Nat.eq_zero_of_not_pos fun hc => ?_
   obtain ⟨a, ha, hma⟩ := List.mem_iff_getElem.1 (List.count_pos_iff.1 hc)
   have h1 := gainTo_pos (hself a ha) (show m[a]? = some true by rw [List.getElem?_eq_getElem ha, hma]) ha
   have h2 := bestTo_ge g m m.length a ha
   omega
 · exact fun h => bestTo_none h _
theorem svM_self {n d L : Int} {l : List (Pt L)} (hd : n <= d) {a : Nat} (ha : a < l.length) : (rowAt (svM n d L l l) a)[a]? = some true := by
 obtain ⟨x, hx⟩ := get_of_lt ha
 unfold rowAt svM
 rw [List.getElem?_map, hx]
 simp only [Option.map_some, Option.getD_some]
 rw [List.getElem?_map, hx]
 simp only [Option.map_some]
 rw [svB_self x hd]
end Go.Proofs.YtdpjdifoonfcdaaGreatDoor

namespace Go.Proofs.YtdpjdifoonfcdaaGreatDoor
open Go.RowKit
theorem strike_get {row m : List Bool} {a : Nat} {p q : Bool} (hp : row[a]? = some p) (hq : m[a]? = some q) : (strike row m)[a]? = some (q && !p) := by
 unfold strike
 rw [List.getElem?_zipWith, hq, hp]
theorem get_some_of_lt {l : List Bool} {a : Nat} (h : a < l.length) : ∃ b, l[a]? = some b := ⟨_, List.getElem?_eq_getElem h⟩
structure GInv (g : List (List Bool)) (p : Nat) (m : List Bool) (out : List Nat) : Prop where
 len : m.length = p
 lt : ∀ i ∈ out, i < p
 nd : out.Nodup
 cov : ∀ a : Nat, m[a]? = some false -> ∃ i ∈ out, (rowAt g i)[a]? = some true
 done : ∀ i ∈ out, ∀ a : Nat, (rowAt g i)[a]? = some true -> m[a]? = some false
theorem gain_witness {r m : List Bool} {k : Nat} (h : gainTo r m k ≠ 0) : ∃ a : Nat, r[a]? = some true /\ m[a]? = some true := by
 unfold gainTo at h
 obtain ⟨x, hx, hp⟩ := List.countP_pos_iff.1 (Nat.pos_of_ne_zero h)
 obtain ⟨a, ha, he⟩ := List.mem_iff_getElem.1 hx
 have h2 := List.getElem?_eq_getElem ha
 rw [he, List.getElem?_zip_eq_some] at h2
 obtain ⟨h3, h4⟩ := h2
 simp only [Bool.and_eq_true] at hp
 rw [hp.1] at h3
 rw [hp.2] at h4
 have hk : a < k := by
  have := (List.getElem?_eq_some_iff.1 h3).1
  rw [List.length_take] at this; omega
 rw [List.getElem?_take_of_lt hk] at h3 h4
 exact ⟨a, h3, h4⟩
theorem bestTo_gain (g : List (List Bool)) (m : List Bool) (k : Nat) : (bestTo g m k).2 ≠ 0 -> gainTo (rowAt g (bestTo g m k).1) m m.length = (bestTo g m k).2 := by
 induction k with
 | zero => intro h; exact absurd rfl h
 | succ k ih =>
   unfold bestTo
   split
   · intro _; rfl
   · exact ih
theorem GInv.step {g : List (List Bool)} {p : Nat} {m : List Bool} {out : List Nat} (h : GInv g p m out) (hrow : ∀ i, i < p -> (rowAt g i).length = p) (hb : (bestTo g m p).2 ≠ 0) : GInv g p (strike (rowAt g (bestTo g m p).1) m) (out ++ [(bestTo g m p).1]) := by
 have hlt := bestTo_lt g m p hb
 have hr := hrow _ hlt
 have hl := h.len
 have hgn := bestTo_gain g m p hb
 obtain ⟨a0, ha1, ha2⟩ := gain_witness (r := rowAt g (bestTo g m p).1) (m := m) (k := m.length) (by omega)
 generalize (bestTo g m p).1 = b at *
 have hsl : (strike (rowAt g b) m).length = p := by rw [strike_len (by omega)]; exact hl
 refine ⟨hsl, fun i hi => ?_, ?_, fun a ha => ?_, fun i hi a ha => ?_⟩
 · rcases List.mem_append.1 hi with hi | hi
   · exact h.lt i hi
   · rw [List.mem_singleton.1 hi]; exact hlt
 · rw [List.nodup_append]
   refine ⟨h.nd, List.nodup_cons.2 ⟨List.not_mem_nil, List.nodup_nil⟩, fun x hx y hy e => ?_⟩
   rw [List.mem_singleton.1 hy] at e
   subst e
   have := h.done _ hx a0 ha1
   rw [ha2] at this
   cases this
 · have hap : a < p := by have := (List.getElem?_eq_some_iff.1 ha).1; omega
   obtain ⟨q, hq⟩ := get_some_of_lt (show a < m.length by omega)
   obtain ⟨r, hr2⟩ := get_some_of_lt (show a < (rowAt g b).length by omega)
   have hs := strike_get hr2 hq
   rw [hs] at ha
   cases q with
   | false =>
     obtain ⟨i, hi, hc⟩ := h.cov a hq
     exact ⟨i, List.mem_append_left _ hi, hc⟩
   | true =>
     cases r with
     | true => exact ⟨b, by simp, hr2⟩
     | false => cases ha
 · have hip : i < p := by
    rcases List.mem_append.1 hi with hi | hi
    · exact h.lt i hi
    · rw [List.mem_singleton.1 hi]; exact hlt
   have hap : a < p := by have := (List.getElem?_eq_some_iff.1 ha).1; rw [hrow i hip] at this; exact this
   obtain ⟨q, hq⟩ := get_some_of_lt (show a < m.length by omega)
   obtain ⟨r, hr2⟩ := get_some_of_lt (show a < (rowAt g b).length by omega)
   rw [strike_get hr2 hq]
   rcases List.mem_append.1 hi with hi | hi
   · have := h.done i hi a ha
     rw [hq] at this
     cases this; rfl
   · rw [List.mem_singleton.1 hi, hr2] at ha
     cases ha
     rw [Bool.not_true, Bool.and_false]
theorem grd_ok {g : List (List Bool)} {p : Nat} (hrow : ∀ i, i < p -> (rowAt g i).length = p) (hself : ∀ a : Nat, a < p -> (rowAt g a)[a]? = some true) : ∀ (f : Nat) (m : List Bool) (out res : List Nat), GInv g p m out -> out.length <= 64 -> grd g p f m out = some res -> (∀ a : Nat, a < p -> ∃ i ∈ res, (rowAt g i)[a]? = some true) /\ (∀ i ∈ res, i < p) /\ res.Nodup /\ res.length <= 64 := by
 intro f
 induction f with
 | zero => intro m out res _ _ h; cases h
 | succ f ih =>
   intro m out res hi ho h
   unfold grd at h
   by_cases hz : (bestTo g m p).2 = 0
   · rw [if_pos hz] at h
     cases h
     have hl := hi.len
     have hc : m.count true = 0 := (most_zero (g := g) (m := m) (by rw [hl]; exact hself)).1 (by rw [hl]; exact hz)
     refine ⟨fun a ha => ?_, hi.lt, hi.nd, ho⟩
     obtain ⟨q, hq⟩ := get_some_of_lt (show a < m.length by omega)
     cases q with
     | false => exact hi.cov a hq
     | true =>
       have := List.count_pos_iff.2 (List.mem_of_getElem? hq)
       omega
   · rw [if_neg hz] at h
     by_cases h64 : out.length = 64
     · rw [if_pos h64] at h; cases h
     · rw [if_neg h64] at h
       exact ih _ _ _ (hi.step hrow hz) (by simp; omega) h
theorem bldO_ok {n m : Nat} {L : Int} {l : List (Pt L)} (h : n <= m) {res : List Nat} (hr : bldO n m L l = some res) : (∀ a : Nat, a < l.length -> ∃ i ∈ res, (rowAt (svM n m L l l) i)[a]? = some true) /\ (∀ i ∈ res, i < l.length) /\ res.Nodup /\ res.length <= 64 := by
 refine grd_ok (g := svM n m L l l) (p := l.length) (fun i hi => ?_) (fun a ha => svM_self (by omega) ha) 65 (l.map fun _ => true) [] res ⟨by simp, by simp, List.nodup_nil, fun a ha => ?_, by simp⟩ (by simp) hr
 · obtain ⟨row, _, h1, h2⟩ := svM_row (n := (n : Int)) (d := m) hi
   rw [h2]; exact h1
 · rw [List.getElem?_map] at ha
   cases hh : l[a]? with
   | none => rw [hh] at ha; cases ha
   | some x => rw [hh] at ha; cases ha
end Go.Proofs.YtdpjdifoonfcdaaGreatDoor

namespace Go.Proofs.YtdpjdifoonfcdaaGreatDoor
open Go.RowKit
theorem ptsAt_mem {L p q : Int} {t : Pt L} (h : t ∈ ptsAt L p q) : t.1 = (p, q) := by
 unfold ptsAt at h
 split at h
 · rw [List.mem_singleton.1 h]
 · cases h
theorem ptsRow_mem {L p c : Int} {k : Nat} {t : Pt L} (h : t ∈ ptsRow L p c k) : t.1.1 = p /\ c <= t.1.2 /\ t.1.2 < c + k := by
 induction k with
 | zero => cases h
 | succ k ih =>
   rcases List.mem_append.1 h with h | h
   · obtain ⟨h1, h2, h3⟩ := ih h
     exact ⟨h1, h2, by omega⟩
   · have := ptsAt_mem h
     rw [this]
     exact ⟨rfl, by simp only; omega, by simp only; omega⟩
theorem ptsAll_mem {L a c : Int} {m k : Nat} {t : Pt L} (h : t ∈ ptsAll L a c m k) : a <= t.1.1 /\ t.1.1 < a + k := by
 induction k with
 | zero => cases h
 | succ k ih =>
   rcases List.mem_append.1 h with h | h
   · obtain ⟨h1, h2⟩ := ih h
     exact ⟨h1, by omega⟩
   · obtain ⟨h1, -, -⟩ := ptsRow_mem h
     exact ⟨by omega, by omega⟩
theorem pairs_app {L : Int} (l r : List (Pt L)) : pairsOf (l ++ r) = pairsOf l ++ pairsOf r := List.map_append
theorem pairs_mem {L : Int} {l : List (Pt L)} {t : Int × Int} (h : t ∈ pairsOf l) : ∃ x ∈ l, x.1 = t := List.mem_map.1 h
theorem ptsRow_nodup (L p c : Int) (k : Nat) : (pairsOf (ptsRow L p c k)).Nodup := by
 induction k with
 | zero => exact List.nodup_nil
 | succ k ih =>
   rw [ptsRow, pairs_app, List.nodup_append]
   refine ⟨ih, ?_, fun x hx y hy e => ?_⟩
   · unfold ptsAt
     split
     · exact List.nodup_cons.2 ⟨List.not_mem_nil, List.nodup_nil⟩
     · exact List.nodup_nil
   · obtain ⟨u, hu, rfl⟩ := pairs_mem hx
     obtain ⟨v, hv, rfl⟩ := pairs_mem hy
     have h1 := ptsRow_mem hu
     have h2 := ptsAt_mem hv
     rw [e, h2] at h1
     simp only at h1
     omega
theorem ptsAll_nodup (L a c : Int) (m k : Nat) : (pairsOf (ptsAll L a c m k)).Nodup := by
 induction k with
 | zero => exact List.nodup_nil
 | succ k ih =>
   rw [ptsAll, pairs_app, List.nodup_append]
   refine ⟨ih, ptsRow_nodup _ _ _ _, fun x hx y hy e => ?_⟩
   obtain ⟨u, hu, rfl⟩ := pairs_mem hx
   obtain ⟨v, hv, rfl⟩ := pairs_mem hy
   have h1 := ptsAll_mem hu
   have h2 := (ptsRow_mem hv).1
   rw [e, h2] at h1
   omega
theorem pick_at {L : Int} {l : List (Pt L)} {i : Nat} (h : i < l.length) : ∃ x, l[i]? = some x /\ ((pairsOf l)[i]?).getD (0, 0) = x.1 := by
 obtain ⟨x, hx⟩ := get_of_lt h
 refine ⟨x, hx, ?_⟩
 rw [pairsOf, List.getElem?_map, hx]; rfl
theorem pick_ok {L : Int} {l : List (Pt L)} (hnd : (pairsOf l).Nodup) {res : List Nat} (h1 : ∀ i ∈ res, i < l.length) (h2 : res.Nodup) (h3 : res.length <= 64) : bankOK L (pick (pairsOf l) res) = true := by
 have hll : (pairsOf l).length = l.length := List.length_map _
 unfold bankOK
 rw [Bool.and_eq_true, Bool.and_eq_true, decide_eq_true_eq, decide_eq_true_eq, List.all_eq_true]
 refine ⟨⟨by unfold pick; rw [List.length_map]; exact h3, fun c hc => ?_⟩, ?_⟩
 · obtain ⟨i, hi, rfl⟩ := List.mem_map.1 hc
   obtain ⟨x, -, he⟩ := pick_at (h1 i hi)
   simp only [he]
   unfold chOK
   rw [x.2.1, x.2.2]; rfl
 · unfold pick
   rw [List.Nodup, List.pairwise_map]
   refine List.Pairwise.imp_of_mem (fun {i j} hi hj hne e => hne ?_) h2
   have h4 := h1 i hi
   have h5 := h1 j hj
   refine (List.getElem?_inj (l := pairsOf l) (i := i) (j := j) (by omega) hnd).1 ?_
   rw [List.getElem?_eq_getElem (by omega), List.getElem?_eq_getElem (by omega)] at e ⊢
   simpa using e
theorem fitF_isSome {g : List Int -> Option Sh} {ys : List (List Int)} {y : List Int} (hy : y ∈ ys) (hg : (g y).isSome = true) : (fitF g ys).isSome = true := by
 induction ys with
 | nil => cases hy
 | cons z r ih =>
   unfold fitF
   cases hz : g z with
   | some s => rfl
   | none =>
     rcases List.mem_cons.1 hy with h | h
     · subst h; rw [hz] at hg; cases hg
     · simp only [Option.isSome_map]
       exact ih h
theorem built_serves {n m : Nat} {L : Int} {l : List (Pt L)} (h : n <= m) {res : List Nat} (hr : bldO n m L l = some res) : ∀ x ∈ l, (fitP (n : Int) m L (wvs L (pick (pairsOf l) res)) x).isSome = true := by
 intro x hx
 obtain ⟨h1, h2, h3, h4⟩ := bldO_ok h hr
 obtain ⟨a, ha, he⟩ := List.mem_iff_getElem.1 hx
 obtain ⟨i, hi, hc⟩ := h1 a ha
 obtain ⟨y, hy, hyp⟩ := pick_at (h2 i hi)
 unfold fitP
 refine fitF_isSome (y := wav L y.1.1 y.1.2) (List.mem_map.2 ⟨y.1, List.mem_map.2 ⟨i, hi, hyp⟩, rfl⟩) ?_
 unfold rowAt svM at hc
 rw [List.getElem?_map, hy] at hc
 simp only [Option.map_some, Option.getD_some] at hc
 rw [List.getElem?_map, List.getElem?_eq_getElem ha, he] at hc
 simp only [Option.map_some, Option.some.injEq] at hc
 exact hc
theorem built_bank {n m : Nat} {L : Int} {l : List (Pt L)} (hnd : (pairsOf l).Nodup) (h : n <= m) {res : List Nat} (hr : bldO n m L l = some res) : bankOK L (pick (pairsOf l) res) = true := by
 obtain ⟨h1, h2, h3, h4⟩ := bldO_ok h hr
 exact pick_ok hnd h2 h3 h4
end Go.Proofs.YtdpjdifoonfcdaaGreatDoor

namespace Go.Proofs.YtdpjdifoonfcdaaGreatDoor
open Go.RowKit Go.Maps Go.ChangeMaps Go.MapKept
def MIs (D : DataW Unit) (m : List Bool) : Prop := Maps.Tidy D /\ (∀ (i : Nat) (b : Bool), m[i]? = some b -> Maps.has D (.int .i64 i) = b /\ D.atKey (.int .i64 i) (.lit (.bool false)) = .lit (.bool b)) /\ Maps.size D = m.count true
theorem key_int (i : Nat) : WideAt.IsKeyLit (.int .i64 i) := by
 first | exact .int _ _ | trivial | (unfold WideAt.IsKeyLit; trivial) | decide
theorem MIs.nil (n : Nat) : MIs (.map []) (List.replicate n false) := by
 refine ⟨Maps.tidy_empty, fun i b h => ?_, ?_⟩
 · rw [List.getElem?_replicate] at h
   split at h
   · cases h; exact ⟨rfl, rfl⟩
   · cases h
 · simp [Maps.size, List.count_replicate]
theorem MIs.put {D : DataW Unit} {m : List Bool} {k : Nat} (h : MIs D m) (hk : m[k]? = some false) : MIs (D.put (.int .i64 k) (.lit (.bool true))) (m.set k true) := by
 obtain ⟨h0, h1, h2⟩ := h
 have hl := (List.getElem?_eq_some_iff.1 hk)
 obtain ⟨hl, he⟩ := hl
 refine ⟨h0.put (key_int k) _, fun i b hi => ?_, ?_⟩
 · by_cases hik : i = k
   · subst hik
     rw [List.getElem?_set_self hl] at hi
     cases hi
     exact ⟨Maps.has_put_same h0.isMap (key_int _) _, Maps.atKey_put_same h0.isMap (key_int _) _ _⟩
   · rw [List.getElem?_set_ne (fun e => hik e.symm)] at hi
     have hne : (Lit.int .i64 i) ≠ .int .i64 k := fun e => hik (by injection e with _ e; omega)
     obtain ⟨a1, a2⟩ := h1 i b hi
     exact ⟨(Maps.has_put_other hne _).trans a1, (Maps.atKey_put_other hne _ _).trans a2⟩
 · rw [Maps.size_put h0, (h1 k false hk).1, if_neg (by decide), h2, List.count_set hl, he]
   simp
theorem MIs.del {D : DataW Unit} {m : List Bool} {k : Nat} (h : MIs D m) (hl : k < m.length) : MIs (D.del (.int .i64 k)) (m.set k false) := by
 obtain ⟨h0, h1, h2⟩ := h
 refine ⟨h0.del _, fun i b hi => ?_, ?_⟩
 · by_cases hik : i = k
   · subst hik
     rw [List.getElem?_set_self hl] at hi
     cases hi
     exact ⟨Maps.has_del_same, Maps.atKey_del_same _⟩
   · rw [List.getElem?_set_ne (fun e => hik e.symm)] at hi
     have hne : (Lit.int .i64 i) ≠ .int .i64 k := fun e => hik (by injection e with _ e; omega)
     obtain ⟨a1, a2⟩ := h1 i b hi
     exact ⟨(Maps.has_del_other hne).trans a1, (Maps.atKey_del_other hne _).trans a2⟩
 · have hs := Maps.size_del (k := .int .i64 k) h0
   have hb := (h1 k (m[k]) (List.getElem?_eq_getElem hl)).1
   rw [hb, h2] at hs
   rw [List.count_set hl]
   have hc : m[k] = true -> 0 < m.count true := fun e => List.count_pos_iff.2 (by rw [<- e]; exact List.getElem_mem hl)
   generalize m[k] = q at *
   cases q
   · simp at hs ⊢; omega
   · have := hc rfl; simp at hs ⊢; omega
theorem plainElem_bool_inv {P : Program} {e : TypeId} (he : P.underlying e = some .bool) {v : Value} {z : DataW Unit × List MemPlace} (h : plainElem P e v = some z) : ∃ x, v = .bool x /\ z = (.lit (.bool x), []) := by
 unfold plainElem at h
 rw [he] at h
 cases v <;> simp at h
 exact ⟨_, rfl, h.symm⟩
theorem wpList_lookup_bool {P : Program} (w : World) {ops : Array Oper} {rest : List Oper} {o : Oper} {a : Act} {Q : Exit -> Act -> World -> Prop}
 (hg : o.guard = none) (m x : Operand) (t : TypeId) (hop : o.op = Op.lookup t m x false)
 (k e : TypeId) (K : Maps.Keyed P k) (ht : P.underlying t = some (.map k e)) (he : P.underlying e = some .bool) (hz : (zeroValue e).run P w = .ok (.bool false) w) (b n : Nat) (D : DataW Unit)
 (hm : a.eval m = .map (some b)) (hown : w.ownsMap P k (plainElem P e) b n D) (key : Value) (kl : Lit) (hx : a.eval x = key) (hkey : keyOf P k key = some kl) (c : Bool) (hat : D.atKey kl (.lit (.bool false)) = .lit (.bool c))
 (hK : wpList P ops Q rest (a.put o.dst (.bool c)) w) :
 wpList P ops Q (o :: rest) a w := by
 refine wpList_plain hg fun K' hK' => ?_
 obtain ⟨v, ps, hrun, hv⟩ := hown.lookup K ht hz (plainElem_bool he false) hkey
 obtain ⟨c', rfl, hc⟩ := plainElem_bool_inv he hv
 simp only [Prod.mk.injEq] at hc
 rw [hat] at hc
 have hcc : c = c' := by have := hc.1; injection this with h; injection h
 subst hcc
 unfold Oper.wp
 simp [execOp, hop, hm, hx, hrun, Result.andThen]
 exact hK' _ _ hK
end Go.Proofs.YtdpjdifoonfcdaaGreatDoor

namespace Go.Proofs.YtdpjdifoonfcdaaGreatDoor
open Go.RowKit
def ixT (row : List Bool) (k : Nat) : List Nat := (List.range k).filter fun a => row[a]? == some true
theorem ixT_zero (row : List Bool) : ixT row 0 = [] := rfl
theorem ixT_step {row : List Bool} {k : Nat} {p : Bool} (h : row[k]? = some p) : ixT row (k + 1) = ixT row k ++ if p = true then [k] else [] := by
 unfold ixT
 rw [List.range_succ, List.filter_append]
 congr 1
 cases p <;> simp [h]
theorem ixT_lt {row : List Bool} {k a : Nat} (h : a ∈ ixT row k) : a < k := by
 unfold ixT at h
 exact List.mem_range.1 (List.mem_filter.1 h).1
theorem ixT_len (row : List Bool) (k : Nat) : (ixT row k).length <= k := by
 unfold ixT
 refine Nat.le_trans (List.length_filter_le _ _) ?_
 rw [List.length_range]; exact Nat.le_refl _
def cntT (m : List Bool) (ks : List Nat) : Nat := ks.countP fun a => m[a]? == some true
theorem cntT_snoc {m : List Bool} {ks : List Nat} {j a : Nat} {q : Bool} (hj : ks[j]? = some a) (hq : m[a]? = some q) : cntT m (ks.take (j + 1)) = cntT m (ks.take j) + if q = true then 1 else 0 := by
 unfold cntT
 rw [List.take_add_one, hj, List.countP_append]
 congr 1
 cases q <;> simp [hq]
theorem cntT_le (m : List Bool) (ks : List Nat) : cntT m ks <= ks.length := List.countP_le_length
theorem cntT_gain {row m : List Bool} (h : row.length = m.length) : ∀ k, k <= m.length -> cntT m (ixT row k) = gainTo row m k := by
 intro k
 induction k with
 | zero => intro _; rfl
 | succ k ih =>
   intro hk
   obtain ⟨p, hp⟩ := get_of_lt (xs := row) (show k < row.length by omega)
   obtain ⟨q, hq⟩ := get_of_lt (xs := m) (show k < m.length by omega)
   rw [ixT_step hp, gainTo_step hp hq, <- ih (by omega)]
   unfold cntT
   rw [List.countP_append]
   congr 1
   cases p <;> cases q <;> simp [hq]
def delT (m : List Bool) (ks : List Nat) : List Bool := ks.foldl (fun m a => m.set a false) m
theorem delT_snoc {m : List Bool} {ks : List Nat} {j a : Nat} (hj : ks[j]? = some a) : delT m (ks.take (j + 1)) = (delT m (ks.take j)).set a false := by
 unfold delT
 rw [List.take_add_one, hj, List.foldl_append]
 rfl
theorem delT_len (m : List Bool) (ks : List Nat) : (delT m ks).length = m.length := by
 unfold delT
 induction ks generalizing m with
 | nil => rfl
 | cons a ks ih => rw [List.foldl_cons, ih, List.length_set]
theorem delT_mid {row m : List Bool} (h : row.length = m.length) : ∀ k, k <= m.length -> delT m (ixT row k) = midTo row m k := by
 intro k
 induction k with
 | zero => intro _; rw [ixT_zero, midTo_zero]; rfl
 | succ k ih =>
   intro hk
   obtain ⟨p, hp⟩ := get_of_lt (xs := row) (show k < row.length by omega)
   obtain ⟨q, hq⟩ := get_of_lt (xs := m) (show k < m.length by omega)
   rw [ixT_step hp, <- midTo_set h hq hp, <- ih (by omega)]
   cases p
   · have hg : (delT m (ixT row k))[k]? = some q := by rw [ih (by omega), midTo_get h (by omega), hq]
     simp only [Bool.not_false, Bool.and_true, Bool.false_eq_true, if_false, List.append_nil]
     obtain ⟨hl, he⟩ := List.getElem?_eq_some_iff.1 hg
     rw [<- he, List.set_getElem_self]
   · unfold delT
     simp [List.foldl_append]
def atV (p : Nat × Nat) : Int := if p.2 = 0 then -1 else p.1
def nvs (l : List Nat) : List Int := l.map fun a : Nat => (a : Int)
theorem nvs_get {l : List Nat} {j a : Nat} (h : l[j]? = some a) : ((nvs l).map (Value.int .i64))[j]? = some (.int .i64 a) := by
 unfold nvs
 rw [List.getElem?_map, List.getElem?_map, h]; rfl
theorem nvs_len (l : List Nat) : ((nvs l).map (Value.int .i64)).length = l.length := by
 unfold nvs
 rw [List.length_map, List.length_map]
theorem nvs_snoc (l : List Nat) (a : Nat) : (nvs (l ++ [a])).map (Value.int .i64) = (nvs l).map (Value.int .i64) ++ [.int .i64 a] := by simp [nvs]
theorem nvs_ne {l : List Nat} (h : 0 < l.length) : (nvs l).map (Value.int .i64) ≠ [] := by
 intro h2
 have := nvs_len l
 rw [h2] at this
 simp at this; omega
def ixC (g : List (List Bool)) (n : Nat) : List (List Value) := g.map fun r => (nvs (ixT r n)).map (Value.int .i64)
theorem ixC_get {g : List (List Bool)} {n i : Nat} {r : List Bool} (h : g[i]? = some r) : (ixC g n)[i]? = some ((nvs (ixT r n)).map (Value.int .i64)) := by
 unfold ixC
 rw [List.getElem?_map, h]; rfl
end Go.Proofs.YtdpjdifoonfcdaaGreatDoor

namespace Go.Proofs.YtdpjdifoonfcdaaGreatDoor
open Go.RowKit
def htOK (h : Int × Int × Int) : Prop := (0 <= h.1 /\ h.1 <= 1000) /\ (0 <= h.2.1 /\ h.2.1 <= 63) /\ 0 <= h.2.2 /\ h.2.2 <= 268435456
instance (h : Int × Int × Int) : Decidable (htOK h) := by unfold htOK; exact inferInstance
abbrev Ht := {h : Int × Int × Int // htOK h}
instance : Inhabited Ht := ⟨⟨(0, 0, 0), by decide⟩⟩
def encH (x : Ht) : List Value := [.int .i64 x.1.1, .int .i64 x.1.2.1, .int .i64 x.1.2.2]
def hts (l : List Ht) : List Value := l.flatMap encH
theorem hts_len (l : List Ht) : (hts l).length = l.length * 3 := by
 induction l with
 | nil => rfl
 | cons x r ih => rw [show hts (x :: r) = encH x ++ hts r from rfl, List.length_append, ih, List.length_cons]; simp [encH]; omega
end Go.Proofs.YtdpjdifoonfcdaaGreatDoor
