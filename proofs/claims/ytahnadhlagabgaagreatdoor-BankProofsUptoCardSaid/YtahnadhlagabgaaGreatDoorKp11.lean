/- Parts of a proof, in build order: YI2, YH, YL, V9, Z0, Z1, Z2, Z3. -/
import Derived.Test.YtahnadhlagabgaaGreatDoorKp10
import Derived.Deep.Strs
import Derived.Lib.SmallJoins

namespace Go.Proofs.YtahnadhlagabgaaGreatDoor
open Go.RowKit Go.Shelf
theorem prvL_len {n d L : Int} {ys : List (List Int)} {l : List (Pt L)} : ∀ {fs : List (Int × Int)}, prvL n d L ys l (fs.take l.length) = true -> l.length <= fs.length -> prvL n d L ys l fs = decide (fs.length = l.length) := by
 induction l with
 | nil => intro fs _ _; rfl
 | cons x r ih =>
   intro fs h hl
   cases fs with
   | nil => simp at hl
   | cons f fs =>
     rw [List.length_cons, List.take_succ_cons] at h
     simp only [prvL, Bool.and_eq_true] at h
     simp only [prvL, h.1, Bool.true_and]
     rw [ih h.2 (by simpa using hl)]
     simp
theorem prvL_step {n d L : Int} {ys : List (List Int)} {x : Pt L} {f : Int × Int} {l : List (Pt L)} : ∀ {fs : List (Int × Int)}, prvL n d L ys l (fs.take l.length) = true -> fs[l.length]? = some f -> prvI n d L ys x f = true -> prvL n d L ys (l ++ [x]) (fs.take (l.length + 1)) = true := by
 induction l with
 | nil =>
   intro fs _ hf hx
   cases fs with
   | nil => simp at hf
   | cons g r =>
     simp only [List.length_nil, List.getElem?_cons_zero, Option.some.injEq] at hf
     subst hf
     simp [prvL, hx]
 | cons y r ih =>
   intro fs h hf hx
   cases fs with
   | nil => simp at hf
   | cons g fs =>
     rw [List.length_cons, List.take_succ_cons] at h
     rw [List.length_cons, List.getElem?_cons_succ] at hf
     simp only [prvL, Bool.and_eq_true] at h
     rw [List.cons_append, List.length_cons, List.take_succ_cons]
     simp only [prvL, h.1, Bool.true_and]
     exact ih h.2 hf hx
theorem prvL_bad {n d L : Int} {ys : List (List Int)} {x : Pt L} {l : List (Pt L)} : ∀ {fs : List (Int × Int)}, prvL n d L ys l (fs.take l.length) = true -> (fs.length <= l.length ∨ ∃ f, fs[l.length]? = some f /\ prvI n d L ys x f = false) -> ∀ t : List (Pt L), l ++ [x] <+: t -> prvL n d L ys t fs = false := by
 induction l with
 | nil =>
   rintro fs _ hb t ⟨u, rfl⟩
   rw [List.nil_append, List.singleton_append]
   cases fs with
   | nil => rfl
   | cons g r =>
     rcases hb with hb | ⟨f, hf, hx⟩
     · simp at hb
     · simp only [List.length_nil, List.getElem?_cons_zero, Option.some.injEq] at hf
       subst hf
       simp [prvL, hx]
 | cons y r ih =>
   rintro fs h hb t ⟨u, rfl⟩
   rw [List.cons_append, List.cons_append]
   cases fs with
   | nil => rfl
   | cons g fs =>
     rw [List.length_cons, List.take_succ_cons] at h
     simp only [prvL, Bool.and_eq_true] at h
     simp only [prvL, h.1, Bool.true_and]
     refine ih h.2 ?_ _ ⟨u, rfl⟩
     rcases hb with hb | ⟨f, hf, hx⟩
     · exact .inl (by simpa using hb)
     · exact .inr ⟨f, by simpa using hf, hx⟩
theorem add_none (b o j : Nat) : (⟨b, o, none⟩ : Addr).add j = ⟨b, o + j, none⟩ := by unfold Addr.add; split <;> simp_all
set_option maxRecDepth 1000000 in
set_option maxHeartbeats 8000000 in
theorem Proves_good (L a b c d : Int) (cs : List (Int × Int)) (ao : Option Addr) (cap : Nat) (s : ByteArray) (fs : List (Int × Int)) (fo : Option Addr) (fc : Nat) (w : World) (ht : Tab w) (hs : s.size <= 140737488351232) (hc : Cells w ao (prs cs)) (hl : cs.length <= 9223372036854775807) (hcap : cs.length <= cap) (hcap2 : cap <= 9223372036854775807) (hfc : Cells w fo (prs fs)) (hfl : fs.length <= 9223372036854775807) (hE0 : covE L a b c d cs s = 0) :
 Calls Tryz.prog 14 #[.agg #[.int .i64 L, .int .i64 a, .int .i64 b, .int .i64 c, .int .i64 d], .slice ao cs.length cap, .string s, .slice fo fs.length fc] w fun e w' => e = .returned (.tuple #[.bool (prvR L a b c d cs s fs), .int .i64 (covE L a b c d cs s)]) /\ Below w.heap.size w w' := by
 obtain ⟨W0, hW0⟩ : ∃ W0, (((w.alloc (.cells #[.int .i64 L, .int .i64 a, .int .i64 b, .int .i64 c, .int .i64 d] 23)).alloc (.cells #[.slice fo fs.length fc] 28)).alloc (.cells #[.bool false] 4)).alloc (.cells #[.int .i64 0] 29) = W0 := ⟨_, rfl⟩
 have hB0 : Below w.heap.size w W0 := by rw [<- hW0]; exact ((((Below.refl _ w).alloc (Nat.le_refl _) _).alloc (by simp) _).alloc (by simp; omega) _).alloc (by simp; omega) _
 have hs0 : W0.heap.size = w.heap.size + 4 := by rw [<- hW0]; simp
 have q0 : Blk W0 w.heap.size 23 #[.int .i64 L, .int .i64 a, .int .i64 b, .int .i64 c, .int .i64 d] := by
  unfold Blk; rw [<- hW0, hold_old _ _ _ (by simp <;> omega), hold_old _ _ _ (by simp <;> omega)]; exact heap_alloc2_old w _ _
 have q1 : Blk W0 (w.heap.size + 1) 28 #[.slice fo fs.length fc] := by
  unfold Blk; rw [<- hW0, hold_old _ _ _ (by simp <;> omega), hold_old _ _ _ (by simp)]; exact heap_alloc2_new w _ _
 obtain ⟨W2, hW2⟩ : ∃ W2, (w.alloc (.cells #[.int .i64 L, .int .i64 a, .int .i64 b, .int .i64 c, .int .i64 d] 23)).alloc (.cells #[.slice fo fs.length fc] 28) = W2 := ⟨_, rfl⟩
 have hs2 : W2.heap.size = w.heap.size + 2 := by rw [<- hW2]; simp
 have q2 : Blk W0 (w.heap.size + 1 + 1) 4 #[.bool false] := by
  unfold Blk; rw [<- hW0, hW2, show w.heap.size + 1 + 1 = W2.heap.size by omega]; exact heap_alloc2_old W2 _ _
 have q3 : Blk W0 (w.heap.size + 1 + 1 + 1) 29 #[.int .i64 0] := by
  unfold Blk; rw [<- hW0, hW2, show w.heap.size + 1 + 1 + 1 = W2.heap.size + 1 by omega]; exact heap_alloc2_new W2 _ _
 have hcv := covering_any L a b c d cs ao cap s W0 (ht.below hB0 (Nat.le_refl _)) hs (hc.below hB0 (Nat.le_refl _)) hl hcap hcap2
 have HW0 := Lib.hid hW0; have HCV := Lib.hid hcv; have HB0 := Lib.hid hB0; have HS0 := Lib.hid hs0
 have Q0 := Lib.hid q0; have Q1 := Lib.hid q1; have Q2 := Lib.hid q2; have Q3 := Lib.hid q3
 have HFC := Lib.hid (hfc.below hB0 (Nat.le_refl _))
 clear hW0 hcv ht hc hB0 hs0 hfc hW2 hs2 q0 q1 q2 q3
 refine (callsIn_wide (n := 8)).1 ?_
 refine callsIn_of_wp_marks Tryz.func14 rfl trivial ?_ rfl
 simp only [Tryz.ntmps14, List.size_toArray, List.length_cons, List.length_nil, Nat.reduceAdd, Nat.reduceSub, Array.replicate_succ, Array.replicate_zero, List.push_toArray, List.append_toArray, List.nil_append, List.cons_append]
 gi_wp2_with (refine ⟨trivial, ?_⟩; gi_at_call 50; rw [HW0.out]; refine (callsIn_wide.2 HCV.out).mono ?_; rintro r w1 ⟨⟨hE, hf, hbk, C, bo, cb, N, D, rfl, hbs, hC, hcs⟩ | ⟨hE, rfl⟩, hb1⟩ <;> refine Hid.out ?_)
 rotate_left
 · exact absurd hE0 hE
 refine Lib.hid ?_
 have hbw := HB0.out.trans (hb1.mono HB0.out.size)
 have hsz := HS0.out
 have hs1 := hb1.size
 obtain ⟨z0, z1, z2, z3, z4⟩ : w1.cell? ⟨w.heap.size, 0, none⟩ = some (.int .i64 L) /\ w1.cell? ⟨w.heap.size, 1, none⟩ = some (.int .i64 a) /\ w1.cell? ⟨w.heap.size, 2, none⟩ = some (.int .i64 b) /\ w1.cell? ⟨w.heap.size, 3, none⟩ = some (.int .i64 c) /\ w1.cell? ⟨w.heap.size, 4, none⟩ = some (.int .i64 d) := by
  have h := Q0.out.below hb1 (by omega)
  exact ⟨h.cell 0, h.cell 1, h.cell 2, h.cell 3, h.cell 4⟩
 have hlt : w.heap.size < w1.heap.size := by omega
 have HCC := Lib.hid hC; have HCS := Lib.hid hcs; have HB1 := Lib.hid hb1; have HBW := Lib.hid hbw; have HE := Lib.hid hE; have HF := Lib.hid hf; have HBK := Lib.hid hbk; have HBS := Lib.hid hbs
 clear hC hcs hb1 hbw hE hE0 hf hbk hbs
 gi_wp2_with (refine ⟨trivial, ?_⟩; gi_at_call 55; refine (callsIn_wide.2 (points_any L a b c d _)).mono ?_; rintro r w2 ⟨rfl, rfl⟩; refine Hid.out ?_)
 refine Lib.hid ?_
 gi_wp2
 clear z0 z1 z2 z3 z4
 obtain ⟨W1, hW1⟩ : ∃ W1, ((w1.alloc (.cells #[.pointer (some ⟨C, 0, none⟩)] 82)).alloc (.cells #[.int .i64 0] 3)).alloc (.cells #[.int .i64 L, .int .i64 a, .int .i64 b, .int .i64 c, .int .i64 d] 23) = W1 := ⟨_, rfl⟩
 have hBW1 : Below w1.heap.size w1 W1 := by rw [<- hW1]; exact (((Below.refl _ _).alloc (Nat.le_refl _) _).alloc (by simp) _).alloc (by simp; omega) _
 have hsW1 : W1.heap.size = w1.heap.size + 3 := by rw [<- hW1]; simp
 have y0 : Blk W1 w1.heap.size 82 #[.pointer (some ⟨C, 0, none⟩)] := by unfold Blk; rw [<- hW1, hold_old _ _ _ (by simp; omega)]; exact heap_alloc2_old w1 _ _
 have y1 : Blk W1 (w1.heap.size + 1) 3 #[.int .i64 0] := by unfold Blk; rw [<- hW1, hold_old _ _ _ (by simp)]; exact heap_alloc2_new w1 _ _
 have y2 : W1.heap[w1.heap.size + 1 + 1]? = some (.cells #[.int .i64 L, .int .i64 a, .int .i64 b, .int .i64 c, .int .i64 d] 23 (0, 0)) := by
  have h := heap_alloc_new ((w1.alloc (.cells #[.pointer (some ⟨C, 0, none⟩)] 82)).alloc (.cells #[.int .i64 0] 3)) (.cells #[.int .i64 L, .int .i64 a, .int .i64 b, .int .i64 c, .int .i64 d] 23)
  rw [show ((w1.alloc (.cells #[.pointer (some ⟨C, 0, none⟩)] 82)).alloc (.cells #[.int .i64 0] 3)).heap.size = w1.heap.size + 1 + 1 by simp] at h
  rw [<- hW1]; exact h
 rw [hW1]
 have HW1 := Lib.hid hW1
 clear hW1
 obtain ⟨Z, hZ⟩ : ∃ Z, Z = shp 0 (smp 0 0 0) := ⟨_, rfl⟩
 have z : Tryz.zeroCells100 = Z := by rw [hZ]; exact zero101
 have hZs : Z.size = 65 := by rw [hZ, shp_size, smp_length]
 clear hZ
 refine wpIn_rangeFunc_ownH rfl (by omega) (gf := 110) (lb := #[.pointer (some ⟨w1.heap.size + 1 + 1, 0, none⟩)]) rfl trivial (enters_of Tryz.func110 (by kernel_rfl) rfl)
  (points_stops _ (by omega) (w1.heap.size + 1 + 1) L a b c d HF.out W1 y2) KeepB.trans (keepB_b (by omega)) (Below.refl _ _) (fun _ => rfl)
  (fun pre W => (Blk W w1.heap.size 82 #[.pointer (some ⟨C, 0, none⟩)] /\ Blk W (w1.heap.size + 1) 3 #[.int .i64 ((pre.length : Nat) : Int)] /\ pre.length <= fs.length /\ prvL N D L (wvs L cs) pre (fs.take pre.length) = true) /\ Below w1.heap.size w1 W /\ W1.heap.size <= W.heap.size)
  (fun cc pre W => (cc = .ret /\ (∀ t : List (Pt L), pre <+: t -> prvL N D L (wvs L cs) t fs = false) /\ W.cell? ⟨w.heap.size + 1 + 1, 0, none⟩ = some (.bool false) /\ W.cell? ⟨w.heap.size + 1 + 1 + 1, 0, none⟩ = some (.int .i64 0)) /\ Below w.heap.size w W)
  (OwnFrom.and (Own.from (fun s A B row hs hg hr => ⟨row_kept hs.1 hg hr, row_kept hs.2.1 hg hr, hs.2.2⟩) _) (OwnFrom.and (ownFrom_below (Nat.le_refl _) (by omega)) (fun _ _ _ _ hs hg _ => Nat.le_trans hs hg.size)))
  (fun cc => OwnFrom.and (Own.from (fun s A B row hs hg hr => ⟨hs.1, hs.2.1, cell_kept hs.2.2.1 hg hr, cell_kept hs.2.2.2 hg hr⟩) _) (ownFrom_below (Nat.le_refl _) (by omega)))
  ⟨⟨y0, y1, Nat.zero_le _, rfl⟩, hBW1, Nat.le_refl _⟩
  (fun x a' W => ∃ Bx, w1.heap.size + 3 <= Bx /\ W.heap[Bx]? = some (.cells (shp L (wav L x.1.1 x.1.2)) 100 (0, 0)) /\ a' = { tmps := #[.agg #[.int .i64 L, .int .i64 a, .int .i64 b, .int .i64 c, .int .i64 d], .slice ao cs.length cap, .string s, .slice fo fs.length fc, .pointer (some ⟨w.heap.size, 0, none⟩), undef, undef, .pointer (some ⟨w.heap.size + 1, 0, none⟩), .pointer (some ⟨w.heap.size + 1 + 1, 0, none⟩), .pointer (some ⟨w.heap.size + 1 + 1 + 1, 0, none⟩), .pointer (some ⟨w1.heap.size, 0, none⟩), .int .i64 0, .pointer (some ⟨w1.heap.size + 1, 0, none⟩), undef, .pointer (some ⟨Bx, 0, none⟩), undef, .tuple #[.pointer (some ⟨C, 0, none⟩), .int .i64 0], .agg #[.int .i64 L, .int .i64 a, .int .i64 b, .int .i64 c, .int .i64 d], .slice ao cs.length cap, .string s, .tuple #[.pointer (some ⟨C, 0, none⟩), .int .i64 0], .pointer (some ⟨C, 0, none⟩), .int .i64 0, .int .i64 0, .bool false, undef, .agg #[.int .i64 L, .int .i64 a, .int .i64 b, .int .i64 c, .int .i64 d], .func (.func 110) #[] #[.pointer (some ⟨w1.heap.size + 1 + 1, 0, none⟩)], .agg #[.int .i64 x.1.1, .int .i64 x.1.2], .agg (shp L (wav L x.1.1 x.1.2)), undef, undef, undef, undef, undef, undef, undef, undef, undef, undef, undef, undef, undef, undef, undef, undef, undef, undef, undef, undef, undef, undef, undef, undef, undef, undef, undef, undef, undef, undef, undef, undef, undef, undef, undef, undef, undef, undef, undef, undef, undef, undef, undef, undef, undef, undef, undef, undef, undef, undef, undef, undef, undef, undef, undef], defers := [] })
  (fun x a' _ X Y row hs hg hr => by
   obtain ⟨Bx, h1, h2, h3⟩ := hs
   refine ⟨Bx, h1, (hg.block Bx (Array.getElem?_eq_some_iff.1 h2).1 (fun e => ?_)).trans h2, h3⟩
   obtain ⟨_, o, ho, hc⟩ := hr Bx e.symm
   rw [h2] at ho; cases ho; cases hc)
  ?assign ?body ?done ?stop
 case assign =>
  rintro l pre x W K ⟨⟨h1, h2, h3, h4⟩, hB1, hs⟩ hK
  have hst := store_shape (shp L (wav L x.1.1 x.1.2)) Z (by rw [shp_size, wav_length]) hZs shp_mem
  have hVs : (shp L (wav L x.1.1 x.1.2)).size = 65 := by rw [shp_size, wav_length]
  unfold ptV
  generalize shp L (wav L x.1.1 x.1.2) = V at *
  have hne : ¬ V = #[] := by intro h; rw [h] at hVs; simp at hVs
  gi_wp2_with (rw [Oper.semAt_eq _ _ _ (fun c h => by cases h)]; go_simp; try go_bits)
  have hal := (Below.refl W.heap.size W).alloc (Nat.le_refl _) (.cells V 100)
  exact hK _ _ ((KeepsOthers.alloc _ _).from _) (KeepB.of hal (by omega)) ⟨⟨h1.below hal h1.lt, h2.below hal h2.lt, h3, h4⟩, hB1.alloc hB1.size _, by simp; omega⟩ ⟨W.heap.size, by omega, heap_alloc_new _ _, rfl⟩
 case body =>
  rintro l pre x a' W hl ⟨r, hr⟩ ⟨⟨h1, h2, h3, h4⟩, hB, hs⟩ ⟨Bx, hBx, bX, rfl⟩ hlt
  have hfm := fam_true HF.out
  have hlen : pre.length < 400 := by omega
  clear hfm
  have hb0 := HB1.out.trans (hB.mono hs1)
  have k1 := (Q1.out.below hb0 (by omega)).c0
  have k2 := (Q2.out.below hb0 (by omega)).c0
  have k3 := (Q3.out.below hb0 (by omega)).c0
  have f2 := (Q2.out.below hb0 (by omega)).free 0
  have f3 := (Q3.out.below hb0 (by omega)).free 0
  have i1 := h2.c0
  have B2 := Lib.hid (Q2.out.below hb0 (by omega)); have B3 := Lib.hid (Q3.out.below hb0 (by omega))
  have HB := Lib.hid hB; have HH1 := Lib.hid h1; have HH2 := Lib.hid h2; have H4 := Lib.hid h4; have HB0W := Lib.hid hb0
  have l2 : w.heap.size + 1 + 1 < W.heap.size := by omega
  have l3 : w.heap.size + 1 + 1 + 1 < W.heap.size := by omega
  have hbad := prvL_bad (x := x) (fs := fs) h4
  have HBAD := Lib.hid hbad
  clear hbad h1 h2 h4 hb0 hB
  by_cases hge : fs.length <= pre.length
  · have hgi : (fs.length : Int) <= pre.length := by omega
    gi_wp2_with (rw [Oper.semAt_eq _ _ _ (fun c h => by cases h)]; go_simp; try go_bits)
    have hk := ((KeepsOthers.setCell W ⟨w.heap.size + 1 + 1, 0, none⟩ (.bool false)).trans (KeepsOthers.setCell _ ⟨w.heap.size + 1 + 1 + 1, 0, none⟩ (.int .i64 0)))
    have v2 : Blk ((W.setCell ⟨w.heap.size + 1 + 1, 0, none⟩ (.bool false)).setCell ⟨w.heap.size + 1 + 1 + 1, 0, none⟩ (.int .i64 0)) (w.heap.size + 1 + 1) 4 #[.bool false] := (B2.out.set0 _).other (by omega) _ _
    have v3 : Blk ((W.setCell ⟨w.heap.size + 1 + 1, 0, none⟩ (.bool false)).setCell ⟨w.heap.size + 1 + 1 + 1, 0, none⟩ (.int .i64 0)) (w.heap.size + 1 + 1 + 1) 29 #[.int .i64 0] := (B3.out.other (by omega) _ _).set0 _
    have hbb : Below w.heap.size W ((W.setCell ⟨w.heap.size + 1 + 1, 0, none⟩ (.bool false)).setCell ⟨w.heap.size + 1 + 1 + 1, 0, none⟩ (.int .i64 0)) := ((Below.refl _ W).setCell (p := ⟨w.heap.size + 1 + 1, 0, none⟩) (by show w.heap.size <= w.heap.size + 1 + 1; omega) _).setCell (p := ⟨w.heap.size + 1 + 1 + 1, 0, none⟩) (by show w.heap.size <= w.heap.size + 1 + 1 + 1; omega) _
    exact ⟨hk.from _, ⟨rfl, HBAD.out (.inl hge), v2.c0, v3.c0⟩, (HBW.out.trans (HB.out.mono (by omega))).trans hbb⟩
  · obtain ⟨⟨fi, fj⟩, hfx⟩ := get_of_lt (show pre.length < fs.length by omega)
    obtain ⟨fb, fof, rfl⟩ := HFC.out.addr (prs_ne (by omega))
    have e1 := cell_keep ((HFC.out.below HB1.out (Nat.le_refl _)).at (prs_fst hfx)) HB.out (Nat.le_refl _)
    have e2 := cell_keep ((HFC.out.below HB1.out (Nat.le_refl _)).at (prs_snd hfx)) HB.out (Nat.le_refl _)
    rw [<- Nat.add_assoc] at e2
    simp only at e1 e2
    have hlt2 : (pre.length : Int) < fs.length := by omega
    have HFX := Lib.hid hfx
    clear hfx
    gi_wp2_with (rw [Oper.semAt_eq _ _ _ (fun c h => by cases h)]; go_simp; try go_bits)
    have hfm := fam_true HF.out
    have hcell : ∀ j v, (#[Value.int .i64 L, .int .i64 a, .int .i64 b, .int .i64 c, .int .i64 d, .slice bo cs.length cb, .int .i64 N, .int .i64 D] : Array Value)[j]? = some v -> w1.cell? ⟨C, j, none⟩ = some v := fun j v hv => (cell_of_row w1 _ j _ _ _ HCC.out).trans hv
    have hal : Below W.heap.size W (W.alloc (.cells #[.int .i64 fi, .int .i64 fj] 93)).drew := bel_drewN ((Below.refl _ _).alloc (Nat.le_refl _) _) 1
    have hB9 := HB.out.trans (hal.mono HB.out.size)
    have hbx9 : (W.alloc (.cells #[.int .i64 fi, .int .i64 fj] 93)).drew.heap[W.heap.size]? = some (.cells #[.int .i64 fi, .int .i64 fj] 93 (0, 0)) := heap_alloc_new W _
    generalize hVV : shp L (wav L x.1.1 x.1.2) = V at *
    have h9 : (fun w' : World => w'.cell? ⟨W.heap.size, 0, none⟩ = some (.int .i64 fi) /\ w'.cell? ⟨W.heap.size, 1, none⟩ = some (.int .i64 fj) /\ w'.cell? ⟨w1.heap.size, 0, none⟩ = some (.pointer (some ⟨C, 0, none⟩)) /\ w'.cell? ⟨C, 5, none⟩ = some (.slice bo cs.length cb) /\ w'.cell? ⟨C, 6, none⟩ = some (.int .i64 N) /\ w'.cell? ⟨C, 7, none⟩ = some (.int .i64 D) /\ w'.cell? ⟨w.heap.size, 0, none⟩ = some (.int .i64 L) /\ w'.heap[Bx]? = some (.cells V 100 (0, 0)) /\ Cells w' bo (shpL L (wvs L cs))) (W.alloc (.cells #[.int .i64 fi, .int .i64 fj] 93)).drew :=
     ⟨(cell_of_row _ _ 0 _ _ _ hbx9).trans rfl, (cell_of_row _ _ 1 _ _ _ hbx9).trans rfl, (HH1.out.below hal HH1.out.lt).c0, cell_keep (hcell 5 _ rfl) hB9 (Nat.le_refl _), cell_keep (hcell 6 _ rfl) hB9 (Nat.le_refl _), cell_keep (hcell 7 _ rfl) hB9 (Nat.le_refl _), cell_keep ((Q0.out.below HB1.out (by omega)).c0) hB9 (Nat.le_refl _), (hal.block _ (Array.getElem?_eq_some_iff.1 bX).1).trans bX, HCS.out.below hB9 (Nat.le_refl _)⟩
    have HVV := Lib.hid hVV
    have hl64 : cs.length <= 64 := by
     have h := HBK.out
     simp only [bankOK, Bool.and_eq_true, decide_eq_true_eq] at h
     exact h.1.1
    have hwi := fun W => bwithin_any fi 0 ((cs.length : Nat) - 1) W
    have HAL := Lib.hid hal
    clear hcell hbx9 hVV bX hal
    cases hin1 : inB 0 fi ((cs.length : Nat) - 1) with
    | false =>
      rw [hin1] at hwi
      have HWI := Lib.hid hwi; have HIN1 := Lib.hid hin1
      clear hwi hin1
      refine wpIn_region_round (S := fun w' : World => w'.cell? ⟨W.heap.size, 0, none⟩ = some (.int .i64 fi) /\ w'.cell? ⟨W.heap.size, 1, none⟩ = some (.int .i64 fj) /\ w'.cell? ⟨w1.heap.size, 0, none⟩ = some (.pointer (some ⟨C, 0, none⟩)) /\ w'.cell? ⟨C, 5, none⟩ = some (.slice bo cs.length cb) /\ w'.cell? ⟨C, 6, none⟩ = some (.int .i64 N) /\ w'.cell? ⟨C, 7, none⟩ = some (.int .i64 D) /\ w'.cell? ⟨w.heap.size, 0, none⟩ = some (.int .i64 L) /\ w'.heap[Bx]? = some (.cells V 100 (0, 0)) /\ Cells w' bo (shpL L (wvs L cs))) (by kernel_rfl) (by kernel_rfl) (fun ⟨_, _, h⟩ => h) h9 (fun hHeld => ?_)
      refine tkV 0 (.pointer (some ⟨W.heap.size, 0, none⟩)) hHeld ?_
      refine tkV 1 (.int .i64 fi) hHeld ?_
      refine tkV 2 (.pointer (some ⟨C, 0, none⟩)) hHeld ?_
      refine tkV 3 (.pointer (some ⟨C, 0, none⟩)) hHeld ?_
      refine tkV 4 (.pointer (some ⟨C, 5, none⟩)) hHeld ?_
      refine tkV 5 (.slice bo cs.length cb) hHeld ?_
      refine tkV 6 (.int .i64 (cs.length : Nat)) hHeld ?_
      refine tkV 7 (.int .i64 ((cs.length : Nat) - 1)) hHeld ?_
      refine tkC 8 (fun K hK => ?_)
      go_simp
      refine (HWI.out _).mono ?_
      rintro e w9 ⟨rfl, rfl⟩
      refine hK.out _ _ h9 (fun _ => ?_)
      clear hK K
      try simp only [Act.put, List.setIfInBounds_toArray, List.set_cons_zero, List.set_cons_succ]
      refine tkV 9 (.bool true) h9 ?_
      refine tkV 10 (.bool true) h9 ?_
      refine tkS 11 h9 ?_
      refine tkS 12 h9 ?_
      refine tkS 13 h9 ?_
      refine tkS 14 h9 ?_
      refine tkS 15 h9 ?_
      refine tkS 16 h9 ?_
      refine tkS 17 h9 ?_
      refine tkS 18 h9 ?_
      refine tkS 19 h9 ?_
      refine tkS 20 h9 ?_
      refine tkV 21 (.bool true) h9 ?_
      refine tkV 22 (.bool true) h9 ?_
      refine tkS 23 h9 ?_
      refine tkS 24 h9 ?_
      refine tkS 25 h9 ?_
      refine tkS 26 h9 ?_
      refine tkS 27 h9 ?_
      refine tkS 28 h9 ?_
      refine tkS 29 h9 ?_
      refine tkS 30 h9 ?_
      refine tkS 31 h9 ?_
      refine tkS 32 h9 ?_
      refine tkS 33 h9 ?_
      refine tkS 34 h9 ?_
      refine tkS 35 h9 ?_
      refine tkS 36 h9 ?_
      refine tkS 37 h9 ?_
      refine tkS 38 h9 ?_
      refine tkS 39 h9 ?_
      refine tkV 40 (.bool true) h9 ?_
      refine wpAnyH_done (by kernel_rfl) ?_ _
      have hn := HAL.out
      clear h9 hHeld
      generalize (W.alloc (.cells #[.int .i64 fi, .int .i64 fj] 93)).drew = WN at *
      have kk2 := (B2.out.below hn l2).c0
      have kk3 := (B3.out.below hn l3).c0
      have ff2 := (B2.out.below hn l2).free 0
      have ff3 := (B3.out.below hn l3).free 0
      have HN := Lib.hid hn
      clear hn
      gi_wp2_with (rw [Oper.semAt_eq _ _ _ (fun c h => by cases h)]; go_simp; try go_bits)
      have hk := (keepsOthers_below HN.out).trans ((KeepsOthers.setCell (WN) ⟨w.heap.size + 1 + 1, 0, none⟩ (.bool false)).trans (KeepsOthers.setCell _ ⟨w.heap.size + 1 + 1 + 1, 0, none⟩ (.int .i64 0)))
      have v2 : Blk (((WN).setCell ⟨w.heap.size + 1 + 1, 0, none⟩ (.bool false)).setCell ⟨w.heap.size + 1 + 1 + 1, 0, none⟩ (.int .i64 0)) (w.heap.size + 1 + 1) 4 #[.bool false] := ((B2.out.below HN.out l2).set0 _).other (by omega) _ _
      have v3 : Blk (((WN).setCell ⟨w.heap.size + 1 + 1, 0, none⟩ (.bool false)).setCell ⟨w.heap.size + 1 + 1 + 1, 0, none⟩ (.int .i64 0)) (w.heap.size + 1 + 1 + 1) 29 #[.int .i64 0] := ((B3.out.below HN.out l3).other (by omega) _ _).set0 _
      have hbb : Below w.heap.size (WN) (((WN).setCell ⟨w.heap.size + 1 + 1, 0, none⟩ (.bool false)).setCell ⟨w.heap.size + 1 + 1 + 1, 0, none⟩ (.int .i64 0)) := ((Below.refl _ _).setCell (p := ⟨w.heap.size + 1 + 1, 0, none⟩) (by show w.heap.size <= w.heap.size + 1 + 1; omega) _).setCell (p := ⟨w.heap.size + 1 + 1 + 1, 0, none⟩) (by show w.heap.size <= w.heap.size + 1 + 1 + 1; omega) _
      exact ⟨hk.from _, ⟨rfl, HBAD.out (.inr ⟨_, HFX.out, by unfold prvI; simp only [show (wvs L cs).length = cs.length by simp [wvs], HIN1.out, Bool.false_and]⟩), v2.c0, v3.c0⟩, (HBW.out.trans ((HB.out.mono (by omega)).trans (HN.out.mono (by omega)))).trans hbb⟩
    | true =>
      rw [hin1] at hwi
      have HWI := Lib.hid hwi; have HIN1 := Lib.hid hin1
      have hwj := fun W => bwithin_any fj (1 - L) (L - 1) W
      clear hwi hin1
      cases hin2 : inB (1 - L) fj (L - 1) with
      | false =>
        rw [hin2] at hwj
        have HWJ := Lib.hid hwj; have HIN2 := Lib.hid hin2
        clear hwj hin2
        refine wpIn_region_round (S := fun w' : World => w'.cell? ⟨W.heap.size, 0, none⟩ = some (.int .i64 fi) /\ w'.cell? ⟨W.heap.size, 1, none⟩ = some (.int .i64 fj) /\ w'.cell? ⟨w1.heap.size, 0, none⟩ = some (.pointer (some ⟨C, 0, none⟩)) /\ w'.cell? ⟨C, 5, none⟩ = some (.slice bo cs.length cb) /\ w'.cell? ⟨C, 6, none⟩ = some (.int .i64 N) /\ w'.cell? ⟨C, 7, none⟩ = some (.int .i64 D) /\ w'.cell? ⟨w.heap.size, 0, none⟩ = some (.int .i64 L) /\ w'.heap[Bx]? = some (.cells V 100 (0, 0)) /\ Cells w' bo (shpL L (wvs L cs))) (by kernel_rfl) (by kernel_rfl) (fun ⟨_, _, h⟩ => h) h9 (fun hHeld => ?_)
        refine tkV 0 (.pointer (some ⟨W.heap.size, 0, none⟩)) hHeld ?_
        refine tkV 1 (.int .i64 fi) hHeld ?_
        refine tkV 2 (.pointer (some ⟨C, 0, none⟩)) hHeld ?_
        refine tkV 3 (.pointer (some ⟨C, 0, none⟩)) hHeld ?_
        refine tkV 4 (.pointer (some ⟨C, 5, none⟩)) hHeld ?_
        refine tkV 5 (.slice bo cs.length cb) hHeld ?_
        refine tkV 6 (.int .i64 (cs.length : Nat)) hHeld ?_
        refine tkV 7 (.int .i64 ((cs.length : Nat) - 1)) hHeld ?_
        refine tkC 8 (fun K hK => ?_)
        go_simp
        refine (HWI.out _).mono ?_
        rintro e w9 ⟨rfl, rfl⟩
        refine hK.out _ _ h9 (fun _ => ?_)
        clear hK K
        try simp only [Act.put, List.setIfInBounds_toArray, List.set_cons_zero, List.set_cons_succ]
        refine tkV 9 (.bool false) h9 ?_
        refine tkV 10 (.bool false) h9 ?_
        refine tkV 11 (.pointer (some ⟨W.heap.size, 1, none⟩)) h9 ?_
        refine tkV 12 (.int .i64 fj) h9 ?_
        refine tkV 13 (.pointer (some ⟨w.heap.size, 0, none⟩)) h9 ?_
        refine tkV 14 (.int .i64 L) h9 ?_
        refine tkV 15 (.int .i64 (1 - L)) h9 ?_
        refine tkV 16 (.pointer (some ⟨w.heap.size, 0, none⟩)) h9 ?_
        refine tkV 17 (.int .i64 L) h9 ?_
        refine tkV 18 (.int .i64 (L - 1)) h9 ?_
        refine tkC 19 (fun K hK => ?_)
        go_simp
        refine (HWJ.out _).mono ?_
        rintro e w9 ⟨rfl, rfl⟩
        refine hK.out _ _ h9 (fun _ => ?_)
        clear hK K
        try simp only [Act.put, List.setIfInBounds_toArray, List.set_cons_zero, List.set_cons_succ]
        refine tkV 20 (.bool true) h9 ?_
        refine tkV 21 (.bool true) h9 ?_
        refine tkV 22 (.bool true) h9 ?_
        refine tkS 23 h9 ?_
        refine tkS 24 h9 ?_
        refine tkS 25 h9 ?_
        refine tkS 26 h9 ?_
        refine tkS 27 h9 ?_
        refine tkS 28 h9 ?_
        refine tkS 29 h9 ?_
        refine tkS 30 h9 ?_
        refine tkS 31 h9 ?_
        refine tkS 32 h9 ?_
        refine tkS 33 h9 ?_
        refine tkS 34 h9 ?_
        refine tkS 35 h9 ?_
        refine tkS 36 h9 ?_
        refine tkS 37 h9 ?_
        refine tkS 38 h9 ?_
        refine tkS 39 h9 ?_
        refine tkV 40 (.bool true) h9 ?_
        refine wpAnyH_done (by kernel_rfl) ?_ _
        have hn := HAL.out
        clear h9 hHeld
        generalize (W.alloc (.cells #[.int .i64 fi, .int .i64 fj] 93)).drew = WN at *
        have kk2 := (B2.out.below hn l2).c0
        have kk3 := (B3.out.below hn l3).c0
        have ff2 := (B2.out.below hn l2).free 0
        have ff3 := (B3.out.below hn l3).free 0
        have HN := Lib.hid hn
        clear hn
        gi_wp2_with (rw [Oper.semAt_eq _ _ _ (fun c h => by cases h)]; go_simp; try go_bits)
        have hk := (keepsOthers_below HN.out).trans ((KeepsOthers.setCell (WN) ⟨w.heap.size + 1 + 1, 0, none⟩ (.bool false)).trans (KeepsOthers.setCell _ ⟨w.heap.size + 1 + 1 + 1, 0, none⟩ (.int .i64 0)))
        have v2 : Blk (((WN).setCell ⟨w.heap.size + 1 + 1, 0, none⟩ (.bool false)).setCell ⟨w.heap.size + 1 + 1 + 1, 0, none⟩ (.int .i64 0)) (w.heap.size + 1 + 1) 4 #[.bool false] := ((B2.out.below HN.out l2).set0 _).other (by omega) _ _
        have v3 : Blk (((WN).setCell ⟨w.heap.size + 1 + 1, 0, none⟩ (.bool false)).setCell ⟨w.heap.size + 1 + 1 + 1, 0, none⟩ (.int .i64 0)) (w.heap.size + 1 + 1 + 1) 29 #[.int .i64 0] := ((B3.out.below HN.out l3).other (by omega) _ _).set0 _
        have hbb : Below w.heap.size (WN) (((WN).setCell ⟨w.heap.size + 1 + 1, 0, none⟩ (.bool false)).setCell ⟨w.heap.size + 1 + 1 + 1, 0, none⟩ (.int .i64 0)) := ((Below.refl _ _).setCell (p := ⟨w.heap.size + 1 + 1, 0, none⟩) (by show w.heap.size <= w.heap.size + 1 + 1; omega) _).setCell (p := ⟨w.heap.size + 1 + 1 + 1, 0, none⟩) (by show w.heap.size <= w.heap.size + 1 + 1 + 1; omega) _
        exact ⟨hk.from _, ⟨rfl, HBAD.out (.inr ⟨_, HFX.out, by unfold prvI; simp only [show (wvs L cs).length = cs.length by simp [wvs], HIN1.out, HIN2.out, Bool.and_false, Bool.false_and]⟩), v2.c0, v3.c0⟩, (HBW.out.trans ((HB.out.mono (by omega)).trans (HN.out.mono (by omega)))).trans hbb⟩
      | true =>
        rw [hin2] at hwj
        have HWJ := Lib.hid hwj; have HIN2 := Lib.hid hin2
        have hfr : 0 <= fi /\ fi < cs.length := by have h := HIN1.out; simp only [inB, Bool.and_eq_true, decide_eq_true_eq] at h; omega
        have hjr : -1000 <= fj /\ fj <= 1000 := by simp only [inB, Bool.and_eq_true, decide_eq_true_eq] at hin2; omega
        have hwl : (wvs L cs).length = cs.length := by simp [wvs]
        obtain ⟨y, hy⟩ := get_of_lt (show fi.toNat < (wvs L cs).length by omega)
        obtain ⟨hy64, hybd⟩ := wvs_bd L cs y (List.mem_of_getElem? hy)
        have hget := fun (j : Nat) (v : Value) (hv : (shp L y)[j]? = some v) => shpL_get (fun z hz => (wvs_bd L cs z hz).1) hy hv
        obtain ⟨bob, boo, rfl⟩ := HCS.out.addr (by intro h; have h0 := hget 0 (.int .i64 L) rfl; rw [h] at h0; simp at h0)
        obtain ⟨_, _, hNb, hDb, _, _⟩ := barS_some HBS.out
        have hrc := fun W => reaches_any (N : Int) (D : Int) L (wav L x.1.1 x.1.2) y fj W (wav_length _ _ _) hy64 (by omega) (by omega) (wav_bd _ _ _) hybd hjr.1 hjr.2 (by omega) (by omega) (by omega) (by omega)
        have hiv2 : (Tryz.prog.info? 100).map (·.size) = some (shp L y).size := by rw [shp_size, hy64]; kernel_rfl
        have hiv : (Tryz.prog.info? 100).map (·.size) = some V.size := by rw [<- HVV.out, shp_size, wav_length]; kernel_rfl
        rw [HVV.out] at hrc
        have hgd : (wvs L cs).getD fi.toNat [] = y := by rw [List.getD_eq_getElem?_getD, hy]; rfl
        generalize shp L y = V2 at hget hrc hiv2
        have HGET := Lib.hid hget; have HIV := Lib.hid hiv; have HIV2 := Lib.hid hiv2; have HGD := Lib.hid hgd
        have f0 := hfr.1; have f1 := hfr.2
        clear hwj hin2 hget hiv hiv2 hgd hy hwl hy64 hybd hNb hDb hjr hfr
        cases hrb : rchB N D (wav L x.1.1 x.1.2) y L fj with
        | false =>
          rw [hrb] at hrc
          have HRC := Lib.hid hrc; have HRB := Lib.hid hrb
          clear hrc hrb
          refine wpIn_region_round (S := fun w' : World => w'.cell? ⟨W.heap.size, 0, none⟩ = some (.int .i64 fi) /\ w'.cell? ⟨W.heap.size, 1, none⟩ = some (.int .i64 fj) /\ w'.cell? ⟨w1.heap.size, 0, none⟩ = some (.pointer (some ⟨C, 0, none⟩)) /\ w'.cell? ⟨C, 5, none⟩ = some (.slice (some ⟨bob, boo, none⟩) cs.length cb) /\ w'.cell? ⟨C, 6, none⟩ = some (.int .i64 N) /\ w'.cell? ⟨C, 7, none⟩ = some (.int .i64 D) /\ w'.cell? ⟨w.heap.size, 0, none⟩ = some (.int .i64 L) /\ w'.heap[Bx]? = some (.cells V 100 (0, 0)) /\ Cells w' (some ⟨bob, boo, none⟩) (shpL L (wvs L cs))) (by kernel_rfl) (by kernel_rfl) (fun ⟨_, _, h⟩ => h) h9 (fun hHeld => ?_)
          refine tkV 0 (.pointer (some ⟨W.heap.size, 0, none⟩)) hHeld ?_
          refine tkV 1 (.int .i64 fi) hHeld ?_
          refine tkV 2 (.pointer (some ⟨C, 0, none⟩)) hHeld ?_
          refine tkV 3 (.pointer (some ⟨C, 0, none⟩)) hHeld ?_
          refine tkV 4 (.pointer (some ⟨C, 5, none⟩)) hHeld ?_
          refine tkV 5 (.slice (some ⟨bob, boo, none⟩) cs.length cb) hHeld ?_
          refine tkV 6 (.int .i64 (cs.length : Nat)) hHeld ?_
          refine tkV 7 (.int .i64 ((cs.length : Nat) - 1)) hHeld ?_
          refine tkC 8 (fun K hK => ?_)
          go_simp
          refine (HWI.out _).mono ?_
          rintro e w9 ⟨rfl, rfl⟩
          refine hK.out _ _ h9 (fun _ => ?_)
          clear hK K
          try simp only [Act.put, List.setIfInBounds_toArray, List.set_cons_zero, List.set_cons_succ]
          refine tkV 9 (.bool false) h9 ?_
          refine tkV 10 (.bool false) h9 ?_
          refine tkV 11 (.pointer (some ⟨W.heap.size, 1, none⟩)) h9 ?_
          refine tkV 12 (.int .i64 fj) h9 ?_
          refine tkV 13 (.pointer (some ⟨w.heap.size, 0, none⟩)) h9 ?_
          refine tkV 14 (.int .i64 L) h9 ?_
          refine tkV 15 (.int .i64 (1 - L)) h9 ?_
          refine tkV 16 (.pointer (some ⟨w.heap.size, 0, none⟩)) h9 ?_
          refine tkV 17 (.int .i64 L) h9 ?_
          refine tkV 18 (.int .i64 (L - 1)) h9 ?_
          refine tkC 19 (fun K hK => ?_)
          go_simp
          refine (HWJ.out _).mono ?_
          rintro e w9 ⟨rfl, rfl⟩
          refine hK.out _ _ h9 (fun _ => ?_)
          clear hK K
          try simp only [Act.put, List.setIfInBounds_toArray, List.set_cons_zero, List.set_cons_succ]
          refine tkV 20 (.bool false) h9 ?_
          refine tkV 21 (.bool false) h9 ?_
          refine tkV 22 (.bool false) h9 ?_
          refine tkV 23 (.pointer (some ⟨C, 0, none⟩)) h9 ?_
          refine tkV 24 (.pointer (some ⟨C, 0, none⟩)) h9 ?_
          refine tkV 25 (.pointer (some ⟨C, 6, none⟩)) h9 ?_
          refine tkV 26 (.agg #[.int .i64 N, .int .i64 D]) h9 ?_
          refine tkV 27 (.agg V) h9 ?_ (hy := by intro w9 h; exact exec_load_row 100 _ rfl Bx rfl 100 V (0, 0) _ h.2.2.2.2.2.2.2.1 Tryz.underlying100 (by rfl) HIV.out)
          refine tkV 28 (.pointer (some ⟨C, 0, none⟩)) h9 ?_
          refine tkV 29 (.pointer (some ⟨C, 0, none⟩)) h9 ?_
          refine tkV 30 (.pointer (some ⟨C, 5, none⟩)) h9 ?_
          refine tkV 31 (.slice (some ⟨bob, boo, none⟩) cs.length cb) h9 ?_
          refine tkV 32 (.pointer (some ⟨W.heap.size, 0, none⟩)) h9 ?_
          refine tkV 33 (.int .i64 fi) h9 ?_
          refine tkV 34 (.pointer (some ⟨bob, boo + fi.toNat * 65, none⟩)) h9 ?_
          refine tkV 35 (.agg V2) h9 ?_ (hy := by intro w9 h; exact exec_load_arr 100 _ rfl ⟨bob, boo + fi.toNat * 65, none⟩ rfl V2 _ (fun j v hv => by rw [add_none, Nat.add_assoc]; exact h.2.2.2.2.2.2.2.2.at (HGET.out j v hv)) Tryz.underlying100 (by rfl) HIV2.out)
          refine tkV 36 (.pointer (some ⟨W.heap.size, 1, none⟩)) h9 ?_
          refine tkV 37 (.int .i64 fj) h9 ?_
          refine tkC 38 (fun K hK => ?_)
          go_simp
          refine (HRC.out _).mono ?_
          rintro e w10 ⟨rfl, hb10⟩
          have h10 : (fun w' : World => w'.cell? ⟨W.heap.size, 0, none⟩ = some (.int .i64 fi) /\ w'.cell? ⟨W.heap.size, 1, none⟩ = some (.int .i64 fj) /\ w'.cell? ⟨w1.heap.size, 0, none⟩ = some (.pointer (some ⟨C, 0, none⟩)) /\ w'.cell? ⟨C, 5, none⟩ = some (.slice (some ⟨bob, boo, none⟩) cs.length cb) /\ w'.cell? ⟨C, 6, none⟩ = some (.int .i64 N) /\ w'.cell? ⟨C, 7, none⟩ = some (.int .i64 D) /\ w'.cell? ⟨w.heap.size, 0, none⟩ = some (.int .i64 L) /\ w'.heap[Bx]? = some (.cells V 100 (0, 0)) /\ Cells w' (some ⟨bob, boo, none⟩) (shpL L (wvs L cs))) w10 := by
           obtain ⟨FC1, FC2, FC3, FC4, FC5, FC6, FC7, FC8, FC9⟩ := h9
           exact ⟨cell_keep FC1 hb10 (Nat.le_refl _), cell_keep FC2 hb10 (Nat.le_refl _), cell_keep FC3 hb10 (Nat.le_refl _), cell_keep FC4 hb10 (Nat.le_refl _), cell_keep FC5 hb10 (Nat.le_refl _), cell_keep FC6 hb10 (Nat.le_refl _), cell_keep FC7 hb10 (Nat.le_refl _), (hb10.block _ (Array.getElem?_eq_some_iff.1 FC8).1).trans FC8, FC9.below hb10 (Nat.le_refl _)⟩
          have HN := Lib.hid (HAL.out.trans (hb10.mono HAL.out.size))
          refine hK.out _ _ h10 (fun _ => ?_)
          clear hK K hb10
          try simp only [Act.put, List.setIfInBounds_toArray, List.set_cons_zero, List.set_cons_succ]
          refine tkV 39 (.bool true) h10 ?_
          refine tkV 40 (.bool true) h10 ?_
          refine wpAnyH_done (by kernel_rfl) ?_ _
          clear h10 h9 hHeld
          have kk2 := (B2.out.below HN.out l2).c0
          have kk3 := (B3.out.below HN.out l3).c0
          have ff2 := (B2.out.below HN.out l2).free 0
          have ff3 := (B3.out.below HN.out l3).free 0
          gi_wp2_with (rw [Oper.semAt_eq _ _ _ (fun c h => by cases h)]; go_simp; try go_bits)
          have hk := (keepsOthers_below HN.out).trans ((KeepsOthers.setCell (w10) ⟨w.heap.size + 1 + 1, 0, none⟩ (.bool false)).trans (KeepsOthers.setCell _ ⟨w.heap.size + 1 + 1 + 1, 0, none⟩ (.int .i64 0)))
          have v2 : Blk (((w10).setCell ⟨w.heap.size + 1 + 1, 0, none⟩ (.bool false)).setCell ⟨w.heap.size + 1 + 1 + 1, 0, none⟩ (.int .i64 0)) (w.heap.size + 1 + 1) 4 #[.bool false] := ((B2.out.below HN.out l2).set0 _).other (by omega) _ _
          have v3 : Blk (((w10).setCell ⟨w.heap.size + 1 + 1, 0, none⟩ (.bool false)).setCell ⟨w.heap.size + 1 + 1 + 1, 0, none⟩ (.int .i64 0)) (w.heap.size + 1 + 1 + 1) 29 #[.int .i64 0] := ((B3.out.below HN.out l3).other (by omega) _ _).set0 _
          have hbb : Below w.heap.size (w10) (((w10).setCell ⟨w.heap.size + 1 + 1, 0, none⟩ (.bool false)).setCell ⟨w.heap.size + 1 + 1 + 1, 0, none⟩ (.int .i64 0)) := ((Below.refl _ _).setCell (p := ⟨w.heap.size + 1 + 1, 0, none⟩) (by show w.heap.size <= w.heap.size + 1 + 1; omega) _).setCell (p := ⟨w.heap.size + 1 + 1 + 1, 0, none⟩) (by show w.heap.size <= w.heap.size + 1 + 1 + 1; omega) _
          exact ⟨hk.from _, ⟨rfl, HBAD.out (.inr ⟨_, HFX.out, by unfold prvI; simp only [show (wvs L cs).length = cs.length by simp [wvs], HGD.out, HRB.out, Bool.and_false]⟩), v2.c0, v3.c0⟩, (HBW.out.trans ((HB.out.mono (by omega)).trans (HN.out.mono (by omega)))).trans hbb⟩
        | true =>
          rw [hrb] at hrc
          have HRC := Lib.hid hrc; have HRB := Lib.hid hrb
          clear hrc hrb
          refine wpIn_region_round (S := fun w' : World => w'.cell? ⟨W.heap.size, 0, none⟩ = some (.int .i64 fi) /\ w'.cell? ⟨W.heap.size, 1, none⟩ = some (.int .i64 fj) /\ w'.cell? ⟨w1.heap.size, 0, none⟩ = some (.pointer (some ⟨C, 0, none⟩)) /\ w'.cell? ⟨C, 5, none⟩ = some (.slice (some ⟨bob, boo, none⟩) cs.length cb) /\ w'.cell? ⟨C, 6, none⟩ = some (.int .i64 N) /\ w'.cell? ⟨C, 7, none⟩ = some (.int .i64 D) /\ w'.cell? ⟨w.heap.size, 0, none⟩ = some (.int .i64 L) /\ w'.heap[Bx]? = some (.cells V 100 (0, 0)) /\ Cells w' (some ⟨bob, boo, none⟩) (shpL L (wvs L cs))) (by kernel_rfl) (by kernel_rfl) (fun ⟨_, _, h⟩ => h) h9 (fun hHeld => ?_)
          refine tkV 0 (.pointer (some ⟨W.heap.size, 0, none⟩)) hHeld ?_
          refine tkV 1 (.int .i64 fi) hHeld ?_
          refine tkV 2 (.pointer (some ⟨C, 0, none⟩)) hHeld ?_
          refine tkV 3 (.pointer (some ⟨C, 0, none⟩)) hHeld ?_
          refine tkV 4 (.pointer (some ⟨C, 5, none⟩)) hHeld ?_
          refine tkV 5 (.slice (some ⟨bob, boo, none⟩) cs.length cb) hHeld ?_
          refine tkV 6 (.int .i64 (cs.length : Nat)) hHeld ?_
          refine tkV 7 (.int .i64 ((cs.length : Nat) - 1)) hHeld ?_
          refine tkC 8 (fun K hK => ?_)
          go_simp
          refine (HWI.out _).mono ?_
          rintro e w9 ⟨rfl, rfl⟩
          refine hK.out _ _ h9 (fun _ => ?_)
          clear hK K
          try simp only [Act.put, List.setIfInBounds_toArray, List.set_cons_zero, List.set_cons_succ]
          refine tkV 9 (.bool false) h9 ?_
          refine tkV 10 (.bool false) h9 ?_
          refine tkV 11 (.pointer (some ⟨W.heap.size, 1, none⟩)) h9 ?_
          refine tkV 12 (.int .i64 fj) h9 ?_
          refine tkV 13 (.pointer (some ⟨w.heap.size, 0, none⟩)) h9 ?_
          refine tkV 14 (.int .i64 L) h9 ?_
          refine tkV 15 (.int .i64 (1 - L)) h9 ?_
          refine tkV 16 (.pointer (some ⟨w.heap.size, 0, none⟩)) h9 ?_
          refine tkV 17 (.int .i64 L) h9 ?_
          refine tkV 18 (.int .i64 (L - 1)) h9 ?_
          refine tkC 19 (fun K hK => ?_)
          go_simp
          refine (HWJ.out _).mono ?_
          rintro e w9 ⟨rfl, rfl⟩
          refine hK.out _ _ h9 (fun _ => ?_)
          clear hK K
          try simp only [Act.put, List.setIfInBounds_toArray, List.set_cons_zero, List.set_cons_succ]
          refine tkV 20 (.bool false) h9 ?_
          refine tkV 21 (.bool false) h9 ?_
          refine tkV 22 (.bool false) h9 ?_
          refine tkV 23 (.pointer (some ⟨C, 0, none⟩)) h9 ?_
          refine tkV 24 (.pointer (some ⟨C, 0, none⟩)) h9 ?_
          refine tkV 25 (.pointer (some ⟨C, 6, none⟩)) h9 ?_
          refine tkV 26 (.agg #[.int .i64 N, .int .i64 D]) h9 ?_
          refine tkV 27 (.agg V) h9 ?_ (hy := by intro w9 h; exact exec_load_row 100 _ rfl Bx rfl 100 V (0, 0) _ h.2.2.2.2.2.2.2.1 Tryz.underlying100 (by rfl) HIV.out)
          refine tkV 28 (.pointer (some ⟨C, 0, none⟩)) h9 ?_
          refine tkV 29 (.pointer (some ⟨C, 0, none⟩)) h9 ?_
          refine tkV 30 (.pointer (some ⟨C, 5, none⟩)) h9 ?_
          refine tkV 31 (.slice (some ⟨bob, boo, none⟩) cs.length cb) h9 ?_
          refine tkV 32 (.pointer (some ⟨W.heap.size, 0, none⟩)) h9 ?_
          refine tkV 33 (.int .i64 fi) h9 ?_
          refine tkV 34 (.pointer (some ⟨bob, boo + fi.toNat * 65, none⟩)) h9 ?_
          refine tkV 35 (.agg V2) h9 ?_ (hy := by intro w9 h; exact exec_load_arr 100 _ rfl ⟨bob, boo + fi.toNat * 65, none⟩ rfl V2 _ (fun j v hv => by rw [add_none, Nat.add_assoc]; exact h.2.2.2.2.2.2.2.2.at (HGET.out j v hv)) Tryz.underlying100 (by rfl) HIV2.out)
          refine tkV 36 (.pointer (some ⟨W.heap.size, 1, none⟩)) h9 ?_
          refine tkV 37 (.int .i64 fj) h9 ?_
          refine tkC 38 (fun K hK => ?_)
          go_simp
          refine (HRC.out _).mono ?_
          rintro e w10 ⟨rfl, hb10⟩
          have h10 : (fun w' : World => w'.cell? ⟨W.heap.size, 0, none⟩ = some (.int .i64 fi) /\ w'.cell? ⟨W.heap.size, 1, none⟩ = some (.int .i64 fj) /\ w'.cell? ⟨w1.heap.size, 0, none⟩ = some (.pointer (some ⟨C, 0, none⟩)) /\ w'.cell? ⟨C, 5, none⟩ = some (.slice (some ⟨bob, boo, none⟩) cs.length cb) /\ w'.cell? ⟨C, 6, none⟩ = some (.int .i64 N) /\ w'.cell? ⟨C, 7, none⟩ = some (.int .i64 D) /\ w'.cell? ⟨w.heap.size, 0, none⟩ = some (.int .i64 L) /\ w'.heap[Bx]? = some (.cells V 100 (0, 0)) /\ Cells w' (some ⟨bob, boo, none⟩) (shpL L (wvs L cs))) w10 := by
           obtain ⟨FC1, FC2, FC3, FC4, FC5, FC6, FC7, FC8, FC9⟩ := h9
           exact ⟨cell_keep FC1 hb10 (Nat.le_refl _), cell_keep FC2 hb10 (Nat.le_refl _), cell_keep FC3 hb10 (Nat.le_refl _), cell_keep FC4 hb10 (Nat.le_refl _), cell_keep FC5 hb10 (Nat.le_refl _), cell_keep FC6 hb10 (Nat.le_refl _), cell_keep FC7 hb10 (Nat.le_refl _), (hb10.block _ (Array.getElem?_eq_some_iff.1 FC8).1).trans FC8, FC9.below hb10 (Nat.le_refl _)⟩
          have HN := Lib.hid (HAL.out.trans (hb10.mono HAL.out.size))
          refine hK.out _ _ h10 (fun _ => ?_)
          clear hK K hb10
          try simp only [Act.put, List.setIfInBounds_toArray, List.set_cons_zero, List.set_cons_succ]
          refine tkV 39 (.bool false) h10 ?_
          refine tkV 40 (.bool false) h10 ?_
          refine wpAnyH_done (by kernel_rfl) ?_ _
          clear h10 h9 hHeld
          have w0' : IntKind.i64.wrap ((pre.length : Int) + 1) = (pre.length : Int) + 1 := IntWalk.i64_in _ (by omega)
          have N2 := Lib.hid (HH2.out.below HN.out HH2.out.lt); have N1 := Lib.hid (HH1.out.below HN.out HH1.out.lt)
          have ii1 := N2.out.c0
          have jj1 := N2.out.free 0
          gi_wp2_with (rw [Oper.semAt_eq _ _ _ (fun c h => by cases h)]; go_simp; try go_bits)
          have hk := (keepsOthers_below HN.out).trans (KeepsOthers.setCell w10 ⟨w1.heap.size + 1, 0, none⟩ (.int .i64 ((pre.length : Int) + 1)))
          have hbz : Below w1.heap.size W (w10.setCell ⟨w1.heap.size + 1, 0, none⟩ (.int .i64 ((pre.length : Int) + 1))) := (HN.out.mono (by omega)).setCell (p := ⟨w1.heap.size + 1, 0, none⟩) (by show w1.heap.size <= w1.heap.size + 1; omega) _
          have hst := prvL_step H4.out HFX.out (show prvI N D L (wvs L cs) x (fi, fj) = true by unfold prvI; simp only [show (wvs L cs).length = cs.length by simp [wvs], HIN1.out, HIN2.out, HGD.out, HRB.out, Bool.and_self])
          have hpl : (pre ++ [x]).length = pre.length + 1 := by simp
          have hpi : (((pre ++ [x]).length : Nat) : Int) = (pre.length : Int) + 1 := by rw [hpl]; omega
          refine ⟨hk.from _, ⟨(heap_setCell_other _ _ _ _ (by show w1.heap.size + 1 + 1 ≠ w1.heap.size + 1; omega)).trans (HN.out.block _ (by omega)), hbz.size⟩, ⟨N1.out.other (by omega) _ _, ?_, by rw [hpl]; omega, by rw [hpl]; exact hst⟩, HB.out.trans hbz, by have := hbz.size; omega⟩
          rw [hpi]; exact N2.out.set0 _
 case done =>
  rintro Dd ys' W hD rfl ⟨⟨h1, h2, h3, h4⟩, hB, hs⟩ hK
  have hpr : prvR L a b c d cs s fs = decide (fs.length = (ptsAll L a c (d - c + 1).toNat (b - a + 1).toNat).length) := by
   unfold prvR
   rw [if_pos HE.out, HBS.out]
   exact prvL_len h4 h3
  generalize (ptsAll L a c (d - c + 1).toNat (b - a + 1).toNat).length = m at *
  have hb0 := HB1.out.trans (hB.mono hs1)
  have k1 := (Q1.out.below hb0 (by omega)).c0
  have k2 := (Q2.out.below hb0 (by omega)).c0
  have k3 := (Q3.out.below hb0 (by omega)).c0
  have f2 := (Q2.out.below hb0 (by omega)).free 0
  have f3 := (Q3.out.below hb0 (by omega)).free 0
  have i1 := h2.c0
  have l2 : w.heap.size + 1 + 1 < W.heap.size := by omega
  have l3 : w.heap.size + 1 + 1 + 1 < W.heap.size := by omega
  have B2 := Lib.hid (Q2.out.below hb0 (by omega)); have B3 := Lib.hid (Q3.out.below hb0 (by omega)); have HB := Lib.hid hB; have HPR := Lib.hid hpr
  clear h1 h2 h3 h4 hpr hb0 hB
  have hbe : (((m : Int) == (fs.length : Int)) : Bool) = decide (fs.length = m) := by
   rw [Bool.eq_iff_iff, beq_iff_eq, decide_eq_true_iff]; omega
  have HBE := Lib.hid hbe
  clear hbe
  gi_wp2
  have hk := ((KeepsOthers.setCell W ⟨w.heap.size + 1 + 1, 0, none⟩ (.bool ((m : Int) == (fs.length : Int)))).trans (KeepsOthers.setCell _ ⟨w.heap.size + 1 + 1 + 1, 0, none⟩ (.int .i64 0))).same Dd _ hK rfl
  have v2 : Blk ((W.setCell ⟨w.heap.size + 1 + 1, 0, none⟩ (.bool ((m : Int) == (fs.length : Int)))).setCell ⟨w.heap.size + 1 + 1 + 1, 0, none⟩ (.int .i64 0)) (w.heap.size + 1 + 1) 4 #[.bool ((m : Int) == (fs.length : Int))] := (B2.out.set0 _).other (by omega) _ _
  have v3 : Blk ((W.setCell ⟨w.heap.size + 1 + 1, 0, none⟩ (.bool ((m : Int) == (fs.length : Int)))).setCell ⟨w.heap.size + 1 + 1 + 1, 0, none⟩ (.int .i64 0)) (w.heap.size + 1 + 1 + 1) 29 #[.int .i64 0] := (B3.out.other (by omega) _ _).set0 _
  have hbb : Below w.heap.size W ((W.setCell ⟨w.heap.size + 1 + 1, 0, none⟩ (.bool ((m : Int) == (fs.length : Int)))).setCell ⟨w.heap.size + 1 + 1 + 1, 0, none⟩ (.int .i64 0)) := ((Below.refl _ W).setCell (p := ⟨w.heap.size + 1 + 1, 0, none⟩) (by show w.heap.size <= w.heap.size + 1 + 1; omega) _).setCell (p := ⟨w.heap.size + 1 + 1 + 1, 0, none⟩) (by show w.heap.size <= w.heap.size + 1 + 1 + 1; omega) _
  refine ⟨by simp, .inl ⟨_, _, rfl, run_takeDeferred hk, ?_⟩⟩
  have p2 := cell_kept v2.c0 (grownBy_putObj' _ Dd (.deferred none)) (fun r e => by cases e; exact ⟨_, hk, rfl⟩)
  have p4 := cell_kept v3.c0 (grownBy_putObj' _ Dd (.deferred none)) (fun r e => by cases e; exact ⟨_, hk, rfl⟩)
  refine ⟨.tuple #[.bool ((m : Int) == (fs.length : Int)), .int .i64 0], ?_, by rw [HBE.out, HPR.out, HE.out], ((HBW.out.trans (HB.out.mono (by omega))).trans hbb).trans (belowK_b (w := w) (Nat.le_refl _) _ Dd _ _ (by omega) hk rfl rfl)⟩
  simp [results, Tryz.f14, go_sem, p2, p4]
 case stop =>
  rintro Dd cc pre W hD hpre ⟨⟨rfl, hp, u1, u2⟩, hB⟩ hK
  have HP : Hid (prvR L a b c d cs s fs = false) := Lib.hid (by unfold prvR; rw [if_pos HE.out, HBS.out]; exact hp _ hpre)
  clear hp hpre
  gi_wp2
  refine ⟨by simp, .inl ⟨_, _, rfl, run_takeDeferred hK, ?_⟩⟩
  have p2 := cell_kept u1 (grownBy_putObj' _ Dd (.deferred none)) (fun r e => by cases e; exact ⟨_, hK, rfl⟩)
  have p4 := cell_kept u2 (grownBy_putObj' _ Dd (.deferred none)) (fun r e => by cases e; exact ⟨_, hK, rfl⟩)
  refine ⟨.tuple #[.bool false, .int .i64 0], ?_, by rw [HP.out, HE.out], hB.trans (belowK_b (w := w) (Nat.le_refl _) _ Dd _ _ (by omega) hK rfl rfl)⟩
  simp [results, Tryz.f14, go_sem, p2, p4]
end Go.Proofs.YtahnadhlagabgaaGreatDoor

namespace Go.Proofs.YtahnadhlagabgaaGreatDoor
open Go.RowKit Go.Shelf
set_option maxRecDepth 1000000 in
set_option maxHeartbeats 8000000 in
theorem Proves_bad (L a b c d : Int) (cs : List (Int × Int)) (ao : Option Addr) (cap : Nat) (s : ByteArray) (fs : List (Int × Int)) (fo : Option Addr) (fc : Nat) (w : World) (ht : Tab w) (hs : s.size <= 140737488351232) (hc : Cells w ao (prs cs)) (hl : cs.length <= 9223372036854775807) (hcap : cs.length <= cap) (hcap2 : cap <= 9223372036854775807) (hfc : Cells w fo (prs fs)) (hfl : fs.length <= 9223372036854775807) (hE : covE L a b c d cs s ≠ 0) :
 Calls Tryz.prog 14 #[.agg #[.int .i64 L, .int .i64 a, .int .i64 b, .int .i64 c, .int .i64 d], .slice ao cs.length cap, .string s, .slice fo fs.length fc] w fun e w' => e = .returned (.tuple #[.bool (prvR L a b c d cs s fs), .int .i64 (covE L a b c d cs s)]) /\ Below w.heap.size w w' := by
 obtain ⟨W0, hW0⟩ : ∃ W0, (((w.alloc (.cells #[.int .i64 L, .int .i64 a, .int .i64 b, .int .i64 c, .int .i64 d] 23)).alloc (.cells #[.slice fo fs.length fc] 28)).alloc (.cells #[.bool false] 4)).alloc (.cells #[.int .i64 0] 29) = W0 := ⟨_, rfl⟩
 have hB0 : Below w.heap.size w W0 := by rw [<- hW0]; exact ((((Below.refl _ w).alloc (Nat.le_refl _) _).alloc (by simp) _).alloc (by simp; omega) _).alloc (by simp; omega) _
 have hs0 : W0.heap.size = w.heap.size + 4 := by rw [<- hW0]; simp
 have q0 : Blk W0 w.heap.size 23 #[.int .i64 L, .int .i64 a, .int .i64 b, .int .i64 c, .int .i64 d] := by
  unfold Blk; rw [<- hW0, hold_old _ _ _ (by simp <;> omega), hold_old _ _ _ (by simp <;> omega)]; exact heap_alloc2_old w _ _
 have q1 : Blk W0 (w.heap.size + 1) 28 #[.slice fo fs.length fc] := by
  unfold Blk; rw [<- hW0, hold_old _ _ _ (by simp <;> omega), hold_old _ _ _ (by simp)]; exact heap_alloc2_new w _ _
 obtain ⟨W2, hW2⟩ : ∃ W2, (w.alloc (.cells #[.int .i64 L, .int .i64 a, .int .i64 b, .int .i64 c, .int .i64 d] 23)).alloc (.cells #[.slice fo fs.length fc] 28) = W2 := ⟨_, rfl⟩
 have hs2 : W2.heap.size = w.heap.size + 2 := by rw [<- hW2]; simp
 have q2 : Blk W0 (w.heap.size + 1 + 1) 4 #[.bool false] := by
  unfold Blk; rw [<- hW0, hW2, show w.heap.size + 1 + 1 = W2.heap.size by omega]; exact heap_alloc2_old W2 _ _
 have q3 : Blk W0 (w.heap.size + 1 + 1 + 1) 29 #[.int .i64 0] := by
  unfold Blk; rw [<- hW0, hW2, show w.heap.size + 1 + 1 + 1 = W2.heap.size + 1 by omega]; exact heap_alloc2_new W2 _ _
 have hcv := covering_any L a b c d cs ao cap s W0 (ht.below hB0 (Nat.le_refl _)) hs (hc.below hB0 (Nat.le_refl _)) hl hcap hcap2
 have HW0 := Lib.hid hW0; have HCV := Lib.hid hcv; have HB0 := Lib.hid hB0; have HS0 := Lib.hid hs0
 have Q0 := Lib.hid q0; have Q1 := Lib.hid q1; have Q2 := Lib.hid q2; have Q3 := Lib.hid q3
 have HFC := Lib.hid (hfc.below hB0 (Nat.le_refl _))
 clear hW0 hcv ht hc hB0 hs0 hfc hW2 hs2 q0 q1 q2 q3
 have hp : prvR L a b c d cs s fs = false := if_neg hE
 have HP := Lib.hid hp; have HE := Lib.hid hE
 clear hp hE
 go_enter Tryz.func14, Tryz.ntmps14
 go_wp2_with fail
 rw [HW0.out]
 refine HCV.out.mono ?_
 rintro r w1 ⟨⟨h0, _⟩ | ⟨hE, rfl⟩, hb1⟩
 · exact absurd h0 HE.out
 · have hbw := HB0.out.trans (hb1.mono HB0.out.size)
   have hsz := HS0.out
   have k2 := (Q2.out.below hb1 (by omega)).c0
   have k3 := (Q3.out.below hb1 (by omega)).c0
   have g2 := (Q2.out.below hb1 (by omega)).free 0
   have g3 := (Q3.out.below hb1 (by omega)).free 0
   have hlt : w.heap.size + 1 + 1 + 1 < w1.heap.size := by have := hb1.size; omega
   generalize hvv : covE L a b c d cs s = v at hE ⊢
   have HVV := Lib.hid hvv
   have hv : (v != 0) = true := by simpa using hE
   clear hvv hb1 hsz
   have hlt2 : w.heap.size + 1 + 1 < w1.heap.size := by omega
   go_wp2_with fail
   refine bodyPost_ret (v := .tuple #[.bool false, .int .i64 v]) (by simp [results, Tryz.results14, go_sem, k2, k3, hlt, hlt2]) rfl ?_
   rw [HP.out, HVV.out]
   exact ⟨rfl, ((hbw.setCell (p := ⟨w.heap.size + 1 + 1, 0, none⟩) (by show w.heap.size <= w.heap.size + 1 + 1; omega) _).setCell (p := ⟨w.heap.size + 1 + 1 + 1, 0, none⟩) (by show w.heap.size <= w.heap.size + 1 + 1 + 1; omega) _).alloc (by simp; omega) _⟩
end Go.Proofs.YtahnadhlagabgaaGreatDoor

namespace Go.Proofs.YtahnadhlagabgaaGreatDoor
open Go.RowKit Go.Shelf
theorem Proves_any (L a b c d : Int) (cs : List (Int × Int)) (ao : Option Addr) (cap : Nat) (s : ByteArray) (fs : List (Int × Int)) (fo : Option Addr) (fc : Nat) (w : World) (ht : Tab w) (hs : s.size <= 140737488351232) (hc : Cells w ao (prs cs)) (hl : cs.length <= 9223372036854775807) (hcap : cs.length <= cap) (hcap2 : cap <= 9223372036854775807) (hfc : Cells w fo (prs fs)) (hfl : fs.length <= 9223372036854775807) :
 Calls Tryz.prog 14 #[.agg #[.int .i64 L, .int .i64 a, .int .i64 b, .int .i64 c, .int .i64 d], .slice ao cs.length cap, .string s, .slice fo fs.length fc] w fun e w' => e = .returned (.tuple #[.bool (prvR L a b c d cs s fs), .int .i64 (covE L a b c d cs s)]) /\ Below w.heap.size w w' := by
 by_cases hE : covE L a b c d cs s = 0
 · exact Proves_good L a b c d cs ao cap s fs fo fc w ht hs hc hl hcap hcap2 hfc hfl hE
 · exact Proves_bad L a b c d cs ao cap s fs fo fc w ht hs hc hl hcap hcap2 hfc hfl hE
end Go.Proofs.YtahnadhlagabgaaGreatDoor

namespace Go.Proofs.YtahnadhlagabgaaGreatDoor
open Go.RowKit Go.WideShapes Go.ChangeShapes Go.Deep Go.Joins
section
variable {H : Type} {enc : TypeId × Value -> H} {P : Program} {w : World} {base : Nat} {spare : Nat -> Bool} {held : Bool}
theorem array7 {α : Type} {cs : Array α} (h : cs.size = 7) : ∃ c0 c1 c2 c3 c4 c5 c6, cs = #[c0, c1, c2, c3, c4, c5, c6] := by
 obtain ⟨l⟩ := cs
 match l, h with
 | [c0, c1, c2, c3, c4, c5, c6], _ => exact ⟨c0, c1, c2, c3, c4, c5, c6, rfl⟩
theorem trod_fam {c i : TypeId} {g0 g1 g2 g3 g4 : Field} {n : Nat} {v0 v1 v2 v3 v4 : Value} {x : DataW H × List MemPlace} (hc : P.underlying c = some (.struct #[g0, g1, g2, g3, g4])) (k0 : g0.type = i /\ g0.offset = 0) (k1 : g1.type = i /\ g1.offset = 1) (k2 : g2.type = i /\ g2.offset = 2) (k3 : g3.type = i /\ g3.offset = 3) (k4 : g4.type = i /\ g4.offset = 4)
 (ci : P.cellsOf i = 1) (hi : P.underlying i = some (.int .i64)) (h : DataW.trod enc P w base spare held n c [v0, v1, v2, v3, v4] = some x) :
 ∃ a b c d e : Int, v0 = .int .i64 a /\ v1 = .int .i64 b /\ v2 = .int .i64 c /\ v3 = .int .i64 d /\ v4 = .int .i64 e := by
 obtain ⟨xs, m, _, hx, _, hlen, hfs⟩ := DataW.trod_struct hc h
 match xs, hlen with
 | [y0, y1, y2, y3, y4], _ =>
   have t0 := hfs 0 g0 rfl
   have t1 := hfs 1 g1 rfl
   have t2 := hfs 2 g2 rfl
   have t3 := hfs 3 g3 rfl
   have t4 := hfs 4 g4 rfl
   rw [k0.1, k0.2, ci] at t0
   rw [k1.1, k1.2, ci] at t1
   rw [k2.1, k2.2, ci] at t2
   rw [k3.1, k3.2, ci] at t3
   rw [k4.1, k4.2, ci] at t4
   obtain ⟨a, e0, _, _⟩ := DataW.trod_int hi (show DataW.trod enc P w base spare held m i [v0] = some y0 from t0)
   obtain ⟨b, e1, _, _⟩ := DataW.trod_int hi (show DataW.trod enc P w base spare held m i [v1] = some y1 from t1)
   obtain ⟨c, e2, _, _⟩ := DataW.trod_int hi (show DataW.trod enc P w base spare held m i [v2] = some y2 from t2)
   obtain ⟨d, e3, _, _⟩ := DataW.trod_int hi (show DataW.trod enc P w base spare held m i [v3] = some y3 from t3)
   obtain ⟨e, e4, _, _⟩ := DataW.trod_int hi (show DataW.trod enc P w base spare held m i [v4] = some y4 from t4)
   simp only [List.cons.injEq, and_true] at e0 e1 e2 e3 e4
   exact ⟨a, b, c, d, e, e0, e1, e2, e3, e4⟩
theorem open_cover {r : Reach} {b0 : Nat} {t fm i sc ch ts : TypeId} {f0 f1 f2 g0 g1 g2 g3 g4 h0 h1 : Field} {v : Value} {d : DataW H} {p : List MemPlace} (hs : P.underlying t = some (.struct #[f0, f1, f2])) (j0 : f0.type = fm /\ f0.offset = 0) (j1 : f1.type = sc /\ f1.offset = 5) (j2 : f2.type = ts /\ f2.offset = 6)
 (hfm : P.underlying fm = some (.struct #[g0, g1, g2, g3, g4])) (k0 : g0.type = i /\ g0.offset = 0) (k1 : g1.type = i /\ g1.offset = 1) (k2 : g2.type = i /\ g2.offset = 2) (k3 : g3.type = i /\ g3.offset = 3) (k4 : g4.type = i /\ g4.offset = 4)
 (hsc : P.underlying sc = some (.slice ch)) (hch : P.underlying ch = some (.struct #[h0, h1])) (l0 : h0.type = i /\ h0.offset = 0) (l1 : h1.type = i /\ h1.offset = 1) (hts : P.underlying ts = some .string) (hi : P.underlying i = some (.int .i64))
 (ci : P.cellsOf i = 1) (cfm : P.cellsOf fm = 5) (csc : P.cellsOf sc = 1) (cch : P.cellsOf ch = 2) (cts : P.cellsOf ts = 1) (ct : P.cellsOf t = 7)
 (hv : Value.okWide P w r b0 t v) (h : DataW.Trod enc P w base spare held t v d p) :
 ∃ (L a b c e : Int) (ao : Option Addr) (cs : List (Int × Int)) (cap : Nat) (s : ByteArray), v = .agg #[.int .i64 L, .int .i64 a, .int .i64 b, .int .i64 c, .int .i64 e, .slice ao cs.length cap, .string s] /\ Cells w ao (prs cs) /\ cs.length <= cap /\ cap <= 9223372036854775807 /\
   (∀ n ∈ (DataW.lit (H := H) (.string s.data.toList)).weights P ts, n ∈ d.weights P t) /\ ∃ q0 q1, d = .agg [q0, q1, .lit (.string s.data.toList)] := by
 obtain ⟨vs, rfl, hsz⟩ := okWide_struct hs hv
 obtain ⟨c0, c1, c2, c3, c4, c5, c6, rfl⟩ := array7 (hsz.trans ct)
 obtain ⟨fuel, hf⟩ := h
 obtain ⟨xs, n, _, hx, _, hlen, hfs⟩ := DataW.trod_struct hs hf
 match xs, hlen with
 | [y0, y1, y2], _ =>
   have t0 := hfs 0 f0 rfl
   have t1 := hfs 1 f1 rfl
   have t2 := hfs 2 f2 rfl
   rw [j0.1, j0.2, cfm] at t0
   rw [j1.1, j1.2, csc] at t1
   rw [j2.1, j2.2, cts] at t2
   obtain ⟨L, a, b, c, e, rfl, rfl, rfl, rfl, rfl⟩ := trod_fam hfm k0 k1 k2 k3 k4 ci hi (show DataW.trod enc P w base spare held n fm [c0, c1, c2, c3, c4] = some y0 from t0)
   obtain ⟨ao, zs, cap, e5, hc, hl, hl2, _⟩ := rd_pairs hsc hch cch l0.2 l1.2 (by rw [l0.1]; exact ci) (by rw [l1.1]; exact ci) (by rw [l0.1]; exact hi) (by rw [l1.1]; exact hi) (show DataW.trod enc P w base spare held n sc [c5] = some y1 from t1)
   obtain ⟨s, e6, hy, _⟩ := DataW.trod_string hts (show DataW.trod enc P w base spare held n ts [c6] = some y2 from t2)
   simp only [List.cons.injEq, and_true] at e5 e6
   simp only [Prod.mk.injEq] at hx
   refine ⟨L, a, b, c, e, ao, zs, cap, s, by rw [e5, e6], hc, hl, hl2, fun m hm => ?_, y0.1, y1.1, by rw [hx.1]; simp [hy]⟩
   rw [hx.1]
   have e' : (DataW.agg ([y0, y1, y2].map (·.1))).weights P t = DataW.weightsEach P ((#[f0, f1, f2] : Array Field).toList.map (·.type)) ([y0, y1, y2].map (·.1)) := by simp [DataW.weights, hs]
   rw [e']
   exact DataW.weights_mem_each (j := 2) (t := ts) (d := y2.1) (by show some f2.type = some ts; rw [j2.1]) rfl m (by rw [hy]; exact hm)
end
end Go.Proofs.YtahnadhlagabgaaGreatDoor

namespace Go.Proofs.YtahnadhlagabgaaGreatDoor.Z4
def B : Nat := 10000
def val : List Nat -> Nat
 | [] => 0
 | d :: ds => d + B * val ds
def dig (n : Nat) : List Nat := if n = 0 then [] else n % B :: dig (n / B)
termination_by n
decreasing_by exact Nat.div_lt_self (Nat.pos_of_ne_zero ‹_›) (by decide)
theorem B_pos : 0 < B := by decide
theorem dig_zero : dig 0 = [] := by rw [dig]; simp
theorem dig_pos {n : Nat} (h : n ≠ 0) : dig n = n % B :: dig (n / B) := by rw [dig]; simp [h]
theorem val_dig (n : Nat) : val (dig n) = n := by
 induction n using Nat.strongRecOn with
 | _ n ih =>
   by_cases h : n = 0
   · subst h; simp [dig_zero, val]
   · rw [dig_pos h, val, ih _ (Nat.div_lt_self (Nat.pos_of_ne_zero h) (by decide))]
     exact Nat.mod_add_div n B
def Sm (xs : List Nat) : Prop := ∀ d ∈ xs, d < B
theorem sm_dig (n : Nat) : Sm (dig n) := by
 induction n using Nat.strongRecOn with
 | _ n ih =>
   by_cases h : n = 0
   · subst h; simp [dig_zero, Sm]
   · rw [dig_pos h]
     intro d hd
     rcases List.mem_cons.1 hd with rfl | hd
     · exact Nat.mod_lt _ B_pos
     · exact ih _ (Nat.div_lt_self (Nat.pos_of_ne_zero h) (by decide)) d hd
theorem val_nil : val [] = 0 := rfl
theorem val_cons (d : Nat) (ds : List Nat) : val (d :: ds) = d + B * val ds := rfl
theorem val_append (xs ys : List Nat) : val (xs ++ ys) = val xs + B ^ xs.length * val ys := by
 induction xs with
 | nil => simp [val]
 | cons d ds ih => simp only [List.cons_append, val_cons, ih, List.length_cons, Nat.pow_succ]; rw [Nat.mul_add, Nat.add_assoc, Nat.mul_comm (B ^ ds.length) B, Nat.mul_assoc]
theorem val_snoc (xs : List Nat) (d : Nat) : val (xs ++ [d]) = val xs + B ^ xs.length * d := by
 rw [val_append]; simp [val]
theorem val_lt {xs : List Nat} (h : Sm xs) : val xs < B ^ xs.length := by
 induction xs with
 | nil => simp [val]
 | cons d ds ih =>
   have h1 : d < B := h d (by simp)
   have h2 := ih (fun x hx => h x (by simp [hx]))
   simp only [val_cons, List.length_cons, Nat.pow_succ]
   have : B * (val ds + 1) <= B * B ^ ds.length := Nat.mul_le_mul_left _ h2
   rw [Nat.mul_add, Nat.mul_one] at this
   rw [Nat.mul_comm (B ^ ds.length) B]; omega
theorem val_eq_zero {xs : List Nat} : val xs = 0 ↔ ∀ d ∈ xs, d = 0 := by
 induction xs with
 | nil => simp [val]
 | cons d ds ih =>
   simp only [val_cons, List.mem_cons, forall_eq_or_imp, <- ih]
   constructor
   · intro h
     have h1 : d = 0 := by omega
     have h2 : B * val ds = 0 := by omega
     refine ⟨h1, ?_⟩
     rcases Nat.mul_eq_zero.1 h2 with h | h
     · exact absurd h (by decide)
     · exact h
   · rintro ⟨rfl, h⟩; simp [h]
theorem dig_val {xs : List Nat} (h : Sm xs) (hl : xs.getLast? ≠ some 0) : dig (val xs) = xs := by
 induction xs with
 | nil => simp [val, dig_zero]
 | cons d ds ih =>
   have h1 : d < B := h d (by simp)
   have hs : Sm ds := fun x hx => h x (by simp [hx])
   have hne : val (d :: ds) ≠ 0 := by
    intro h0
    have h0' := val_eq_zero.1 h0
    have : ((d :: ds).getLast (by simp)) = 0 := h0' _ (List.getLast_mem _)
    exact hl (by rw [List.getLast?_eq_some_getLast (by simp), this])
   rw [dig_pos hne, val_cons]
   have e1 : (d + B * val ds) % B = d := by rw [Nat.add_mul_mod_self_left, Nat.mod_eq_of_lt h1]
   have e2 : (d + B * val ds) / B = val ds := by rw [Nat.add_mul_div_left _ _ B_pos, Nat.div_eq_of_lt h1, Nat.zero_add]
   rw [e1, e2, ih hs]
   cases ds with
   | nil => simp
   | cons x xs => simpa [List.getLast?_cons_cons] using hl
theorem last_dig (n : Nat) : (dig n).getLast? ≠ some 0 := by
 induction n using Nat.strongRecOn with
 | _ n ih =>
   by_cases h : n = 0
   · subst h; simp [dig_zero]
   · rw [dig_pos h]
     have := ih (n / B) (Nat.div_lt_self (Nat.pos_of_ne_zero h) (by decide))
     by_cases h2 : n / B = 0
     · rw [h2, dig_zero]; simp
       have h3 : n < B := by
        rcases Nat.div_eq_zero_iff.1 h2 with h | h
        · exact absurd h (by decide)
        · exact h
       rw [Nat.mod_eq_of_lt h3]; exact h
     · rw [dig_pos h2] at this ⊢
       simpa [List.getLast?_cons_cons] using this
theorem dig_len_pos {n : Nat} : (dig n).length = 0 ↔ n = 0 := by
 by_cases h : n = 0
 · subst h; simp [dig_zero]
 · rw [dig_pos h]; simp [h]
theorem dig_small {n : Nat} (h : n < B) (h0 : n ≠ 0) : dig n = [n] := by
 rw [dig_pos h0, Nat.mod_eq_of_lt h, Nat.div_eq_of_lt h, dig_zero]
theorem lt_pow_len (n : Nat) : n < B ^ (dig n).length := by
 have := val_lt (sm_dig n); rwa [val_dig] at this
theorem pow_len_le {n : Nat} (h : n ≠ 0) : B ^ ((dig n).length - 1) <= n := by
 induction n using Nat.strongRecOn with
 | _ n ih =>
   rw [dig_pos h]
   by_cases h2 : n / B = 0
   · rw [h2, dig_zero]; simp; omega
   · have := ih _ (Nat.div_lt_self (Nat.pos_of_ne_zero h) (by decide)) h2
     have hl : (dig (n / B)).length ≠ 0 := by rw [Ne, dig_len_pos]; exact h2
     simp only [List.length_cons, Nat.add_sub_cancel]
     obtain ⟨k, hk⟩ : ∃ k, (dig (n / B)).length = k + 1 := ⟨(dig (n/B)).length - 1, by omega⟩
     rw [hk, Nat.add_sub_cancel] at this
     rw [hk, Nat.pow_succ]
     calc B ^ k * B <= n / B * B := Nat.mul_le_mul_right _ this
      _ <= n := Nat.div_mul_le_self n B
theorem lt_of_len {m n : Nat} (h : (dig m).length < (dig n).length) : m < n := by
 have hn : n ≠ 0 := by rintro rfl; simp [dig_zero] at h
 have h1 := lt_pow_len m
 have h2 := pow_len_le hn
 have h3 : B ^ (dig m).length <= B ^ ((dig n).length - 1) := Nat.pow_le_pow_right B_pos (by omega)
 omega
theorem dig_len_mono {m n : Nat} (h : m <= n) : (dig m).length <= (dig n).length := by
 apply Nat.le_of_not_lt
 intro hc
 have := lt_of_len hc
 omega
end Go.Proofs.YtahnadhlagabgaaGreatDoor.Z4

namespace Go.Proofs.YtahnadhlagabgaaGreatDoor.Z4
theorem val_split {l : List Nat} {j x : Nat} (hx : l[j]? = some x) : val l = val (l.take j) + B ^ j * (x + B * val (l.drop (j + 1))) := by
 have hj : j < l.length := (List.getElem?_eq_some_iff.1 hx).1
 have h1 : l = l.take j ++ (x :: l.drop (j + 1)) := by
  have := (List.take_append_drop j l).symm
  rw [List.drop_eq_getElem_cons hj, (List.getElem?_eq_some_iff.1 hx).2] at this
  exact this
 have h2 := congrArg val h1
 rw [val_append, val_cons, List.length_take, Nat.min_eq_left (by omega)] at h2
 exact h2
theorem cmp_digit {l1 l2 : List Nat} (h1 : Sm l1) {j x y : Nat} (hx : l1[j]? = some x) (hy : l2[j]? = some y) (hd : l1.drop (j + 1) = l2.drop (j + 1)) (hlt : x < y) : val l1 < val l2 := by
 rw [val_split hx, val_split hy, hd]
 have hj : j < l1.length := (List.getElem?_eq_some_iff.1 hx).1
 have h3 : val (l1.take j) < B ^ j := by
  have := val_lt (xs := l1.take j) (fun d hd => h1 d (List.mem_of_mem_take hd))
  rwa [List.length_take, Nat.min_eq_left (by omega)] at this
 have h4 : B ^ j * (x + 1 + B * val (l2.drop (j + 1))) <= B ^ j * (y + B * val (l2.drop (j + 1))) := Nat.mul_le_mul_left _ (by omega)
 have h5 : B ^ j * (x + 1 + B * val (l2.drop (j + 1))) = B ^ j * (x + B * val (l2.drop (j + 1))) + B ^ j := by
  rw [show x + 1 + B * val (l2.drop (j + 1)) = (x + B * val (l2.drop (j + 1))) + 1 from by omega, Nat.mul_add, Nat.mul_one]
 omega
def cmpN (m n : Nat) : Int := if m < n then -1 else if n < m then 1 else 0
theorem cmpN_lt {m n : Nat} (h : m < n) : cmpN m n = -1 := by simp [cmpN, h]
theorem cmpN_gt {m n : Nat} (h : n < m) : cmpN m n = 1 := by simp [cmpN, h]; omega
theorem cmpN_eq (n : Nat) : cmpN n n = 0 := by simp [cmpN]
theorem short_step {H d x : Nat} (hd : 0 < d) : ((H % d) * B + x) / d + B * (H / d) = (x + B * H) / d /\ ((H % d) * B + x) % d = (x + B * H) % d := by
 have h : x + B * H = ((H % d) * B + x) + d * (B * (H / d)) := by
  have h1 : d * (H / d) + H % d = H := Nat.div_add_mod H d
  have h2 : B * H = B * (d * (H / d)) + B * (H % d) := by rw [<- Nat.mul_add, h1]
  rw [h2, Nat.mul_comm (H % d) B, Nat.mul_left_comm d B]; omega
 rw [h, Nat.add_mul_div_left _ _ hd, Nat.add_mul_mod_self_left]
 exact ⟨rfl, rfl⟩
theorem short_dig {r d x : Nat} (hr : r < d) (hx : x < B) : (r * B + x) / d < B := by
 apply Nat.div_lt_of_lt_mul
 have : (r + 1) * B <= d * B := Nat.mul_le_mul_right _ hr
 rw [Nat.add_mul] at this; omega
theorem dig_len_val {l : List Nat} (h : Sm l) : (dig (val l)).length <= l.length := by
 have h1 := val_lt h
 apply Nat.le_of_not_lt
 intro hc
 have hne : val l ≠ 0 := by
  intro h0; rw [h0, dig_zero] at hc; simp at hc
 have h2 := pow_len_le hne
 have h3 : B ^ l.length <= B ^ ((dig (val l)).length - 1) := Nat.pow_le_pow_right B_pos (by omega)
 omega
end Go.Proofs.YtahnadhlagabgaaGreatDoor.Z4

namespace Go.Proofs.YtahnadhlagabgaaGreatDoor.Z4
open Go.RowKit
def zs (l : List Nat) : List Value := l.map fun d => Value.int .i64 (d : Nat)
theorem zs_length (l : List Nat) : (zs l).length = l.length := by simp [zs]
theorem zs_append (a b : List Nat) : zs (a ++ b) = zs a ++ zs b := by simp [zs]
theorem zs_ne {l : List Nat} (h : 0 < l.length) : zs l ≠ [] := by
 intro h2; have := congrArg List.length h2; rw [zs_length, List.length_nil] at this; omega
theorem zs_get {l : List Nat} {i d : Nat} (hd : l[i]? = some d) : (zs l)[i]? = some (.int .i64 (d : Nat)) := by simp [zs, hd]
theorem zcell {w : World} {b off : Nat} {l : List Nat} (h : Cells w (some ⟨b, off, none⟩) (zs l)) {i d : Nat} (hd : l[i]? = some d) : w.cell? ⟨b, off + i, none⟩ = some (.int .i64 (d : Nat)) :=
 h.at (zs_get hd)
theorem sm_get {l : List Nat} (h : Sm l) {i d : Nat} (hd : l[i]? = some d) : d <= 9999 := by
 have := h d (List.mem_of_getElem? hd); simp only [B] at this; omega
theorem val_take_zero {l : List Nat} {k : Nat} (h0 : l[k]? = some 0) : val (l.take (k + 1)) = val (l.take k) := by
 rw [take_get h0, val_snoc]; simp
theorem strip_any (ao : Option Addr) (l : List Nat) (c : Nat) (w : World) (hc : Cells w ao (zs l)) (hs : Sm l) (hl : l.length <= 9223372036854775807) (hcap : l.length <= c) (hc2 : c <= 9223372036854775807) :
 Calls Tryz.prog 188 #[.slice ao l.length c] w fun e w' => (e = .returned (.slice ao (dig (val l)).length c) /\ Cells w' ao (zs (dig (val l)))) /\ w = w' := by
 have HC := Lib.hid hc; clear hc
 have HS := Lib.hid hs; clear hs
 go_enter Tryz.func188, Tryz.ntmps188
 go_wp2
 go_loop [0] (fun v => ∃ k : Nat, k <= l.length /\ v = .slice ao k c /\ val (l.take k) = val l) (fun v => lenOf v)
 case atStart => exact ⟨l.length, Nat.le_refl _, rfl, by rw [List.take_length]⟩
 case round =>
  obtain ⟨k, hk, rfl, hv⟩ := hrel
  by_cases h0 : k = 0
  · subst h0
    rw [List.take_zero, val_nil] at hv
    have hv2 : dig (val l) = [] := by rw [<- hv, dig_zero]
    have HV := Lib.hid hv2; clear hv hv2
    go_wp2
    go_ret
    exact ⟨⟨by rw [HV.out]; rfl, by rw [HV.out]; exact Cells.nil _ _⟩, rfl⟩
  · obtain ⟨j, rfl⟩ : ∃ j, k = j + 1 := ⟨k - 1, by omega⟩
    have hj : j < l.length := by omega
    obtain ⟨d, hd⟩ := get_of_lt hj
    obtain ⟨b, off, rfl⟩ := HC.out.addr (zs_ne (by omega))
    have hcell := zcell HC.out hd
    by_cases hd0 : d = 0
    · subst hd0
      have hv2 := val_take_zero hd
      rw [hv] at hv2
      have HV := Lib.hid hv2.symm; clear hv hv2 hd
      go_wp2
      go_round
      case rel => exact ⟨j, by omega, by go_num, HV.out⟩
      case measure => simp [lenOf]
    · have hdp : 0 < d := by omega
      have hne : ((d : Int) == 0) = false := by simp; omega
      have hlast : (l.take (j + 1)).getLast? ≠ some 0 := by rw [take_get hd]; simp; omega
      have hsm : Sm (l.take (j + 1)) := fun x hx => HS.out x (List.mem_of_mem_take hx)
      have hv2 : dig (val l) = l.take (j + 1) := by rw [<- hv, dig_val hsm hlast]
      have hl2 : (dig (val l)).length = j + 1 := by rw [hv2, List.length_take]; omega
      have hcs : Cells w (some ⟨b, off, none⟩) (zs (dig (val l))) := by
       rw [hv2, zs, List.map_take]; exact HC.out.take _
      have HL := Lib.hid hl2; have HCS := Lib.hid hcs; clear hv hv2 hl2 hcs hd hsm hlast
      go_wp2
      go_ret
      exact ⟨⟨by rw [HL.out]; rfl, HCS.out⟩, rfl⟩
set_option maxRecDepth 100000 in
theorem made_any (s : Bool) (ao : Option Addr) (l : List Nat) (c : Nat) (w : World) (hc : Cells w ao (zs l)) (hs : Sm l) (hl : l.length <= 9223372036854775807) (hcap : l.length <= c) (hc2 : c <= 9223372036854775807) :
 Calls Tryz.prog 155 #[.bool s, .slice ao l.length c] w fun e w' => e = .returned (.agg #[.bool (s && decide (0 < (dig (val l)).length)), .slice ao (dig (val l)).length c]) /\ Below w.heap.size w w' := by
 have hst := fun W (h : Cells W ao (zs l)) => strip_any ao l c W h hs hl hcap hc2
 have HST := Lib.hid hst; have HC := Lib.hid hc
 clear hst hc hs
 have hb1 : (s && decide (0 < (dig (val l)).length)) = (s && decide ((0 : Int) < (dig (val l)).length)) := by
  congr 1; rw [Bool.eq_iff_iff, decide_eq_true_iff, decide_eq_true_iff]; omega
 have HB1 := Lib.hid hb1; clear hb1
 have hbw := (Below.refl w.heap.size w).alloc (Nat.le_refl _) (.cells #[.bool false, .slice none 0 0] 127)
 have q0 : (w.alloc (.cells #[.bool false, .slice none 0 0] 127)).cell? ⟨w.heap.size, 0, none⟩ = some (.bool false) := by simp
 cases s
 · skip
   go_enter Tryz.func155, Tryz.ntmps155
   go_wp2_with fail
   refine (HST.out _ (HC.out.below hbw (Nat.le_refl _))).mono ?_
   rintro e w1 ⟨⟨rfl, hcl⟩, rfl⟩
   clear hcl
   go_wp2
   rw [HB1.out]
   refine bodyPost_ret (v := .agg #[.bool (false && decide ((0 : Int) < (dig (val l)).length)), .slice ao (dig (val l)).length c]) (by simp [results, Tryz.results155, go_sem]) rfl ?_
   exact ⟨rfl, (Below.refl w.heap.size w).alloc (Nat.le_refl _) _⟩
 · skip
   go_enter Tryz.func155, Tryz.ntmps155
   go_wp2_with fail
   refine (HST.out _ (HC.out.below hbw (Nat.le_refl _))).mono ?_
   rintro e w1 ⟨⟨rfl, hcl⟩, rfl⟩
   clear hcl
   go_wp2
   rw [HB1.out]
   refine bodyPost_ret (v := .agg #[.bool (true && decide ((0 : Int) < (dig (val l)).length)), .slice ao (dig (val l)).length c]) (by simp [results, Tryz.results155, go_sem]) rfl ?_
   exact ⟨rfl, (Below.refl w.heap.size w).alloc (Nat.le_refl _) _⟩
theorem dig_len_i64 {n : Nat} (h : n < 18446744073709551616) : (dig n).length <= 5 := by
 apply Nat.le_of_not_lt
 intro hc
 have hn : n ≠ 0 := by rintro rfl; simp [dig_zero] at hc
 have h1 := pow_len_le hn
 have h2 : B ^ 5 <= B ^ ((dig n).length - 1) := Nat.pow_le_pow_right B_pos (by omega)
 have h3 : B ^ 5 = 100000000000000000000 := by decide
 omega
def ZV (w : World) (v : Value) (n : Int) : Prop := ∃ a c, v = .agg #[.bool (decide (n < 0)), .slice a (dig n.natAbs).length c] /\ Cells w a (zs (dig n.natAbs)) /\ (dig n.natAbs).length <= c /\ c <= 9223372036854775807
theorem ZV.below {w w' : World} {B : Nat} {v : Value} {n : Int} (h : ZV w v n) (hb : Below B w w') (hB : w.heap.size <= B) : ZV w' v n := by
 obtain ⟨a, c, h1, h2, h3⟩ := h
 exact ⟨a, c, h1, h2.below hb hB, h3⟩
def sg (s : Bool) (k : Nat) : Int := if s then -(k : Int) else (k : Int)
theorem zbox {w : World} {ao : Option Addr} {l : List Nat} {b : Nat} {x0 : Bool} {a1 : Option Addr} {n1 c1 : Nat} {u0 u1 : Value} (h : Cells w ao (zs l)) (q0 : w.cell? ⟨b, 0, none⟩ = some (.bool x0)) (q1 : w.cell? ⟨b, 1, none⟩ = some (.slice a1 n1 c1)) : Cells ((w.setCell ⟨b, 0, none⟩ u0).setCell ⟨b, 1, none⟩ u1) ao (zs l) := by
 refine (h.set q0 ?_).set (v0 := .slice a1 n1 c1) ?_ ?_
 · intro x hx e; simp only [zs, List.mem_map] at hx; obtain ⟨d, _, rfl⟩ := hx; cases e
 · rw [World.cell?_setCell_other _ _ _ _ (by simp)]; exact q1
 · intro x hx e; simp only [zs, List.mem_map] at hx; obtain ⟨d, _, rfl⟩ := hx; cases e
theorem sg_in (s : Bool) (k : Nat) (h : k <= 9223372036854775807) : wrap64 (sg s k) = sg s k := by
 unfold sg
 cases s
 · simp only [wrap64]; simp; omega
 · simp only [wrap64]; simp; omega
theorem sg_abs (s : Bool) (k : Nat) : (intOf (.int .i64 (sg s k))).natAbs = k := by
 unfold sg intOf; cases s <;> simp
theorem sg_rem (s : Bool) (k : Nat) : (sg s k).tmod 10000 = sg s (k % B) := by
 unfold sg
 have h : (k : Int).tmod 10000 = ((k % B : Nat) : Int) := by rw [Int.tmod_eq_emod_of_nonneg (by omega)]; simp [B]
 cases s
 · simpa using h
 · simp only [if_true]
   rw [Int.neg_tmod, h]
theorem sg_div (s : Bool) (k : Nat) : (sg s k).tdiv 10000 = sg s (k / B) := by
 unfold sg
 have h : (k : Int).tdiv 10000 = ((k / B : Nat) : Int) := by rw [Int.tdiv_eq_ediv_of_nonneg (by omega)]; simp [B]
 cases s
 · simpa using h
 · simp only [if_true]
   rw [Int.neg_tdiv, h]
set_option maxRecDepth 100000 in
theorem zOf_any (n : Int) (w : World) (h1 : -9223372036854775808 <= n) (h2 : n <= 9223372036854775807) :
 Calls Tryz.prog 118 #[.int .i64 n] w fun e w' => (∃ v, e = .returned v /\ ZV w' v n) /\ Below w.heap.size w w' := by
 obtain ⟨i0, hi, hz0, hz1, hz2⟩ := info_parts Tryz.infoInt
 have hlen := dig_len_i64 (n := n.natAbs) (by omega)
 obtain ⟨s, hs⟩ : ∃ s, s = decide (n < 0) := ⟨_, rfl⟩
 obtain ⟨N, hN⟩ : ∃ N, N = n.natAbs := ⟨_, rfl⟩
 have hn : n = sg s N := by
  unfold sg
  by_cases h : n < 0
  · rw [hs, decide_eq_true h, if_pos rfl]; omega
  · rw [hs, decide_eq_false h]; simp; omega
 have hsg : (s && decide (0 < (dig N).length)) = s := by
  cases hsv : s with
  | false => rfl
  | true =>
    rw [hsv] at hs
    have : N ≠ 0 := by have := of_decide_eq_true hs.symm; omega
    have := mt dig_len_pos.1 this
    simp; omega
 have HZV : ∀ W a c, Cells W a (zs (dig N)) -> (dig N).length <= c -> c <= 9223372036854775807 -> ZV W (.agg #[.bool s, .slice a (dig N).length c]) n := fun W a c q1 q2 q3 => ⟨a, c, by rw [<- hs, <- hN], by rw [<- hN]; exact q1, by rw [<- hN]; exact q2, q3⟩
 have HZ := Lib.hid HZV; have HS := Lib.hid hs
 rw [<- hN] at hlen
 have hNb : N <= 9223372036854775808 := by omega
 clear HZV hN h1 h2
 subst hn
 clear hs
 have hneg : decide (sg s N < 0) = s := HS.out.symm
 have hbw0 := (Below.refl w.heap.size w).alloc (Nat.le_refl _) (.cells #[.bool false, .slice none 0 0] 127)
 have HBW0 := Lib.hid hbw0; clear hbw0
 have HSG := Lib.hid hsg; clear hsg
 go_enter Tryz.func118, Tryz.ntmps118
 go_wp2
 go_loopw [0, 4] (fun m v wr => ∃ (ds : List Nat) (k : Nat), m = .int .i64 (sg s k) /\ k <= N /\ dig N = ds ++ dig k /\ wr.ownsRow (w.heap.size + 1) 3 1 v ds.length (zs ds) /\ Below (w.heap.size + 1) (w.alloc (.cells #[.bool false, .slice none 0 0] 127)) wr) (fun m _ _ => (intOf m).natAbs)
 case atStart => exact ⟨[], N, rfl, Nat.le_refl _, rfl, World.ownsRow_nil _ _ _ _, Below.refl _ _⟩
 case round =>
  obtain ⟨ds, k, rfl, hk, hds, hown, hb⟩ := hrel
  have hsz := hb.size
  simp only [World.size_alloc] at hsz
  by_cases h0 : k = 0
  · subst h0
    rw [dig_zero, List.append_nil] at hds
    have hs0 : sg s 0 = 0 := by unfold sg; cases s <;> rfl
    rw [hs0]
    obtain ⟨g, c, rfl, hcs, hc1, hc2⟩ := own_cap hown
    unfold maxLen at hc2
    have hsm : Sm ds := by rw [<- hds]; exact sm_dig _
    have hvd : val ds = N := by rw [<- hds, val_dig]
    have hmd := made_any s g ds c wr hcs hsm (by rw [<- hds]; omega) hc1 hc2
    have hz := HZ.out
    rw [hvd, HSG.out] at hmd
    rw [<- hvd] at hds
    have hvn := hvd
    have HMD := Lib.hid hmd; have HZ2 := Lib.hid hz; have HCS := Lib.hid hcs; have HDS := Lib.hid hds
    clear hmd hz hcs hown hds hsm hvd
    go_wp2_with fail
    refine HMD.out.mono ?_
    rintro e w1 ⟨rfl, hb1⟩
    have hbx := hb.trans (hb1.mono hsz)
    have hbw := HBW0.out.trans (hbx.mono (by omega))
    have q0 : w1.cell? ⟨w.heap.size, 0, none⟩ = some (.bool false) := box_keep hbx (by omega) 0
    have q1 : w1.cell? ⟨w.heap.size, 1, none⟩ = some (.slice none 0 0) := box_keep hbx (by omega) 1
    have f0 := box_free hbx (by omega) 0
    have f1 := box_free hbx (by omega) 1
    have hcs1 := HCS.out.below hb1 (Nat.le_refl _)
    have hdn : dig N = ds := by rw [<- hvn]; exact HDS.out
    have hld : (dig N).length = ds.length := by rw [hdn]
    rw [<- hdn] at hcs1
    have HC1 := Lib.hid hcs1
    clear hcs1 hdn
    go_wp2
    refine bodyPost_ret (v := .agg #[.bool s, .slice g (dig N).length c]) (by simp [results, Tryz.results118, go_sem, q0, q1, hld]) rfl ?_
    exact ⟨⟨_, rfl, HZ2.out _ _ _ (zbox HC1.out q0 q1) (by omega) hc2⟩, (hbw.setCell (Nat.le_refl _) _).setCell (Nat.le_refl _) _⟩
  · have hds2 : dig N = (ds ++ [k % B]) ++ dig (k / B) := by rw [hds, dig_pos h0]; simp
    have hle : ds.length <= 4 := by
     have := congrArg List.length hds2
     simp only [List.length_append, List.length_singleton] at this; omega
    have HDS := Lib.hid hds2; clear hds hds2 hlen
    have hlt : k / B < k := Nat.div_lt_self (by omega) (by decide)
    have hq9 : k % B <= 9999 := by have hqB : k % B < B := Nat.mod_lt _ B_pos; have hB : B = 10000 := rfl; omega
    have e0 : (sg s k != 0) = true := by rw [bne_iff_ne]; unfold sg; cases s <;> simp <;> omega
    have e2 : (sg s k).tdiv 10000 = sg s (k / B) := sg_div s k
    have e1 : (sg s k).tmod 10000 = sg s (k % B) := sg_rem s k
    generalize k % B = q at *
    generalize k / B = kd at *
    have e5 : wrap64 (sg s kd) = sg s kd := sg_in s kd (by omega)
    have HOB : Hid (∀ j, u4.ownBlock = some j -> w.heap.size + 1 <= j) := fun j e => (hown.lt j e).1
    have hA : sg s (q) = ((q : Nat) : Int) ∨ (sg s (q) = -((q : Nat) : Int) /\ 0 < q) := by
     unfold sg
     cases s
     · exact .inl rfl
     · rcases Nat.eq_zero_or_pos (q) with h | h
       · rw [h]; exact .inl rfl
       · exact .inr ⟨rfl, h⟩
    rcases hA with hA | ⟨hA, hqp⟩
    · rw [hA] at e1
      have e3 : ¬ ((q : Nat) : Int) < 0 := by omega
      go_wp2_with (at_builtin; refine wpList_append_own _ rfl _ _ 43 rfl (w.heap.size + 1) 3 i0 (.int .i64 0) 1 8 Tryz.underlying43 hi hz0 hz1 hz2 rfl (by decide) _ _ _ rfl (hown.alloc _) ⟨wr.heap.size, 0, none⟩ 1 1 [.int .i64 (q : Nat)] rfl rfl (news1 _ _ _) (by simp [Value.oneCell']) (by unfold maxLen; omega) (by omega) (by simp; omega) ?_; intro v1 wz hown1 hgrow _)
      have hfin := hown1
      rw [show zs ds ++ [.int .i64 (q : Nat)] = zs (ds ++ [q]) from by rw [zs_append]; rfl] at hfin
      have hbz := (hb.alloc hsz (.cells #[.int .i64 (q : Nat)] 3)).grown hgrow (by simp; omega) HOB.out
      clear hown1 hgrow hown
      have HFIN := Lib.hid hfin; clear hfin
      go_wp2
      go_roundw
      case rel => exact ⟨ds ++ [q], kd, by rw [e5], by omega, HDS.out, by simpa using HFIN.out, hbz⟩
      case measure => rw [e5, sg_abs, sg_abs]; omega
    · rw [hA] at e1
      have e3 : -((q : Nat) : Int) < 0 := by omega
      have e4 : IntKind.i64.wrap ((q : Nat) : Int) = ((q : Nat) : Int) := IntWalk.i64_in _ (by omega)
      go_wp2_with (at_builtin; refine wpList_append_own _ rfl _ _ 43 rfl (w.heap.size + 1) 3 i0 (.int .i64 0) 1 8 Tryz.underlying43 hi hz0 hz1 hz2 rfl (by decide) _ _ _ rfl (hown.alloc _) ⟨wr.heap.size, 0, none⟩ 1 1 [.int .i64 (q : Nat)] rfl rfl (news1 _ _ _) (by simp [Value.oneCell']) (by unfold maxLen; omega) (by omega) (by simp; omega) ?_; intro v1 wz hown1 hgrow _)
      have hfin := hown1
      rw [show zs ds ++ [.int .i64 (q : Nat)] = zs (ds ++ [q]) from by rw [zs_append]; rfl] at hfin
      have hbz := (hb.alloc hsz (.cells #[.int .i64 (q : Nat)] 3)).grown hgrow (by simp; omega) HOB.out
      clear hown1 hgrow hown
      have HFIN := Lib.hid hfin; clear hfin
      go_wp2
      go_roundw
      case rel => exact ⟨ds ++ [q], kd, by rw [e5], by omega, HDS.out, by simpa using HFIN.out, hbz⟩
      case measure => rw [e5, sg_abs, sg_abs]; omega
end Go.Proofs.YtahnadhlagabgaaGreatDoor.Z4

namespace Go.Proofs.YtahnadhlagabgaaGreatDoor.Z4
open Go.RowKit
theorem drop_of_len {l1 l2 : List Nat} (h : l1.length = l2.length) : l1.drop l1.length = l2.drop l1.length := by
 rw [List.drop_length, h, List.drop_length]
set_option maxRecDepth 100000 in
theorem compare_any (aa ab : Option Addr) (m n : Nat) (ca cb : Nat) (w : World) (ha : Cells w aa (zs (dig m))) (hb : Cells w ab (zs (dig n))) (hm : (dig m).length <= 4611686018427387904) (hn : (dig n).length <= 4611686018427387904) :
 Calls Tryz.prog 192 #[.slice aa (dig m).length ca, .slice ab (dig n).length cb] w fun e w' => e = .returned (.int .i64 (cmpN m n)) /\ Below w.heap.size w w' := by
 have HA := Lib.hid ha; clear ha
 have HB := Lib.hid hb; clear hb
 by_cases hlen : (dig m).length = (dig n).length
 · have h1 : (((dig m).length : Int) != (dig n).length) = false := by simp [hlen]
   have HL := Lib.hid hlen; clear hlen
   go_enter Tryz.func192, Tryz.ntmps192
   go_wp2
   go_loopw [5] (fun i wr => ∃ k : Nat, k <= (dig m).length /\ i = .int .i64 ((k : Int) - 1) /\ (dig m).drop k = (dig n).drop k /\ Below w.heap.size w wr) (fun i _ => (intOf i + 1).toNat)
   case atStart => exact ⟨(dig m).length, Nat.le_refl _, rfl, drop_of_len HL.out, Below.refl _ _⟩
   case round =>
    obtain ⟨k, hk, rfl, hd, hbe⟩ := hrel
    have HD := Lib.hid hd; clear hd
    by_cases h0 : k = 0
    · subst h0
      have he : cmpN m n = 0 := by
       have := HD.out
       simp only [List.drop_zero] at this
       have h2 := congrArg val this
       rw [val_dig, val_dig] at h2
       rw [h2, cmpN_eq]
      have HE := Lib.hid he; clear he
      go_wp2
      go_ret
      exact ⟨ret_int HE.out.symm, hbe⟩
    · obtain ⟨j, rfl⟩ : ∃ j, k = j + 1 := ⟨k - 1, by omega⟩
      have hj2 : j < (dig n).length := by have := HL.out; omega
      obtain ⟨x, hx⟩ := get_of_lt (show j < (dig m).length by omega)
      obtain ⟨y, hy⟩ := get_of_lt hj2
      obtain ⟨b, off, rfl⟩ := HA.out.addr (zs_ne (by omega))
      obtain ⟨b2, off2, rfl⟩ := HB.out.addr (zs_ne (by omega))
      have c1 := cell_keep (zcell HA.out hx) hbe (Nat.le_refl _)
      have c2 := cell_keep (zcell HB.out hy) hbe (Nat.le_refl _)
      have e1 : (((j + 1 : Nat) : Int) - 1) = (j : Int) := by omega
      rw [e1]
      have i1 : (j : Int) < (dig m).length := by omega
      have i2 : (j : Int) < (dig n).length := by omega
      have i3 : (0 : Int) <= j := by omega
      have HX := Lib.hid (sm_get (sm_dig m) hx)
      have HY := Lib.hid (sm_get (sm_dig n) hy)
      have hxy : x < y ∨ y < x ∨ x = y := by omega
      rcases hxy with hlt | hgt | heq
      · have he : cmpN m n = -1 := cmpN_lt (by have := cmp_digit (sm_dig m) hx hy HD.out hlt; rwa [val_dig, val_dig] at this)
        have HE := Lib.hid he; clear he hx hy e1
        have hne : ((x : Int) != y) = true := by simp; omega
        have hxb : x <= 9999 := HX.out
        have hyb : y <= 9999 := HY.out
        have hw : IntKind.i64.wrap ((x : Int) - y) = (x : Int) - y := IntWalk.i64_in _ (by omega)
        have hm : max (-1) (min 1 ((x : Int) - y)) = -1 := by omega
        go_wp2
        go_quiet (fail)
        go_wp2
        go_quiet (fail)
        go_wp2
        go_ret
        exact ⟨ret_int HE.out.symm, bel_drewN (bel_drewN hbe _) _⟩
      · have he : cmpN m n = 1 := cmpN_gt (by have := cmp_digit (sm_dig n) hy hx HD.out.symm hgt; rwa [val_dig, val_dig] at this)
        have HE := Lib.hid he; clear he hx hy e1
        have hne : ((x : Int) != y) = true := by simp; omega
        have hxb : x <= 9999 := HX.out
        have hyb : y <= 9999 := HY.out
        have hw : IntKind.i64.wrap ((x : Int) - y) = (x : Int) - y := IntWalk.i64_in _ (by omega)
        have hm : max (-1) (min 1 ((x : Int) - y)) = 1 := by omega
        go_wp2
        go_quiet (fail)
        go_wp2
        go_quiet (fail)
        go_wp2
        go_ret
        exact ⟨ret_int HE.out.symm, bel_drewN (bel_drewN hbe _) _⟩
      · subst heq
        have he : (dig m).drop j = (dig n).drop j := by
         rw [List.drop_eq_getElem_cons (show j < (dig m).length by omega), List.drop_eq_getElem_cons hj2, HD.out, (List.getElem?_eq_some_iff.1 hx).2, (List.getElem?_eq_some_iff.1 hy).2]
        have HE := Lib.hid he; clear he hx hy e1
        have hne : ((x : Int) != x) = false := by simp
        go_wp2
        go_quiet (fail)
        go_wp2
        go_roundw
        case rel => exact ⟨j, by omega, by go_num, HE.out, bel_drewN hbe _⟩
        case measure => simp [intOf]
 · rcases Nat.lt_or_gt_of_ne hlen with hlt | hgt
   · have he : cmpN m n = -1 := cmpN_lt (lt_of_len hlt)
     have HE := Lib.hid he; clear he
     have h1 : (((dig m).length : Int) != (dig n).length) = true := by simp; omega
     have hw : IntKind.i64.wrap (((dig m).length : Int) - (dig n).length) = ((dig m).length : Int) - (dig n).length := IntWalk.i64_in _ (by omega)
     have hmx : max (-1) (min 1 (((dig m).length : Int) - (dig n).length)) = -1 := by omega
     go_enter Tryz.func192, Tryz.ntmps192
     go_wp2
     go_ret
     exact ⟨ret_int HE.out.symm, Below.refl _ _⟩
   · have he : cmpN m n = 1 := cmpN_gt (lt_of_len hgt)
     have HE := Lib.hid he; clear he
     have h1 : (((dig m).length : Int) != (dig n).length) = true := by simp; omega
     have hw : IntKind.i64.wrap (((dig m).length : Int) - (dig n).length) = ((dig m).length : Int) - (dig n).length := IntWalk.i64_in _ (by omega)
     have hmx : max (-1) (min 1 (((dig m).length : Int) - (dig n).length)) = 1 := by omega
     go_enter Tryz.func192, Tryz.ntmps192
     go_wp2
     go_ret
     exact ⟨ret_int HE.out.symm, Below.refl _ _⟩
end Go.Proofs.YtahnadhlagabgaaGreatDoor.Z4
