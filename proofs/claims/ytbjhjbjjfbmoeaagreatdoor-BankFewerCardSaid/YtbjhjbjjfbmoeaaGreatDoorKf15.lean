/- Parts of a proof, in build order: YI2. -/
import Derived.Test.YtbjhjbjjfbmoeaaGreatDoorKf14

/- The bank: Proves, of a cover. -/
namespace Go.Proofs.YtbjhjbjjfbmoeaaGreatDoor
open Go.RowKit Go.Shelf

theorem prvL_len {n d L : Int} {ys : List (List Int)} {l : List (Pt L)} : ∀ {fs : List (Int × Int)}, prvL n d L ys l (fs.take l.length) = true → l.length ≤ fs.length → prvL n d L ys l fs = decide (fs.length = l.length) := by
  induction l with
  | nil => intro fs _ _; rfl
  | cons x r ih =>
    intro fs h hl
    cases fs with
    | nil => simp at hl
    | cons f fs =>
      rw [List.length_cons, List.take_succ_cons] at h
      simp only [prvL, Bool.and_eq_true] at h
      simp only [prvL, h.1, Bool.true_and]
      rw [ih h.2 (by simpa using hl)]
      simp

theorem prvL_step {n d L : Int} {ys : List (List Int)} {x : Pt L} {f : Int × Int} {l : List (Pt L)} : ∀ {fs : List (Int × Int)}, prvL n d L ys l (fs.take l.length) = true → fs[l.length]? = some f → prvI n d L ys x f = true → prvL n d L ys (l ++ [x]) (fs.take (l.length + 1)) = true := by
  induction l with
  | nil =>
    intro fs _ hf hx
    cases fs with
    | nil => simp at hf
    | cons g r =>
      simp only [List.length_nil, List.getElem?_cons_zero, Option.some.injEq] at hf
      subst hf
      simp [prvL, hx]
  | cons y r ih =>
    intro fs h hf hx
    cases fs with
    | nil => simp at hf
    | cons g fs =>
      rw [List.length_cons, List.take_succ_cons] at h
      rw [List.length_cons, List.getElem?_cons_succ] at hf
      simp only [prvL, Bool.and_eq_true] at h
      rw [List.cons_append, List.length_cons, List.take_succ_cons]
      simp only [prvL, h.1, Bool.true_and]
      exact ih h.2 hf hx
theorem prvL_bad {n d L : Int} {ys : List (List Int)} {x : Pt L} {l : List (Pt L)} : ∀ {fs : List (Int × Int)}, prvL n d L ys l (fs.take l.length) = true → (fs.length ≤ l.length ∨ ∃ f, fs[l.length]? = some f ∧ prvI n d L ys x f = false) → ∀ t : List (Pt L), l ++ [x] <+: t → prvL n d L ys t fs = false := by
  induction l with
  | nil =>
    rintro fs _ hb t ⟨u, rfl⟩
    rw [List.nil_append, List.singleton_append]
    cases fs with
    | nil => rfl
    | cons g r =>
      rcases hb with hb | ⟨f, hf, hx⟩
      · simp at hb
      · simp only [List.length_nil, List.getElem?_cons_zero, Option.some.injEq] at hf
        subst hf
        simp [prvL, hx]
  | cons y r ih =>
    rintro fs h hb t ⟨u, rfl⟩
    rw [List.cons_append, List.cons_append]
    cases fs with
    | nil => rfl
    | cons g fs =>
      rw [List.length_cons, List.take_succ_cons] at h
      simp only [prvL, Bool.and_eq_true] at h
      simp only [prvL, h.1, Bool.true_and]
      refine ih h.2 ?_ _ ⟨u, rfl⟩
      rcases hb with hb | ⟨f, hf, hx⟩
      · exact .inl (by simpa using hb)
      · exact .inr ⟨f, by simpa using hf, hx⟩

theorem add_none (b o j : Nat) : (⟨b, o, none⟩ : Addr).add j = ⟨b, o + j, none⟩ := by unfold Addr.add; split <;> simp_all
set_option maxRecDepth 1000000 in
set_option maxHeartbeats 8000000 in
theorem Proves_good (L a b c d : Int) (cs : List (Int × Int)) (ao : Option Addr) (cap : Nat) (s : ByteArray) (fs : List (Int × Int)) (fo : Option Addr) (fc : Nat) (w : World) (ht : Tab w) (hs : s.size ≤ 140737488351232) (hc : Cells w ao (prs cs)) (hl : cs.length ≤ 9223372036854775807) (hcap : cs.length ≤ cap) (hcap2 : cap ≤ 9223372036854775807) (hfc : Cells w fo (prs fs)) (hfl : fs.length ≤ 9223372036854775807) (hE0 : covE L a b c d cs s = 0) :
    Calls Tryz.prog 48 #[.agg #[.int .i64 L, .int .i64 a, .int .i64 b, .int .i64 c, .int .i64 d], .slice ao cs.length cap, .string s, .slice fo fs.length fc] w fun e w' => e = .returned (.tuple #[.bool (prvR L a b c d cs s fs), .int .i64 (covE L a b c d cs s)]) ∧ Below w.heap.size w w' := by
  obtain ⟨W0, hW0⟩ : ∃ W0, (((w.alloc (.cells #[.int .i64 L, .int .i64 a, .int .i64 b, .int .i64 c, .int .i64 d] 81)).alloc (.cells #[.slice fo fs.length fc] 84)).alloc (.cells #[.bool false] 4)).alloc (.cells #[.int .i64 0] 26) = W0 := ⟨_, rfl⟩
  have hB0 : Below w.heap.size w W0 := by rw [← hW0]; exact ((((Below.refl _ w).alloc (Nat.le_refl _) _).alloc (by simp) _).alloc (by simp; omega) _).alloc (by simp; omega) _
  have hs0 : W0.heap.size = w.heap.size + 4 := by rw [← hW0]; simp
  have q0 : Blk W0 w.heap.size 81 #[.int .i64 L, .int .i64 a, .int .i64 b, .int .i64 c, .int .i64 d] := by
    unfold Blk; rw [← hW0, hold_old _ _ _ (by simp <;> omega), hold_old _ _ _ (by simp <;> omega)]; exact heap_alloc2_old w _ _
  have q1 : Blk W0 (w.heap.size + 1) 84 #[.slice fo fs.length fc] := by
    unfold Blk; rw [← hW0, hold_old _ _ _ (by simp <;> omega), hold_old _ _ _ (by simp)]; exact heap_alloc2_new w _ _
  obtain ⟨W2, hW2⟩ : ∃ W2, (w.alloc (.cells #[.int .i64 L, .int .i64 a, .int .i64 b, .int .i64 c, .int .i64 d] 81)).alloc (.cells #[.slice fo fs.length fc] 84) = W2 := ⟨_, rfl⟩
  have hs2 : W2.heap.size = w.heap.size + 2 := by rw [← hW2]; simp
  have q2 : Blk W0 (w.heap.size + 1 + 1) 4 #[.bool false] := by
    unfold Blk; rw [← hW0, hW2, show w.heap.size + 1 + 1 = W2.heap.size by omega]; exact heap_alloc2_old W2 _ _
  have q3 : Blk W0 (w.heap.size + 1 + 1 + 1) 26 #[.int .i64 0] := by
    unfold Blk; rw [← hW0, hW2, show w.heap.size + 1 + 1 + 1 = W2.heap.size + 1 by omega]; exact heap_alloc2_new W2 _ _
  have hcv := covering_any L a b c d cs ao cap s W0 (ht.below hB0 (Nat.le_refl _)) hs (hc.below hB0 (Nat.le_refl _)) hl hcap hcap2
  have HW0 := Lib.hid hW0; have HCV := Lib.hid hcv; have HB0 := Lib.hid hB0; have HS0 := Lib.hid hs0
  have Q0 := Lib.hid q0; have Q1 := Lib.hid q1; have Q2 := Lib.hid q2; have Q3 := Lib.hid q3
  have HFC := Lib.hid (hfc.below hB0 (Nat.le_refl _))
  clear hW0 hcv ht hc hB0 hs0 hfc hW2 hs2 q0 q1 q2 q3
  refine (callsIn_wide (n := 8)).1 ?_
  refine callsIn_of_wp_marks Tryz.func48 rfl trivial ?_ rfl
  simp only [Tryz.ntmps48, List.size_toArray, List.length_cons, List.length_nil, Nat.reduceAdd, Nat.reduceSub, Array.replicate_succ, Array.replicate_zero, List.push_toArray, List.append_toArray, List.nil_append, List.cons_append]
  gi_wp2_with (refine ⟨trivial, ?_⟩; gi_at_call 106; rw [HW0.out]; refine (callsIn_wide.2 HCV.out).mono ?_; rintro r w1 ⟨⟨hE, hf, hbk, C, bo, cb, N, D, rfl, hbs, hC, hcs⟩ | ⟨hE, rfl⟩, hb1⟩ <;> refine Hid.out ?_)
  rotate_left
  · exact absurd hE0 hE
  refine Lib.hid ?_
  have hbw := HB0.out.trans (hb1.mono HB0.out.size)
  have hsz := HS0.out
  have hs1 := hb1.size
  obtain ⟨z0, z1, z2, z3, z4⟩ : w1.cell? ⟨w.heap.size, 0, none⟩ = some (.int .i64 L) ∧ w1.cell? ⟨w.heap.size, 1, none⟩ = some (.int .i64 a) ∧ w1.cell? ⟨w.heap.size, 2, none⟩ = some (.int .i64 b) ∧ w1.cell? ⟨w.heap.size, 3, none⟩ = some (.int .i64 c) ∧ w1.cell? ⟨w.heap.size, 4, none⟩ = some (.int .i64 d) := by
    have h := Q0.out.below hb1 (by omega)
    exact ⟨h.cell 0, h.cell 1, h.cell 2, h.cell 3, h.cell 4⟩
  have hlt : w.heap.size < w1.heap.size := by omega
  have HCC := Lib.hid hC; have HCS := Lib.hid hcs; have HB1 := Lib.hid hb1; have HBW := Lib.hid hbw; have HE := Lib.hid hE; have HF := Lib.hid hf; have HBK := Lib.hid hbk; have HBS := Lib.hid hbs
  clear hC hcs hb1 hbw hE hE0 hf hbk hbs
  gi_wp2_with (refine ⟨trivial, ?_⟩; gi_at_call 111; refine (callsIn_wide.2 (points_any L a b c d _)).mono ?_; rintro r w2 ⟨rfl, rfl⟩; refine Hid.out ?_)
  refine Lib.hid ?_
  gi_wp2
  clear z0 z1 z2 z3 z4
  obtain ⟨W1, hW1⟩ : ∃ W1, ((w1.alloc (.cells #[.pointer (some ⟨C, 0, none⟩)] 165)).alloc (.cells #[.int .i64 0] 3)).alloc (.cells #[.int .i64 L, .int .i64 a, .int .i64 b, .int .i64 c, .int .i64 d] 81) = W1 := ⟨_, rfl⟩
  have hBW1 : Below w1.heap.size w1 W1 := by rw [← hW1]; exact (((Below.refl _ _).alloc (Nat.le_refl _) _).alloc (by simp) _).alloc (by simp; omega) _
  have hsW1 : W1.heap.size = w1.heap.size + 3 := by rw [← hW1]; simp
  have y0 : Blk W1 w1.heap.size 165 #[.pointer (some ⟨C, 0, none⟩)] := by unfold Blk; rw [← hW1, hold_old _ _ _ (by simp; omega)]; exact heap_alloc2_old w1 _ _
  have y1 : Blk W1 (w1.heap.size + 1) 3 #[.int .i64 0] := by unfold Blk; rw [← hW1, hold_old _ _ _ (by simp)]; exact heap_alloc2_new w1 _ _
  have y2 : W1.heap[w1.heap.size + 1 + 1]? = some (.cells #[.int .i64 L, .int .i64 a, .int .i64 b, .int .i64 c, .int .i64 d] 81 (0, 0)) := by
    have h := heap_alloc_new ((w1.alloc (.cells #[.pointer (some ⟨C, 0, none⟩)] 165)).alloc (.cells #[.int .i64 0] 3)) (.cells #[.int .i64 L, .int .i64 a, .int .i64 b, .int .i64 c, .int .i64 d] 81)
    rw [show ((w1.alloc (.cells #[.pointer (some ⟨C, 0, none⟩)] 165)).alloc (.cells #[.int .i64 0] 3)).heap.size = w1.heap.size + 1 + 1 by simp] at h
    rw [← hW1]; exact h
  rw [hW1]
  have HW1 := Lib.hid hW1
  clear hW1
  obtain ⟨Z, hZ⟩ : ∃ Z, Z = shp 0 (smp 0 0 0) := ⟨_, rfl⟩
  have z : Tryz.zeroCells101 = Z := by rw [hZ]; exact zero101
  have hZs : Z.size = 65 := by rw [hZ, shp_size, smp_length]
  clear hZ
  refine wpIn_rangeFunc_ownH rfl (by omega) (gf := 171) (lb := #[.pointer (some ⟨w1.heap.size + 1 + 1, 0, none⟩)]) rfl trivial (enters_of Tryz.func171 (by kernel_rfl) rfl)
    (points_stops _ (by omega) (w1.heap.size + 1 + 1) L a b c d HF.out W1 y2) KeepB.trans (keepB_b (by omega)) (Below.refl _ _) (fun _ => rfl)
    (fun pre W => (Blk W w1.heap.size 165 #[.pointer (some ⟨C, 0, none⟩)] ∧ Blk W (w1.heap.size + 1) 3 #[.int .i64 ((pre.length : Nat) : Int)] ∧ pre.length ≤ fs.length ∧ prvL N D L (wvs L cs) pre (fs.take pre.length) = true) ∧ Below w1.heap.size w1 W ∧ W1.heap.size ≤ W.heap.size)
    (fun cc pre W => (cc = .ret ∧ (∀ t : List (Pt L), pre <+: t → prvL N D L (wvs L cs) t fs = false) ∧ W.cell? ⟨w.heap.size + 1 + 1, 0, none⟩ = some (.bool false) ∧ W.cell? ⟨w.heap.size + 1 + 1 + 1, 0, none⟩ = some (.int .i64 0)) ∧ Below w.heap.size w W)
    (OwnFrom.and (Own.from (fun s A B row hs hg hr => ⟨row_kept hs.1 hg hr, row_kept hs.2.1 hg hr, hs.2.2⟩) _) (OwnFrom.and (ownFrom_below (Nat.le_refl _) (by omega)) (fun _ _ _ _ hs hg _ => Nat.le_trans hs hg.size)))
    (fun cc => OwnFrom.and (Own.from (fun s A B row hs hg hr => ⟨hs.1, hs.2.1, cell_kept hs.2.2.1 hg hr, cell_kept hs.2.2.2 hg hr⟩) _) (ownFrom_below (Nat.le_refl _) (by omega)))
    ⟨⟨y0, y1, Nat.zero_le _, rfl⟩, hBW1, Nat.le_refl _⟩
    (fun x a' W => ∃ Bx, w1.heap.size + 3 ≤ Bx ∧ W.heap[Bx]? = some (.cells (shp L (wav L x.1.1 x.1.2)) 101 (0, 0)) ∧ a' = { tmps := #[.agg #[.int .i64 L, .int .i64 a, .int .i64 b, .int .i64 c, .int .i64 d], .slice ao cs.length cap, .string s, .slice fo fs.length fc, .pointer (some ⟨w.heap.size, 0, none⟩), undef, undef, .pointer (some ⟨w.heap.size + 1, 0, none⟩), .pointer (some ⟨w.heap.size + 1 + 1, 0, none⟩), .pointer (some ⟨w.heap.size + 1 + 1 + 1, 0, none⟩), .pointer (some ⟨w1.heap.size, 0, none⟩), .int .i64 0, .pointer (some ⟨w1.heap.size + 1, 0, none⟩), undef, .pointer (some ⟨Bx, 0, none⟩), undef, .tuple #[.pointer (some ⟨C, 0, none⟩), .int .i64 0], .agg #[.int .i64 L, .int .i64 a, .int .i64 b, .int .i64 c, .int .i64 d], .slice ao cs.length cap, .string s, .tuple #[.pointer (some ⟨C, 0, none⟩), .int .i64 0], .pointer (some ⟨C, 0, none⟩), .int .i64 0, .int .i64 0, .bool false, undef, .agg #[.int .i64 L, .int .i64 a, .int .i64 b, .int .i64 c, .int .i64 d], .func (.func 171) #[] #[.pointer (some ⟨w1.heap.size + 1 + 1, 0, none⟩)], .agg #[.int .i64 x.1.1, .int .i64 x.1.2], .agg (shp L (wav L x.1.1 x.1.2)), undef, undef, undef, undef, undef, undef, undef, undef, undef, undef, undef, undef, undef, undef, undef, undef, undef, undef, undef, undef, undef, undef, undef, undef, undef, undef, undef, undef, undef, undef, undef, undef, undef, undef, undef, undef, undef, undef, undef, undef, undef, undef, undef, undef, undef, undef, undef, undef, undef, undef, undef, undef, undef, undef, undef], defers := [] })
    (fun x a' _ X Y row hs hg hr => by
      obtain ⟨Bx, h1, h2, h3⟩ := hs
      refine ⟨Bx, h1, (hg.block Bx (Array.getElem?_eq_some_iff.1 h2).1 (fun e => ?_)).trans h2, h3⟩
      obtain ⟨_, o, ho, hc⟩ := hr Bx e.symm
      rw [h2] at ho; cases ho; cases hc)
    ?assign ?body ?done ?stop
  case assign =>
    rintro l pre x W K ⟨⟨h1, h2, h3, h4⟩, hB1, hs⟩ hK
    have hst := store_shape (shp L (wav L x.1.1 x.1.2)) Z (by rw [shp_size, wav_length]) hZs shp_mem
    have hVs : (shp L (wav L x.1.1 x.1.2)).size = 65 := by rw [shp_size, wav_length]
    unfold ptV
    generalize shp L (wav L x.1.1 x.1.2) = V at *
    have hne : ¬ V = #[] := by intro h; rw [h] at hVs; simp at hVs
    gi_wp2_with (rw [Oper.semAt_eq _ _ _ (fun c h => by cases h)]; go_simp; try go_bits)
    have hal := (Below.refl W.heap.size W).alloc (Nat.le_refl _) (.cells V 101)
    exact hK _ _ ((KeepsOthers.alloc _ _).from _) (KeepB.of hal (by omega)) ⟨⟨h1.below hal h1.lt, h2.below hal h2.lt, h3, h4⟩, hB1.alloc hB1.size _, by simp; omega⟩ ⟨W.heap.size, by omega, heap_alloc_new _ _, rfl⟩
  case body =>
    rintro l pre x a' W hl ⟨r, hr⟩ ⟨⟨h1, h2, h3, h4⟩, hB, hs⟩ ⟨Bx, hBx, bX, rfl⟩ hlt
    have hfm := fam_true HF.out
    have hlen : pre.length < 400 := by omega
    clear hfm
    have hb0 := HB1.out.trans (hB.mono hs1)
    have k1 := (Q1.out.below hb0 (by omega)).c0
    have k2 := (Q2.out.below hb0 (by omega)).c0
    have k3 := (Q3.out.below hb0 (by omega)).c0
    have f2 := (Q2.out.below hb0 (by omega)).free 0
    have f3 := (Q3.out.below hb0 (by omega)).free 0
    have i1 := h2.c0
    have B2 := Lib.hid (Q2.out.below hb0 (by omega)); have B3 := Lib.hid (Q3.out.below hb0 (by omega))
    have HB := Lib.hid hB; have HH1 := Lib.hid h1; have HH2 := Lib.hid h2; have H4 := Lib.hid h4; have HB0W := Lib.hid hb0
    have l2 : w.heap.size + 1 + 1 < W.heap.size := by omega
    have l3 : w.heap.size + 1 + 1 + 1 < W.heap.size := by omega
    have hbad := prvL_bad (x := x) (fs := fs) h4
    have HBAD := Lib.hid hbad
    clear hbad h1 h2 h4 hb0 hB
    by_cases hge : fs.length ≤ pre.length
    · have hgi : (fs.length : Int) ≤ pre.length := by omega
      gi_wp2_with (rw [Oper.semAt_eq _ _ _ (fun c h => by cases h)]; go_simp; try go_bits)
      have hk := ((KeepsOthers.setCell W ⟨w.heap.size + 1 + 1, 0, none⟩ (.bool false)).trans (KeepsOthers.setCell _ ⟨w.heap.size + 1 + 1 + 1, 0, none⟩ (.int .i64 0)))
      have v2 : Blk ((W.setCell ⟨w.heap.size + 1 + 1, 0, none⟩ (.bool false)).setCell ⟨w.heap.size + 1 + 1 + 1, 0, none⟩ (.int .i64 0)) (w.heap.size + 1 + 1) 4 #[.bool false] := (B2.out.set0 _).other (by omega) _ _
      have v3 : Blk ((W.setCell ⟨w.heap.size + 1 + 1, 0, none⟩ (.bool false)).setCell ⟨w.heap.size + 1 + 1 + 1, 0, none⟩ (.int .i64 0)) (w.heap.size + 1 + 1 + 1) 26 #[.int .i64 0] := (B3.out.other (by omega) _ _).set0 _
      have hbb : Below w.heap.size W ((W.setCell ⟨w.heap.size + 1 + 1, 0, none⟩ (.bool false)).setCell ⟨w.heap.size + 1 + 1 + 1, 0, none⟩ (.int .i64 0)) := ((Below.refl _ W).setCell (p := ⟨w.heap.size + 1 + 1, 0, none⟩) (by show w.heap.size ≤ w.heap.size + 1 + 1; omega) _).setCell (p := ⟨w.heap.size + 1 + 1 + 1, 0, none⟩) (by show w.heap.size ≤ w.heap.size + 1 + 1 + 1; omega) _
      exact ⟨hk.from _, ⟨rfl, HBAD.out (.inl hge), v2.c0, v3.c0⟩, (HBW.out.trans (HB.out.mono (by omega))).trans hbb⟩
    · obtain ⟨⟨fi, fj⟩, hfx⟩ := get_of_lt (show pre.length < fs.length by omega)
      obtain ⟨fb, fof, rfl⟩ := HFC.out.addr (prs_ne (by omega))
      have e1 := cell_keep ((HFC.out.below HB1.out (Nat.le_refl _)).at (prs_fst hfx)) HB.out (Nat.le_refl _)
      have e2 := cell_keep ((HFC.out.below HB1.out (Nat.le_refl _)).at (prs_snd hfx)) HB.out (Nat.le_refl _)
      rw [← Nat.add_assoc] at e2
      simp only at e1 e2
      have hlt2 : (pre.length : Int) < fs.length := by omega
      have HFX := Lib.hid hfx
      clear hfx
      gi_wp2_with (rw [Oper.semAt_eq _ _ _ (fun c h => by cases h)]; go_simp; try go_bits)
      have hfm := fam_true HF.out
      have hcell : ∀ j v, (#[Value.int .i64 L, .int .i64 a, .int .i64 b, .int .i64 c, .int .i64 d, .slice bo cs.length cb, .int .i64 N, .int .i64 D] : Array Value)[j]? = some v → w1.cell? ⟨C, j, none⟩ = some v := fun j v hv => (cell_of_row w1 _ j _ _ _ HCC.out).trans hv
      have hal : Below W.heap.size W (W.alloc (.cells #[.int .i64 fi, .int .i64 fj] 176)).drew := bel_drewN ((Below.refl _ _).alloc (Nat.le_refl _) _) 1
      have hB9 := HB.out.trans (hal.mono HB.out.size)
      have hbx9 : (W.alloc (.cells #[.int .i64 fi, .int .i64 fj] 176)).drew.heap[W.heap.size]? = some (.cells #[.int .i64 fi, .int .i64 fj] 176 (0, 0)) := heap_alloc_new W _
      generalize hVV : shp L (wav L x.1.1 x.1.2) = V at *
      have h9 : (fun w' : World => w'.cell? ⟨W.heap.size, 0, none⟩ = some (.int .i64 fi) ∧ w'.cell? ⟨W.heap.size, 1, none⟩ = some (.int .i64 fj) ∧ w'.cell? ⟨w1.heap.size, 0, none⟩ = some (.pointer (some ⟨C, 0, none⟩)) ∧ w'.cell? ⟨C, 5, none⟩ = some (.slice bo cs.length cb) ∧ w'.cell? ⟨C, 6, none⟩ = some (.int .i64 N) ∧ w'.cell? ⟨C, 7, none⟩ = some (.int .i64 D) ∧ w'.cell? ⟨w.heap.size, 0, none⟩ = some (.int .i64 L) ∧ w'.heap[Bx]? = some (.cells V 101 (0, 0)) ∧ Cells w' bo (shpL L (wvs L cs))) (W.alloc (.cells #[.int .i64 fi, .int .i64 fj] 176)).drew :=
        ⟨(cell_of_row _ _ 0 _ _ _ hbx9).trans rfl, (cell_of_row _ _ 1 _ _ _ hbx9).trans rfl, (HH1.out.below hal HH1.out.lt).c0, cell_keep (hcell 5 _ rfl) hB9 (Nat.le_refl _), cell_keep (hcell 6 _ rfl) hB9 (Nat.le_refl _), cell_keep (hcell 7 _ rfl) hB9 (Nat.le_refl _), cell_keep ((Q0.out.below HB1.out (by omega)).c0) hB9 (Nat.le_refl _), (hal.block _ (Array.getElem?_eq_some_iff.1 bX).1).trans bX, HCS.out.below hB9 (Nat.le_refl _)⟩
      have HVV := Lib.hid hVV
      have hl64 : cs.length ≤ 64 := by
        have h := HBK.out
        simp only [bankOK, Bool.and_eq_true, decide_eq_true_eq] at h
        exact h.1.1
      have hwi := fun W => bwithin_any fi 0 ((cs.length : Nat) - 1) W
      have HAL := Lib.hid hal
      clear hcell hbx9 hVV bX hal
      cases hin1 : inB 0 fi ((cs.length : Nat) - 1) with
      | false =>
        rw [hin1] at hwi
        have HWI := Lib.hid hwi; have HIN1 := Lib.hid hin1
        clear hwi hin1
        refine wpIn_region_round (S := fun w' : World => w'.cell? ⟨W.heap.size, 0, none⟩ = some (.int .i64 fi) ∧ w'.cell? ⟨W.heap.size, 1, none⟩ = some (.int .i64 fj) ∧ w'.cell? ⟨w1.heap.size, 0, none⟩ = some (.pointer (some ⟨C, 0, none⟩)) ∧ w'.cell? ⟨C, 5, none⟩ = some (.slice bo cs.length cb) ∧ w'.cell? ⟨C, 6, none⟩ = some (.int .i64 N) ∧ w'.cell? ⟨C, 7, none⟩ = some (.int .i64 D) ∧ w'.cell? ⟨w.heap.size, 0, none⟩ = some (.int .i64 L) ∧ w'.heap[Bx]? = some (.cells V 101 (0, 0)) ∧ Cells w' bo (shpL L (wvs L cs))) (by kernel_rfl) (by kernel_rfl) (fun ⟨_, _, h⟩ => h) h9 (fun hHeld => ?_)
        refine wpAnyH_take (i := 0) (oi := { dst := some 38, op := Op.fieldAddr 176 (Operand.tmp 15) 0, type := 0, pos := "cover.go:223", after := #[], guard := none }) (v := .pointer (some ⟨W.heap.size, 0, none⟩)) rfl (by kernel_rfl) (by kernel_rfl) (by kernel_rfl) (fun _ _ _ h => h) (Or.inl ⟨by rfl, fun w9 h => by obtain ⟨FC1, FC2, FC3, FC4, FC5, FC6, FC7, FC8, FC9⟩ := h; go_simp⟩) hHeld ?_
        try simp only [Act.put, List.setIfInBounds_toArray, List.set_cons_zero, List.set_cons_succ]
        refine wpAnyH_take (i := 1) (oi := { dst := some 39, op := Op.load 3 (Operand.tmp 38), type := 3, pos := "cover.go:223", after := #[{ on := 0, ground := Ground.data }], guard := none }) (v := .int .i64 fi) rfl (by kernel_rfl) (by kernel_rfl) (by kernel_rfl) (fun _ _ _ h => h) (Or.inl ⟨by rfl, fun w9 h => by obtain ⟨FC1, FC2, FC3, FC4, FC5, FC6, FC7, FC8, FC9⟩ := h; go_simp⟩) hHeld ?_
        try simp only [Act.put, List.setIfInBounds_toArray, List.set_cons_zero, List.set_cons_succ]
        refine wpAnyH_take (i := 2) (oi := { dst := some 40, op := Op.load 165 (Operand.tmp 10), type := 165, pos := "cover.go:223", after := #[], guard := none }) (v := .pointer (some ⟨C, 0, none⟩)) rfl (by kernel_rfl) (by kernel_rfl) (by kernel_rfl) (fun _ _ _ h => h) (Or.inl ⟨by rfl, fun w9 h => by obtain ⟨FC1, FC2, FC3, FC4, FC5, FC6, FC7, FC8, FC9⟩ := h; go_simp⟩) hHeld ?_
        try simp only [Act.put, List.setIfInBounds_toArray, List.set_cons_zero, List.set_cons_succ]
        refine wpAnyH_take (i := 3) (oi := { dst := some 41, op := Op.nilCheck (Operand.tmp 40), type := 0, pos := "cover.go:223", after := #[{ on := 2, ground := Ground.data }], guard := none }) (v := .pointer (some ⟨C, 0, none⟩)) rfl (by kernel_rfl) (by kernel_rfl) (by kernel_rfl) (fun _ _ _ h => h) (Or.inl ⟨by rfl, fun w9 h => by obtain ⟨FC1, FC2, FC3, FC4, FC5, FC6, FC7, FC8, FC9⟩ := h; go_simp⟩) hHeld ?_
        try simp only [Act.put, List.setIfInBounds_toArray, List.set_cons_zero, List.set_cons_succ]
        refine wpAnyH_take (i := 4) (oi := { dst := some 42, op := Op.fieldAddr 185 (Operand.tmp 41) 1, type := 0, pos := "cover.go:223", after := #[{ on := 3, ground := Ground.data }], guard := none }) (v := .pointer (some ⟨C, 5, none⟩)) rfl (by kernel_rfl) (by kernel_rfl) (by kernel_rfl) (fun _ _ _ h => h) (Or.inl ⟨by rfl, fun w9 h => by obtain ⟨FC1, FC2, FC3, FC4, FC5, FC6, FC7, FC8, FC9⟩ := h; go_simp⟩) hHeld ?_
        try simp only [Act.put, List.setIfInBounds_toArray, List.set_cons_zero, List.set_cons_succ]
        refine wpAnyH_take (i := 5) (oi := { dst := some 43, op := Op.load 181 (Operand.tmp 42), type := 181, pos := "cover.go:223", after := #[{ on := 4, ground := Ground.data }], guard := none }) (v := .slice bo cs.length cb) rfl (by kernel_rfl) (by kernel_rfl) (by kernel_rfl) (fun _ _ _ h => h) (Or.inl ⟨by rfl, fun w9 h => by obtain ⟨FC1, FC2, FC3, FC4, FC5, FC6, FC7, FC8, FC9⟩ := h; go_simp⟩) hHeld ?_
        try simp only [Act.put, List.setIfInBounds_toArray, List.set_cons_zero, List.set_cons_succ]
        refine wpAnyH_take (i := 6) (oi := { dst := some 44, op := Op.call { callee := Callee.builtin Builtin.len, args := #[Operand.tmp 43], argTypes := #[181] }, type := 3, pos := "cover.go:223", after := #[{ on := 5, ground := Ground.data }], guard := none }) (v := .int .i64 (cs.length : Nat)) rfl (by kernel_rfl) (by kernel_rfl) (by kernel_rfl) (fun _ _ _ h => h) (Or.inl ⟨by rfl, fun w9 h => by obtain ⟨FC1, FC2, FC3, FC4, FC5, FC6, FC7, FC8, FC9⟩ := h; go_simp⟩) hHeld ?_
        try simp only [Act.put, List.setIfInBounds_toArray, List.set_cons_zero, List.set_cons_succ]
        refine wpAnyH_take (i := 7) (oi := { dst := some 45, op := Op.binOp BinOp.sub 3 (Operand.tmp 44) (Operand.const (Value.int IntKind.i64 1)) 3, type := 3, pos := "cover.go:223", after := #[{ on := 6, ground := Ground.data }], guard := none }) (v := .int .i64 ((cs.length : Nat) - 1)) rfl (by kernel_rfl) (by kernel_rfl) (by kernel_rfl) (fun _ _ _ h => h) (Or.inl ⟨by rfl, fun w9 h => by obtain ⟨FC1, FC2, FC3, FC4, FC5, FC6, FC7, FC8, FC9⟩ := h; go_simp; exact IntWalk.i64_in _ (by omega)⟩) hHeld ?_
        try simp only [Act.put, List.setIfInBounds_toArray, List.set_cons_zero, List.set_cons_succ]
        refine wpAnyH_ready (rs := [8]) (by kernel_rfl) (by simp) ?_
        refine AllReadyH.cons (o := { dst := some 46, op := Op.call { callee := Callee.value (Operand.func 68), args := #[Operand.tmp 39, Operand.const (Value.int IntKind.i64 0), Operand.tmp 45], argTypes := #[3, 3, 3] }, type := 4, pos := "cover.go:223", after := #[{ on := 1, ground := Ground.data }, { on := 7, ground := Ground.data }], guard := none }) rfl (fun K hK => ?_) AllReadyH.nil
        go_simp
        refine (HWI.out _).mono ?_
        rintro e w9 ⟨rfl, rfl⟩
        refine hK.out _ _ h9 (fun _ => ?_)
        clear hK K
        try simp only [Act.put, List.setIfInBounds_toArray, List.set_cons_zero, List.set_cons_succ]
        refine wpAnyH_take (i := 9) (oi := { dst := some 47, op := Op.unOp UnOp.not 4 (Operand.tmp 46), type := 4, pos := "cover.go:223", after := #[{ on := 8, ground := Ground.data }], guard := none }) (v := .bool true) rfl (by kernel_rfl) (by kernel_rfl) (by kernel_rfl) (fun _ _ _ h => h) (Or.inl ⟨by rfl, fun w9 h => by obtain ⟨FC1, FC2, FC3, FC4, FC5, FC6, FC7, FC8, FC9⟩ := h; go_simp⟩) h9 ?_
        try simp only [Act.put, List.setIfInBounds_toArray, List.set_cons_zero, List.set_cons_succ]
        refine wpAnyH_take (i := 10) (oi := { dst := some 48, op := Op.move (Operand.tmp 47), type := 4, pos := "cover.go:223", after := #[{ on := 9, ground := Ground.data }, { on := 8, ground := Ground.chain }], guard := none }) (v := .bool true) rfl (by kernel_rfl) (by kernel_rfl) (by kernel_rfl) (fun _ _ _ h => h) (Or.inl ⟨by rfl, fun w9 h => by obtain ⟨FC1, FC2, FC3, FC4, FC5, FC6, FC7, FC8, FC9⟩ := h; go_simp⟩) h9 ?_
        try simp only [Act.put, List.setIfInBounds_toArray, List.set_cons_zero, List.set_cons_succ]
        refine wpAnyH_take (i := 11) (oi := { dst := some 49, op := Op.fieldAddr 176 (Operand.tmp 15) 1, type := 0, pos := "cover.go:223", after := #[{ on := 10, ground := Ground.guard }], guard := some (10, false) }) (v := undef) rfl (by kernel_rfl) (by kernel_rfl) (by kernel_rfl) (fun _ _ _ h => h) (Or.inr ⟨by rfl, rfl⟩) h9 ?_
        try simp only [Act.put, List.setIfInBounds_toArray, List.set_cons_zero, List.set_cons_succ]
        refine wpAnyH_take (i := 12) (oi := { dst := some 50, op := Op.load 3 (Operand.tmp 49), type := 3, pos := "cover.go:223", after := #[{ on := 11, ground := Ground.data }, { on := 10, ground := Ground.guard }], guard := some (10, false) }) (v := undef) rfl (by kernel_rfl) (by kernel_rfl) (by kernel_rfl) (fun _ _ _ h => h) (Or.inr ⟨by rfl, rfl⟩) h9 ?_
        try simp only [Act.put, List.setIfInBounds_toArray, List.set_cons_zero, List.set_cons_succ]
        refine wpAnyH_take (i := 13) (oi := { dst := some 51, op := Op.fieldAddr 81 (Operand.tmp 4) 0, type := 0, pos := "cover.go:223", after := #[{ on := 10, ground := Ground.guard }], guard := some (10, false) }) (v := undef) rfl (by kernel_rfl) (by kernel_rfl) (by kernel_rfl) (fun _ _ _ h => h) (Or.inr ⟨by rfl, rfl⟩) h9 ?_
        try simp only [Act.put, List.setIfInBounds_toArray, List.set_cons_zero, List.set_cons_succ]
        refine wpAnyH_take (i := 14) (oi := { dst := some 52, op := Op.load 3 (Operand.tmp 51), type := 3, pos := "cover.go:223", after := #[{ on := 13, ground := Ground.data }, { on := 10, ground := Ground.guard }], guard := some (10, false) }) (v := undef) rfl (by kernel_rfl) (by kernel_rfl) (by kernel_rfl) (fun _ _ _ h => h) (Or.inr ⟨by rfl, rfl⟩) h9 ?_
        try simp only [Act.put, List.setIfInBounds_toArray, List.set_cons_zero, List.set_cons_succ]
        refine wpAnyH_take (i := 15) (oi := { dst := some 53, op := Op.binOp BinOp.sub 3 (Operand.const (Value.int IntKind.i64 1)) (Operand.tmp 52) 3, type := 3, pos := "cover.go:223", after := #[{ on := 14, ground := Ground.data }, { on := 10, ground := Ground.guard }], guard := some (10, false) }) (v := undef) rfl (by kernel_rfl) (by kernel_rfl) (by kernel_rfl) (fun _ _ _ h => h) (Or.inr ⟨by rfl, rfl⟩) h9 ?_
        try simp only [Act.put, List.setIfInBounds_toArray, List.set_cons_zero, List.set_cons_succ]
        refine wpAnyH_take (i := 16) (oi := { dst := some 54, op := Op.fieldAddr 81 (Operand.tmp 4) 0, type := 0, pos := "cover.go:223", after := #[{ on := 10, ground := Ground.guard }], guard := some (10, false) }) (v := undef) rfl (by kernel_rfl) (by kernel_rfl) (by kernel_rfl) (fun _ _ _ h => h) (Or.inr ⟨by rfl, rfl⟩) h9 ?_
        try simp only [Act.put, List.setIfInBounds_toArray, List.set_cons_zero, List.set_cons_succ]
        refine wpAnyH_take (i := 17) (oi := { dst := some 55, op := Op.load 3 (Operand.tmp 54), type := 3, pos := "cover.go:223", after := #[{ on := 16, ground := Ground.data }, { on := 10, ground := Ground.guard }], guard := some (10, false) }) (v := undef) rfl (by kernel_rfl) (by kernel_rfl) (by kernel_rfl) (fun _ _ _ h => h) (Or.inr ⟨by rfl, rfl⟩) h9 ?_
        try simp only [Act.put, List.setIfInBounds_toArray, List.set_cons_zero, List.set_cons_succ]
        refine wpAnyH_take (i := 18) (oi := { dst := some 56, op := Op.binOp BinOp.sub 3 (Operand.tmp 55) (Operand.const (Value.int IntKind.i64 1)) 3, type := 3, pos := "cover.go:223", after := #[{ on := 17, ground := Ground.data }, { on := 10, ground := Ground.guard }], guard := some (10, false) }) (v := undef) rfl (by kernel_rfl) (by kernel_rfl) (by kernel_rfl) (fun _ _ _ h => h) (Or.inr ⟨by rfl, rfl⟩) h9 ?_
        try simp only [Act.put, List.setIfInBounds_toArray, List.set_cons_zero, List.set_cons_succ]
        refine wpAnyH_take (i := 19) (oi := { dst := some 57, op := Op.call { callee := Callee.value (Operand.func 68), args := #[Operand.tmp 50, Operand.tmp 53, Operand.tmp 56], argTypes := #[3, 3, 3] }, type := 4, pos := "cover.go:223", after := #[{ on := 12, ground := Ground.data }, { on := 15, ground := Ground.data }, { on := 18, ground := Ground.data }, { on := 10, ground := Ground.chain }, { on := 10, ground := Ground.guard }], guard := some (10, false) }) (v := undef) rfl (by kernel_rfl) (by kernel_rfl) (by kernel_rfl) (fun _ _ _ h => h) (Or.inr ⟨by rfl, rfl⟩) h9 ?_
        try simp only [Act.put, List.setIfInBounds_toArray, List.set_cons_zero, List.set_cons_succ]
        refine wpAnyH_take (i := 20) (oi := { dst := some 58, op := Op.unOp UnOp.not 4 (Operand.tmp 57), type := 4, pos := "cover.go:223", after := #[{ on := 19, ground := Ground.data }, { on := 10, ground := Ground.guard }], guard := some (10, false) }) (v := undef) rfl (by kernel_rfl) (by kernel_rfl) (by kernel_rfl) (fun _ _ _ h => h) (Or.inr ⟨by rfl, rfl⟩) h9 ?_
        try simp only [Act.put, List.setIfInBounds_toArray, List.set_cons_zero, List.set_cons_succ]
        refine wpAnyH_take (i := 21) (oi := { dst := some 59, op := Op.pick (Operand.tmp 48) (Operand.const (Value.bool true)) (Operand.tmp 58), type := 4, pos := "cover.go:223", after := #[{ on := 10, ground := Ground.data }, { on := 20, ground := Ground.data }], guard := none }) (v := .bool true) rfl (by kernel_rfl) (by kernel_rfl) (by kernel_rfl) (fun _ _ _ h => h) (Or.inl ⟨by rfl, fun w9 h => by obtain ⟨FC1, FC2, FC3, FC4, FC5, FC6, FC7, FC8, FC9⟩ := h; go_simp⟩) h9 ?_
        try simp only [Act.put, List.setIfInBounds_toArray, List.set_cons_zero, List.set_cons_succ]
        refine wpAnyH_take (i := 22) (oi := { dst := some 60, op := Op.move (Operand.tmp 59), type := 4, pos := "cover.go:223", after := #[{ on := 21, ground := Ground.data }, { on := 19, ground := Ground.chain }], guard := none }) (v := .bool true) rfl (by kernel_rfl) (by kernel_rfl) (by kernel_rfl) (fun _ _ _ h => h) (Or.inl ⟨by rfl, fun w9 h => by obtain ⟨FC1, FC2, FC3, FC4, FC5, FC6, FC7, FC8, FC9⟩ := h; go_simp⟩) h9 ?_
        try simp only [Act.put, List.setIfInBounds_toArray, List.set_cons_zero, List.set_cons_succ]
        refine wpAnyH_take (i := 23) (oi := { dst := some 61, op := Op.load 165 (Operand.tmp 10), type := 165, pos := "cover.go:223", after := #[{ on := 22, ground := Ground.guard }], guard := some (22, false) }) (v := undef) rfl (by kernel_rfl) (by kernel_rfl) (by kernel_rfl) (fun _ _ _ h => h) (Or.inr ⟨by rfl, rfl⟩) h9 ?_
        try simp only [Act.put, List.setIfInBounds_toArray, List.set_cons_zero, List.set_cons_succ]
        refine wpAnyH_take (i := 24) (oi := { dst := some 62, op := Op.nilCheck (Operand.tmp 61), type := 0, pos := "cover.go:223", after := #[{ on := 23, ground := Ground.data }, { on := 22, ground := Ground.guard }], guard := some (22, false) }) (v := undef) rfl (by kernel_rfl) (by kernel_rfl) (by kernel_rfl) (fun _ _ _ h => h) (Or.inr ⟨by rfl, rfl⟩) h9 ?_
        try simp only [Act.put, List.setIfInBounds_toArray, List.set_cons_zero, List.set_cons_succ]
        refine wpAnyH_take (i := 25) (oi := { dst := some 63, op := Op.fieldAddr 185 (Operand.tmp 62) 2, type := 0, pos := "cover.go:223", after := #[{ on := 24, ground := Ground.data }, { on := 22, ground := Ground.guard }], guard := some (22, false) }) (v := undef) rfl (by kernel_rfl) (by kernel_rfl) (by kernel_rfl) (fun _ _ _ h => h) (Or.inr ⟨by rfl, rfl⟩) h9 ?_
        try simp only [Act.put, List.setIfInBounds_toArray, List.set_cons_zero, List.set_cons_succ]
        refine wpAnyH_take (i := 26) (oi := { dst := some 64, op := Op.load 183 (Operand.tmp 63), type := 183, pos := "cover.go:223", after := #[{ on := 25, ground := Ground.data }, { on := 22, ground := Ground.guard }], guard := some (22, false) }) (v := undef) rfl (by kernel_rfl) (by kernel_rfl) (by kernel_rfl) (fun _ _ _ h => h) (Or.inr ⟨by rfl, rfl⟩) h9 ?_
        try simp only [Act.put, List.setIfInBounds_toArray, List.set_cons_zero, List.set_cons_succ]
        refine wpAnyH_take (i := 27) (oi := { dst := some 65, op := Op.load 101 (Operand.tmp 14), type := 101, pos := "cover.go:223", after := #[{ on := 22, ground := Ground.guard }], guard := some (22, false) }) (v := undef) rfl (by kernel_rfl) (by kernel_rfl) (by kernel_rfl) (fun _ _ _ h => h) (Or.inr ⟨by rfl, rfl⟩) h9 ?_
        try simp only [Act.put, List.setIfInBounds_toArray, List.set_cons_zero, List.set_cons_succ]
        refine wpAnyH_take (i := 28) (oi := { dst := some 66, op := Op.load 165 (Operand.tmp 10), type := 165, pos := "cover.go:223", after := #[{ on := 22, ground := Ground.guard }], guard := some (22, false) }) (v := undef) rfl (by kernel_rfl) (by kernel_rfl) (by kernel_rfl) (fun _ _ _ h => h) (Or.inr ⟨by rfl, rfl⟩) h9 ?_
        try simp only [Act.put, List.setIfInBounds_toArray, List.set_cons_zero, List.set_cons_succ]
        refine wpAnyH_take (i := 29) (oi := { dst := some 67, op := Op.nilCheck (Operand.tmp 66), type := 0, pos := "cover.go:223", after := #[{ on := 28, ground := Ground.data }, { on := 22, ground := Ground.guard }], guard := some (22, false) }) (v := undef) rfl (by kernel_rfl) (by kernel_rfl) (by kernel_rfl) (fun _ _ _ h => h) (Or.inr ⟨by rfl, rfl⟩) h9 ?_
        try simp only [Act.put, List.setIfInBounds_toArray, List.set_cons_zero, List.set_cons_succ]
        refine wpAnyH_take (i := 30) (oi := { dst := some 68, op := Op.fieldAddr 185 (Operand.tmp 67) 1, type := 0, pos := "cover.go:223", after := #[{ on := 29, ground := Ground.data }, { on := 22, ground := Ground.guard }], guard := some (22, false) }) (v := undef) rfl (by kernel_rfl) (by kernel_rfl) (by kernel_rfl) (fun _ _ _ h => h) (Or.inr ⟨by rfl, rfl⟩) h9 ?_
        try simp only [Act.put, List.setIfInBounds_toArray, List.set_cons_zero, List.set_cons_succ]
        refine wpAnyH_take (i := 31) (oi := { dst := some 69, op := Op.load 181 (Operand.tmp 68), type := 181, pos := "cover.go:223", after := #[{ on := 30, ground := Ground.data }, { on := 22, ground := Ground.guard }], guard := some (22, false) }) (v := undef) rfl (by kernel_rfl) (by kernel_rfl) (by kernel_rfl) (fun _ _ _ h => h) (Or.inr ⟨by rfl, rfl⟩) h9 ?_
        try simp only [Act.put, List.setIfInBounds_toArray, List.set_cons_zero, List.set_cons_succ]
        refine wpAnyH_take (i := 32) (oi := { dst := some 70, op := Op.fieldAddr 176 (Operand.tmp 15) 0, type := 0, pos := "cover.go:223", after := #[{ on := 22, ground := Ground.guard }], guard := some (22, false) }) (v := undef) rfl (by kernel_rfl) (by kernel_rfl) (by kernel_rfl) (fun _ _ _ h => h) (Or.inr ⟨by rfl, rfl⟩) h9 ?_
        try simp only [Act.put, List.setIfInBounds_toArray, List.set_cons_zero, List.set_cons_succ]
        refine wpAnyH_take (i := 33) (oi := { dst := some 71, op := Op.load 3 (Operand.tmp 70), type := 3, pos := "cover.go:223", after := #[{ on := 32, ground := Ground.data }, { on := 22, ground := Ground.guard }], guard := some (22, false) }) (v := undef) rfl (by kernel_rfl) (by kernel_rfl) (by kernel_rfl) (fun _ _ _ h => h) (Or.inr ⟨by rfl, rfl⟩) h9 ?_
        try simp only [Act.put, List.setIfInBounds_toArray, List.set_cons_zero, List.set_cons_succ]
        refine wpAnyH_take (i := 34) (oi := { dst := some 72, op := Op.indexAddr 181 (Operand.tmp 69) (Operand.tmp 71), type := 0, pos := "cover.go:223", after := #[{ on := 31, ground := Ground.data }, { on := 33, ground := Ground.data }, { on := 22, ground := Ground.guard }], guard := some (22, false) }) (v := undef) rfl (by kernel_rfl) (by kernel_rfl) (by kernel_rfl) (fun _ _ _ h => h) (Or.inr ⟨by rfl, rfl⟩) h9 ?_
        try simp only [Act.put, List.setIfInBounds_toArray, List.set_cons_zero, List.set_cons_succ]
        refine wpAnyH_take (i := 35) (oi := { dst := some 73, op := Op.load 101 (Operand.tmp 72), type := 101, pos := "cover.go:223", after := #[{ on := 34, ground := Ground.data }, { on := 22, ground := Ground.guard }], guard := some (22, false) }) (v := undef) rfl (by kernel_rfl) (by kernel_rfl) (by kernel_rfl) (fun _ _ _ h => h) (Or.inr ⟨by rfl, rfl⟩) h9 ?_
        try simp only [Act.put, List.setIfInBounds_toArray, List.set_cons_zero, List.set_cons_succ]
        refine wpAnyH_take (i := 36) (oi := { dst := some 74, op := Op.fieldAddr 176 (Operand.tmp 15) 1, type := 0, pos := "cover.go:223", after := #[{ on := 22, ground := Ground.guard }], guard := some (22, false) }) (v := undef) rfl (by kernel_rfl) (by kernel_rfl) (by kernel_rfl) (fun _ _ _ h => h) (Or.inr ⟨by rfl, rfl⟩) h9 ?_
        try simp only [Act.put, List.setIfInBounds_toArray, List.set_cons_zero, List.set_cons_succ]
        refine wpAnyH_take (i := 37) (oi := { dst := some 75, op := Op.load 3 (Operand.tmp 74), type := 3, pos := "cover.go:223", after := #[{ on := 36, ground := Ground.data }, { on := 22, ground := Ground.guard }], guard := some (22, false) }) (v := undef) rfl (by kernel_rfl) (by kernel_rfl) (by kernel_rfl) (fun _ _ _ h => h) (Or.inr ⟨by rfl, rfl⟩) h9 ?_
        try simp only [Act.put, List.setIfInBounds_toArray, List.set_cons_zero, List.set_cons_succ]
        refine wpAnyH_take (i := 38) (oi := { dst := some 76, op := Op.call { callee := Callee.value (Operand.func 112), args := #[Operand.tmp 64, Operand.tmp 65, Operand.tmp 73, Operand.tmp 75], argTypes := #[183, 101, 101, 3] }, type := 4, pos := "cover.go:223", after := #[{ on := 26, ground := Ground.data }, { on := 27, ground := Ground.data }, { on := 35, ground := Ground.data }, { on := 37, ground := Ground.data }, { on := 22, ground := Ground.chain }, { on := 22, ground := Ground.guard }], guard := some (22, false) }) (v := undef) rfl (by kernel_rfl) (by kernel_rfl) (by kernel_rfl) (fun _ _ _ h => h) (Or.inr ⟨by rfl, rfl⟩) h9 ?_
        try simp only [Act.put, List.setIfInBounds_toArray, List.set_cons_zero, List.set_cons_succ]
        refine wpAnyH_take (i := 39) (oi := { dst := some 77, op := Op.unOp UnOp.not 4 (Operand.tmp 76), type := 4, pos := "cover.go:223", after := #[{ on := 38, ground := Ground.data }, { on := 22, ground := Ground.guard }], guard := some (22, false) }) (v := undef) rfl (by kernel_rfl) (by kernel_rfl) (by kernel_rfl) (fun _ _ _ h => h) (Or.inr ⟨by rfl, rfl⟩) h9 ?_
        try simp only [Act.put, List.setIfInBounds_toArray, List.set_cons_zero, List.set_cons_succ]
        refine wpAnyH_take (i := 40) (oi := { dst := some 78, op := Op.pick (Operand.tmp 60) (Operand.const (Value.bool true)) (Operand.tmp 77), type := 4, pos := "cover.go:223", after := #[{ on := 22, ground := Ground.data }, { on := 39, ground := Ground.data }], guard := none }) (v := .bool true) rfl (by kernel_rfl) (by kernel_rfl) (by kernel_rfl) (fun _ _ _ h => h) (Or.inl ⟨by rfl, fun w9 h => by obtain ⟨FC1, FC2, FC3, FC4, FC5, FC6, FC7, FC8, FC9⟩ := h; go_simp⟩) h9 ?_
        try simp only [Act.put, List.setIfInBounds_toArray, List.set_cons_zero, List.set_cons_succ]
        refine wpAnyH_done (by kernel_rfl) ?_ _
        have hn := HAL.out
        clear h9 hHeld
        generalize (W.alloc (.cells #[.int .i64 fi, .int .i64 fj] 176)).drew = WN at *
        have kk2 := (B2.out.below hn l2).c0
        have kk3 := (B3.out.below hn l3).c0
        have ff2 := (B2.out.below hn l2).free 0
        have ff3 := (B3.out.below hn l3).free 0
        have HN := Lib.hid hn
        clear hn
        gi_wp2_with (rw [Oper.semAt_eq _ _ _ (fun c h => by cases h)]; go_simp; try go_bits)
        have hk := (keepsOthers_below HN.out).trans ((KeepsOthers.setCell (WN) ⟨w.heap.size + 1 + 1, 0, none⟩ (.bool false)).trans (KeepsOthers.setCell _ ⟨w.heap.size + 1 + 1 + 1, 0, none⟩ (.int .i64 0)))
        have v2 : Blk (((WN).setCell ⟨w.heap.size + 1 + 1, 0, none⟩ (.bool false)).setCell ⟨w.heap.size + 1 + 1 + 1, 0, none⟩ (.int .i64 0)) (w.heap.size + 1 + 1) 4 #[.bool false] := ((B2.out.below HN.out l2).set0 _).other (by omega) _ _
        have v3 : Blk (((WN).setCell ⟨w.heap.size + 1 + 1, 0, none⟩ (.bool false)).setCell ⟨w.heap.size + 1 + 1 + 1, 0, none⟩ (.int .i64 0)) (w.heap.size + 1 + 1 + 1) 26 #[.int .i64 0] := ((B3.out.below HN.out l3).other (by omega) _ _).set0 _
        have hbb : Below w.heap.size (WN) (((WN).setCell ⟨w.heap.size + 1 + 1, 0, none⟩ (.bool false)).setCell ⟨w.heap.size + 1 + 1 + 1, 0, none⟩ (.int .i64 0)) := ((Below.refl _ _).setCell (p := ⟨w.heap.size + 1 + 1, 0, none⟩) (by show w.heap.size ≤ w.heap.size + 1 + 1; omega) _).setCell (p := ⟨w.heap.size + 1 + 1 + 1, 0, none⟩) (by show w.heap.size ≤ w.heap.size + 1 + 1 + 1; omega) _
        exact ⟨hk.from _, ⟨rfl, HBAD.out (.inr ⟨_, HFX.out, by unfold prvI; simp only [show (wvs L cs).length = cs.length by simp [wvs], HIN1.out, Bool.false_and]⟩), v2.c0, v3.c0⟩, (HBW.out.trans ((HB.out.mono (by omega)).trans (HN.out.mono (by omega)))).trans hbb⟩
      | true =>
        rw [hin1] at hwi
        have HWI := Lib.hid hwi; have HIN1 := Lib.hid hin1
        have hwj := fun W => bwithin_any fj (1 - L) (L - 1) W
        clear hwi hin1
        cases hin2 : inB (1 - L) fj (L - 1) with
        | false =>
          rw [hin2] at hwj
          have HWJ := Lib.hid hwj; have HIN2 := Lib.hid hin2
          clear hwj hin2
          refine wpIn_region_round (S := fun w' : World => w'.cell? ⟨W.heap.size, 0, none⟩ = some (.int .i64 fi) ∧ w'.cell? ⟨W.heap.size, 1, none⟩ = some (.int .i64 fj) ∧ w'.cell? ⟨w1.heap.size, 0, none⟩ = some (.pointer (some ⟨C, 0, none⟩)) ∧ w'.cell? ⟨C, 5, none⟩ = some (.slice bo cs.length cb) ∧ w'.cell? ⟨C, 6, none⟩ = some (.int .i64 N) ∧ w'.cell? ⟨C, 7, none⟩ = some (.int .i64 D) ∧ w'.cell? ⟨w.heap.size, 0, none⟩ = some (.int .i64 L) ∧ w'.heap[Bx]? = some (.cells V 101 (0, 0)) ∧ Cells w' bo (shpL L (wvs L cs))) (by kernel_rfl) (by kernel_rfl) (fun ⟨_, _, h⟩ => h) h9 (fun hHeld => ?_)
          refine wpAnyH_take (i := 0) (oi := { dst := some 38, op := Op.fieldAddr 176 (Operand.tmp 15) 0, type := 0, pos := "cover.go:223", after := #[], guard := none }) (v := .pointer (some ⟨W.heap.size, 0, none⟩)) rfl (by kernel_rfl) (by kernel_rfl) (by kernel_rfl) (fun _ _ _ h => h) (Or.inl ⟨by rfl, fun w9 h => by obtain ⟨FC1, FC2, FC3, FC4, FC5, FC6, FC7, FC8, FC9⟩ := h; go_simp⟩) hHeld ?_
          try simp only [Act.put, List.setIfInBounds_toArray, List.set_cons_zero, List.set_cons_succ]
          refine wpAnyH_take (i := 1) (oi := { dst := some 39, op := Op.load 3 (Operand.tmp 38), type := 3, pos := "cover.go:223", after := #[{ on := 0, ground := Ground.data }], guard := none }) (v := .int .i64 fi) rfl (by kernel_rfl) (by kernel_rfl) (by kernel_rfl) (fun _ _ _ h => h) (Or.inl ⟨by rfl, fun w9 h => by obtain ⟨FC1, FC2, FC3, FC4, FC5, FC6, FC7, FC8, FC9⟩ := h; go_simp⟩) hHeld ?_
          try simp only [Act.put, List.setIfInBounds_toArray, List.set_cons_zero, List.set_cons_succ]
          refine wpAnyH_take (i := 2) (oi := { dst := some 40, op := Op.load 165 (Operand.tmp 10), type := 165, pos := "cover.go:223", after := #[], guard := none }) (v := .pointer (some ⟨C, 0, none⟩)) rfl (by kernel_rfl) (by kernel_rfl) (by kernel_rfl) (fun _ _ _ h => h) (Or.inl ⟨by rfl, fun w9 h => by obtain ⟨FC1, FC2, FC3, FC4, FC5, FC6, FC7, FC8, FC9⟩ := h; go_simp⟩) hHeld ?_
          try simp only [Act.put, List.setIfInBounds_toArray, List.set_cons_zero, List.set_cons_succ]
          refine wpAnyH_take (i := 3) (oi := { dst := some 41, op := Op.nilCheck (Operand.tmp 40), type := 0, pos := "cover.go:223", after := #[{ on := 2, ground := Ground.data }], guard := none }) (v := .pointer (some ⟨C, 0, none⟩)) rfl (by kernel_rfl) (by kernel_rfl) (by kernel_rfl) (fun _ _ _ h => h) (Or.inl ⟨by rfl, fun w9 h => by obtain ⟨FC1, FC2, FC3, FC4, FC5, FC6, FC7, FC8, FC9⟩ := h; go_simp⟩) hHeld ?_
          try simp only [Act.put, List.setIfInBounds_toArray, List.set_cons_zero, List.set_cons_succ]
          refine wpAnyH_take (i := 4) (oi := { dst := some 42, op := Op.fieldAddr 185 (Operand.tmp 41) 1, type := 0, pos := "cover.go:223", after := #[{ on := 3, ground := Ground.data }], guard := none }) (v := .pointer (some ⟨C, 5, none⟩)) rfl (by kernel_rfl) (by kernel_rfl) (by kernel_rfl) (fun _ _ _ h => h) (Or.inl ⟨by rfl, fun w9 h => by obtain ⟨FC1, FC2, FC3, FC4, FC5, FC6, FC7, FC8, FC9⟩ := h; go_simp⟩) hHeld ?_
          try simp only [Act.put, List.setIfInBounds_toArray, List.set_cons_zero, List.set_cons_succ]
          refine wpAnyH_take (i := 5) (oi := { dst := some 43, op := Op.load 181 (Operand.tmp 42), type := 181, pos := "cover.go:223", after := #[{ on := 4, ground := Ground.data }], guard := none }) (v := .slice bo cs.length cb) rfl (by kernel_rfl) (by kernel_rfl) (by kernel_rfl) (fun _ _ _ h => h) (Or.inl ⟨by rfl, fun w9 h => by obtain ⟨FC1, FC2, FC3, FC4, FC5, FC6, FC7, FC8, FC9⟩ := h; go_simp⟩) hHeld ?_
          try simp only [Act.put, List.setIfInBounds_toArray, List.set_cons_zero, List.set_cons_succ]
          refine wpAnyH_take (i := 6) (oi := { dst := some 44, op := Op.call { callee := Callee.builtin Builtin.len, args := #[Operand.tmp 43], argTypes := #[181] }, type := 3, pos := "cover.go:223", after := #[{ on := 5, ground := Ground.data }], guard := none }) (v := .int .i64 (cs.length : Nat)) rfl (by kernel_rfl) (by kernel_rfl) (by kernel_rfl) (fun _ _ _ h => h) (Or.inl ⟨by rfl, fun w9 h => by obtain ⟨FC1, FC2, FC3, FC4, FC5, FC6, FC7, FC8, FC9⟩ := h; go_simp⟩) hHeld ?_
          try simp only [Act.put, List.setIfInBounds_toArray, List.set_cons_zero, List.set_cons_succ]
          refine wpAnyH_take (i := 7) (oi := { dst := some 45, op := Op.binOp BinOp.sub 3 (Operand.tmp 44) (Operand.const (Value.int IntKind.i64 1)) 3, type := 3, pos := "cover.go:223", after := #[{ on := 6, ground := Ground.data }], guard := none }) (v := .int .i64 ((cs.length : Nat) - 1)) rfl (by kernel_rfl) (by kernel_rfl) (by kernel_rfl) (fun _ _ _ h => h) (Or.inl ⟨by rfl, fun w9 h => by obtain ⟨FC1, FC2, FC3, FC4, FC5, FC6, FC7, FC8, FC9⟩ := h; go_simp; exact IntWalk.i64_in _ (by omega)⟩) hHeld ?_
          try simp only [Act.put, List.setIfInBounds_toArray, List.set_cons_zero, List.set_cons_succ]
          refine wpAnyH_ready (rs := [8]) (by kernel_rfl) (by simp) ?_
          refine AllReadyH.cons (o := { dst := some 46, op := Op.call { callee := Callee.value (Operand.func 68), args := #[Operand.tmp 39, Operand.const (Value.int IntKind.i64 0), Operand.tmp 45], argTypes := #[3, 3, 3] }, type := 4, pos := "cover.go:223", after := #[{ on := 1, ground := Ground.data }, { on := 7, ground := Ground.data }], guard := none }) rfl (fun K hK => ?_) AllReadyH.nil
          go_simp
          refine (HWI.out _).mono ?_
          rintro e w9 ⟨rfl, rfl⟩
          refine hK.out _ _ h9 (fun _ => ?_)
          clear hK K
          try simp only [Act.put, List.setIfInBounds_toArray, List.set_cons_zero, List.set_cons_succ]
          refine wpAnyH_take (i := 9) (oi := { dst := some 47, op := Op.unOp UnOp.not 4 (Operand.tmp 46), type := 4, pos := "cover.go:223", after := #[{ on := 8, ground := Ground.data }], guard := none }) (v := .bool false) rfl (by kernel_rfl) (by kernel_rfl) (by kernel_rfl) (fun _ _ _ h => h) (Or.inl ⟨by rfl, fun w9 h => by obtain ⟨FC1, FC2, FC3, FC4, FC5, FC6, FC7, FC8, FC9⟩ := h; go_simp⟩) h9 ?_
          try simp only [Act.put, List.setIfInBounds_toArray, List.set_cons_zero, List.set_cons_succ]
          refine wpAnyH_take (i := 10) (oi := { dst := some 48, op := Op.move (Operand.tmp 47), type := 4, pos := "cover.go:223", after := #[{ on := 9, ground := Ground.data }, { on := 8, ground := Ground.chain }], guard := none }) (v := .bool false) rfl (by kernel_rfl) (by kernel_rfl) (by kernel_rfl) (fun _ _ _ h => h) (Or.inl ⟨by rfl, fun w9 h => by obtain ⟨FC1, FC2, FC3, FC4, FC5, FC6, FC7, FC8, FC9⟩ := h; go_simp⟩) h9 ?_
          try simp only [Act.put, List.setIfInBounds_toArray, List.set_cons_zero, List.set_cons_succ]
          refine wpAnyH_take (i := 11) (oi := { dst := some 49, op := Op.fieldAddr 176 (Operand.tmp 15) 1, type := 0, pos := "cover.go:223", after := #[{ on := 10, ground := Ground.guard }], guard := some (10, false) }) (v := .pointer (some ⟨W.heap.size, 1, none⟩)) rfl (by kernel_rfl) (by kernel_rfl) (by kernel_rfl) (fun _ _ _ h => h) (Or.inl ⟨by rfl, fun w9 h => by obtain ⟨FC1, FC2, FC3, FC4, FC5, FC6, FC7, FC8, FC9⟩ := h; go_simp⟩) h9 ?_
          try simp only [Act.put, List.setIfInBounds_toArray, List.set_cons_zero, List.set_cons_succ]
          refine wpAnyH_take (i := 12) (oi := { dst := some 50, op := Op.load 3 (Operand.tmp 49), type := 3, pos := "cover.go:223", after := #[{ on := 11, ground := Ground.data }, { on := 10, ground := Ground.guard }], guard := some (10, false) }) (v := .int .i64 fj) rfl (by kernel_rfl) (by kernel_rfl) (by kernel_rfl) (fun _ _ _ h => h) (Or.inl ⟨by rfl, fun w9 h => by obtain ⟨FC1, FC2, FC3, FC4, FC5, FC6, FC7, FC8, FC9⟩ := h; go_simp⟩) h9 ?_
          try simp only [Act.put, List.setIfInBounds_toArray, List.set_cons_zero, List.set_cons_succ]
          refine wpAnyH_take (i := 13) (oi := { dst := some 51, op := Op.fieldAddr 81 (Operand.tmp 4) 0, type := 0, pos := "cover.go:223", after := #[{ on := 10, ground := Ground.guard }], guard := some (10, false) }) (v := .pointer (some ⟨w.heap.size, 0, none⟩)) rfl (by kernel_rfl) (by kernel_rfl) (by kernel_rfl) (fun _ _ _ h => h) (Or.inl ⟨by rfl, fun w9 h => by obtain ⟨FC1, FC2, FC3, FC4, FC5, FC6, FC7, FC8, FC9⟩ := h; go_simp⟩) h9 ?_
          try simp only [Act.put, List.setIfInBounds_toArray, List.set_cons_zero, List.set_cons_succ]
          refine wpAnyH_take (i := 14) (oi := { dst := some 52, op := Op.load 3 (Operand.tmp 51), type := 3, pos := "cover.go:223", after := #[{ on := 13, ground := Ground.data }, { on := 10, ground := Ground.guard }], guard := some (10, false) }) (v := .int .i64 L) rfl (by kernel_rfl) (by kernel_rfl) (by kernel_rfl) (fun _ _ _ h => h) (Or.inl ⟨by rfl, fun w9 h => by obtain ⟨FC1, FC2, FC3, FC4, FC5, FC6, FC7, FC8, FC9⟩ := h; go_simp⟩) h9 ?_
          try simp only [Act.put, List.setIfInBounds_toArray, List.set_cons_zero, List.set_cons_succ]
          refine wpAnyH_take (i := 15) (oi := { dst := some 53, op := Op.binOp BinOp.sub 3 (Operand.const (Value.int IntKind.i64 1)) (Operand.tmp 52) 3, type := 3, pos := "cover.go:223", after := #[{ on := 14, ground := Ground.data }, { on := 10, ground := Ground.guard }], guard := some (10, false) }) (v := .int .i64 (1 - L)) rfl (by kernel_rfl) (by kernel_rfl) (by kernel_rfl) (fun _ _ _ h => h) (Or.inl ⟨by rfl, fun w9 h => by obtain ⟨FC1, FC2, FC3, FC4, FC5, FC6, FC7, FC8, FC9⟩ := h; go_simp; exact IntWalk.i64_in _ (by omega)⟩) h9 ?_
          try simp only [Act.put, List.setIfInBounds_toArray, List.set_cons_zero, List.set_cons_succ]
          refine wpAnyH_take (i := 16) (oi := { dst := some 54, op := Op.fieldAddr 81 (Operand.tmp 4) 0, type := 0, pos := "cover.go:223", after := #[{ on := 10, ground := Ground.guard }], guard := some (10, false) }) (v := .pointer (some ⟨w.heap.size, 0, none⟩)) rfl (by kernel_rfl) (by kernel_rfl) (by kernel_rfl) (fun _ _ _ h => h) (Or.inl ⟨by rfl, fun w9 h => by obtain ⟨FC1, FC2, FC3, FC4, FC5, FC6, FC7, FC8, FC9⟩ := h; go_simp⟩) h9 ?_
          try simp only [Act.put, List.setIfInBounds_toArray, List.set_cons_zero, List.set_cons_succ]
          refine wpAnyH_take (i := 17) (oi := { dst := some 55, op := Op.load 3 (Operand.tmp 54), type := 3, pos := "cover.go:223", after := #[{ on := 16, ground := Ground.data }, { on := 10, ground := Ground.guard }], guard := some (10, false) }) (v := .int .i64 L) rfl (by kernel_rfl) (by kernel_rfl) (by kernel_rfl) (fun _ _ _ h => h) (Or.inl ⟨by rfl, fun w9 h => by obtain ⟨FC1, FC2, FC3, FC4, FC5, FC6, FC7, FC8, FC9⟩ := h; go_simp⟩) h9 ?_
          try simp only [Act.put, List.setIfInBounds_toArray, List.set_cons_zero, List.set_cons_succ]
          refine wpAnyH_take (i := 18) (oi := { dst := some 56, op := Op.binOp BinOp.sub 3 (Operand.tmp 55) (Operand.const (Value.int IntKind.i64 1)) 3, type := 3, pos := "cover.go:223", after := #[{ on := 17, ground := Ground.data }, { on := 10, ground := Ground.guard }], guard := some (10, false) }) (v := .int .i64 (L - 1)) rfl (by kernel_rfl) (by kernel_rfl) (by kernel_rfl) (fun _ _ _ h => h) (Or.inl ⟨by rfl, fun w9 h => by obtain ⟨FC1, FC2, FC3, FC4, FC5, FC6, FC7, FC8, FC9⟩ := h; go_simp; exact IntWalk.i64_in _ (by omega)⟩) h9 ?_
          try simp only [Act.put, List.setIfInBounds_toArray, List.set_cons_zero, List.set_cons_succ]
          refine wpAnyH_ready (rs := [19]) (by kernel_rfl) (by simp) ?_
          refine AllReadyH.cons (o := { dst := some 57, op := Op.call { callee := Callee.value (Operand.func 68), args := #[Operand.tmp 50, Operand.tmp 53, Operand.tmp 56], argTypes := #[3, 3, 3] }, type := 4, pos := "cover.go:223", after := #[{ on := 12, ground := Ground.data }, { on := 15, ground := Ground.data }, { on := 18, ground := Ground.data }, { on := 10, ground := Ground.chain }, { on := 10, ground := Ground.guard }], guard := some (10, false) }) rfl (fun K hK => ?_) AllReadyH.nil
          go_simp
          refine (HWJ.out _).mono ?_
          rintro e w9 ⟨rfl, rfl⟩
          refine hK.out _ _ h9 (fun _ => ?_)
          clear hK K
          try simp only [Act.put, List.setIfInBounds_toArray, List.set_cons_zero, List.set_cons_succ]
          refine wpAnyH_take (i := 20) (oi := { dst := some 58, op := Op.unOp UnOp.not 4 (Operand.tmp 57), type := 4, pos := "cover.go:223", after := #[{ on := 19, ground := Ground.data }, { on := 10, ground := Ground.guard }], guard := some (10, false) }) (v := .bool true) rfl (by kernel_rfl) (by kernel_rfl) (by kernel_rfl) (fun _ _ _ h => h) (Or.inl ⟨by rfl, fun w9 h => by obtain ⟨FC1, FC2, FC3, FC4, FC5, FC6, FC7, FC8, FC9⟩ := h; go_simp⟩) h9 ?_
          try simp only [Act.put, List.setIfInBounds_toArray, List.set_cons_zero, List.set_cons_succ]
          refine wpAnyH_take (i := 21) (oi := { dst := some 59, op := Op.pick (Operand.tmp 48) (Operand.const (Value.bool true)) (Operand.tmp 58), type := 4, pos := "cover.go:223", after := #[{ on := 10, ground := Ground.data }, { on := 20, ground := Ground.data }], guard := none }) (v := .bool true) rfl (by kernel_rfl) (by kernel_rfl) (by kernel_rfl) (fun _ _ _ h => h) (Or.inl ⟨by rfl, fun w9 h => by obtain ⟨FC1, FC2, FC3, FC4, FC5, FC6, FC7, FC8, FC9⟩ := h; go_simp⟩) h9 ?_
          try simp only [Act.put, List.setIfInBounds_toArray, List.set_cons_zero, List.set_cons_succ]
          refine wpAnyH_take (i := 22) (oi := { dst := some 60, op := Op.move (Operand.tmp 59), type := 4, pos := "cover.go:223", after := #[{ on := 21, ground := Ground.data }, { on := 19, ground := Ground.chain }], guard := none }) (v := .bool true) rfl (by kernel_rfl) (by kernel_rfl) (by kernel_rfl) (fun _ _ _ h => h) (Or.inl ⟨by rfl, fun w9 h => by obtain ⟨FC1, FC2, FC3, FC4, FC5, FC6, FC7, FC8, FC9⟩ := h; go_simp⟩) h9 ?_
          try simp only [Act.put, List.setIfInBounds_toArray, List.set_cons_zero, List.set_cons_succ]
          refine wpAnyH_take (i := 23) (oi := { dst := some 61, op := Op.load 165 (Operand.tmp 10), type := 165, pos := "cover.go:223", after := #[{ on := 22, ground := Ground.guard }], guard := some (22, false) }) (v := undef) rfl (by kernel_rfl) (by kernel_rfl) (by kernel_rfl) (fun _ _ _ h => h) (Or.inr ⟨by rfl, rfl⟩) h9 ?_
          try simp only [Act.put, List.setIfInBounds_toArray, List.set_cons_zero, List.set_cons_succ]
          refine wpAnyH_take (i := 24) (oi := { dst := some 62, op := Op.nilCheck (Operand.tmp 61), type := 0, pos := "cover.go:223", after := #[{ on := 23, ground := Ground.data }, { on := 22, ground := Ground.guard }], guard := some (22, false) }) (v := undef) rfl (by kernel_rfl) (by kernel_rfl) (by kernel_rfl) (fun _ _ _ h => h) (Or.inr ⟨by rfl, rfl⟩) h9 ?_
          try simp only [Act.put, List.setIfInBounds_toArray, List.set_cons_zero, List.set_cons_succ]
          refine wpAnyH_take (i := 25) (oi := { dst := some 63, op := Op.fieldAddr 185 (Operand.tmp 62) 2, type := 0, pos := "cover.go:223", after := #[{ on := 24, ground := Ground.data }, { on := 22, ground := Ground.guard }], guard := some (22, false) }) (v := undef) rfl (by kernel_rfl) (by kernel_rfl) (by kernel_rfl) (fun _ _ _ h => h) (Or.inr ⟨by rfl, rfl⟩) h9 ?_
          try simp only [Act.put, List.setIfInBounds_toArray, List.set_cons_zero, List.set_cons_succ]
          refine wpAnyH_take (i := 26) (oi := { dst := some 64, op := Op.load 183 (Operand.tmp 63), type := 183, pos := "cover.go:223", after := #[{ on := 25, ground := Ground.data }, { on := 22, ground := Ground.guard }], guard := some (22, false) }) (v := undef) rfl (by kernel_rfl) (by kernel_rfl) (by kernel_rfl) (fun _ _ _ h => h) (Or.inr ⟨by rfl, rfl⟩) h9 ?_
          try simp only [Act.put, List.setIfInBounds_toArray, List.set_cons_zero, List.set_cons_succ]
          refine wpAnyH_take (i := 27) (oi := { dst := some 65, op := Op.load 101 (Operand.tmp 14), type := 101, pos := "cover.go:223", after := #[{ on := 22, ground := Ground.guard }], guard := some (22, false) }) (v := undef) rfl (by kernel_rfl) (by kernel_rfl) (by kernel_rfl) (fun _ _ _ h => h) (Or.inr ⟨by rfl, rfl⟩) h9 ?_
          try simp only [Act.put, List.setIfInBounds_toArray, List.set_cons_zero, List.set_cons_succ]
          refine wpAnyH_take (i := 28) (oi := { dst := some 66, op := Op.load 165 (Operand.tmp 10), type := 165, pos := "cover.go:223", after := #[{ on := 22, ground := Ground.guard }], guard := some (22, false) }) (v := undef) rfl (by kernel_rfl) (by kernel_rfl) (by kernel_rfl) (fun _ _ _ h => h) (Or.inr ⟨by rfl, rfl⟩) h9 ?_
          try simp only [Act.put, List.setIfInBounds_toArray, List.set_cons_zero, List.set_cons_succ]
          refine wpAnyH_take (i := 29) (oi := { dst := some 67, op := Op.nilCheck (Operand.tmp 66), type := 0, pos := "cover.go:223", after := #[{ on := 28, ground := Ground.data }, { on := 22, ground := Ground.guard }], guard := some (22, false) }) (v := undef) rfl (by kernel_rfl) (by kernel_rfl) (by kernel_rfl) (fun _ _ _ h => h) (Or.inr ⟨by rfl, rfl⟩) h9 ?_
          try simp only [Act.put, List.setIfInBounds_toArray, List.set_cons_zero, List.set_cons_succ]
          refine wpAnyH_take (i := 30) (oi := { dst := some 68, op := Op.fieldAddr 185 (Operand.tmp 67) 1, type := 0, pos := "cover.go:223", after := #[{ on := 29, ground := Ground.data }, { on := 22, ground := Ground.guard }], guard := some (22, false) }) (v := undef) rfl (by kernel_rfl) (by kernel_rfl) (by kernel_rfl) (fun _ _ _ h => h) (Or.inr ⟨by rfl, rfl⟩) h9 ?_
          try simp only [Act.put, List.setIfInBounds_toArray, List.set_cons_zero, List.set_cons_succ]
          refine wpAnyH_take (i := 31) (oi := { dst := some 69, op := Op.load 181 (Operand.tmp 68), type := 181, pos := "cover.go:223", after := #[{ on := 30, ground := Ground.data }, { on := 22, ground := Ground.guard }], guard := some (22, false) }) (v := undef) rfl (by kernel_rfl) (by kernel_rfl) (by kernel_rfl) (fun _ _ _ h => h) (Or.inr ⟨by rfl, rfl⟩) h9 ?_
          try simp only [Act.put, List.setIfInBounds_toArray, List.set_cons_zero, List.set_cons_succ]
          refine wpAnyH_take (i := 32) (oi := { dst := some 70, op := Op.fieldAddr 176 (Operand.tmp 15) 0, type := 0, pos := "cover.go:223", after := #[{ on := 22, ground := Ground.guard }], guard := some (22, false) }) (v := undef) rfl (by kernel_rfl) (by kernel_rfl) (by kernel_rfl) (fun _ _ _ h => h) (Or.inr ⟨by rfl, rfl⟩) h9 ?_
          try simp only [Act.put, List.setIfInBounds_toArray, List.set_cons_zero, List.set_cons_succ]
          refine wpAnyH_take (i := 33) (oi := { dst := some 71, op := Op.load 3 (Operand.tmp 70), type := 3, pos := "cover.go:223", after := #[{ on := 32, ground := Ground.data }, { on := 22, ground := Ground.guard }], guard := some (22, false) }) (v := undef) rfl (by kernel_rfl) (by kernel_rfl) (by kernel_rfl) (fun _ _ _ h => h) (Or.inr ⟨by rfl, rfl⟩) h9 ?_
          try simp only [Act.put, List.setIfInBounds_toArray, List.set_cons_zero, List.set_cons_succ]
          refine wpAnyH_take (i := 34) (oi := { dst := some 72, op := Op.indexAddr 181 (Operand.tmp 69) (Operand.tmp 71), type := 0, pos := "cover.go:223", after := #[{ on := 31, ground := Ground.data }, { on := 33, ground := Ground.data }, { on := 22, ground := Ground.guard }], guard := some (22, false) }) (v := undef) rfl (by kernel_rfl) (by kernel_rfl) (by kernel_rfl) (fun _ _ _ h => h) (Or.inr ⟨by rfl, rfl⟩) h9 ?_
          try simp only [Act.put, List.setIfInBounds_toArray, List.set_cons_zero, List.set_cons_succ]
          refine wpAnyH_take (i := 35) (oi := { dst := some 73, op := Op.load 101 (Operand.tmp 72), type := 101, pos := "cover.go:223", after := #[{ on := 34, ground := Ground.data }, { on := 22, ground := Ground.guard }], guard := some (22, false) }) (v := undef) rfl (by kernel_rfl) (by kernel_rfl) (by kernel_rfl) (fun _ _ _ h => h) (Or.inr ⟨by rfl, rfl⟩) h9 ?_
          try simp only [Act.put, List.setIfInBounds_toArray, List.set_cons_zero, List.set_cons_succ]
          refine wpAnyH_take (i := 36) (oi := { dst := some 74, op := Op.fieldAddr 176 (Operand.tmp 15) 1, type := 0, pos := "cover.go:223", after := #[{ on := 22, ground := Ground.guard }], guard := some (22, false) }) (v := undef) rfl (by kernel_rfl) (by kernel_rfl) (by kernel_rfl) (fun _ _ _ h => h) (Or.inr ⟨by rfl, rfl⟩) h9 ?_
          try simp only [Act.put, List.setIfInBounds_toArray, List.set_cons_zero, List.set_cons_succ]
          refine wpAnyH_take (i := 37) (oi := { dst := some 75, op := Op.load 3 (Operand.tmp 74), type := 3, pos := "cover.go:223", after := #[{ on := 36, ground := Ground.data }, { on := 22, ground := Ground.guard }], guard := some (22, false) }) (v := undef) rfl (by kernel_rfl) (by kernel_rfl) (by kernel_rfl) (fun _ _ _ h => h) (Or.inr ⟨by rfl, rfl⟩) h9 ?_
          try simp only [Act.put, List.setIfInBounds_toArray, List.set_cons_zero, List.set_cons_succ]
          refine wpAnyH_take (i := 38) (oi := { dst := some 76, op := Op.call { callee := Callee.value (Operand.func 112), args := #[Operand.tmp 64, Operand.tmp 65, Operand.tmp 73, Operand.tmp 75], argTypes := #[183, 101, 101, 3] }, type := 4, pos := "cover.go:223", after := #[{ on := 26, ground := Ground.data }, { on := 27, ground := Ground.data }, { on := 35, ground := Ground.data }, { on := 37, ground := Ground.data }, { on := 22, ground := Ground.chain }, { on := 22, ground := Ground.guard }], guard := some (22, false) }) (v := undef) rfl (by kernel_rfl) (by kernel_rfl) (by kernel_rfl) (fun _ _ _ h => h) (Or.inr ⟨by rfl, rfl⟩) h9 ?_
          try simp only [Act.put, List.setIfInBounds_toArray, List.set_cons_zero, List.set_cons_succ]
          refine wpAnyH_take (i := 39) (oi := { dst := some 77, op := Op.unOp UnOp.not 4 (Operand.tmp 76), type := 4, pos := "cover.go:223", after := #[{ on := 38, ground := Ground.data }, { on := 22, ground := Ground.guard }], guard := some (22, false) }) (v := undef) rfl (by kernel_rfl) (by kernel_rfl) (by kernel_rfl) (fun _ _ _ h => h) (Or.inr ⟨by rfl, rfl⟩) h9 ?_
          try simp only [Act.put, List.setIfInBounds_toArray, List.set_cons_zero, List.set_cons_succ]
          refine wpAnyH_take (i := 40) (oi := { dst := some 78, op := Op.pick (Operand.tmp 60) (Operand.const (Value.bool true)) (Operand.tmp 77), type := 4, pos := "cover.go:223", after := #[{ on := 22, ground := Ground.data }, { on := 39, ground := Ground.data }], guard := none }) (v := .bool true) rfl (by kernel_rfl) (by kernel_rfl) (by kernel_rfl) (fun _ _ _ h => h) (Or.inl ⟨by rfl, fun w9 h => by obtain ⟨FC1, FC2, FC3, FC4, FC5, FC6, FC7, FC8, FC9⟩ := h; go_simp⟩) h9 ?_
          try simp only [Act.put, List.setIfInBounds_toArray, List.set_cons_zero, List.set_cons_succ]
          refine wpAnyH_done (by kernel_rfl) ?_ _
          have hn := HAL.out
          clear h9 hHeld
          generalize (W.alloc (.cells #[.int .i64 fi, .int .i64 fj] 176)).drew = WN at *
          have kk2 := (B2.out.below hn l2).c0
          have kk3 := (B3.out.below hn l3).c0
          have ff2 := (B2.out.below hn l2).free 0
          have ff3 := (B3.out.below hn l3).free 0
          have HN := Lib.hid hn
          clear hn
          gi_wp2_with (rw [Oper.semAt_eq _ _ _ (fun c h => by cases h)]; go_simp; try go_bits)
          have hk := (keepsOthers_below HN.out).trans ((KeepsOthers.setCell (WN) ⟨w.heap.size + 1 + 1, 0, none⟩ (.bool false)).trans (KeepsOthers.setCell _ ⟨w.heap.size + 1 + 1 + 1, 0, none⟩ (.int .i64 0)))
          have v2 : Blk (((WN).setCell ⟨w.heap.size + 1 + 1, 0, none⟩ (.bool false)).setCell ⟨w.heap.size + 1 + 1 + 1, 0, none⟩ (.int .i64 0)) (w.heap.size + 1 + 1) 4 #[.bool false] := ((B2.out.below HN.out l2).set0 _).other (by omega) _ _
          have v3 : Blk (((WN).setCell ⟨w.heap.size + 1 + 1, 0, none⟩ (.bool false)).setCell ⟨w.heap.size + 1 + 1 + 1, 0, none⟩ (.int .i64 0)) (w.heap.size + 1 + 1 + 1) 26 #[.int .i64 0] := ((B3.out.below HN.out l3).other (by omega) _ _).set0 _
          have hbb : Below w.heap.size (WN) (((WN).setCell ⟨w.heap.size + 1 + 1, 0, none⟩ (.bool false)).setCell ⟨w.heap.size + 1 + 1 + 1, 0, none⟩ (.int .i64 0)) := ((Below.refl _ _).setCell (p := ⟨w.heap.size + 1 + 1, 0, none⟩) (by show w.heap.size ≤ w.heap.size + 1 + 1; omega) _).setCell (p := ⟨w.heap.size + 1 + 1 + 1, 0, none⟩) (by show w.heap.size ≤ w.heap.size + 1 + 1 + 1; omega) _
          exact ⟨hk.from _, ⟨rfl, HBAD.out (.inr ⟨_, HFX.out, by unfold prvI; simp only [show (wvs L cs).length = cs.length by simp [wvs], HIN1.out, HIN2.out, Bool.and_false, Bool.false_and]⟩), v2.c0, v3.c0⟩, (HBW.out.trans ((HB.out.mono (by omega)).trans (HN.out.mono (by omega)))).trans hbb⟩
        | true =>
          rw [hin2] at hwj
          have HWJ := Lib.hid hwj; have HIN2 := Lib.hid hin2
          have hfr : 0 ≤ fi ∧ fi < cs.length := by have h := HIN1.out; simp only [inB, Bool.and_eq_true, decide_eq_true_eq] at h; omega
          have hjr : -1000 ≤ fj ∧ fj ≤ 1000 := by simp only [inB, Bool.and_eq_true, decide_eq_true_eq] at hin2; omega
          have hwl : (wvs L cs).length = cs.length := by simp [wvs]
          obtain ⟨y, hy⟩ := get_of_lt (show fi.toNat < (wvs L cs).length by omega)
          obtain ⟨hy64, hybd⟩ := wvs_bd L cs y (List.mem_of_getElem? hy)
          have hget := fun (j : Nat) (v : Value) (hv : (shp L y)[j]? = some v) => shpL_get (fun z hz => (wvs_bd L cs z hz).1) hy hv
          obtain ⟨bob, boo, rfl⟩ := HCS.out.addr (by intro h; have h0 := hget 0 (.int .i64 L) rfl; rw [h] at h0; simp at h0)
          obtain ⟨_, _, hNb, hDb, _, _⟩ := barS_some HBS.out
          have hrc := fun W => reaches_any (N : Int) (D : Int) L (wav L x.1.1 x.1.2) y fj W (wav_length _ _ _) hy64 (by omega) (by omega) (wav_bd _ _ _) hybd hjr.1 hjr.2 (by omega) (by omega) (by omega) (by omega)
          have hiv2 : (Tryz.prog.info? 101).map (·.size) = some (shp L y).size := by rw [shp_size, hy64]; kernel_rfl
          have hiv : (Tryz.prog.info? 101).map (·.size) = some V.size := by rw [← HVV.out, shp_size, wav_length]; kernel_rfl
          rw [HVV.out] at hrc
          have hgd : (wvs L cs).getD fi.toNat [] = y := by rw [List.getD_eq_getElem?_getD, hy]; rfl
          generalize shp L y = V2 at hget hrc hiv2
          have HGET := Lib.hid hget; have HIV := Lib.hid hiv; have HIV2 := Lib.hid hiv2; have HGD := Lib.hid hgd
          have f0 := hfr.1; have f1 := hfr.2
          clear hwj hin2 hget hiv hiv2 hgd hy hwl hy64 hybd hNb hDb hjr hfr
          cases hrb : rchB N D (wav L x.1.1 x.1.2) y L fj with
          | false =>
            rw [hrb] at hrc
            have HRC := Lib.hid hrc; have HRB := Lib.hid hrb
            clear hrc hrb
            refine wpIn_region_round (S := fun w' : World => w'.cell? ⟨W.heap.size, 0, none⟩ = some (.int .i64 fi) ∧ w'.cell? ⟨W.heap.size, 1, none⟩ = some (.int .i64 fj) ∧ w'.cell? ⟨w1.heap.size, 0, none⟩ = some (.pointer (some ⟨C, 0, none⟩)) ∧ w'.cell? ⟨C, 5, none⟩ = some (.slice (some ⟨bob, boo, none⟩) cs.length cb) ∧ w'.cell? ⟨C, 6, none⟩ = some (.int .i64 N) ∧ w'.cell? ⟨C, 7, none⟩ = some (.int .i64 D) ∧ w'.cell? ⟨w.heap.size, 0, none⟩ = some (.int .i64 L) ∧ w'.heap[Bx]? = some (.cells V 101 (0, 0)) ∧ Cells w' (some ⟨bob, boo, none⟩) (shpL L (wvs L cs))) (by kernel_rfl) (by kernel_rfl) (fun ⟨_, _, h⟩ => h) h9 (fun hHeld => ?_)
            refine wpAnyH_take (i := 0) (oi := { dst := some 38, op := Op.fieldAddr 176 (Operand.tmp 15) 0, type := 0, pos := "cover.go:223", after := #[], guard := none }) (v := .pointer (some ⟨W.heap.size, 0, none⟩)) rfl (by kernel_rfl) (by kernel_rfl) (by kernel_rfl) (fun _ _ _ h => h) (Or.inl ⟨by rfl, fun w9 h => by obtain ⟨FC1, FC2, FC3, FC4, FC5, FC6, FC7, FC8, FC9⟩ := h; go_simp⟩) hHeld ?_
            try simp only [Act.put, List.setIfInBounds_toArray, List.set_cons_zero, List.set_cons_succ]
            refine wpAnyH_take (i := 1) (oi := { dst := some 39, op := Op.load 3 (Operand.tmp 38), type := 3, pos := "cover.go:223", after := #[{ on := 0, ground := Ground.data }], guard := none }) (v := .int .i64 fi) rfl (by kernel_rfl) (by kernel_rfl) (by kernel_rfl) (fun _ _ _ h => h) (Or.inl ⟨by rfl, fun w9 h => by obtain ⟨FC1, FC2, FC3, FC4, FC5, FC6, FC7, FC8, FC9⟩ := h; go_simp⟩) hHeld ?_
            try simp only [Act.put, List.setIfInBounds_toArray, List.set_cons_zero, List.set_cons_succ]
            refine wpAnyH_take (i := 2) (oi := { dst := some 40, op := Op.load 165 (Operand.tmp 10), type := 165, pos := "cover.go:223", after := #[], guard := none }) (v := .pointer (some ⟨C, 0, none⟩)) rfl (by kernel_rfl) (by kernel_rfl) (by kernel_rfl) (fun _ _ _ h => h) (Or.inl ⟨by rfl, fun w9 h => by obtain ⟨FC1, FC2, FC3, FC4, FC5, FC6, FC7, FC8, FC9⟩ := h; go_simp⟩) hHeld ?_
            try simp only [Act.put, List.setIfInBounds_toArray, List.set_cons_zero, List.set_cons_succ]
            refine wpAnyH_take (i := 3) (oi := { dst := some 41, op := Op.nilCheck (Operand.tmp 40), type := 0, pos := "cover.go:223", after := #[{ on := 2, ground := Ground.data }], guard := none }) (v := .pointer (some ⟨C, 0, none⟩)) rfl (by kernel_rfl) (by kernel_rfl) (by kernel_rfl) (fun _ _ _ h => h) (Or.inl ⟨by rfl, fun w9 h => by obtain ⟨FC1, FC2, FC3, FC4, FC5, FC6, FC7, FC8, FC9⟩ := h; go_simp⟩) hHeld ?_
            try simp only [Act.put, List.setIfInBounds_toArray, List.set_cons_zero, List.set_cons_succ]
            refine wpAnyH_take (i := 4) (oi := { dst := some 42, op := Op.fieldAddr 185 (Operand.tmp 41) 1, type := 0, pos := "cover.go:223", after := #[{ on := 3, ground := Ground.data }], guard := none }) (v := .pointer (some ⟨C, 5, none⟩)) rfl (by kernel_rfl) (by kernel_rfl) (by kernel_rfl) (fun _ _ _ h => h) (Or.inl ⟨by rfl, fun w9 h => by obtain ⟨FC1, FC2, FC3, FC4, FC5, FC6, FC7, FC8, FC9⟩ := h; go_simp⟩) hHeld ?_
            try simp only [Act.put, List.setIfInBounds_toArray, List.set_cons_zero, List.set_cons_succ]
            refine wpAnyH_take (i := 5) (oi := { dst := some 43, op := Op.load 181 (Operand.tmp 42), type := 181, pos := "cover.go:223", after := #[{ on := 4, ground := Ground.data }], guard := none }) (v := .slice (some ⟨bob, boo, none⟩) cs.length cb) rfl (by kernel_rfl) (by kernel_rfl) (by kernel_rfl) (fun _ _ _ h => h) (Or.inl ⟨by rfl, fun w9 h => by obtain ⟨FC1, FC2, FC3, FC4, FC5, FC6, FC7, FC8, FC9⟩ := h; go_simp⟩) hHeld ?_
            try simp only [Act.put, List.setIfInBounds_toArray, List.set_cons_zero, List.set_cons_succ]
            refine wpAnyH_take (i := 6) (oi := { dst := some 44, op := Op.call { callee := Callee.builtin Builtin.len, args := #[Operand.tmp 43], argTypes := #[181] }, type := 3, pos := "cover.go:223", after := #[{ on := 5, ground := Ground.data }], guard := none }) (v := .int .i64 (cs.length : Nat)) rfl (by kernel_rfl) (by kernel_rfl) (by kernel_rfl) (fun _ _ _ h => h) (Or.inl ⟨by rfl, fun w9 h => by obtain ⟨FC1, FC2, FC3, FC4, FC5, FC6, FC7, FC8, FC9⟩ := h; go_simp⟩) hHeld ?_
            try simp only [Act.put, List.setIfInBounds_toArray, List.set_cons_zero, List.set_cons_succ]
            refine wpAnyH_take (i := 7) (oi := { dst := some 45, op := Op.binOp BinOp.sub 3 (Operand.tmp 44) (Operand.const (Value.int IntKind.i64 1)) 3, type := 3, pos := "cover.go:223", after := #[{ on := 6, ground := Ground.data }], guard := none }) (v := .int .i64 ((cs.length : Nat) - 1)) rfl (by kernel_rfl) (by kernel_rfl) (by kernel_rfl) (fun _ _ _ h => h) (Or.inl ⟨by rfl, fun w9 h => by obtain ⟨FC1, FC2, FC3, FC4, FC5, FC6, FC7, FC8, FC9⟩ := h; go_simp; exact IntWalk.i64_in _ (by omega)⟩) hHeld ?_
            try simp only [Act.put, List.setIfInBounds_toArray, List.set_cons_zero, List.set_cons_succ]
            refine wpAnyH_ready (rs := [8]) (by kernel_rfl) (by simp) ?_
            refine AllReadyH.cons (o := { dst := some 46, op := Op.call { callee := Callee.value (Operand.func 68), args := #[Operand.tmp 39, Operand.const (Value.int IntKind.i64 0), Operand.tmp 45], argTypes := #[3, 3, 3] }, type := 4, pos := "cover.go:223", after := #[{ on := 1, ground := Ground.data }, { on := 7, ground := Ground.data }], guard := none }) rfl (fun K hK => ?_) AllReadyH.nil
            go_simp
            refine (HWI.out _).mono ?_
            rintro e w9 ⟨rfl, rfl⟩
            refine hK.out _ _ h9 (fun _ => ?_)
            clear hK K
            try simp only [Act.put, List.setIfInBounds_toArray, List.set_cons_zero, List.set_cons_succ]
            refine wpAnyH_take (i := 9) (oi := { dst := some 47, op := Op.unOp UnOp.not 4 (Operand.tmp 46), type := 4, pos := "cover.go:223", after := #[{ on := 8, ground := Ground.data }], guard := none }) (v := .bool false) rfl (by kernel_rfl) (by kernel_rfl) (by kernel_rfl) (fun _ _ _ h => h) (Or.inl ⟨by rfl, fun w9 h => by obtain ⟨FC1, FC2, FC3, FC4, FC5, FC6, FC7, FC8, FC9⟩ := h; go_simp⟩) h9 ?_
            try simp only [Act.put, List.setIfInBounds_toArray, List.set_cons_zero, List.set_cons_succ]
            refine wpAnyH_take (i := 10) (oi := { dst := some 48, op := Op.move (Operand.tmp 47), type := 4, pos := "cover.go:223", after := #[{ on := 9, ground := Ground.data }, { on := 8, ground := Ground.chain }], guard := none }) (v := .bool false) rfl (by kernel_rfl) (by kernel_rfl) (by kernel_rfl) (fun _ _ _ h => h) (Or.inl ⟨by rfl, fun w9 h => by obtain ⟨FC1, FC2, FC3, FC4, FC5, FC6, FC7, FC8, FC9⟩ := h; go_simp⟩) h9 ?_
            try simp only [Act.put, List.setIfInBounds_toArray, List.set_cons_zero, List.set_cons_succ]
            refine wpAnyH_take (i := 11) (oi := { dst := some 49, op := Op.fieldAddr 176 (Operand.tmp 15) 1, type := 0, pos := "cover.go:223", after := #[{ on := 10, ground := Ground.guard }], guard := some (10, false) }) (v := .pointer (some ⟨W.heap.size, 1, none⟩)) rfl (by kernel_rfl) (by kernel_rfl) (by kernel_rfl) (fun _ _ _ h => h) (Or.inl ⟨by rfl, fun w9 h => by obtain ⟨FC1, FC2, FC3, FC4, FC5, FC6, FC7, FC8, FC9⟩ := h; go_simp⟩) h9 ?_
            try simp only [Act.put, List.setIfInBounds_toArray, List.set_cons_zero, List.set_cons_succ]
            refine wpAnyH_take (i := 12) (oi := { dst := some 50, op := Op.load 3 (Operand.tmp 49), type := 3, pos := "cover.go:223", after := #[{ on := 11, ground := Ground.data }, { on := 10, ground := Ground.guard }], guard := some (10, false) }) (v := .int .i64 fj) rfl (by kernel_rfl) (by kernel_rfl) (by kernel_rfl) (fun _ _ _ h => h) (Or.inl ⟨by rfl, fun w9 h => by obtain ⟨FC1, FC2, FC3, FC4, FC5, FC6, FC7, FC8, FC9⟩ := h; go_simp⟩) h9 ?_
            try simp only [Act.put, List.setIfInBounds_toArray, List.set_cons_zero, List.set_cons_succ]
            refine wpAnyH_take (i := 13) (oi := { dst := some 51, op := Op.fieldAddr 81 (Operand.tmp 4) 0, type := 0, pos := "cover.go:223", after := #[{ on := 10, ground := Ground.guard }], guard := some (10, false) }) (v := .pointer (some ⟨w.heap.size, 0, none⟩)) rfl (by kernel_rfl) (by kernel_rfl) (by kernel_rfl) (fun _ _ _ h => h) (Or.inl ⟨by rfl, fun w9 h => by obtain ⟨FC1, FC2, FC3, FC4, FC5, FC6, FC7, FC8, FC9⟩ := h; go_simp⟩) h9 ?_
            try simp only [Act.put, List.setIfInBounds_toArray, List.set_cons_zero, List.set_cons_succ]
            refine wpAnyH_take (i := 14) (oi := { dst := some 52, op := Op.load 3 (Operand.tmp 51), type := 3, pos := "cover.go:223", after := #[{ on := 13, ground := Ground.data }, { on := 10, ground := Ground.guard }], guard := some (10, false) }) (v := .int .i64 L) rfl (by kernel_rfl) (by kernel_rfl) (by kernel_rfl) (fun _ _ _ h => h) (Or.inl ⟨by rfl, fun w9 h => by obtain ⟨FC1, FC2, FC3, FC4, FC5, FC6, FC7, FC8, FC9⟩ := h; go_simp⟩) h9 ?_
            try simp only [Act.put, List.setIfInBounds_toArray, List.set_cons_zero, List.set_cons_succ]
            refine wpAnyH_take (i := 15) (oi := { dst := some 53, op := Op.binOp BinOp.sub 3 (Operand.const (Value.int IntKind.i64 1)) (Operand.tmp 52) 3, type := 3, pos := "cover.go:223", after := #[{ on := 14, ground := Ground.data }, { on := 10, ground := Ground.guard }], guard := some (10, false) }) (v := .int .i64 (1 - L)) rfl (by kernel_rfl) (by kernel_rfl) (by kernel_rfl) (fun _ _ _ h => h) (Or.inl ⟨by rfl, fun w9 h => by obtain ⟨FC1, FC2, FC3, FC4, FC5, FC6, FC7, FC8, FC9⟩ := h; go_simp; exact IntWalk.i64_in _ (by omega)⟩) h9 ?_
            try simp only [Act.put, List.setIfInBounds_toArray, List.set_cons_zero, List.set_cons_succ]
            refine wpAnyH_take (i := 16) (oi := { dst := some 54, op := Op.fieldAddr 81 (Operand.tmp 4) 0, type := 0, pos := "cover.go:223", after := #[{ on := 10, ground := Ground.guard }], guard := some (10, false) }) (v := .pointer (some ⟨w.heap.size, 0, none⟩)) rfl (by kernel_rfl) (by kernel_rfl) (by kernel_rfl) (fun _ _ _ h => h) (Or.inl ⟨by rfl, fun w9 h => by obtain ⟨FC1, FC2, FC3, FC4, FC5, FC6, FC7, FC8, FC9⟩ := h; go_simp⟩) h9 ?_
            try simp only [Act.put, List.setIfInBounds_toArray, List.set_cons_zero, List.set_cons_succ]
            refine wpAnyH_take (i := 17) (oi := { dst := some 55, op := Op.load 3 (Operand.tmp 54), type := 3, pos := "cover.go:223", after := #[{ on := 16, ground := Ground.data }, { on := 10, ground := Ground.guard }], guard := some (10, false) }) (v := .int .i64 L) rfl (by kernel_rfl) (by kernel_rfl) (by kernel_rfl) (fun _ _ _ h => h) (Or.inl ⟨by rfl, fun w9 h => by obtain ⟨FC1, FC2, FC3, FC4, FC5, FC6, FC7, FC8, FC9⟩ := h; go_simp⟩) h9 ?_
            try simp only [Act.put, List.setIfInBounds_toArray, List.set_cons_zero, List.set_cons_succ]
            refine wpAnyH_take (i := 18) (oi := { dst := some 56, op := Op.binOp BinOp.sub 3 (Operand.tmp 55) (Operand.const (Value.int IntKind.i64 1)) 3, type := 3, pos := "cover.go:223", after := #[{ on := 17, ground := Ground.data }, { on := 10, ground := Ground.guard }], guard := some (10, false) }) (v := .int .i64 (L - 1)) rfl (by kernel_rfl) (by kernel_rfl) (by kernel_rfl) (fun _ _ _ h => h) (Or.inl ⟨by rfl, fun w9 h => by obtain ⟨FC1, FC2, FC3, FC4, FC5, FC6, FC7, FC8, FC9⟩ := h; go_simp; exact IntWalk.i64_in _ (by omega)⟩) h9 ?_
            try simp only [Act.put, List.setIfInBounds_toArray, List.set_cons_zero, List.set_cons_succ]
            refine wpAnyH_ready (rs := [19]) (by kernel_rfl) (by simp) ?_
            refine AllReadyH.cons (o := { dst := some 57, op := Op.call { callee := Callee.value (Operand.func 68), args := #[Operand.tmp 50, Operand.tmp 53, Operand.tmp 56], argTypes := #[3, 3, 3] }, type := 4, pos := "cover.go:223", after := #[{ on := 12, ground := Ground.data }, { on := 15, ground := Ground.data }, { on := 18, ground := Ground.data }, { on := 10, ground := Ground.chain }, { on := 10, ground := Ground.guard }], guard := some (10, false) }) rfl (fun K hK => ?_) AllReadyH.nil
            go_simp
            refine (HWJ.out _).mono ?_
            rintro e w9 ⟨rfl, rfl⟩
            refine hK.out _ _ h9 (fun _ => ?_)
            clear hK K
            try simp only [Act.put, List.setIfInBounds_toArray, List.set_cons_zero, List.set_cons_succ]
            refine wpAnyH_take (i := 20) (oi := { dst := some 58, op := Op.unOp UnOp.not 4 (Operand.tmp 57), type := 4, pos := "cover.go:223", after := #[{ on := 19, ground := Ground.data }, { on := 10, ground := Ground.guard }], guard := some (10, false) }) (v := .bool false) rfl (by kernel_rfl) (by kernel_rfl) (by kernel_rfl) (fun _ _ _ h => h) (Or.inl ⟨by rfl, fun w9 h => by obtain ⟨FC1, FC2, FC3, FC4, FC5, FC6, FC7, FC8, FC9⟩ := h; go_simp⟩) h9 ?_
            try simp only [Act.put, List.setIfInBounds_toArray, List.set_cons_zero, List.set_cons_succ]
            refine wpAnyH_take (i := 21) (oi := { dst := some 59, op := Op.pick (Operand.tmp 48) (Operand.const (Value.bool true)) (Operand.tmp 58), type := 4, pos := "cover.go:223", after := #[{ on := 10, ground := Ground.data }, { on := 20, ground := Ground.data }], guard := none }) (v := .bool false) rfl (by kernel_rfl) (by kernel_rfl) (by kernel_rfl) (fun _ _ _ h => h) (Or.inl ⟨by rfl, fun w9 h => by obtain ⟨FC1, FC2, FC3, FC4, FC5, FC6, FC7, FC8, FC9⟩ := h; go_simp⟩) h9 ?_
            try simp only [Act.put, List.setIfInBounds_toArray, List.set_cons_zero, List.set_cons_succ]
            refine wpAnyH_take (i := 22) (oi := { dst := some 60, op := Op.move (Operand.tmp 59), type := 4, pos := "cover.go:223", after := #[{ on := 21, ground := Ground.data }, { on := 19, ground := Ground.chain }], guard := none }) (v := .bool false) rfl (by kernel_rfl) (by kernel_rfl) (by kernel_rfl) (fun _ _ _ h => h) (Or.inl ⟨by rfl, fun w9 h => by obtain ⟨FC1, FC2, FC3, FC4, FC5, FC6, FC7, FC8, FC9⟩ := h; go_simp⟩) h9 ?_
            try simp only [Act.put, List.setIfInBounds_toArray, List.set_cons_zero, List.set_cons_succ]
            refine wpAnyH_take (i := 23) (oi := { dst := some 61, op := Op.load 165 (Operand.tmp 10), type := 165, pos := "cover.go:223", after := #[{ on := 22, ground := Ground.guard }], guard := some (22, false) }) (v := .pointer (some ⟨C, 0, none⟩)) rfl (by kernel_rfl) (by kernel_rfl) (by kernel_rfl) (fun _ _ _ h => h) (Or.inl ⟨by rfl, fun w9 h => by obtain ⟨FC1, FC2, FC3, FC4, FC5, FC6, FC7, FC8, FC9⟩ := h; go_simp⟩) h9 ?_
            try simp only [Act.put, List.setIfInBounds_toArray, List.set_cons_zero, List.set_cons_succ]
            refine wpAnyH_take (i := 24) (oi := { dst := some 62, op := Op.nilCheck (Operand.tmp 61), type := 0, pos := "cover.go:223", after := #[{ on := 23, ground := Ground.data }, { on := 22, ground := Ground.guard }], guard := some (22, false) }) (v := .pointer (some ⟨C, 0, none⟩)) rfl (by kernel_rfl) (by kernel_rfl) (by kernel_rfl) (fun _ _ _ h => h) (Or.inl ⟨by rfl, fun w9 h => by obtain ⟨FC1, FC2, FC3, FC4, FC5, FC6, FC7, FC8, FC9⟩ := h; go_simp⟩) h9 ?_
            try simp only [Act.put, List.setIfInBounds_toArray, List.set_cons_zero, List.set_cons_succ]
            refine wpAnyH_take (i := 25) (oi := { dst := some 63, op := Op.fieldAddr 185 (Operand.tmp 62) 2, type := 0, pos := "cover.go:223", after := #[{ on := 24, ground := Ground.data }, { on := 22, ground := Ground.guard }], guard := some (22, false) }) (v := .pointer (some ⟨C, 6, none⟩)) rfl (by kernel_rfl) (by kernel_rfl) (by kernel_rfl) (fun _ _ _ h => h) (Or.inl ⟨by rfl, fun w9 h => by obtain ⟨FC1, FC2, FC3, FC4, FC5, FC6, FC7, FC8, FC9⟩ := h; go_simp⟩) h9 ?_
            try simp only [Act.put, List.setIfInBounds_toArray, List.set_cons_zero, List.set_cons_succ]
            refine wpAnyH_take (i := 26) (oi := { dst := some 64, op := Op.load 183 (Operand.tmp 63), type := 183, pos := "cover.go:223", after := #[{ on := 25, ground := Ground.data }, { on := 22, ground := Ground.guard }], guard := some (22, false) }) (v := .agg #[.int .i64 N, .int .i64 D]) rfl (by kernel_rfl) (by kernel_rfl) (by kernel_rfl) (fun _ _ _ h => h) (Or.inl ⟨by rfl, fun w9 h => by obtain ⟨FC1, FC2, FC3, FC4, FC5, FC6, FC7, FC8, FC9⟩ := h; go_simp⟩) h9 ?_
            try simp only [Act.put, List.setIfInBounds_toArray, List.set_cons_zero, List.set_cons_succ]
            refine wpAnyH_take (i := 27) (oi := { dst := some 65, op := Op.load 101 (Operand.tmp 14), type := 101, pos := "cover.go:223", after := #[{ on := 22, ground := Ground.guard }], guard := some (22, false) }) (v := .agg V) rfl (by kernel_rfl) (by kernel_rfl) (by kernel_rfl) (fun _ _ _ h => h) (.inl ⟨by rfl, fun w9 h => exec_load_row 101 _ rfl Bx rfl 101 V (0, 0) _ h.2.2.2.2.2.2.2.1 Tryz.underlying101 (by rfl) HIV.out⟩) h9 ?_
            try simp only [Act.put, List.setIfInBounds_toArray, List.set_cons_zero, List.set_cons_succ]
            refine wpAnyH_take (i := 28) (oi := { dst := some 66, op := Op.load 165 (Operand.tmp 10), type := 165, pos := "cover.go:223", after := #[{ on := 22, ground := Ground.guard }], guard := some (22, false) }) (v := .pointer (some ⟨C, 0, none⟩)) rfl (by kernel_rfl) (by kernel_rfl) (by kernel_rfl) (fun _ _ _ h => h) (Or.inl ⟨by rfl, fun w9 h => by obtain ⟨FC1, FC2, FC3, FC4, FC5, FC6, FC7, FC8, FC9⟩ := h; go_simp⟩) h9 ?_
            try simp only [Act.put, List.setIfInBounds_toArray, List.set_cons_zero, List.set_cons_succ]
            refine wpAnyH_take (i := 29) (oi := { dst := some 67, op := Op.nilCheck (Operand.tmp 66), type := 0, pos := "cover.go:223", after := #[{ on := 28, ground := Ground.data }, { on := 22, ground := Ground.guard }], guard := some (22, false) }) (v := .pointer (some ⟨C, 0, none⟩)) rfl (by kernel_rfl) (by kernel_rfl) (by kernel_rfl) (fun _ _ _ h => h) (Or.inl ⟨by rfl, fun w9 h => by obtain ⟨FC1, FC2, FC3, FC4, FC5, FC6, FC7, FC8, FC9⟩ := h; go_simp⟩) h9 ?_
            try simp only [Act.put, List.setIfInBounds_toArray, List.set_cons_zero, List.set_cons_succ]
            refine wpAnyH_take (i := 30) (oi := { dst := some 68, op := Op.fieldAddr 185 (Operand.tmp 67) 1, type := 0, pos := "cover.go:223", after := #[{ on := 29, ground := Ground.data }, { on := 22, ground := Ground.guard }], guard := some (22, false) }) (v := .pointer (some ⟨C, 5, none⟩)) rfl (by kernel_rfl) (by kernel_rfl) (by kernel_rfl) (fun _ _ _ h => h) (Or.inl ⟨by rfl, fun w9 h => by obtain ⟨FC1, FC2, FC3, FC4, FC5, FC6, FC7, FC8, FC9⟩ := h; go_simp⟩) h9 ?_
            try simp only [Act.put, List.setIfInBounds_toArray, List.set_cons_zero, List.set_cons_succ]
            refine wpAnyH_take (i := 31) (oi := { dst := some 69, op := Op.load 181 (Operand.tmp 68), type := 181, pos := "cover.go:223", after := #[{ on := 30, ground := Ground.data }, { on := 22, ground := Ground.guard }], guard := some (22, false) }) (v := .slice (some ⟨bob, boo, none⟩) cs.length cb) rfl (by kernel_rfl) (by kernel_rfl) (by kernel_rfl) (fun _ _ _ h => h) (Or.inl ⟨by rfl, fun w9 h => by obtain ⟨FC1, FC2, FC3, FC4, FC5, FC6, FC7, FC8, FC9⟩ := h; go_simp⟩) h9 ?_
            try simp only [Act.put, List.setIfInBounds_toArray, List.set_cons_zero, List.set_cons_succ]
            refine wpAnyH_take (i := 32) (oi := { dst := some 70, op := Op.fieldAddr 176 (Operand.tmp 15) 0, type := 0, pos := "cover.go:223", after := #[{ on := 22, ground := Ground.guard }], guard := some (22, false) }) (v := .pointer (some ⟨W.heap.size, 0, none⟩)) rfl (by kernel_rfl) (by kernel_rfl) (by kernel_rfl) (fun _ _ _ h => h) (Or.inl ⟨by rfl, fun w9 h => by obtain ⟨FC1, FC2, FC3, FC4, FC5, FC6, FC7, FC8, FC9⟩ := h; go_simp⟩) h9 ?_
            try simp only [Act.put, List.setIfInBounds_toArray, List.set_cons_zero, List.set_cons_succ]
            refine wpAnyH_take (i := 33) (oi := { dst := some 71, op := Op.load 3 (Operand.tmp 70), type := 3, pos := "cover.go:223", after := #[{ on := 32, ground := Ground.data }, { on := 22, ground := Ground.guard }], guard := some (22, false) }) (v := .int .i64 fi) rfl (by kernel_rfl) (by kernel_rfl) (by kernel_rfl) (fun _ _ _ h => h) (Or.inl ⟨by rfl, fun w9 h => by obtain ⟨FC1, FC2, FC3, FC4, FC5, FC6, FC7, FC8, FC9⟩ := h; go_simp⟩) h9 ?_
            try simp only [Act.put, List.setIfInBounds_toArray, List.set_cons_zero, List.set_cons_succ]
            refine wpAnyH_take (i := 34) (oi := { dst := some 72, op := Op.indexAddr 181 (Operand.tmp 69) (Operand.tmp 71), type := 0, pos := "cover.go:223", after := #[{ on := 31, ground := Ground.data }, { on := 33, ground := Ground.data }, { on := 22, ground := Ground.guard }], guard := some (22, false) }) (v := .pointer (some ⟨bob, boo + fi.toNat * 65, none⟩)) rfl (by kernel_rfl) (by kernel_rfl) (by kernel_rfl) (fun _ _ _ h => h) (Or.inl ⟨by rfl, fun w9 h => by obtain ⟨FC1, FC2, FC3, FC4, FC5, FC6, FC7, FC8, FC9⟩ := h; go_simp⟩) h9 ?_
            try simp only [Act.put, List.setIfInBounds_toArray, List.set_cons_zero, List.set_cons_succ]
            refine wpAnyH_take (i := 35) (oi := { dst := some 73, op := Op.load 101 (Operand.tmp 72), type := 101, pos := "cover.go:223", after := #[{ on := 34, ground := Ground.data }, { on := 22, ground := Ground.guard }], guard := some (22, false) }) (v := .agg V2) rfl (by kernel_rfl) (by kernel_rfl) (by kernel_rfl) (fun _ _ _ h => h) (.inl ⟨by rfl, fun w9 h => exec_load_arr 101 _ rfl ⟨bob, boo + fi.toNat * 65, none⟩ rfl V2 _ (fun j v hv => by rw [add_none, Nat.add_assoc]; exact h.2.2.2.2.2.2.2.2.at (HGET.out j v hv)) Tryz.underlying101 (by rfl) HIV2.out⟩) h9 ?_
            try simp only [Act.put, List.setIfInBounds_toArray, List.set_cons_zero, List.set_cons_succ]
            refine wpAnyH_take (i := 36) (oi := { dst := some 74, op := Op.fieldAddr 176 (Operand.tmp 15) 1, type := 0, pos := "cover.go:223", after := #[{ on := 22, ground := Ground.guard }], guard := some (22, false) }) (v := .pointer (some ⟨W.heap.size, 1, none⟩)) rfl (by kernel_rfl) (by kernel_rfl) (by kernel_rfl) (fun _ _ _ h => h) (Or.inl ⟨by rfl, fun w9 h => by obtain ⟨FC1, FC2, FC3, FC4, FC5, FC6, FC7, FC8, FC9⟩ := h; go_simp⟩) h9 ?_
            try simp only [Act.put, List.setIfInBounds_toArray, List.set_cons_zero, List.set_cons_succ]
            refine wpAnyH_take (i := 37) (oi := { dst := some 75, op := Op.load 3 (Operand.tmp 74), type := 3, pos := "cover.go:223", after := #[{ on := 36, ground := Ground.data }, { on := 22, ground := Ground.guard }], guard := some (22, false) }) (v := .int .i64 fj) rfl (by kernel_rfl) (by kernel_rfl) (by kernel_rfl) (fun _ _ _ h => h) (Or.inl ⟨by rfl, fun w9 h => by obtain ⟨FC1, FC2, FC3, FC4, FC5, FC6, FC7, FC8, FC9⟩ := h; go_simp⟩) h9 ?_
            try simp only [Act.put, List.setIfInBounds_toArray, List.set_cons_zero, List.set_cons_succ]
            refine wpAnyH_ready (rs := [38]) (by kernel_rfl) (by simp) ?_
            refine AllReadyH.cons (o := { dst := some 76, op := Op.call { callee := Callee.value (Operand.func 112), args := #[Operand.tmp 64, Operand.tmp 65, Operand.tmp 73, Operand.tmp 75], argTypes := #[183, 101, 101, 3] }, type := 4, pos := "cover.go:223", after := #[{ on := 26, ground := Ground.data }, { on := 27, ground := Ground.data }, { on := 35, ground := Ground.data }, { on := 37, ground := Ground.data }, { on := 22, ground := Ground.chain }, { on := 22, ground := Ground.guard }], guard := some (22, false) }) rfl (fun K hK => ?_) AllReadyH.nil
            go_simp
            refine (HRC.out _).mono ?_
            rintro e w10 ⟨rfl, hb10⟩
            have h10 : (fun w' : World => w'.cell? ⟨W.heap.size, 0, none⟩ = some (.int .i64 fi) ∧ w'.cell? ⟨W.heap.size, 1, none⟩ = some (.int .i64 fj) ∧ w'.cell? ⟨w1.heap.size, 0, none⟩ = some (.pointer (some ⟨C, 0, none⟩)) ∧ w'.cell? ⟨C, 5, none⟩ = some (.slice (some ⟨bob, boo, none⟩) cs.length cb) ∧ w'.cell? ⟨C, 6, none⟩ = some (.int .i64 N) ∧ w'.cell? ⟨C, 7, none⟩ = some (.int .i64 D) ∧ w'.cell? ⟨w.heap.size, 0, none⟩ = some (.int .i64 L) ∧ w'.heap[Bx]? = some (.cells V 101 (0, 0)) ∧ Cells w' (some ⟨bob, boo, none⟩) (shpL L (wvs L cs))) w10 := by
              obtain ⟨FC1, FC2, FC3, FC4, FC5, FC6, FC7, FC8, FC9⟩ := h9
              exact ⟨cell_keep FC1 hb10 (Nat.le_refl _), cell_keep FC2 hb10 (Nat.le_refl _), cell_keep FC3 hb10 (Nat.le_refl _), cell_keep FC4 hb10 (Nat.le_refl _), cell_keep FC5 hb10 (Nat.le_refl _), cell_keep FC6 hb10 (Nat.le_refl _), cell_keep FC7 hb10 (Nat.le_refl _), (hb10.block _ (Array.getElem?_eq_some_iff.1 FC8).1).trans FC8, FC9.below hb10 (Nat.le_refl _)⟩
            have HN := Lib.hid (HAL.out.trans (hb10.mono HAL.out.size))
            refine hK.out _ _ h10 (fun _ => ?_)
            clear hK K hb10
            try simp only [Act.put, List.setIfInBounds_toArray, List.set_cons_zero, List.set_cons_succ]
            refine wpAnyH_take (i := 39) (oi := { dst := some 77, op := Op.unOp UnOp.not 4 (Operand.tmp 76), type := 4, pos := "cover.go:223", after := #[{ on := 38, ground := Ground.data }, { on := 22, ground := Ground.guard }], guard := some (22, false) }) (v := .bool true) rfl (by kernel_rfl) (by kernel_rfl) (by kernel_rfl) (fun _ _ _ h => h) (Or.inl ⟨by rfl, fun w9 h => by obtain ⟨FC1, FC2, FC3, FC4, FC5, FC6, FC7, FC8, FC9⟩ := h; go_simp⟩) h10 ?_
            try simp only [Act.put, List.setIfInBounds_toArray, List.set_cons_zero, List.set_cons_succ]
            refine wpAnyH_take (i := 40) (oi := { dst := some 78, op := Op.pick (Operand.tmp 60) (Operand.const (Value.bool true)) (Operand.tmp 77), type := 4, pos := "cover.go:223", after := #[{ on := 22, ground := Ground.data }, { on := 39, ground := Ground.data }], guard := none }) (v := .bool true) rfl (by kernel_rfl) (by kernel_rfl) (by kernel_rfl) (fun _ _ _ h => h) (Or.inl ⟨by rfl, fun w9 h => by obtain ⟨FC1, FC2, FC3, FC4, FC5, FC6, FC7, FC8, FC9⟩ := h; go_simp⟩) h10 ?_
            try simp only [Act.put, List.setIfInBounds_toArray, List.set_cons_zero, List.set_cons_succ]
            refine wpAnyH_done (by kernel_rfl) ?_ _
            clear h10 h9 hHeld
            have kk2 := (B2.out.below HN.out l2).c0
            have kk3 := (B3.out.below HN.out l3).c0
            have ff2 := (B2.out.below HN.out l2).free 0
            have ff3 := (B3.out.below HN.out l3).free 0
            gi_wp2_with (rw [Oper.semAt_eq _ _ _ (fun c h => by cases h)]; go_simp; try go_bits)
            have hk := (keepsOthers_below HN.out).trans ((KeepsOthers.setCell (w10) ⟨w.heap.size + 1 + 1, 0, none⟩ (.bool false)).trans (KeepsOthers.setCell _ ⟨w.heap.size + 1 + 1 + 1, 0, none⟩ (.int .i64 0)))
            have v2 : Blk (((w10).setCell ⟨w.heap.size + 1 + 1, 0, none⟩ (.bool false)).setCell ⟨w.heap.size + 1 + 1 + 1, 0, none⟩ (.int .i64 0)) (w.heap.size + 1 + 1) 4 #[.bool false] := ((B2.out.below HN.out l2).set0 _).other (by omega) _ _
            have v3 : Blk (((w10).setCell ⟨w.heap.size + 1 + 1, 0, none⟩ (.bool false)).setCell ⟨w.heap.size + 1 + 1 + 1, 0, none⟩ (.int .i64 0)) (w.heap.size + 1 + 1 + 1) 26 #[.int .i64 0] := ((B3.out.below HN.out l3).other (by omega) _ _).set0 _
            have hbb : Below w.heap.size (w10) (((w10).setCell ⟨w.heap.size + 1 + 1, 0, none⟩ (.bool false)).setCell ⟨w.heap.size + 1 + 1 + 1, 0, none⟩ (.int .i64 0)) := ((Below.refl _ _).setCell (p := ⟨w.heap.size + 1 + 1, 0, none⟩) (by show w.heap.size ≤ w.heap.size + 1 + 1; omega) _).setCell (p := ⟨w.heap.size + 1 + 1 + 1, 0, none⟩) (by show w.heap.size ≤ w.heap.size + 1 + 1 + 1; omega) _
            exact ⟨hk.from _, ⟨rfl, HBAD.out (.inr ⟨_, HFX.out, by unfold prvI; simp only [show (wvs L cs).length = cs.length by simp [wvs], HGD.out, HRB.out, Bool.and_false]⟩), v2.c0, v3.c0⟩, (HBW.out.trans ((HB.out.mono (by omega)).trans (HN.out.mono (by omega)))).trans hbb⟩
          | true =>
            rw [hrb] at hrc
            have HRC := Lib.hid hrc; have HRB := Lib.hid hrb
            clear hrc hrb
            refine wpIn_region_round (S := fun w' : World => w'.cell? ⟨W.heap.size, 0, none⟩ = some (.int .i64 fi) ∧ w'.cell? ⟨W.heap.size, 1, none⟩ = some (.int .i64 fj) ∧ w'.cell? ⟨w1.heap.size, 0, none⟩ = some (.pointer (some ⟨C, 0, none⟩)) ∧ w'.cell? ⟨C, 5, none⟩ = some (.slice (some ⟨bob, boo, none⟩) cs.length cb) ∧ w'.cell? ⟨C, 6, none⟩ = some (.int .i64 N) ∧ w'.cell? ⟨C, 7, none⟩ = some (.int .i64 D) ∧ w'.cell? ⟨w.heap.size, 0, none⟩ = some (.int .i64 L) ∧ w'.heap[Bx]? = some (.cells V 101 (0, 0)) ∧ Cells w' (some ⟨bob, boo, none⟩) (shpL L (wvs L cs))) (by kernel_rfl) (by kernel_rfl) (fun ⟨_, _, h⟩ => h) h9 (fun hHeld => ?_)
            refine wpAnyH_take (i := 0) (oi := { dst := some 38, op := Op.fieldAddr 176 (Operand.tmp 15) 0, type := 0, pos := "cover.go:223", after := #[], guard := none }) (v := .pointer (some ⟨W.heap.size, 0, none⟩)) rfl (by kernel_rfl) (by kernel_rfl) (by kernel_rfl) (fun _ _ _ h => h) (Or.inl ⟨by rfl, fun w9 h => by obtain ⟨FC1, FC2, FC3, FC4, FC5, FC6, FC7, FC8, FC9⟩ := h; go_simp⟩) hHeld ?_
            try simp only [Act.put, List.setIfInBounds_toArray, List.set_cons_zero, List.set_cons_succ]
            refine wpAnyH_take (i := 1) (oi := { dst := some 39, op := Op.load 3 (Operand.tmp 38), type := 3, pos := "cover.go:223", after := #[{ on := 0, ground := Ground.data }], guard := none }) (v := .int .i64 fi) rfl (by kernel_rfl) (by kernel_rfl) (by kernel_rfl) (fun _ _ _ h => h) (Or.inl ⟨by rfl, fun w9 h => by obtain ⟨FC1, FC2, FC3, FC4, FC5, FC6, FC7, FC8, FC9⟩ := h; go_simp⟩) hHeld ?_
            try simp only [Act.put, List.setIfInBounds_toArray, List.set_cons_zero, List.set_cons_succ]
            refine wpAnyH_take (i := 2) (oi := { dst := some 40, op := Op.load 165 (Operand.tmp 10), type := 165, pos := "cover.go:223", after := #[], guard := none }) (v := .pointer (some ⟨C, 0, none⟩)) rfl (by kernel_rfl) (by kernel_rfl) (by kernel_rfl) (fun _ _ _ h => h) (Or.inl ⟨by rfl, fun w9 h => by obtain ⟨FC1, FC2, FC3, FC4, FC5, FC6, FC7, FC8, FC9⟩ := h; go_simp⟩) hHeld ?_
            try simp only [Act.put, List.setIfInBounds_toArray, List.set_cons_zero, List.set_cons_succ]
            refine wpAnyH_take (i := 3) (oi := { dst := some 41, op := Op.nilCheck (Operand.tmp 40), type := 0, pos := "cover.go:223", after := #[{ on := 2, ground := Ground.data }], guard := none }) (v := .pointer (some ⟨C, 0, none⟩)) rfl (by kernel_rfl) (by kernel_rfl) (by kernel_rfl) (fun _ _ _ h => h) (Or.inl ⟨by rfl, fun w9 h => by obtain ⟨FC1, FC2, FC3, FC4, FC5, FC6, FC7, FC8, FC9⟩ := h; go_simp⟩) hHeld ?_
            try simp only [Act.put, List.setIfInBounds_toArray, List.set_cons_zero, List.set_cons_succ]
            refine wpAnyH_take (i := 4) (oi := { dst := some 42, op := Op.fieldAddr 185 (Operand.tmp 41) 1, type := 0, pos := "cover.go:223", after := #[{ on := 3, ground := Ground.data }], guard := none }) (v := .pointer (some ⟨C, 5, none⟩)) rfl (by kernel_rfl) (by kernel_rfl) (by kernel_rfl) (fun _ _ _ h => h) (Or.inl ⟨by rfl, fun w9 h => by obtain ⟨FC1, FC2, FC3, FC4, FC5, FC6, FC7, FC8, FC9⟩ := h; go_simp⟩) hHeld ?_
            try simp only [Act.put, List.setIfInBounds_toArray, List.set_cons_zero, List.set_cons_succ]
            refine wpAnyH_take (i := 5) (oi := { dst := some 43, op := Op.load 181 (Operand.tmp 42), type := 181, pos := "cover.go:223", after := #[{ on := 4, ground := Ground.data }], guard := none }) (v := .slice (some ⟨bob, boo, none⟩) cs.length cb) rfl (by kernel_rfl) (by kernel_rfl) (by kernel_rfl) (fun _ _ _ h => h) (Or.inl ⟨by rfl, fun w9 h => by obtain ⟨FC1, FC2, FC3, FC4, FC5, FC6, FC7, FC8, FC9⟩ := h; go_simp⟩) hHeld ?_
            try simp only [Act.put, List.setIfInBounds_toArray, List.set_cons_zero, List.set_cons_succ]
            refine wpAnyH_take (i := 6) (oi := { dst := some 44, op := Op.call { callee := Callee.builtin Builtin.len, args := #[Operand.tmp 43], argTypes := #[181] }, type := 3, pos := "cover.go:223", after := #[{ on := 5, ground := Ground.data }], guard := none }) (v := .int .i64 (cs.length : Nat)) rfl (by kernel_rfl) (by kernel_rfl) (by kernel_rfl) (fun _ _ _ h => h) (Or.inl ⟨by rfl, fun w9 h => by obtain ⟨FC1, FC2, FC3, FC4, FC5, FC6, FC7, FC8, FC9⟩ := h; go_simp⟩) hHeld ?_
            try simp only [Act.put, List.setIfInBounds_toArray, List.set_cons_zero, List.set_cons_succ]
            refine wpAnyH_take (i := 7) (oi := { dst := some 45, op := Op.binOp BinOp.sub 3 (Operand.tmp 44) (Operand.const (Value.int IntKind.i64 1)) 3, type := 3, pos := "cover.go:223", after := #[{ on := 6, ground := Ground.data }], guard := none }) (v := .int .i64 ((cs.length : Nat) - 1)) rfl (by kernel_rfl) (by kernel_rfl) (by kernel_rfl) (fun _ _ _ h => h) (Or.inl ⟨by rfl, fun w9 h => by obtain ⟨FC1, FC2, FC3, FC4, FC5, FC6, FC7, FC8, FC9⟩ := h; go_simp; exact IntWalk.i64_in _ (by omega)⟩) hHeld ?_
            try simp only [Act.put, List.setIfInBounds_toArray, List.set_cons_zero, List.set_cons_succ]
            refine wpAnyH_ready (rs := [8]) (by kernel_rfl) (by simp) ?_
            refine AllReadyH.cons (o := { dst := some 46, op := Op.call { callee := Callee.value (Operand.func 68), args := #[Operand.tmp 39, Operand.const (Value.int IntKind.i64 0), Operand.tmp 45], argTypes := #[3, 3, 3] }, type := 4, pos := "cover.go:223", after := #[{ on := 1, ground := Ground.data }, { on := 7, ground := Ground.data }], guard := none }) rfl (fun K hK => ?_) AllReadyH.nil
            go_simp
            refine (HWI.out _).mono ?_
            rintro e w9 ⟨rfl, rfl⟩
            refine hK.out _ _ h9 (fun _ => ?_)
            clear hK K
            try simp only [Act.put, List.setIfInBounds_toArray, List.set_cons_zero, List.set_cons_succ]
            refine wpAnyH_take (i := 9) (oi := { dst := some 47, op := Op.unOp UnOp.not 4 (Operand.tmp 46), type := 4, pos := "cover.go:223", after := #[{ on := 8, ground := Ground.data }], guard := none }) (v := .bool false) rfl (by kernel_rfl) (by kernel_rfl) (by kernel_rfl) (fun _ _ _ h => h) (Or.inl ⟨by rfl, fun w9 h => by obtain ⟨FC1, FC2, FC3, FC4, FC5, FC6, FC7, FC8, FC9⟩ := h; go_simp⟩) h9 ?_
            try simp only [Act.put, List.setIfInBounds_toArray, List.set_cons_zero, List.set_cons_succ]
            refine wpAnyH_take (i := 10) (oi := { dst := some 48, op := Op.move (Operand.tmp 47), type := 4, pos := "cover.go:223", after := #[{ on := 9, ground := Ground.data }, { on := 8, ground := Ground.chain }], guard := none }) (v := .bool false) rfl (by kernel_rfl) (by kernel_rfl) (by kernel_rfl) (fun _ _ _ h => h) (Or.inl ⟨by rfl, fun w9 h => by obtain ⟨FC1, FC2, FC3, FC4, FC5, FC6, FC7, FC8, FC9⟩ := h; go_simp⟩) h9 ?_
            try simp only [Act.put, List.setIfInBounds_toArray, List.set_cons_zero, List.set_cons_succ]
            refine wpAnyH_take (i := 11) (oi := { dst := some 49, op := Op.fieldAddr 176 (Operand.tmp 15) 1, type := 0, pos := "cover.go:223", after := #[{ on := 10, ground := Ground.guard }], guard := some (10, false) }) (v := .pointer (some ⟨W.heap.size, 1, none⟩)) rfl (by kernel_rfl) (by kernel_rfl) (by kernel_rfl) (fun _ _ _ h => h) (Or.inl ⟨by rfl, fun w9 h => by obtain ⟨FC1, FC2, FC3, FC4, FC5, FC6, FC7, FC8, FC9⟩ := h; go_simp⟩) h9 ?_
            try simp only [Act.put, List.setIfInBounds_toArray, List.set_cons_zero, List.set_cons_succ]
            refine wpAnyH_take (i := 12) (oi := { dst := some 50, op := Op.load 3 (Operand.tmp 49), type := 3, pos := "cover.go:223", after := #[{ on := 11, ground := Ground.data }, { on := 10, ground := Ground.guard }], guard := some (10, false) }) (v := .int .i64 fj) rfl (by kernel_rfl) (by kernel_rfl) (by kernel_rfl) (fun _ _ _ h => h) (Or.inl ⟨by rfl, fun w9 h => by obtain ⟨FC1, FC2, FC3, FC4, FC5, FC6, FC7, FC8, FC9⟩ := h; go_simp⟩) h9 ?_
            try simp only [Act.put, List.setIfInBounds_toArray, List.set_cons_zero, List.set_cons_succ]
            refine wpAnyH_take (i := 13) (oi := { dst := some 51, op := Op.fieldAddr 81 (Operand.tmp 4) 0, type := 0, pos := "cover.go:223", after := #[{ on := 10, ground := Ground.guard }], guard := some (10, false) }) (v := .pointer (some ⟨w.heap.size, 0, none⟩)) rfl (by kernel_rfl) (by kernel_rfl) (by kernel_rfl) (fun _ _ _ h => h) (Or.inl ⟨by rfl, fun w9 h => by obtain ⟨FC1, FC2, FC3, FC4, FC5, FC6, FC7, FC8, FC9⟩ := h; go_simp⟩) h9 ?_
            try simp only [Act.put, List.setIfInBounds_toArray, List.set_cons_zero, List.set_cons_succ]
            refine wpAnyH_take (i := 14) (oi := { dst := some 52, op := Op.load 3 (Operand.tmp 51), type := 3, pos := "cover.go:223", after := #[{ on := 13, ground := Ground.data }, { on := 10, ground := Ground.guard }], guard := some (10, false) }) (v := .int .i64 L) rfl (by kernel_rfl) (by kernel_rfl) (by kernel_rfl) (fun _ _ _ h => h) (Or.inl ⟨by rfl, fun w9 h => by obtain ⟨FC1, FC2, FC3, FC4, FC5, FC6, FC7, FC8, FC9⟩ := h; go_simp⟩) h9 ?_
            try simp only [Act.put, List.setIfInBounds_toArray, List.set_cons_zero, List.set_cons_succ]
            refine wpAnyH_take (i := 15) (oi := { dst := some 53, op := Op.binOp BinOp.sub 3 (Operand.const (Value.int IntKind.i64 1)) (Operand.tmp 52) 3, type := 3, pos := "cover.go:223", after := #[{ on := 14, ground := Ground.data }, { on := 10, ground := Ground.guard }], guard := some (10, false) }) (v := .int .i64 (1 - L)) rfl (by kernel_rfl) (by kernel_rfl) (by kernel_rfl) (fun _ _ _ h => h) (Or.inl ⟨by rfl, fun w9 h => by obtain ⟨FC1, FC2, FC3, FC4, FC5, FC6, FC7, FC8, FC9⟩ := h; go_simp; exact IntWalk.i64_in _ (by omega)⟩) h9 ?_
            try simp only [Act.put, List.setIfInBounds_toArray, List.set_cons_zero, List.set_cons_succ]
            refine wpAnyH_take (i := 16) (oi := { dst := some 54, op := Op.fieldAddr 81 (Operand.tmp 4) 0, type := 0, pos := "cover.go:223", after := #[{ on := 10, ground := Ground.guard }], guard := some (10, false) }) (v := .pointer (some ⟨w.heap.size, 0, none⟩)) rfl (by kernel_rfl) (by kernel_rfl) (by kernel_rfl) (fun _ _ _ h => h) (Or.inl ⟨by rfl, fun w9 h => by obtain ⟨FC1, FC2, FC3, FC4, FC5, FC6, FC7, FC8, FC9⟩ := h; go_simp⟩) h9 ?_
            try simp only [Act.put, List.setIfInBounds_toArray, List.set_cons_zero, List.set_cons_succ]
            refine wpAnyH_take (i := 17) (oi := { dst := some 55, op := Op.load 3 (Operand.tmp 54), type := 3, pos := "cover.go:223", after := #[{ on := 16, ground := Ground.data }, { on := 10, ground := Ground.guard }], guard := some (10, false) }) (v := .int .i64 L) rfl (by kernel_rfl) (by kernel_rfl) (by kernel_rfl) (fun _ _ _ h => h) (Or.inl ⟨by rfl, fun w9 h => by obtain ⟨FC1, FC2, FC3, FC4, FC5, FC6, FC7, FC8, FC9⟩ := h; go_simp⟩) h9 ?_
            try simp only [Act.put, List.setIfInBounds_toArray, List.set_cons_zero, List.set_cons_succ]
            refine wpAnyH_take (i := 18) (oi := { dst := some 56, op := Op.binOp BinOp.sub 3 (Operand.tmp 55) (Operand.const (Value.int IntKind.i64 1)) 3, type := 3, pos := "cover.go:223", after := #[{ on := 17, ground := Ground.data }, { on := 10, ground := Ground.guard }], guard := some (10, false) }) (v := .int .i64 (L - 1)) rfl (by kernel_rfl) (by kernel_rfl) (by kernel_rfl) (fun _ _ _ h => h) (Or.inl ⟨by rfl, fun w9 h => by obtain ⟨FC1, FC2, FC3, FC4, FC5, FC6, FC7, FC8, FC9⟩ := h; go_simp; exact IntWalk.i64_in _ (by omega)⟩) h9 ?_
            try simp only [Act.put, List.setIfInBounds_toArray, List.set_cons_zero, List.set_cons_succ]
            refine wpAnyH_ready (rs := [19]) (by kernel_rfl) (by simp) ?_
            refine AllReadyH.cons (o := { dst := some 57, op := Op.call { callee := Callee.value (Operand.func 68), args := #[Operand.tmp 50, Operand.tmp 53, Operand.tmp 56], argTypes := #[3, 3, 3] }, type := 4, pos := "cover.go:223", after := #[{ on := 12, ground := Ground.data }, { on := 15, ground := Ground.data }, { on := 18, ground := Ground.data }, { on := 10, ground := Ground.chain }, { on := 10, ground := Ground.guard }], guard := some (10, false) }) rfl (fun K hK => ?_) AllReadyH.nil
            go_simp
            refine (HWJ.out _).mono ?_
            rintro e w9 ⟨rfl, rfl⟩
            refine hK.out _ _ h9 (fun _ => ?_)
            clear hK K
            try simp only [Act.put, List.setIfInBounds_toArray, List.set_cons_zero, List.set_cons_succ]
            refine wpAnyH_take (i := 20) (oi := { dst := some 58, op := Op.unOp UnOp.not 4 (Operand.tmp 57), type := 4, pos := "cover.go:223", after := #[{ on := 19, ground := Ground.data }, { on := 10, ground := Ground.guard }], guard := some (10, false) }) (v := .bool false) rfl (by kernel_rfl) (by kernel_rfl) (by kernel_rfl) (fun _ _ _ h => h) (Or.inl ⟨by rfl, fun w9 h => by obtain ⟨FC1, FC2, FC3, FC4, FC5, FC6, FC7, FC8, FC9⟩ := h; go_simp⟩) h9 ?_
            try simp only [Act.put, List.setIfInBounds_toArray, List.set_cons_zero, List.set_cons_succ]
            refine wpAnyH_take (i := 21) (oi := { dst := some 59, op := Op.pick (Operand.tmp 48) (Operand.const (Value.bool true)) (Operand.tmp 58), type := 4, pos := "cover.go:223", after := #[{ on := 10, ground := Ground.data }, { on := 20, ground := Ground.data }], guard := none }) (v := .bool false) rfl (by kernel_rfl) (by kernel_rfl) (by kernel_rfl) (fun _ _ _ h => h) (Or.inl ⟨by rfl, fun w9 h => by obtain ⟨FC1, FC2, FC3, FC4, FC5, FC6, FC7, FC8, FC9⟩ := h; go_simp⟩) h9 ?_
            try simp only [Act.put, List.setIfInBounds_toArray, List.set_cons_zero, List.set_cons_succ]
            refine wpAnyH_take (i := 22) (oi := { dst := some 60, op := Op.move (Operand.tmp 59), type := 4, pos := "cover.go:223", after := #[{ on := 21, ground := Ground.data }, { on := 19, ground := Ground.chain }], guard := none }) (v := .bool false) rfl (by kernel_rfl) (by kernel_rfl) (by kernel_rfl) (fun _ _ _ h => h) (Or.inl ⟨by rfl, fun w9 h => by obtain ⟨FC1, FC2, FC3, FC4, FC5, FC6, FC7, FC8, FC9⟩ := h; go_simp⟩) h9 ?_
            try simp only [Act.put, List.setIfInBounds_toArray, List.set_cons_zero, List.set_cons_succ]
            refine wpAnyH_take (i := 23) (oi := { dst := some 61, op := Op.load 165 (Operand.tmp 10), type := 165, pos := "cover.go:223", after := #[{ on := 22, ground := Ground.guard }], guard := some (22, false) }) (v := .pointer (some ⟨C, 0, none⟩)) rfl (by kernel_rfl) (by kernel_rfl) (by kernel_rfl) (fun _ _ _ h => h) (Or.inl ⟨by rfl, fun w9 h => by obtain ⟨FC1, FC2, FC3, FC4, FC5, FC6, FC7, FC8, FC9⟩ := h; go_simp⟩) h9 ?_
            try simp only [Act.put, List.setIfInBounds_toArray, List.set_cons_zero, List.set_cons_succ]
            refine wpAnyH_take (i := 24) (oi := { dst := some 62, op := Op.nilCheck (Operand.tmp 61), type := 0, pos := "cover.go:223", after := #[{ on := 23, ground := Ground.data }, { on := 22, ground := Ground.guard }], guard := some (22, false) }) (v := .pointer (some ⟨C, 0, none⟩)) rfl (by kernel_rfl) (by kernel_rfl) (by kernel_rfl) (fun _ _ _ h => h) (Or.inl ⟨by rfl, fun w9 h => by obtain ⟨FC1, FC2, FC3, FC4, FC5, FC6, FC7, FC8, FC9⟩ := h; go_simp⟩) h9 ?_
            try simp only [Act.put, List.setIfInBounds_toArray, List.set_cons_zero, List.set_cons_succ]
            refine wpAnyH_take (i := 25) (oi := { dst := some 63, op := Op.fieldAddr 185 (Operand.tmp 62) 2, type := 0, pos := "cover.go:223", after := #[{ on := 24, ground := Ground.data }, { on := 22, ground := Ground.guard }], guard := some (22, false) }) (v := .pointer (some ⟨C, 6, none⟩)) rfl (by kernel_rfl) (by kernel_rfl) (by kernel_rfl) (fun _ _ _ h => h) (Or.inl ⟨by rfl, fun w9 h => by obtain ⟨FC1, FC2, FC3, FC4, FC5, FC6, FC7, FC8, FC9⟩ := h; go_simp⟩) h9 ?_
            try simp only [Act.put, List.setIfInBounds_toArray, List.set_cons_zero, List.set_cons_succ]
            refine wpAnyH_take (i := 26) (oi := { dst := some 64, op := Op.load 183 (Operand.tmp 63), type := 183, pos := "cover.go:223", after := #[{ on := 25, ground := Ground.data }, { on := 22, ground := Ground.guard }], guard := some (22, false) }) (v := .agg #[.int .i64 N, .int .i64 D]) rfl (by kernel_rfl) (by kernel_rfl) (by kernel_rfl) (fun _ _ _ h => h) (Or.inl ⟨by rfl, fun w9 h => by obtain ⟨FC1, FC2, FC3, FC4, FC5, FC6, FC7, FC8, FC9⟩ := h; go_simp⟩) h9 ?_
            try simp only [Act.put, List.setIfInBounds_toArray, List.set_cons_zero, List.set_cons_succ]
            refine wpAnyH_take (i := 27) (oi := { dst := some 65, op := Op.load 101 (Operand.tmp 14), type := 101, pos := "cover.go:223", after := #[{ on := 22, ground := Ground.guard }], guard := some (22, false) }) (v := .agg V) rfl (by kernel_rfl) (by kernel_rfl) (by kernel_rfl) (fun _ _ _ h => h) (.inl ⟨by rfl, fun w9 h => exec_load_row 101 _ rfl Bx rfl 101 V (0, 0) _ h.2.2.2.2.2.2.2.1 Tryz.underlying101 (by rfl) HIV.out⟩) h9 ?_
            try simp only [Act.put, List.setIfInBounds_toArray, List.set_cons_zero, List.set_cons_succ]
            refine wpAnyH_take (i := 28) (oi := { dst := some 66, op := Op.load 165 (Operand.tmp 10), type := 165, pos := "cover.go:223", after := #[{ on := 22, ground := Ground.guard }], guard := some (22, false) }) (v := .pointer (some ⟨C, 0, none⟩)) rfl (by kernel_rfl) (by kernel_rfl) (by kernel_rfl) (fun _ _ _ h => h) (Or.inl ⟨by rfl, fun w9 h => by obtain ⟨FC1, FC2, FC3, FC4, FC5, FC6, FC7, FC8, FC9⟩ := h; go_simp⟩) h9 ?_
            try simp only [Act.put, List.setIfInBounds_toArray, List.set_cons_zero, List.set_cons_succ]
            refine wpAnyH_take (i := 29) (oi := { dst := some 67, op := Op.nilCheck (Operand.tmp 66), type := 0, pos := "cover.go:223", after := #[{ on := 28, ground := Ground.data }, { on := 22, ground := Ground.guard }], guard := some (22, false) }) (v := .pointer (some ⟨C, 0, none⟩)) rfl (by kernel_rfl) (by kernel_rfl) (by kernel_rfl) (fun _ _ _ h => h) (Or.inl ⟨by rfl, fun w9 h => by obtain ⟨FC1, FC2, FC3, FC4, FC5, FC6, FC7, FC8, FC9⟩ := h; go_simp⟩) h9 ?_
            try simp only [Act.put, List.setIfInBounds_toArray, List.set_cons_zero, List.set_cons_succ]
            refine wpAnyH_take (i := 30) (oi := { dst := some 68, op := Op.fieldAddr 185 (Operand.tmp 67) 1, type := 0, pos := "cover.go:223", after := #[{ on := 29, ground := Ground.data }, { on := 22, ground := Ground.guard }], guard := some (22, false) }) (v := .pointer (some ⟨C, 5, none⟩)) rfl (by kernel_rfl) (by kernel_rfl) (by kernel_rfl) (fun _ _ _ h => h) (Or.inl ⟨by rfl, fun w9 h => by obtain ⟨FC1, FC2, FC3, FC4, FC5, FC6, FC7, FC8, FC9⟩ := h; go_simp⟩) h9 ?_
            try simp only [Act.put, List.setIfInBounds_toArray, List.set_cons_zero, List.set_cons_succ]
            refine wpAnyH_take (i := 31) (oi := { dst := some 69, op := Op.load 181 (Operand.tmp 68), type := 181, pos := "cover.go:223", after := #[{ on := 30, ground := Ground.data }, { on := 22, ground := Ground.guard }], guard := some (22, false) }) (v := .slice (some ⟨bob, boo, none⟩) cs.length cb) rfl (by kernel_rfl) (by kernel_rfl) (by kernel_rfl) (fun _ _ _ h => h) (Or.inl ⟨by rfl, fun w9 h => by obtain ⟨FC1, FC2, FC3, FC4, FC5, FC6, FC7, FC8, FC9⟩ := h; go_simp⟩) h9 ?_
            try simp only [Act.put, List.setIfInBounds_toArray, List.set_cons_zero, List.set_cons_succ]
            refine wpAnyH_take (i := 32) (oi := { dst := some 70, op := Op.fieldAddr 176 (Operand.tmp 15) 0, type := 0, pos := "cover.go:223", after := #[{ on := 22, ground := Ground.guard }], guard := some (22, false) }) (v := .pointer (some ⟨W.heap.size, 0, none⟩)) rfl (by kernel_rfl) (by kernel_rfl) (by kernel_rfl) (fun _ _ _ h => h) (Or.inl ⟨by rfl, fun w9 h => by obtain ⟨FC1, FC2, FC3, FC4, FC5, FC6, FC7, FC8, FC9⟩ := h; go_simp⟩) h9 ?_
            try simp only [Act.put, List.setIfInBounds_toArray, List.set_cons_zero, List.set_cons_succ]
            refine wpAnyH_take (i := 33) (oi := { dst := some 71, op := Op.load 3 (Operand.tmp 70), type := 3, pos := "cover.go:223", after := #[{ on := 32, ground := Ground.data }, { on := 22, ground := Ground.guard }], guard := some (22, false) }) (v := .int .i64 fi) rfl (by kernel_rfl) (by kernel_rfl) (by kernel_rfl) (fun _ _ _ h => h) (Or.inl ⟨by rfl, fun w9 h => by obtain ⟨FC1, FC2, FC3, FC4, FC5, FC6, FC7, FC8, FC9⟩ := h; go_simp⟩) h9 ?_
            try simp only [Act.put, List.setIfInBounds_toArray, List.set_cons_zero, List.set_cons_succ]
            refine wpAnyH_take (i := 34) (oi := { dst := some 72, op := Op.indexAddr 181 (Operand.tmp 69) (Operand.tmp 71), type := 0, pos := "cover.go:223", after := #[{ on := 31, ground := Ground.data }, { on := 33, ground := Ground.data }, { on := 22, ground := Ground.guard }], guard := some (22, false) }) (v := .pointer (some ⟨bob, boo + fi.toNat * 65, none⟩)) rfl (by kernel_rfl) (by kernel_rfl) (by kernel_rfl) (fun _ _ _ h => h) (Or.inl ⟨by rfl, fun w9 h => by obtain ⟨FC1, FC2, FC3, FC4, FC5, FC6, FC7, FC8, FC9⟩ := h; go_simp⟩) h9 ?_
            try simp only [Act.put, List.setIfInBounds_toArray, List.set_cons_zero, List.set_cons_succ]
            refine wpAnyH_take (i := 35) (oi := { dst := some 73, op := Op.load 101 (Operand.tmp 72), type := 101, pos := "cover.go:223", after := #[{ on := 34, ground := Ground.data }, { on := 22, ground := Ground.guard }], guard := some (22, false) }) (v := .agg V2) rfl (by kernel_rfl) (by kernel_rfl) (by kernel_rfl) (fun _ _ _ h => h) (.inl ⟨by rfl, fun w9 h => exec_load_arr 101 _ rfl ⟨bob, boo + fi.toNat * 65, none⟩ rfl V2 _ (fun j v hv => by rw [add_none, Nat.add_assoc]; exact h.2.2.2.2.2.2.2.2.at (HGET.out j v hv)) Tryz.underlying101 (by rfl) HIV2.out⟩) h9 ?_
            try simp only [Act.put, List.setIfInBounds_toArray, List.set_cons_zero, List.set_cons_succ]
            refine wpAnyH_take (i := 36) (oi := { dst := some 74, op := Op.fieldAddr 176 (Operand.tmp 15) 1, type := 0, pos := "cover.go:223", after := #[{ on := 22, ground := Ground.guard }], guard := some (22, false) }) (v := .pointer (some ⟨W.heap.size, 1, none⟩)) rfl (by kernel_rfl) (by kernel_rfl) (by kernel_rfl) (fun _ _ _ h => h) (Or.inl ⟨by rfl, fun w9 h => by obtain ⟨FC1, FC2, FC3, FC4, FC5, FC6, FC7, FC8, FC9⟩ := h; go_simp⟩) h9 ?_
            try simp only [Act.put, List.setIfInBounds_toArray, List.set_cons_zero, List.set_cons_succ]
            refine wpAnyH_take (i := 37) (oi := { dst := some 75, op := Op.load 3 (Operand.tmp 74), type := 3, pos := "cover.go:223", after := #[{ on := 36, ground := Ground.data }, { on := 22, ground := Ground.guard }], guard := some (22, false) }) (v := .int .i64 fj) rfl (by kernel_rfl) (by kernel_rfl) (by kernel_rfl) (fun _ _ _ h => h) (Or.inl ⟨by rfl, fun w9 h => by obtain ⟨FC1, FC2, FC3, FC4, FC5, FC6, FC7, FC8, FC9⟩ := h; go_simp⟩) h9 ?_
            try simp only [Act.put, List.setIfInBounds_toArray, List.set_cons_zero, List.set_cons_succ]
            refine wpAnyH_ready (rs := [38]) (by kernel_rfl) (by simp) ?_
            refine AllReadyH.cons (o := { dst := some 76, op := Op.call { callee := Callee.value (Operand.func 112), args := #[Operand.tmp 64, Operand.tmp 65, Operand.tmp 73, Operand.tmp 75], argTypes := #[183, 101, 101, 3] }, type := 4, pos := "cover.go:223", after := #[{ on := 26, ground := Ground.data }, { on := 27, ground := Ground.data }, { on := 35, ground := Ground.data }, { on := 37, ground := Ground.data }, { on := 22, ground := Ground.chain }, { on := 22, ground := Ground.guard }], guard := some (22, false) }) rfl (fun K hK => ?_) AllReadyH.nil
            go_simp
            refine (HRC.out _).mono ?_
            rintro e w10 ⟨rfl, hb10⟩
            have h10 : (fun w' : World => w'.cell? ⟨W.heap.size, 0, none⟩ = some (.int .i64 fi) ∧ w'.cell? ⟨W.heap.size, 1, none⟩ = some (.int .i64 fj) ∧ w'.cell? ⟨w1.heap.size, 0, none⟩ = some (.pointer (some ⟨C, 0, none⟩)) ∧ w'.cell? ⟨C, 5, none⟩ = some (.slice (some ⟨bob, boo, none⟩) cs.length cb) ∧ w'.cell? ⟨C, 6, none⟩ = some (.int .i64 N) ∧ w'.cell? ⟨C, 7, none⟩ = some (.int .i64 D) ∧ w'.cell? ⟨w.heap.size, 0, none⟩ = some (.int .i64 L) ∧ w'.heap[Bx]? = some (.cells V 101 (0, 0)) ∧ Cells w' (some ⟨bob, boo, none⟩) (shpL L (wvs L cs))) w10 := by
              obtain ⟨FC1, FC2, FC3, FC4, FC5, FC6, FC7, FC8, FC9⟩ := h9
              exact ⟨cell_keep FC1 hb10 (Nat.le_refl _), cell_keep FC2 hb10 (Nat.le_refl _), cell_keep FC3 hb10 (Nat.le_refl _), cell_keep FC4 hb10 (Nat.le_refl _), cell_keep FC5 hb10 (Nat.le_refl _), cell_keep FC6 hb10 (Nat.le_refl _), cell_keep FC7 hb10 (Nat.le_refl _), (hb10.block _ (Array.getElem?_eq_some_iff.1 FC8).1).trans FC8, FC9.below hb10 (Nat.le_refl _)⟩
            have HN := Lib.hid (HAL.out.trans (hb10.mono HAL.out.size))
            refine hK.out _ _ h10 (fun _ => ?_)
            clear hK K hb10
            try simp only [Act.put, List.setIfInBounds_toArray, List.set_cons_zero, List.set_cons_succ]
            refine wpAnyH_take (i := 39) (oi := { dst := some 77, op := Op.unOp UnOp.not 4 (Operand.tmp 76), type := 4, pos := "cover.go:223", after := #[{ on := 38, ground := Ground.data }, { on := 22, ground := Ground.guard }], guard := some (22, false) }) (v := .bool false) rfl (by kernel_rfl) (by kernel_rfl) (by kernel_rfl) (fun _ _ _ h => h) (Or.inl ⟨by rfl, fun w9 h => by obtain ⟨FC1, FC2, FC3, FC4, FC5, FC6, FC7, FC8, FC9⟩ := h; go_simp⟩) h10 ?_
            try simp only [Act.put, List.setIfInBounds_toArray, List.set_cons_zero, List.set_cons_succ]
            refine wpAnyH_take (i := 40) (oi := { dst := some 78, op := Op.pick (Operand.tmp 60) (Operand.const (Value.bool true)) (Operand.tmp 77), type := 4, pos := "cover.go:223", after := #[{ on := 22, ground := Ground.data }, { on := 39, ground := Ground.data }], guard := none }) (v := .bool false) rfl (by kernel_rfl) (by kernel_rfl) (by kernel_rfl) (fun _ _ _ h => h) (Or.inl ⟨by rfl, fun w9 h => by obtain ⟨FC1, FC2, FC3, FC4, FC5, FC6, FC7, FC8, FC9⟩ := h; go_simp⟩) h10 ?_
            try simp only [Act.put, List.setIfInBounds_toArray, List.set_cons_zero, List.set_cons_succ]
            refine wpAnyH_done (by kernel_rfl) ?_ _
            clear h10 h9 hHeld
            have w0' : IntKind.i64.wrap ((pre.length : Int) + 1) = (pre.length : Int) + 1 := IntWalk.i64_in _ (by omega)
            have N2 := Lib.hid (HH2.out.below HN.out HH2.out.lt); have N1 := Lib.hid (HH1.out.below HN.out HH1.out.lt)
            have ii1 := N2.out.c0
            have jj1 := N2.out.free 0
            gi_wp2_with (rw [Oper.semAt_eq _ _ _ (fun c h => by cases h)]; go_simp; try go_bits)
            have hk := (keepsOthers_below HN.out).trans (KeepsOthers.setCell w10 ⟨w1.heap.size + 1, 0, none⟩ (.int .i64 ((pre.length : Int) + 1)))
            have hbz : Below w1.heap.size W (w10.setCell ⟨w1.heap.size + 1, 0, none⟩ (.int .i64 ((pre.length : Int) + 1))) := (HN.out.mono (by omega)).setCell (p := ⟨w1.heap.size + 1, 0, none⟩) (by show w1.heap.size ≤ w1.heap.size + 1; omega) _
            have hst := prvL_step H4.out HFX.out (show prvI N D L (wvs L cs) x (fi, fj) = true by unfold prvI; simp only [show (wvs L cs).length = cs.length by simp [wvs], HIN1.out, HIN2.out, HGD.out, HRB.out, Bool.and_self])
            have hpl : (pre ++ [x]).length = pre.length + 1 := by simp
            have hpi : (((pre ++ [x]).length : Nat) : Int) = (pre.length : Int) + 1 := by rw [hpl]; omega
            refine ⟨hk.from _, ⟨(heap_setCell_other _ _ _ _ (by show w1.heap.size + 1 + 1 ≠ w1.heap.size + 1; omega)).trans (HN.out.block _ (by omega)), hbz.size⟩, ⟨N1.out.other (by omega) _ _, ?_, by rw [hpl]; omega, by rw [hpl]; exact hst⟩, HB.out.trans hbz, by have := hbz.size; omega⟩
            rw [hpi]; exact N2.out.set0 _
  case done =>
    rintro Dd ys' W hD rfl ⟨⟨h1, h2, h3, h4⟩, hB, hs⟩ hK
    have hpr : prvR L a b c d cs s fs = decide (fs.length = (ptsAll L a c (d - c + 1).toNat (b - a + 1).toNat).length) := by
      unfold prvR
      rw [if_pos HE.out, HBS.out]
      exact prvL_len h4 h3
    generalize (ptsAll L a c (d - c + 1).toNat (b - a + 1).toNat).length = m at *
    have hb0 := HB1.out.trans (hB.mono hs1)
    have k1 := (Q1.out.below hb0 (by omega)).c0
    have k2 := (Q2.out.below hb0 (by omega)).c0
    have k3 := (Q3.out.below hb0 (by omega)).c0
    have f2 := (Q2.out.below hb0 (by omega)).free 0
    have f3 := (Q3.out.below hb0 (by omega)).free 0
    have i1 := h2.c0
    have l2 : w.heap.size + 1 + 1 < W.heap.size := by omega
    have l3 : w.heap.size + 1 + 1 + 1 < W.heap.size := by omega
    have B2 := Lib.hid (Q2.out.below hb0 (by omega)); have B3 := Lib.hid (Q3.out.below hb0 (by omega)); have HB := Lib.hid hB; have HPR := Lib.hid hpr
    clear h1 h2 h3 h4 hpr hb0 hB
    have hbe : (((m : Int) == (fs.length : Int)) : Bool) = decide (fs.length = m) := by
      rw [Bool.eq_iff_iff, beq_iff_eq, decide_eq_true_iff]; omega
    have HBE := Lib.hid hbe
    clear hbe
    gi_wp2
    have hk := ((KeepsOthers.setCell W ⟨w.heap.size + 1 + 1, 0, none⟩ (.bool ((m : Int) == (fs.length : Int)))).trans (KeepsOthers.setCell _ ⟨w.heap.size + 1 + 1 + 1, 0, none⟩ (.int .i64 0))).same Dd _ hK rfl
    have v2 : Blk ((W.setCell ⟨w.heap.size + 1 + 1, 0, none⟩ (.bool ((m : Int) == (fs.length : Int)))).setCell ⟨w.heap.size + 1 + 1 + 1, 0, none⟩ (.int .i64 0)) (w.heap.size + 1 + 1) 4 #[.bool ((m : Int) == (fs.length : Int))] := (B2.out.set0 _).other (by omega) _ _
    have v3 : Blk ((W.setCell ⟨w.heap.size + 1 + 1, 0, none⟩ (.bool ((m : Int) == (fs.length : Int)))).setCell ⟨w.heap.size + 1 + 1 + 1, 0, none⟩ (.int .i64 0)) (w.heap.size + 1 + 1 + 1) 26 #[.int .i64 0] := (B3.out.other (by omega) _ _).set0 _
    have hbb : Below w.heap.size W ((W.setCell ⟨w.heap.size + 1 + 1, 0, none⟩ (.bool ((m : Int) == (fs.length : Int)))).setCell ⟨w.heap.size + 1 + 1 + 1, 0, none⟩ (.int .i64 0)) := ((Below.refl _ W).setCell (p := ⟨w.heap.size + 1 + 1, 0, none⟩) (by show w.heap.size ≤ w.heap.size + 1 + 1; omega) _).setCell (p := ⟨w.heap.size + 1 + 1 + 1, 0, none⟩) (by show w.heap.size ≤ w.heap.size + 1 + 1 + 1; omega) _
    refine ⟨by simp, .inl ⟨_, _, rfl, run_takeDeferred hk, ?_⟩⟩
    have p2 := cell_kept v2.c0 (grownBy_putObj' _ Dd (.deferred none)) (fun r e => by cases e; exact ⟨_, hk, rfl⟩)
    have p4 := cell_kept v3.c0 (grownBy_putObj' _ Dd (.deferred none)) (fun r e => by cases e; exact ⟨_, hk, rfl⟩)
    refine ⟨.tuple #[.bool ((m : Int) == (fs.length : Int)), .int .i64 0], ?_, by rw [HBE.out, HPR.out, HE.out], ((HBW.out.trans (HB.out.mono (by omega))).trans hbb).trans (belowK_b (w := w) (Nat.le_refl _) _ Dd _ _ (by omega) hk rfl rfl)⟩
    simp [results, Tryz.f48, go_sem, p2, p4]
  case stop =>
    rintro Dd cc pre W hD hpre ⟨⟨rfl, hp, u1, u2⟩, hB⟩ hK
    have HP : Hid (prvR L a b c d cs s fs = false) := Lib.hid (by unfold prvR; rw [if_pos HE.out, HBS.out]; exact hp _ hpre)
    clear hp hpre
    gi_wp2
    refine ⟨by simp, .inl ⟨_, _, rfl, run_takeDeferred hK, ?_⟩⟩
    have p2 := cell_kept u1 (grownBy_putObj' _ Dd (.deferred none)) (fun r e => by cases e; exact ⟨_, hK, rfl⟩)
    have p4 := cell_kept u2 (grownBy_putObj' _ Dd (.deferred none)) (fun r e => by cases e; exact ⟨_, hK, rfl⟩)
    refine ⟨.tuple #[.bool false, .int .i64 0], ?_, by rw [HP.out, HE.out], hB.trans (belowK_b (w := w) (Nat.le_refl _) _ Dd _ _ (by omega) hK rfl rfl)⟩
    simp [results, Tryz.f48, go_sem, p2, p4]
end Go.Proofs.YtbjhjbjjfbmoeaaGreatDoor
