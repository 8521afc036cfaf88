/- Parts of a proof, in build order: OI, OJ, OK, OH, OL, V5, VA. -/
import Derived.Test.YtahnadhlagabgaaGreatDoorKp16
import Derived.Test.YtahnadhlagabgaaGreatDoorRows

namespace Go.Proofs.YtahnadhlagabgaaGreatDoor
open Go.RowKit Go.Shelf
def proE (L a b c d : Int) (cs : List (Int × Int)) (s : ByteArray) : Int := if covE L a b c d cs s = 0 then (if misR L a b c d cs s = [] then 0 else 4) else covE L a b c d cs s
def proR (L a b c d : Int) (cs : List (Int × Int)) (s : ByteArray) : List (Int × Int) := if covE L a b c d cs s = 0 /\ misR L a b c d cs s = [] then prfR L a b c d cs s else []
def ProRes (L a b c d : Int) (cs : List (Int × Int)) (s : ByteArray) (w : World) (e : Ending) (w' : World) : Prop :=
 (∃ p cp, e = .returned (.tuple #[.slice p (proR L a b c d cs s).length cp, .int .i64 (proE L a b c d cs s)]) /\ Cells w' p (prs (proR L a b c d cs s))) /\ Below w.heap.size w w'
set_option maxRecDepth 100000 in
set_option maxHeartbeats 2000000 in
theorem Prove_any (L a b c d : Int) (cs : List (Int × Int)) (ao : Option Addr) (cap : Nat) (s : ByteArray) (w : World) (ht : Tab w) (hs : s.size <= 140737488351232) (hc : Cells w ao (prs cs)) (hl : cs.length <= 9223372036854775807) (hcap : cs.length <= cap) (hcap2 : cap <= 9223372036854775807) :
 Calls Tryz.prog 11 #[.agg #[.int .i64 L, .int .i64 a, .int .i64 b, .int .i64 c, .int .i64 d], .slice ao cs.length cap, .string s] w (ProRes L a b c d cs s w) := by
 obtain ⟨W0, hW0⟩ : ∃ W0, w.alloc (.cells #[.int .i64 L, .int .i64 a, .int .i64 b, .int .i64 c, .int .i64 d] 23) = W0 := ⟨_, rfl⟩
 have hB0 : Below w.heap.size w W0 := by rw [<- hW0]; exact (Below.refl _ w).alloc (Nat.le_refl _) _
 have hcv := covering_any L a b c d cs ao cap s W0 (ht.below hB0 (Nat.le_refl _)) hs (hc.below hB0 (Nat.le_refl _)) hl hcap hcap2
 have HW0 := Lib.hid hW0; have HCV := Lib.hid hcv; have HB0 := Lib.hid hB0
 clear hW0 hcv ht hc hB0
 go_enter Tryz.func11, Tryz.ntmps11
 go_wp2_with fail
 rw [HW0.out]
 refine HCV.out.mono ?_
 rintro e w1 ⟨⟨hE, hf, hbk, C, bo, cb, N, D, rfl, hbs, hC, hcs⟩ | ⟨hE, rfl⟩, hb1⟩
 · have hft := fits_cov hE hbs hf hbk hC hcs
   have HFT := Lib.hid hft; have HE := Lib.hid hE
   have hbw := HB0.out.trans (hb1.mono HB0.out.size)
   clear hft hE hf hbk hbs hC hcs hb1
   go_wp2_with fail
   refine HFT.out.mono ?_
   rintro e w2 ⟨⟨p, k, cp, m, cm, rfl, hk, hp, -⟩, hb2⟩
   have hbw2 := hbw.trans (hb2.mono hbw.size)
   have HP := Lib.hid hp; have HKK := Lib.hid hk
   clear hp hb2
   by_cases hm : misR L a b c d cs s = []
   · have h0 : (misR L a b c d cs s).length = 0 := by rw [hm]; rfl
     have hpe : proE L a b c d cs s = 0 := by unfold proE; rw [if_pos HE.out, if_pos hm]
     have hpr : proR L a b c d cs s = prfR L a b c d cs s := by unfold proR; rw [if_pos ⟨HE.out, hm⟩]
     have HPE := Lib.hid hpe; have HPR := Lib.hid hpr
     rw [h0]
     clear hpe hpr hm h0 hk
     go_wp2_with fail
     go_ret2
     exact ⟨⟨p, cp, by rw [HPE.out, HPR.out, HKK.out]; rfl, by rw [HPR.out]; exact HP.out⟩, hbw2⟩
   · have h0 : (0 : Int) < ((misR L a b c d cs s).length : Int) := by
      have : 0 < (misR L a b c d cs s).length := List.length_pos_iff.2 hm
      omega
     have hpe : proE L a b c d cs s = 4 := by unfold proE; rw [if_pos HE.out, if_neg hm]
     have hpr : proR L a b c d cs s = [] := by unfold proR; rw [if_neg (fun h => hm h.2)]
     have HPE := Lib.hid hpe; have HPR := Lib.hid hpr
     clear hpe hpr hm hk
     generalize (misR L a b c d cs s).length = ml at *
     go_wp2_with fail
     go_ret2
     exact ⟨⟨none, 0, by rw [HPE.out, HPR.out]; rfl, by rw [HPR.out]; exact Cells.nil _ _⟩, hbw2⟩
 · have hpe : proE L a b c d cs s = covE L a b c d cs s := by unfold proE; rw [if_neg hE]
   have hpr : proR L a b c d cs s = [] := by unfold proR; rw [if_neg (fun h => hE h.1)]
   have HPE := Lib.hid hpe; have HPR := Lib.hid hpr
   have hbw := HB0.out.trans (hb1.mono HB0.out.size)
   clear hpe hpr hb1
   generalize covE L a b c d cs s = v at *
   have hv : (v != 0) = true := by simpa using hE
   go_wp2_with fail
   go_ret2
   exact ⟨⟨none, 0, by rw [HPE.out, HPR.out]; rfl, by rw [HPR.out]; exact Cells.nil _ _⟩, hbw⟩
end Go.Proofs.YtahnadhlagabgaaGreatDoor

namespace Go.Proofs.YtahnadhlagabgaaGreatDoor
open Go.RowKit
theorem heap_lt0 {w : World} {a : Addr} {v : Value} (h : w.cell? a = some v) : a.block < w.heap.size := by
 apply Nat.lt_of_not_le
 intro hc
 have h2 : w.heap[a.block]? = none := by simp; omega
 unfold World.cell? at h
 rw [h2] at h
 cases h
theorem keep2 {W : World} {a : Addr} {v u0 u1 : Value} {b : Nat} (h : W.cell? a = some v) (hne : a.block ≠ b) : ((W.setCell ⟨b, 0, none⟩ u0).setCell ⟨b, 1, none⟩ u1).cell? a = some v := by
 rw [World.cell?_setCell_other _ _ _ _ (by first | exact fun e => hne (congrArg Addr.block e) | exact fun e => hne (congrArg Addr.block e).symm), World.cell?_setCell_other _ _ _ _ (by first | exact fun e => hne (congrArg Addr.block e) | exact fun e => hne (congrArg Addr.block e).symm)]
 exact h
theorem pairs_get {L : Int} {l : List (Pt L)} {i : Nat} {x : Pt L} (h : l[i]? = some x) : (pairsOf l)[i]? = some x.1 := by
 unfold pairsOf
 rw [List.getElem?_map, h]
 rfl
theorem prfL_snoc {n d L : Int} {ys : List (List Int)} {l : List (Pt L)} {i : Nat} {x : Pt L} (h : l[i]? = some x) : prfL n d L ys (l.take (i + 1)) = prfL n d L ys (l.take i) ++ [(fitI (fitP n d L ys x), fitS (fitP n d L ys x))] := by
 rw [take_get h]
 simp [prfL]
theorem misI_none {α : Type} {f : α -> Bool} {l : List α} {k : Nat} (h : misI f k l = []) : ∀ x ∈ l, f x = true := by
 intro x hx
 cases hf : f x with
 | true => rfl
 | false =>
   exfalso
   obtain ⟨i, hi⟩ := List.mem_iff_getElem?.1 hx
   have : ((k + i : Nat) : Int) ∈ misI f k l := misI_mem.2 ⟨i, x, rfl, hi, hf⟩
   rw [h] at this
   cases this
set_option maxRecDepth 100000 in
set_option maxHeartbeats 4000000 in
theorem refProve_any (L a b c d : Int) (cs : List (Int × Int)) (ao : Option Addr) (cap : Nat) (s : ByteArray) (w : World) (hs : s.size <= 1048576) (hc : Cells w ao (prs cs)) (hl : cs.length <= 9223372036854775807) :
 Calls Tryz.prog 12 #[.agg #[.int .i64 L, .int .i64 a, .int .i64 b, .int .i64 c, .int .i64 d], .slice ao cs.length cap, .string s] w (ProRes L a b c d cs s w) := by
 obtain ⟨i0, hi, hz0, hz1, hz2⟩ := info_parts Tryz.infoFit
 obtain ⟨W0, hW0⟩ : ∃ W0, w.alloc (.cells #[.int .i64 L, .int .i64 a, .int .i64 b, .int .i64 c, .int .i64 d] 23) = W0 := ⟨_, rfl⟩
 have hb0 : Below w.heap.size w W0 := by rw [<- hW0]; exact (Below.refl _ w).alloc (Nat.le_refl _) _
 have hs0 : W0.heap.size = w.heap.size + 1 := by rw [<- hW0]; simp
 have q0 : Blk W0 w.heap.size 23 #[.int .i64 L, .int .i64 a, .int .i64 b, .int .i64 c, .int .i64 d] := by rw [<- hW0]; exact heap_alloc_new w _
 have hkr : ∀ W, Below W0.heap.size W0 W -> (W.cell? ⟨w.heap.size, 0, none⟩ = some (.int .i64 L) /\ W.cell? ⟨w.heap.size, 1, none⟩ = some (.int .i64 a) /\ W.cell? ⟨w.heap.size, 2, none⟩ = some (.int .i64 b) /\ W.cell? ⟨w.heap.size, 3, none⟩ = some (.int .i64 c) /\ W.cell? ⟨w.heap.size, 4, none⟩ = some (.int .i64 d)) /\ Below w.heap.size w W /\ Cells W ao (prs cs) := fun W h => by
  have hq := q0.below h (by omega)
  have hb := hb0.trans (h.mono hb0.size)
  exact ⟨⟨hq.cell 0, hq.cell 1, hq.cell 2, hq.cell 3, hq.cell 4⟩, hb, hc.below hb (Nat.le_refl _)⟩
 have hbg := refBegin_any L a b c d cs ao cap s W0 hs (hc.below hb0 (Nat.le_refl _)) hl
 have HW0 := Lib.hid hW0; have HKR := Lib.hid hkr; have HBG := Lib.hid hbg
 clear hW0 hb0 q0 hkr hbg hc
 go_enter Tryz.func12, Tryz.ntmps12
 go_wp2_with fail
 rw [HW0.out]
 refine HBG.out.mono ?_
 rintro e w1 ⟨⟨n, m, rfl, hnm⟩, hb1⟩
 obtain ⟨W1, hW1⟩ : ∃ W1, w1.alloc (.cells #[.int .i64 n, .int .i64 m] 88) = W1 := ⟨_, rfl⟩
 have hbx : Below w1.heap.size w1 W1 := by rw [<- hW1]; exact (Below.refl w1.heap.size w1).alloc (Nat.le_refl _) _
 have hs1 : W1.heap.size = w1.heap.size + 1 := by rw [<- hW1]; simp
 have q1 : Blk W1 w1.heap.size 88 #[.int .i64 n, .int .i64 m] := by rw [<- hW1]; exact heap_alloc_new w1 _
 have hb01 := hb1.trans (hbx.mono hb1.size)
 by_cases hE : covE L a b c d cs s = 0
 · have hbs := hnm hE
   obtain ⟨hfo, hbk, _⟩ := covE_0 hE
   obtain ⟨_, _, hn6, hm6, _, _⟩ := barS_some hbs
   have hfm := fam_true hfo
   obtain ⟨hmr, hpr⟩ := misR_yes hE hbs
   have hpt := fun W => refPoints_any L a b c d W hfo
   have hpl := ptsAll_len L a c (d - c + 1).toNat (b - a + 1).toNat
   have hco := fun (x : Pt L) W h => refCovered_any (n : Int) (m : Int) L x.1.1 x.1.2 cs ao cap W hbk x.2.1 (by omega) (by omega) (by omega) (by omega) h
   have hPE : proE L a b c d cs s = if misR L a b c d cs s = [] then 0 else 4 := by unfold proE; rw [if_pos hE]
   have hPR : proR L a b c d cs s = if misR L a b c d cs s = [] then prfR L a b c d cs s else [] := by
    unfold proR
    by_cases h : misR L a b c d cs s = []
    · rw [if_pos ⟨hE, h⟩, if_pos h]
    · rw [if_neg (fun h2 => h h2.2), if_neg h]
   rw [hmr] at hPE hPR
   rw [hpr] at hPR
   have h400 : (ptsAll L a c (d - c + 1).toNat (b - a + 1).toNat).length <= 400 := Nat.le_trans hpl hfm.2.2.2.2.2.2.2.2
   generalize ptsAll L a c (d - c + 1).toNat (b - a + 1).toNat = l at *
   have HPE := Lib.hid hPE; have HPR := Lib.hid hPR; have HPT := Lib.hid hpt; have HCO := Lib.hid hco
   have HQ1 := Lib.hid q1; have HB1 := Lib.hid hb01; have HW1 := Lib.hid hW1
   rw [hE]
   clear hnm hbs hfo hbk hfm hmr hpr hpt hpl hco hPE hPR q1 hb1 hbx hn6 hm6
   obtain ⟨⟨k0, k1, k2, k3, k4⟩, -, -⟩ := HKR.out W1 hb01
   go_wp2_with fail
   refine (HPT.out W1).mono ?_
   rintro e w2 ⟨⟨pb, pc, rfl, hpc⟩, hb2⟩
   have HPC := Lib.hid hpc
   have HB12 := Lib.hid (HB1.out.trans (hb2.mono HB1.out.size))
   have HQ2 := Lib.hid (HQ1.out.below hb2 (by omega))
   clear hpc hb2 k0 k1 k2 k3 k4 hb01 hW1
   go_wp2_with fail
   go_loopw [10, 12] (fun ov iv wr => ∃ i : Nat, i <= l.length /\ iv = .int .i64 i /\ (∀ x ∈ l.take i, (fitP n m L (wvs L cs) x).isSome = true) /\ wr.ownsRow w2.heap.size 93 2 ov i (prs (prfL n m L (wvs L cs) (l.take i))) /\ Below w2.heap.size w2 wr) (fun _ iv _ => l.length - (intOf iv).toNat)
   case atStart => exact ⟨0, Nat.zero_le _, rfl, by simp, World.ownsRow_nil _ _ _ _, Below.refl _ _⟩
   case round =>
    obtain ⟨i, hi', rfl, hall, hown, hbe⟩ := hrel
    have HALL := Lib.hid hall; have HO := Lib.hid hown
    have HOB : Hid (∀ j, u10.ownBlock = some j -> w2.heap.size <= j) := fun j e => (hown.lt j e).1
    have hbe0 := HB12.out.trans (hbe.mono HB12.out.size)
    obtain ⟨⟨k0, -, -, -, -⟩, hbw, hcr⟩ := HKR.out wr hbe0
    have hq := HQ2.out.below hbe HQ2.out.lt
    have m0 : wr.cell? ⟨w1.heap.size, 0, none⟩ = some (.int .i64 n) := hq.cell 0
    have m1 : wr.cell? ⟨w1.heap.size, 1, none⟩ = some (.int .i64 m) := hq.cell 1
    have HCR := Lib.hid hcr; have HBW := Lib.hid hbw
    clear hall hown hcr hq hbw
    by_cases hlt : i < l.length
    · obtain ⟨x, hx⟩ := get_of_lt hlt
      have hxx := pairs_get hx
      have hll : (pairsOf l).length = l.length := by simp [pairsOf]
      have hpcr := HPC.out.below hbe (Nat.le_refl _)
      obtain ⟨bk, off, rfl⟩ := hpcr.addr (prs_ne (by omega))
      have c1 := hpcr.at (prs_fst hxx)
      have c2 := hpcr.at (prs_snd hxx)
      rw [<- Nat.add_assoc] at c2
      have hne0 : w.heap.size ≠ wr.heap.size := by have := HBW.out.size; have := heap_lt0 k0; simp at this; omega
      have hne1 : w1.heap.size ≠ wr.heap.size := by have := heap_lt0 m0; simp at this; omega
      have hne2 : bk ≠ wr.heap.size := by have := heap_lt0 c1; simp at this; omega
      have k0d : wr.drew.cell? ⟨w.heap.size, 0, none⟩ = some (.int .i64 L) := k0
      have m0d : wr.drew.cell? ⟨w1.heap.size, 0, none⟩ = some (.int .i64 n) := m0
      have m1d : wr.drew.cell? ⟨w1.heap.size, 1, none⟩ = some (.int .i64 m) := m1
      have c1d : wr.drew.cell? ⟨bk, off + i * 2, none⟩ = some (.int .i64 x.1.1) := c1
      have c2d : wr.drew.cell? ⟨bk, off + i * 2 + 1, none⟩ = some (.int .i64 x.1.2) := c2
      have i1 : (i : Int) < (l.length : Int) := by omega
      have i2 : (0 : Int) <= (i : Int) := by omega
      have HX := Lib.hid hx
      have hcov := fun W (h : Below wr.heap.size wr W) => HCO.out x W (HCR.out.below h (Nat.le_refl _))
      have hsn := prfL_snoc (n := n) (d := m) (ys := wvs L cs) hx
      have hF : fitP (n : Int) m L (wvs L cs) x = fitF (srv n m L.toNat (wav L x.1.1 x.1.2)) (wvs L cs) := rfl
      rw [<- hF] at hcov
      have HCOV := Lib.hid hcov; have HSN := Lib.hid hsn
      clear hxx hll hpcr hx hcov hsn hF
      cases hsm : (fitP (n : Int) m L (wvs L cs) x).isSome with
      | false =>
        rw [hsm] at HCOV
        have hmn : misP (n : Int) m L (wvs L cs) l ≠ [] := fun h => by
         have := misI_none h x (List.mem_of_getElem? HX.out)
         rw [hsm] at this; cases this
        have hpe : proE L a b c d cs s = 4 := by rw [HPE.out, if_neg hmn]
        have hpr : proR L a b c d cs s = [] := by rw [HPR.out, if_neg hmn]
        have HPE2 := Lib.hid hpe; have HPR2 := Lib.hid hpr
        clear hmn hpe hpr hsm HPE HPR
        generalize fitI (fitP (n : Int) m L (wvs L cs) x) = fi at *
        generalize fitS (fitP (n : Int) m L (wvs L cs) x) = fs at *
        go_wp2_with fail
        go_region_held3 (fun w' => w'.cell? ⟨w.heap.size, 0, none⟩ = some (.int .i64 L) /\ w'.cell? ⟨w1.heap.size, 0, none⟩ = some (.int .i64 n) /\ w'.cell? ⟨w1.heap.size, 1, none⟩ = some (.int .i64 m) /\ w'.cell? ⟨bk, off + i * 2, none⟩ = some (.int .i64 x.1.1) /\ w'.cell? ⟨bk, off + i * 2 + 1, none⟩ = some (.int .i64 x.1.2))
         (first | with_reducible exact ⟨k0, m0, m1, c1, c2⟩ | with_reducible exact ⟨k0d, m0d, m1d, c1d, c2d⟩ | with_reducible exact ⟨z0, z1, z2, z3, z4⟩ | exact ⟨keep2 z0 hne0, keep2 z1 hne1, keep2 z2 hne1, keep2 z3 hne2, keep2 z4 hne2⟩ | go_keep)
         (first
         | (go_at_call 54; (with_reducible refine Calls.mono (HCOV.out wr.drew ((Below.refl _ _).drew)) ?_); rintro e wb ⟨rfl, hbb⟩; have hbz := ((Below.refl wr.heap.size wr).drew).trans hbb; have z0 := cell_keep k0 hbz (Nat.le_refl _); have z1 := cell_keep m0 hbz (Nat.le_refl _); have z2 := cell_keep m1 hbz (Nat.le_refl _); have z3 := cell_keep c1 hbz (Nat.le_refl _); have z4 := cell_keep c2 hbz (Nat.le_refl _); have n0 := World.new_ne wb _ z0; have n1 := World.new_ne wb _ z1; have n2 := World.new_ne wb _ z2; have n3 := World.new_ne wb _ z3; have n4 := World.new_ne wb _ z4; have HBZ := Lib.hid hbz; clear hbb hbz)
         | (go_at_call 54; (with_reducible refine Calls.mono (HCOV.out (wr.alloc (.cells #[.int .i64 0, .int .i64 0] 93)).drew (((Below.refl _ wr).alloc (Nat.le_refl _) _).drew)) ?_); rintro e wb ⟨rfl, hbb⟩; have hba := (((Below.refl wr.heap.size wr).alloc (Nat.le_refl _) (.cells #[.int .i64 0, .int .i64 0] 93)).drew); have hbz := hba.trans (hbb.mono hba.size); have hqq := (show Blk (wr.alloc (.cells #[.int .i64 0, .int .i64 0] 93)).drew wr.heap.size 93 #[.int .i64 0, .int .i64 0] from heap_alloc_new wr _).below hbb (by simp); have y0 := hqq.cell 0; have y1 := hqq.cell 1; simp only [List.getElem?_toArray, List.getElem?_cons_succ, List.getElem?_cons_zero] at y0 y1; have g0 := hqq.free 0; have g1 := hqq.free 1; have z0 := cell_keep k0 hbz (Nat.le_refl _); have z1 := cell_keep m0 hbz (Nat.le_refl _); have z2 := cell_keep m1 hbz (Nat.le_refl _); have z3 := cell_keep c1 hbz (Nat.le_refl _); have z4 := cell_keep c2 hbz (Nat.le_refl _); have HBZ := Lib.hid hbz; have HQQ := Lib.hid hqq; clear hbb hbz hba hqq))
        all_goals
         go_wp2_with fail
         go_ret2
         exact ⟨⟨none, 0, by rw [HPE2.out, HPR2.out]; rfl, by rw [HPR2.out]; exact Cells.nil _ _⟩, (by first | exact (HBW.out.trans (HBZ.out.mono HBW.out.size)).alloc (by have := HBW.out.size; have := HBZ.out.size; omega) _ | exact ((HBW.out.trans (HBZ.out.mono HBW.out.size)).setCell (p := ⟨wr.heap.size, 0, none⟩) HBW.out.size _).setCell (p := ⟨wr.heap.size, 1, none⟩) HBW.out.size _)⟩
      | true =>
        rw [hsm] at HCOV
        have hall2 : ∀ y ∈ l.take (i + 1), (fitP (n : Int) m L (wvs L cs) y).isSome = true := by
         rw [take_get HX.out]
         intro y hy
         rcases List.mem_append.1 hy with h | h
         · exact HALL.out y h
         · rw [List.mem_singleton.1 h]; exact hsm
        have HALL2 := Lib.hid hall2
        clear hall2 hsm
        generalize fitI (fitP (n : Int) m L (wvs L cs) x) = fi at *
        generalize fitS (fitP (n : Int) m L (wvs L cs) x) = fs at *
        go_wp2_with fail
        go_region_held3 (fun w' => w'.cell? ⟨w.heap.size, 0, none⟩ = some (.int .i64 L) /\ w'.cell? ⟨w1.heap.size, 0, none⟩ = some (.int .i64 n) /\ w'.cell? ⟨w1.heap.size, 1, none⟩ = some (.int .i64 m) /\ w'.cell? ⟨bk, off + i * 2, none⟩ = some (.int .i64 x.1.1) /\ w'.cell? ⟨bk, off + i * 2 + 1, none⟩ = some (.int .i64 x.1.2))
         (first | with_reducible exact ⟨k0, m0, m1, c1, c2⟩ | with_reducible exact ⟨k0d, m0d, m1d, c1d, c2d⟩ | with_reducible exact ⟨z0, z1, z2, z3, z4⟩ | exact ⟨keep2 z0 hne0, keep2 z1 hne1, keep2 z2 hne1, keep2 z3 hne2, keep2 z4 hne2⟩ | go_keep)
         (first
         | (go_at_call 54; (with_reducible refine Calls.mono (HCOV.out wr.drew ((Below.refl _ _).drew)) ?_); rintro e wb ⟨rfl, hbb⟩; have hbz := ((Below.refl wr.heap.size wr).drew).trans hbb; have z0 := cell_keep k0 hbz (Nat.le_refl _); have z1 := cell_keep m0 hbz (Nat.le_refl _); have z2 := cell_keep m1 hbz (Nat.le_refl _); have z3 := cell_keep c1 hbz (Nat.le_refl _); have z4 := cell_keep c2 hbz (Nat.le_refl _); have n0 := World.new_ne wb _ z0; have n1 := World.new_ne wb _ z1; have n2 := World.new_ne wb _ z2; have n3 := World.new_ne wb _ z3; have n4 := World.new_ne wb _ z4; have HBZ := Lib.hid hbz; clear hbb hbz)
         | (go_at_call 54; (with_reducible refine Calls.mono (HCOV.out (wr.alloc (.cells #[.int .i64 0, .int .i64 0] 93)).drew (((Below.refl _ wr).alloc (Nat.le_refl _) _).drew)) ?_); rintro e wb ⟨rfl, hbb⟩; have hba := (((Below.refl wr.heap.size wr).alloc (Nat.le_refl _) (.cells #[.int .i64 0, .int .i64 0] 93)).drew); have hbz := hba.trans (hbb.mono hba.size); have hqq := (show Blk (wr.alloc (.cells #[.int .i64 0, .int .i64 0] 93)).drew wr.heap.size 93 #[.int .i64 0, .int .i64 0] from heap_alloc_new wr _).below hbb (by simp); have y0 := hqq.cell 0; have y1 := hqq.cell 1; simp only [List.getElem?_toArray, List.getElem?_cons_succ, List.getElem?_cons_zero] at y0 y1; have g0 := hqq.free 0; have g1 := hqq.free 1; have z0 := cell_keep k0 hbz (Nat.le_refl _); have z1 := cell_keep m0 hbz (Nat.le_refl _); have z2 := cell_keep m1 hbz (Nat.le_refl _); have z3 := cell_keep c1 hbz (Nat.le_refl _); have z4 := cell_keep c2 hbz (Nat.le_refl _); have HBZ := Lib.hid hbz; have HQQ := Lib.hid hqq; clear hbb hbz hba hqq))
        rotate_left
        ·
         have hbx := (HBZ.out.setCell (p := ⟨wr.heap.size, 0, none⟩) (Nat.le_refl _) (.int .i64 fi)).setCell (p := ⟨wr.heap.size, 1, none⟩) (Nat.le_refl _) (.int .i64 fs)
         have hblk : Blk ((wb.setCell ⟨wr.heap.size, 0, none⟩ (.int .i64 fi)).setCell ⟨wr.heap.size, 1, none⟩ (.int .i64 fs)) wr.heap.size 93 #[.int .i64 fi, .int .i64 fs] := ((HQQ.out.setAt 0 _).setAt 1 _)
         generalize (wb.setCell ⟨wr.heap.size, 0, none⟩ (.int .i64 fi)).setCell ⟨wr.heap.size, 1, none⟩ (.int .i64 fs) = wv at *
         have v0 : wv.cell? ⟨wr.heap.size, 0, none⟩ = some (.int .i64 fi) := hblk.cell 0
         have v1 : wv.cell? ⟨wr.heap.size, 1, none⟩ = some (.int .i64 fs) := hblk.cell 1
         have hownX := own_belowK HO.out hbx (Nat.le_refl _)
         have hbex := hbe.trans (hbx.mono hbe.size)
         have hszx := hbex.size
         clear hblk
         go_wp2_with (at_builtin; refine wpList_append_own _ rfl _ _ 28 rfl w2.heap.size 93 i0 (.agg #[.int .i64 0, .int .i64 0]) 2 16 Tryz.underlying28 hi hz0 hz1 hz2 rfl (by decide) _ _ _ rfl (hownX.alloc _) ⟨wv.heap.size, 0, none⟩ 1 1 [.int .i64 fi, .int .i64 fs] rfl rfl (cells_two_new _ _ _ _) (by simp [Value.oneCell']) (by unfold maxLen; omega) (by omega) (by simp; omega) ?_; intro v1 wz hown1 hgrow _)
         have hfin := hown1
         rw [show prs (prfL n m L (wvs L cs) (l.take i)) ++ [.int .i64 fi, .int .i64 fs] = prs (prfL n m L (wvs L cs) (l.take (i + 1))) from by rw [HSN.out, prs_append]; rfl] at hfin
         have hbz2 := (hbex.alloc hbex.size (.cells #[.int .i64 fi, .int .i64 fs] 93)).grown hgrow (by simp; omega) HOB.out
         clear hown1 hgrow hownX
         have HFIN := Lib.hid hfin; clear hfin
         go_wp2_with fail
         go_roundw
         case rel => exact ⟨i + 1, by omega, by go_num, HALL2.out, by simpa using HFIN.out, hbz2⟩
         case measure => simp [intOf]; omega
        ·
         have hbx := HBZ.out.alloc HBZ.out.size (.cells #[.int .i64 fi, .int .i64 fs] 93)
         have hblk : Blk (wb.alloc (.cells #[.int .i64 fi, .int .i64 fs] 93)) wb.heap.size 93 #[.int .i64 fi, .int .i64 fs] := heap_alloc_new wb _
         generalize wb.alloc (.cells #[.int .i64 fi, .int .i64 fs] 93) = wv at *
         have v0 : wv.cell? ⟨wb.heap.size, 0, none⟩ = some (.int .i64 fi) := hblk.cell 0
         have v1 : wv.cell? ⟨wb.heap.size, 1, none⟩ = some (.int .i64 fs) := hblk.cell 1
         have hownX := own_belowK HO.out hbx (Nat.le_refl _)
         have hbex := hbe.trans (hbx.mono hbe.size)
         have hszx := hbex.size
         clear hblk
         go_wp2_with (at_builtin; refine wpList_append_own _ rfl _ _ 28 rfl w2.heap.size 93 i0 (.agg #[.int .i64 0, .int .i64 0]) 2 16 Tryz.underlying28 hi hz0 hz1 hz2 rfl (by decide) _ _ _ rfl (hownX.alloc _) ⟨wv.heap.size, 0, none⟩ 1 1 [.int .i64 fi, .int .i64 fs] rfl rfl (cells_two_new _ _ _ _) (by simp [Value.oneCell']) (by unfold maxLen; omega) (by omega) (by simp; omega) ?_; intro v1 wz hown1 hgrow _)
         have hfin := hown1
         rw [show prs (prfL n m L (wvs L cs) (l.take i)) ++ [.int .i64 fi, .int .i64 fs] = prs (prfL n m L (wvs L cs) (l.take (i + 1))) from by rw [HSN.out, prs_append]; rfl] at hfin
         have hbz2 := (hbex.alloc hbex.size (.cells #[.int .i64 fi, .int .i64 fs] 93)).grown hgrow (by simp; omega) HOB.out
         clear hown1 hgrow hownX
         have HFIN := Lib.hid hfin; clear hfin
         go_wp2_with fail
         go_roundw
         case rel => exact ⟨i + 1, by omega, by go_num, HALL2.out, by simpa using HFIN.out, hbz2⟩
         case measure => simp [intOf]; omega
    · obtain rfl : i = l.length := by omega
      have hmn : misP (n : Int) m L (wvs L cs) l = [] := misI_nil (by have := HALL.out; rwa [List.take_length] at this)
      have hpe : proE L a b c d cs s = 0 := by rw [HPE.out, if_pos hmn]
      have hpr : proR L a b c d cs s = prfL n m L (wvs L cs) l := by rw [HPR.out, if_pos hmn]
      have hown2 := HO.out
      rw [List.take_length] at hown2
      obtain ⟨g, cc, rfl, hcs, -, -⟩ := own_cap hown2
      have HPE2 := Lib.hid hpe; have HPR2 := Lib.hid hpr; have HCS := Lib.hid hcs
      have i1 : ¬ ((l.length : Int) < (l.length : Int)) := by omega
      have hll : (prfL (n : Int) m L (wvs L cs) l).length = l.length := by simp [prfL]
      have HLL := Lib.hid hll
      clear hmn hpe hpr hown2 hcs hll HPE HPR
      go_wp2_with fail
      go_ret2
      exact ⟨⟨g, cc, by rw [HPE2.out, HPR2.out, HLL.out]; rfl, by rw [HPR2.out]; exact HCS.out⟩, HBW.out⟩
 · have hpe : proE L a b c d cs s = covE L a b c d cs s := by unfold proE; rw [if_neg hE]
   have hpr : proR L a b c d cs s = [] := by unfold proR; rw [if_neg (fun h => hE h.1)]
   obtain ⟨-, hbw, -⟩ := HKR.out W1 hb01
   have HPE2 := Lib.hid hpe; have HPR2 := Lib.hid hpr
   clear hpe hpr hnm hb1 hbx q1 hb01
   generalize covE L a b c d cs s = v at *
   have hv : (v != 0) = true := by simpa using hE
   go_wp2_with fail
   go_ret2
   exact ⟨⟨none, 0, by rw [HPE2.out, HPR2.out]; rfl, by rw [HPR2.out]; exact Cells.nil _ _⟩, by first | exact hbw | (rw [hW1]; exact hbw)⟩
end Go.Proofs.YtahnadhlagabgaaGreatDoor

namespace Go.Proofs.YtahnadhlagabgaaGreatDoor
open Go.RowKit
theorem prvQ_len {n d L : Int} {ys : List (List Int)} : ∀ {l : List (Pt L)} {fs : List (Int × Int)}, fs.length ≠ l.length -> prvL n d L ys l fs = false := by
 intro l
 induction l with
 | nil =>
   intro fs h
   simp only [prvL, List.length_nil] at h ⊢
   exact decide_eq_false h
 | cons x r ih =>
   intro fs h
   cases fs with
   | nil => rfl
   | cons f fs =>
     simp only [prvL]
     rw [ih (by simpa using h), Bool.and_false]
theorem prvQ_at {n d L : Int} {ys : List (List Int)} : ∀ {l : List (Pt L)} {fs : List (Int × Int)} {i : Nat} {x : Pt L} {f : Int × Int}, l[i]? = some x -> fs[i]? = some f -> prvI n d L ys x f = false -> prvL n d L ys l fs = false := by
 intro l
 induction l with
 | nil => intro fs i x f h; simp at h
 | cons y r ih =>
   intro fs i x f h1 h2 h3
   cases fs with
   | nil => simp at h2
   | cons g fs =>
     cases i with
     | zero =>
       simp at h1 h2
       subst h1 h2
       simp only [prvL]
       rw [h3]; rfl
     | succ i =>
       simp only [prvL]
       rw [ih (by simpa using h1) (by simpa using h2) h3, Bool.and_false]
theorem prvQ_yes {n d L : Int} {ys : List (List Int)} : ∀ {l : List (Pt L)} {fs : List (Int × Int)}, fs.length = l.length -> (∀ (i : Nat) x f, l[i]? = some x -> fs[i]? = some f -> prvI n d L ys x f = true) -> prvL n d L ys l fs = true := by
 intro l
 induction l with
 | nil => intro fs h _; simp at h; subst h; rfl
 | cons y r ih =>
   intro fs h hA
   cases fs with
   | nil => simp at h
   | cons g fs =>
     simp only [prvL]
     rw [hA 0 y g rfl rfl, ih (by simpa using h) (fun i x f h1 h2 => hA (i + 1) x f (by simpa using h1) (by simpa using h2))]; rfl
set_option maxRecDepth 1000000 in
set_option maxHeartbeats 8000000 in
theorem refProves_any (L a b c d : Int) (cs : List (Int × Int)) (ao : Option Addr) (cap : Nat) (s : ByteArray) (fs : List (Int × Int)) (fo : Option Addr) (fc : Nat) (w : World) (hs : s.size <= 1048576) (hc : Cells w ao (prs cs)) (hl : cs.length <= 9223372036854775807) (hfc : Cells w fo (prs fs)) (hfl : fs.length <= 9223372036854775807) :
 Calls Tryz.prog 15 #[.agg #[.int .i64 L, .int .i64 a, .int .i64 b, .int .i64 c, .int .i64 d], .slice ao cs.length cap, .string s, .slice fo fs.length fc] w fun e w' => e = .returned (.tuple #[.bool (prvR L a b c d cs s fs), .int .i64 (covE L a b c d cs s)]) /\ Below w.heap.size w w' := by
 obtain ⟨W0, hW0⟩ : ∃ W0, w.alloc (.cells #[.int .i64 L, .int .i64 a, .int .i64 b, .int .i64 c, .int .i64 d] 23) = W0 := ⟨_, rfl⟩
 have hb0 : Below w.heap.size w W0 := by rw [<- hW0]; exact (Below.refl _ w).alloc (Nat.le_refl _) _
 have hs0 : W0.heap.size = w.heap.size + 1 := by rw [<- hW0]; simp
 have q0 : Blk W0 w.heap.size 23 #[.int .i64 L, .int .i64 a, .int .i64 b, .int .i64 c, .int .i64 d] := by rw [<- hW0]; exact heap_alloc_new w _
 have hkr : ∀ W, Below W0.heap.size W0 W -> (W.cell? ⟨w.heap.size, 0, none⟩ = some (.int .i64 L) /\ W.cell? ⟨w.heap.size, 1, none⟩ = some (.int .i64 a) /\ W.cell? ⟨w.heap.size, 2, none⟩ = some (.int .i64 b) /\ W.cell? ⟨w.heap.size, 3, none⟩ = some (.int .i64 c) /\ W.cell? ⟨w.heap.size, 4, none⟩ = some (.int .i64 d)) /\ Below w.heap.size w W /\ Cells W ao (prs cs) /\ Cells W fo (prs fs) := fun W h => by
  have hq := q0.below h (by omega)
  have hb := hb0.trans (h.mono hb0.size)
  exact ⟨⟨hq.cell 0, hq.cell 1, hq.cell 2, hq.cell 3, hq.cell 4⟩, hb, hc.below hb (Nat.le_refl _), hfc.below hb (Nat.le_refl _)⟩
 have hbg := refBegin_any L a b c d cs ao cap s W0 hs (hc.below hb0 (Nat.le_refl _)) hl
 have HW0 := Lib.hid hW0; have HKR := Lib.hid hkr; have HBG := Lib.hid hbg
 clear hW0 hb0 q0 hkr hbg hc hfc
 go_enter Tryz.func15, Tryz.ntmps15
 go_wp2_with fail
 rw [HW0.out]
 refine HBG.out.mono ?_
 rintro e w1 ⟨⟨n, m, rfl, hnm⟩, hb1⟩
 obtain ⟨W1, hW1⟩ : ∃ W1, w1.alloc (.cells #[.int .i64 n, .int .i64 m] 88) = W1 := ⟨_, rfl⟩
 have hbx : Below w1.heap.size w1 W1 := by rw [<- hW1]; exact (Below.refl w1.heap.size w1).alloc (Nat.le_refl _) _
 have hs1 : W1.heap.size = w1.heap.size + 1 := by rw [<- hW1]; simp
 have q1 : Blk W1 w1.heap.size 88 #[.int .i64 n, .int .i64 m] := by rw [<- hW1]; exact heap_alloc_new w1 _
 have hb01 := hb1.trans (hbx.mono hb1.size)
 by_cases hE : covE L a b c d cs s = 0
 · have hbs := hnm hE
   obtain ⟨hfo, hbk, _⟩ := covE_0 hE
   obtain ⟨_, _, hn6, hm6, _, _⟩ := barS_some hbs
   have hfm := fam_true hfo
   have hPV : prvR L a b c d cs s fs = prvL n m L (wvs L cs) (ptsAll L a c (d - c + 1).toNat (b - a + 1).toNat) fs := by unfold prvR; rw [if_pos hE, hbs]
   have hpt := fun W => refPoints_any L a b c d W hfo
   have hpl := ptsAll_len L a c (d - c + 1).toNat (b - a + 1).toNat
   have h400 : (ptsAll L a c (d - c + 1).toNat (b - a + 1).toNat).length <= 400 := Nat.le_trans hpl hfm.2.2.2.2.2.2.2.2
   have hb2 := hbk
   simp only [bankOK, Bool.and_eq_true, decide_eq_true_eq, List.all_eq_true] at hb2
   obtain ⟨⟨h64, hall⟩, -⟩ := hb2
   have hwok : ∀ j r t, cs[j]? = some (r, t) -> waveOK L r t = true := fun j r t hj => by
    have h3 := hall _ (List.mem_of_getElem? hj)
    simp only [chOK, Bool.and_eq_true] at h3
    exact h3.1
   have hL1 := hfm.1
   have hL2 := hfm.2.1
   have hre := fun (xs ys : List Int) (t : Int) (xa : Option Addr) (xc : Nat) (ya : Option Addr) (yc : Nat) (W : World) (hx : xs.length = 64) (hy : ys.length = 64) (h1 : ∀ x ∈ xs, -127 <= x /\ x <= 127) (h2 : ∀ x ∈ ys, -127 <= x /\ x <= 127) (s1 : -1000 <= t) (s2 : t <= 1000) => refReaches_any (n : Int) (m : Int) L.toNat xs ys t xa xc ya yc W hx hy (by omega) (by omega) h1 h2 s1 s2 (by omega) (by omega) (by omega) (by omega)
   generalize ptsAll L a c (d - c + 1).toNat (b - a + 1).toNat = l at *
   have HPV := Lib.hid hPV; have HPT := Lib.hid hpt; have HRE := Lib.hid hre; have HWOK := Lib.hid hwok
   have HQ1 := Lib.hid q1; have HB1 := Lib.hid hb01; have HW1 := Lib.hid hW1
   rw [hE]
   have HEE := Lib.hid hE
   clear hnm hbs hfo hbk hfm hPV hpt hpl hre q1 hb1 hbx hn6 hm6 hall hwok
   obtain ⟨⟨k0, k1, k2, k3, k4⟩, -, -, -⟩ := HKR.out W1 hb01
   go_wp2_with fail
   refine (HPT.out W1).mono ?_
   rintro e w2 ⟨⟨pb, pc, rfl, hpc⟩, hb2⟩
   have HPC := Lib.hid hpc
   have HB12 := Lib.hid (HB1.out.trans (hb2.mono HB1.out.size))
   have HQ2 := Lib.hid (HQ1.out.below hb2 (by omega))
   clear hpc hb2 k0 k1 k2 k3 k4 hb01 hW1
   by_cases hlen : fs.length = l.length
   · have e1 : ((fs.length : Int) != (l.length : Int)) = false := by rw [hlen]; simp
     go_wp2_with fail
     clear e1
     go_loopw [13] (fun iv wr => ∃ i : Nat, i <= l.length /\ iv = .int .i64 i /\ (∀ (j : Nat) x f, j < i -> l[j]? = some x -> fs[j]? = some f -> prvI n m L (wvs L cs) x f = true) /\ Below w2.heap.size w2 wr) (fun iv _ => l.length - (intOf iv).toNat)
     case atStart => exact ⟨0, Nat.zero_le _, rfl, fun j x f hj => by omega, Below.refl _ _⟩
     case round =>
      obtain ⟨i, hi', rfl, hall, hbe⟩ := hrel
      have HALL := Lib.hid hall
      have hbe0 := HB12.out.trans (hbe.mono HB12.out.size)
      obtain ⟨⟨k0, -, -, -, -⟩, hbw, hcr, hfr⟩ := HKR.out wr hbe0
      have hq := HQ2.out.below hbe HQ2.out.lt
      have m0 : wr.cell? ⟨w1.heap.size, 0, none⟩ = some (.int .i64 n) := hq.cell 0
      have m1 : wr.cell? ⟨w1.heap.size, 1, none⟩ = some (.int .i64 m) := hq.cell 1
      have HCR := Lib.hid hcr; have HBW := Lib.hid hbw; have HFR := Lib.hid hfr
      clear hall hcr hq hbw hfr
      by_cases hlt : i < l.length
      · obtain ⟨x, hx⟩ := get_of_lt hlt
        obtain ⟨⟨f1, f2⟩, hf⟩ := get_of_lt (show i < fs.length by omega)
        have hxx := pairs_get hx
        have hll : (pairsOf l).length = l.length := by simp [pairsOf]
        have hpcr := HPC.out.below hbe (Nat.le_refl _)
        obtain ⟨bk, off, rfl⟩ := hpcr.addr (prs_ne (by omega))
        obtain ⟨bf, offf, rfl⟩ := HFR.out.addr (prs_ne (by omega))
        have c1 := hpcr.at (prs_fst hxx)
        have c2 := hpcr.at (prs_snd hxx)
        have d1 := HFR.out.at (prs_fst hf)
        have d2 := HFR.out.at (prs_snd hf)
        rw [<- Nat.add_assoc] at c2 d2
        simp only at d1 d2
        have i1 : (i : Int) < (l.length : Int) := by omega
        have i2 : (0 : Int) <= (i : Int) := by omega
        have i3 : (i : Int) < (fs.length : Int) := by omega
        have HX := Lib.hid hx; have HF := Lib.hid hf
        obtain ⟨wq, hwq⟩ : ∃ wq, wr.alloc (.cells #[.int .i64 f1, .int .i64 f2] 93) = wq := ⟨_, rfl⟩
        have hbq : Below wr.heap.size wr wq := by rw [<- hwq]; exact (Below.refl wr.heap.size wr).alloc (Nat.le_refl _) _
        have hqk : Blk wq wr.heap.size 93 #[.int .i64 f1, .int .i64 f2] := by rw [<- hwq]; exact heap_alloc_new wr _
        have hks : ∀ W, Below wq.heap.size wq W -> (W.cell? ⟨w.heap.size, 0, none⟩ = some (.int .i64 L) /\ W.cell? ⟨w1.heap.size, 0, none⟩ = some (.int .i64 n) /\ W.cell? ⟨w1.heap.size, 1, none⟩ = some (.int .i64 m) /\ W.cell? ⟨wr.heap.size, 0, none⟩ = some (.int .i64 f1) /\ W.cell? ⟨wr.heap.size, 1, none⟩ = some (.int .i64 f2) /\ W.cell? ⟨bk, off + i * 2, none⟩ = some (.int .i64 x.1.1) /\ W.cell? ⟨bk, off + i * 2 + 1, none⟩ = some (.int .i64 x.1.2)) /\ Below wr.heap.size wr W := fun W h => by
         have h2 := hbq.trans (h.mono hbq.size)
         have hk := hqk.below h hqk.lt
         exact ⟨⟨cell_keep k0 h2 (Nat.le_refl _), cell_keep m0 h2 (Nat.le_refl _), cell_keep m1 h2 (Nat.le_refl _), hk.cell 0, hk.cell 1, cell_keep c1 h2 (Nat.le_refl _), cell_keep c2 h2 (Nat.le_refl _)⟩, h2⟩
        obtain ⟨⟨s0, s1, s2, s3, s4, s5, s6⟩, hbwq⟩ := hks wq (Below.refl _ _)
        have HSD : Hid (wq.drew.cell? ⟨w.heap.size, 0, none⟩ = some (.int .i64 L) /\ wq.drew.cell? ⟨w1.heap.size, 0, none⟩ = some (.int .i64 n) /\ wq.drew.cell? ⟨w1.heap.size, 1, none⟩ = some (.int .i64 m) /\ wq.drew.cell? ⟨wr.heap.size, 0, none⟩ = some (.int .i64 f1) /\ wq.drew.cell? ⟨wr.heap.size, 1, none⟩ = some (.int .i64 f2) /\ wq.drew.cell? ⟨bk, off + i * 2, none⟩ = some (.int .i64 x.1.1) /\ wq.drew.cell? ⟨bk, off + i * 2 + 1, none⟩ = some (.int .i64 x.1.2) /\ True /\ True) := Lib.hid ⟨s0, s1, s2, s3, s4, s5, s6, trivial, trivial⟩
        have hbx : Below w.heap.size w wq.drew := (HBW.out.trans (hbwq.mono HBW.out.size)).drew
        have HKS0 := Lib.hid hks; have HBX := Lib.hid hbx; have HBWQ := Lib.hid hbwq
        have hi1 := fun W => rin2_any f1 0 ((cs.length : Nat) - 1) W
        have hi2 := fun W => rin2_any f2 (1 - L) (L - 1) W
        have hpi : prvI n m L (wvs L cs) x (f1, f2) = (inB 0 f1 (((wvs L cs).length : Int) - 1) && inB (1 - L) f2 (L - 1) && rchB n m (wav L x.1.1 x.1.2) ((wvs L cs).getD f1.toNat []) L f2) := rfl
        rw [show (wvs L cs).length = cs.length by simp [wvs]] at hpi
        have HPI := Lib.hid hpi
        clear hxx hll hpcr hx hf hks hqk hbq hbwq hbx hpi s0 s1 s2 s3 s4 s5 s6 k0 m0 m1 c1 c2
        cases hr1 : inB 0 f1 (((cs.length : Nat) : Int) - 1) with
        | false =>
          rw [hr1] at hi1
          have hp : prvR L a b c d cs s fs = false := by rw [HPV.out]; exact prvQ_at HX.out HF.out (by rw [HPI.out, hr1]; rfl)
          have HP := Lib.hid hp; have HI1 := Lib.hid hi1
          clear hr1 hi1 hi2 hp
          go_wp2_with fail
          refine wp_region_held_drew (S := (fun w' => w'.cell? ⟨w.heap.size, 0, none⟩ = some (.int .i64 L) /\ w'.cell? ⟨w1.heap.size, 0, none⟩ = some (.int .i64 n) /\ w'.cell? ⟨w1.heap.size, 1, none⟩ = some (.int .i64 m) /\ w'.cell? ⟨wr.heap.size, 0, none⟩ = some (.int .i64 f1) /\ w'.cell? ⟨wr.heap.size, 1, none⟩ = some (.int .i64 f2) /\ w'.cell? ⟨bk, off + i * 2, none⟩ = some (.int .i64 x.1.1) /\ w'.cell? ⟨bk, off + i * 2 + 1, none⟩ = some (.int .i64 x.1.2) /\ True /\ True)) (by kernel_rfl) HSD.out (fun hHeld => ?_)
          refine tkV 0 (.pointer (some ⟨wr.heap.size, 0, none⟩)) hHeld ?_
          refine tkV 1 (.int .i64 f1) hHeld ?_
          refine tkV 2 (.slice ao cs.length cap) hHeld ?_
          refine tkV 3 (.int .i64 (cs.length : Nat)) hHeld ?_
          refine tkV 4 (.int .i64 ((cs.length : Nat) - 1)) hHeld ?_
          refine tkC 5 (fun K hK => ?_)
          go_simp
          refine (HI1.out _).mono ?_
          rintro e w9 ⟨rfl, rfl⟩
          refine hK.out _ _ hHeld (fun hA => ?_)
          clear hK K
          try simp only [Act.put, List.setIfInBounds_toArray, List.set_cons_zero, List.set_cons_succ]
          refine tkV 6 (.bool true) hHeld ?_
          refine tkV 7 (.bool true) hHeld ?_
          refine tkS 8 hHeld ?_
          refine tkS 9 hHeld ?_
          refine tkS 10 hHeld ?_
          refine tkS 11 hHeld ?_
          refine tkS 12 hHeld ?_
          refine tkS 13 hHeld ?_
          refine tkS 14 hHeld ?_
          refine tkS 15 hHeld ?_
          refine tkS 16 hHeld ?_
          refine tkS 17 hHeld ?_
          refine tkV 18 (.bool true) hHeld ?_
          refine tkV 19 (.bool true) hHeld ?_
          refine tkS 20 hHeld ?_
          refine tkS 21 hHeld ?_
          refine tkS 22 hHeld ?_
          refine tkS 23 hHeld ?_
          refine tkS 24 hHeld ?_
          refine tkS 25 hHeld ?_
          refine tkS 26 hHeld ?_
          refine tkS 27 hHeld ?_
          refine tkS 28 hHeld ?_
          refine tkS 29 hHeld ?_
          refine tkS 30 hHeld ?_
          refine tkS 31 hHeld ?_
          refine tkS 32 hHeld ?_
          refine tkS 33 hHeld ?_
          refine tkS 34 hHeld ?_
          refine tkS 35 hHeld ?_
          refine tkS 36 hHeld ?_
          refine tkS 37 hHeld ?_
          refine tkS 38 hHeld ?_
          refine tkS 39 hHeld ?_
          refine tkV 40 (.bool true) hHeld ?_
          refine wpAnyH_done (by kernel_rfl) ?_ _
          go_wp2_with fail
          go_ret2
          exact ⟨by rw [HP.out, HEE.out]; rfl, HBX.out⟩
        | true =>
          rw [hr1] at hi1
          cases hr2 : inB (1 - L) f2 (L - 1) with
          | false =>
            rw [hr2] at hi2
            have hp : prvR L a b c d cs s fs = false := by rw [HPV.out]; exact prvQ_at HX.out HF.out (by rw [HPI.out, hr1, hr2]; rfl)
            have HP := Lib.hid hp; have HI1 := Lib.hid hi1; have HI2 := Lib.hid hi2
            clear hr1 hr2 hi1 hi2 hp
            go_wp2_with fail
            refine wp_region_held_drew (S := (fun w' => w'.cell? ⟨w.heap.size, 0, none⟩ = some (.int .i64 L) /\ w'.cell? ⟨w1.heap.size, 0, none⟩ = some (.int .i64 n) /\ w'.cell? ⟨w1.heap.size, 1, none⟩ = some (.int .i64 m) /\ w'.cell? ⟨wr.heap.size, 0, none⟩ = some (.int .i64 f1) /\ w'.cell? ⟨wr.heap.size, 1, none⟩ = some (.int .i64 f2) /\ w'.cell? ⟨bk, off + i * 2, none⟩ = some (.int .i64 x.1.1) /\ w'.cell? ⟨bk, off + i * 2 + 1, none⟩ = some (.int .i64 x.1.2) /\ True /\ True)) (by kernel_rfl) HSD.out (fun hHeld => ?_)
            refine tkV 0 (.pointer (some ⟨wr.heap.size, 0, none⟩)) hHeld ?_
            refine tkV 1 (.int .i64 f1) hHeld ?_
            refine tkV 2 (.slice ao cs.length cap) hHeld ?_
            refine tkV 3 (.int .i64 (cs.length : Nat)) hHeld ?_
            refine tkV 4 (.int .i64 ((cs.length : Nat) - 1)) hHeld ?_
            refine tkC 5 (fun K hK => ?_)
            go_simp
            refine (HI1.out _).mono ?_
            rintro e w9 ⟨rfl, rfl⟩
            refine hK.out _ _ hHeld (fun hA => ?_)
            clear hK K
            try simp only [Act.put, List.setIfInBounds_toArray, List.set_cons_zero, List.set_cons_succ]
            refine tkV 6 (.bool false) hHeld ?_
            refine tkV 7 (.bool false) hHeld ?_
            refine tkV 8 (.pointer (some ⟨wr.heap.size, 1, none⟩)) hHeld ?_
            refine tkV 9 (.int .i64 f2) hHeld ?_
            refine tkV 10 (.pointer (some ⟨w.heap.size, 0, none⟩)) hHeld ?_
            refine tkV 11 (.int .i64 L) hHeld ?_
            refine tkV 12 (.int .i64 (1 - L)) hHeld ?_
            refine tkV 13 (.pointer (some ⟨w.heap.size, 0, none⟩)) hHeld ?_
            refine tkV 14 (.int .i64 L) hHeld ?_
            refine tkV 15 (.int .i64 (L - 1)) hHeld ?_
            refine tkC 16 (fun K hK => ?_)
            go_simp
            refine (HI2.out _).mono ?_
            rintro e w9 ⟨rfl, rfl⟩
            refine hK.out _ _ hHeld (fun hB => ?_)
            clear hK K
            try simp only [Act.put, List.setIfInBounds_toArray, List.set_cons_zero, List.set_cons_succ]
            refine tkV 17 (.bool true) hHeld ?_
            refine tkV 18 (.bool true) hHeld ?_
            refine tkV 19 (.bool true) hHeld ?_
            refine tkS 20 hHeld ?_
            refine tkS 21 hHeld ?_
            refine tkS 22 hHeld ?_
            refine tkS 23 hHeld ?_
            refine tkS 24 hHeld ?_
            refine tkS 25 hHeld ?_
            refine tkS 26 hHeld ?_
            refine tkS 27 hHeld ?_
            refine tkS 28 hHeld ?_
            refine tkS 29 hHeld ?_
            refine tkS 30 hHeld ?_
            refine tkS 31 hHeld ?_
            refine tkS 32 hHeld ?_
            refine tkS 33 hHeld ?_
            refine tkS 34 hHeld ?_
            refine tkS 35 hHeld ?_
            refine tkS 36 hHeld ?_
            refine tkS 37 hHeld ?_
            refine tkS 38 hHeld ?_
            refine tkS 39 hHeld ?_
            refine tkV 40 (.bool true) hHeld ?_
            refine wpAnyH_done (by kernel_rfl) ?_ _
            go_wp2_with fail
            go_ret2
            exact ⟨by rw [HP.out, HEE.out]; rfl, HBX.out⟩
          | true =>
            rw [hr2] at hi2
            have hr1' := hr1
            have hr2' := hr2
            simp only [inB, decide_eq_true_eq] at hr1' hr2'
            obtain ⟨k1, rfl⟩ : ∃ k1 : Nat, f1 = (k1 : Int) := ⟨f1.toNat, by omega⟩
            obtain ⟨⟨r, t⟩, hrt⟩ := get_of_lt (show k1 < cs.length by omega)
            obtain ⟨bc, oc, rfl⟩ := HCR.out.addr (prs_ne (by omega))
            have b1 := HCR.out.at (prs_fst hrt)
            have b2 := HCR.out.at (prs_snd hrt)
            rw [<- Nat.add_assoc] at b2
            simp only at b1 b2
            have hks : ∀ W, Below wq.heap.size wq W -> (W.cell? ⟨w.heap.size, 0, none⟩ = some (.int .i64 L) /\ W.cell? ⟨w1.heap.size, 0, none⟩ = some (.int .i64 n) /\ W.cell? ⟨w1.heap.size, 1, none⟩ = some (.int .i64 m) /\ W.cell? ⟨wr.heap.size, 0, none⟩ = some (.int .i64 k1) /\ W.cell? ⟨wr.heap.size, 1, none⟩ = some (.int .i64 f2) /\ W.cell? ⟨bk, off + i * 2, none⟩ = some (.int .i64 x.1.1) /\ W.cell? ⟨bk, off + i * 2 + 1, none⟩ = some (.int .i64 x.1.2) /\ W.cell? ⟨bc, oc + k1 * 2, none⟩ = some (.int .i64 r) /\ W.cell? ⟨bc, oc + k1 * 2 + 1, none⟩ = some (.int .i64 t)) := fun W h => by
             obtain ⟨⟨s0, s1, s2, s3, s4, s5, s6⟩, hb⟩ := HKS0.out W h
             exact ⟨s0, s1, s2, s3, s4, s5, s6, cell_keep b1 hb (Nat.le_refl _), cell_keep b2 hb (Nat.le_refl _)⟩
            have hsc := hks wq.drew ((Below.refl _ _).drew)
            have hwa := fun W => refWaveL_any L x.1.1 x.1.2 W x.2.1
            have hwb := fun W => refWaveL_any L r t W (HWOK.out k1 r t hrt)
            have hgd : (wvs L cs).getD ((k1 : Int)).toNat [] = wav L r t := by
             rw [Int.toNat_natCast, List.getD_eq_getElem?_getD, wvs_get hrt]; rfl
            have hrr := fun (xa : Option Addr) (xc : Nat) (ya : Option Addr) (yc : Nat) (W : World) => HRE.out (wav L x.1.1 x.1.2) (wav L r t) f2 xa xc ya yc W (wav_length _ _ _) (wav_length _ _ _) (wav_bd _ _ _) (wav_bd _ _ _) (by omega) (by omega)
            rw [hgd] at HPI
            rw [show ((L.toNat : Nat) : Int) = L by omega] at hrr
            have j1 : (k1 : Int) < (cs.length : Int) := by omega
            have j2 : (0 : Int) <= (k1 : Int) := by omega
            cases hrc : rchB n m (wav L x.1.1 x.1.2) (wav L r t) L f2 with
            | false =>
              rw [hrc] at hrr
              have hp : prvR L a b c d cs s fs = false := by rw [HPV.out]; exact prvQ_at HX.out HF.out (by rw [HPI.out, hr1, hr2, hrc]; rfl)
              have HP := Lib.hid hp; have HI1 := Lib.hid hi1; have HI2 := Lib.hid hi2; have HKS := Lib.hid hks; have HSC := Lib.hid hsc; have HWA := Lib.hid hwa; have HWB := Lib.hid hwb; have HRR := Lib.hid hrr
              clear hr1 hr2 hi1 hi2 hp hks hsc hwa hwb hrr hrc b1 b2 hrt hgd hr1' hr2'
              go_wp2_with fail
              refine wp_region_held_drew (S := (fun w' => w'.cell? ⟨w.heap.size, 0, none⟩ = some (.int .i64 L) /\ w'.cell? ⟨w1.heap.size, 0, none⟩ = some (.int .i64 n) /\ w'.cell? ⟨w1.heap.size, 1, none⟩ = some (.int .i64 m) /\ w'.cell? ⟨wr.heap.size, 0, none⟩ = some (.int .i64 k1) /\ w'.cell? ⟨wr.heap.size, 1, none⟩ = some (.int .i64 f2) /\ w'.cell? ⟨bk, off + i * 2, none⟩ = some (.int .i64 x.1.1) /\ w'.cell? ⟨bk, off + i * 2 + 1, none⟩ = some (.int .i64 x.1.2) /\ w'.cell? ⟨bc, oc + k1 * 2, none⟩ = some (.int .i64 r) /\ w'.cell? ⟨bc, oc + k1 * 2 + 1, none⟩ = some (.int .i64 t))) (by kernel_rfl) HSC.out (fun hHeld => ?_)
              refine tkV 0 (.pointer (some ⟨wr.heap.size, 0, none⟩)) hHeld ?_
              refine tkV 1 (.int .i64 k1) hHeld ?_
              refine tkV 2 (.slice (some ⟨bc, oc, none⟩) cs.length cap) hHeld ?_
              refine tkV 3 (.int .i64 (cs.length : Nat)) hHeld ?_
              refine tkV 4 (.int .i64 ((cs.length : Nat) - 1)) hHeld ?_
              refine tkC 5 (fun K hK => ?_)
              go_simp
              refine (HI1.out _).mono ?_
              rintro e w9 ⟨rfl, rfl⟩
              refine hK.out _ _ hHeld (fun hA => ?_)
              clear hK K
              try simp only [Act.put, List.setIfInBounds_toArray, List.set_cons_zero, List.set_cons_succ]
              refine tkV 6 (.bool false) hHeld ?_
              refine tkV 7 (.bool false) hHeld ?_
              refine tkV 8 (.pointer (some ⟨wr.heap.size, 1, none⟩)) hHeld ?_
              refine tkV 9 (.int .i64 f2) hHeld ?_
              refine tkV 10 (.pointer (some ⟨w.heap.size, 0, none⟩)) hHeld ?_
              refine tkV 11 (.int .i64 L) hHeld ?_
              refine tkV 12 (.int .i64 (1 - L)) hHeld ?_
              refine tkV 13 (.pointer (some ⟨w.heap.size, 0, none⟩)) hHeld ?_
              refine tkV 14 (.int .i64 L) hHeld ?_
              refine tkV 15 (.int .i64 (L - 1)) hHeld ?_
              refine tkC 16 (fun K hK => ?_)
              go_simp
              refine (HI2.out _).mono ?_
              rintro e w9 ⟨rfl, rfl⟩
              refine hK.out _ _ hHeld (fun hB => ?_)
              clear hK K
              try simp only [Act.put, List.setIfInBounds_toArray, List.set_cons_zero, List.set_cons_succ]
              refine tkV 17 (.bool false) hHeld ?_
              refine tkV 18 (.bool false) hHeld ?_
              refine tkV 19 (.bool false) hHeld ?_
              refine tkV 20 (.pointer (some ⟨w.heap.size, 0, none⟩)) hHeld ?_
              refine tkV 21 (.int .i64 L) hHeld ?_
              refine tkV 22 (.slice (some ⟨bk, off, none⟩) l.length pc) hHeld ?_
              refine tkV 23 (.int .i64 i) hHeld ?_
              refine tkV 24 (.pointer (some ⟨bk, off + i * 2, none⟩)) hHeld ?_
              refine tkV 25 (.agg #[.int .i64 x.1.1, .int .i64 x.1.2]) hHeld ?_
              refine tkV 27 (.pointer (some ⟨w.heap.size, 0, none⟩)) hHeld ?_
              refine tkV 28 (.int .i64 L) hHeld ?_
              refine tkV 29 (.slice (some ⟨bc, oc, none⟩) cs.length cap) hHeld ?_
              refine tkV 30 (.pointer (some ⟨wr.heap.size, 0, none⟩)) hHeld ?_
              refine tkV 31 (.int .i64 k1) hHeld ?_
              refine tkV 32 (.pointer (some ⟨bc, oc + k1 * 2, none⟩)) hHeld ?_
              refine tkV 33 (.agg #[.int .i64 r, .int .i64 t]) hHeld ?_
              refine tkV 35 (.pointer (some ⟨wr.heap.size, 1, none⟩)) hHeld ?_
              refine tkV 36 (.int .i64 f2) hHeld ?_
              refine tkV 37 (.agg #[.int .i64 n, .int .i64 m]) hHeld ?_
              refine tkC 26 (fun K hK => ?_)
              go_simp
              refine (HWA.out _).mono ?_
              rintro e wa ⟨⟨xa, xc, rfl, hxa⟩, hba⟩
              have hbz1 := ((Below.refl wq.heap.size wq).drew).trans hba
              have HS1 := HKS.out wa hbz1
              have HXA := Lib.hid hxa; have HBZ1 := Lib.hid hbz1
              clear hxa hba hbz1
              refine hK.out _ _ HS1 (fun hC => ?_)
              clear hK K
              try simp only [Act.put, List.setIfInBounds_toArray, List.set_cons_zero, List.set_cons_succ]
              refine tkC 34 (fun K hK => ?_)
              go_simp
              refine (HWB.out _).mono ?_
              rintro e wb ⟨⟨ya, yc, rfl, hya⟩, hbb⟩
              have hbz2 := HBZ1.out.trans (hbb.mono HBZ1.out.size)
              have HS2 := HKS.out wb hbz2
              have HYA := Lib.hid hya; have HXB := Lib.hid (HXA.out.below hbb (Nat.le_refl _)); have HBZ2 := Lib.hid hbz2
              clear hya hbb hbz2
              refine hK.out _ _ HS2 (fun hD => ?_)
              clear hK K
              try simp only [Act.put, List.setIfInBounds_toArray, List.set_cons_zero, List.set_cons_succ]
              refine tkC 38 (fun K hK => ?_)
              go_simp
              refine (HRR.out _ _ _ _ _ HXB.out HYA.out).mono ?_
              rintro e wc ⟨rfl, hbc⟩
              have hbz3 := HBZ2.out.trans (hbc.mono HBZ2.out.size)
              have HS3 := HKS.out wc hbz3
              have HBZ3 := Lib.hid hbz3
              clear hbc hbz3
              refine hK.out _ _ HS3 (fun hE => ?_)
              clear hK K
              try simp only [Act.put, List.setIfInBounds_toArray, List.set_cons_zero, List.set_cons_succ]
              refine tkV 39 (.bool true) HS3 ?_
              refine tkV 40 (.bool true) HS3 ?_
              refine wpAnyH_done (by kernel_rfl) ?_ _
              have hbz := (HKS0.out wc HBZ3.out).2
              go_wp2_with fail
              go_ret2
              exact ⟨by rw [HP.out, HEE.out]; rfl, HBW.out.trans (hbz.mono HBW.out.size)⟩
            | true =>
              rw [hrc] at hrr
              have hall2 : ∀ (j : Nat) y f, j < i + 1 -> l[j]? = some y -> fs[j]? = some f -> prvI n m L (wvs L cs) y f = true := fun j y f hj h1 h2 => by
               by_cases hji : j = i
               · subst hji
                 rw [HX.out] at h1
                 rw [HF.out] at h2
                 cases h1; cases h2
                 rw [HPI.out, hr1, hr2, hrc]; rfl
               · exact HALL.out j y f (by omega) h1 h2
              have HALL2 := Lib.hid hall2; have HI1 := Lib.hid hi1; have HI2 := Lib.hid hi2; have HKS := Lib.hid hks; have HSC := Lib.hid hsc; have HWA := Lib.hid hwa; have HWB := Lib.hid hwb; have HRR := Lib.hid hrr
              clear hr1 hr2 hi1 hi2 hall2 hks hsc hwa hwb hrr hrc b1 b2 hrt hgd hr1' hr2'
              go_wp2_with fail
              refine wp_region_held_drew (S := (fun w' => w'.cell? ⟨w.heap.size, 0, none⟩ = some (.int .i64 L) /\ w'.cell? ⟨w1.heap.size, 0, none⟩ = some (.int .i64 n) /\ w'.cell? ⟨w1.heap.size, 1, none⟩ = some (.int .i64 m) /\ w'.cell? ⟨wr.heap.size, 0, none⟩ = some (.int .i64 k1) /\ w'.cell? ⟨wr.heap.size, 1, none⟩ = some (.int .i64 f2) /\ w'.cell? ⟨bk, off + i * 2, none⟩ = some (.int .i64 x.1.1) /\ w'.cell? ⟨bk, off + i * 2 + 1, none⟩ = some (.int .i64 x.1.2) /\ w'.cell? ⟨bc, oc + k1 * 2, none⟩ = some (.int .i64 r) /\ w'.cell? ⟨bc, oc + k1 * 2 + 1, none⟩ = some (.int .i64 t))) (by kernel_rfl) HSC.out (fun hHeld => ?_)
              refine tkV 0 (.pointer (some ⟨wr.heap.size, 0, none⟩)) hHeld ?_
              refine tkV 1 (.int .i64 k1) hHeld ?_
              refine tkV 2 (.slice (some ⟨bc, oc, none⟩) cs.length cap) hHeld ?_
              refine tkV 3 (.int .i64 (cs.length : Nat)) hHeld ?_
              refine tkV 4 (.int .i64 ((cs.length : Nat) - 1)) hHeld ?_
              refine tkC 5 (fun K hK => ?_)
              go_simp
              refine (HI1.out _).mono ?_
              rintro e w9 ⟨rfl, rfl⟩
              refine hK.out _ _ hHeld (fun hA => ?_)
              clear hK K
              try simp only [Act.put, List.setIfInBounds_toArray, List.set_cons_zero, List.set_cons_succ]
              refine tkV 6 (.bool false) hHeld ?_
              refine tkV 7 (.bool false) hHeld ?_
              refine tkV 8 (.pointer (some ⟨wr.heap.size, 1, none⟩)) hHeld ?_
              refine tkV 9 (.int .i64 f2) hHeld ?_
              refine tkV 10 (.pointer (some ⟨w.heap.size, 0, none⟩)) hHeld ?_
              refine tkV 11 (.int .i64 L) hHeld ?_
              refine tkV 12 (.int .i64 (1 - L)) hHeld ?_
              refine tkV 13 (.pointer (some ⟨w.heap.size, 0, none⟩)) hHeld ?_
              refine tkV 14 (.int .i64 L) hHeld ?_
              refine tkV 15 (.int .i64 (L - 1)) hHeld ?_
              refine tkC 16 (fun K hK => ?_)
              go_simp
              refine (HI2.out _).mono ?_
              rintro e w9 ⟨rfl, rfl⟩
              refine hK.out _ _ hHeld (fun hB => ?_)
              clear hK K
              try simp only [Act.put, List.setIfInBounds_toArray, List.set_cons_zero, List.set_cons_succ]
              refine tkV 17 (.bool false) hHeld ?_
              refine tkV 18 (.bool false) hHeld ?_
              refine tkV 19 (.bool false) hHeld ?_
              refine tkV 20 (.pointer (some ⟨w.heap.size, 0, none⟩)) hHeld ?_
              refine tkV 21 (.int .i64 L) hHeld ?_
              refine tkV 22 (.slice (some ⟨bk, off, none⟩) l.length pc) hHeld ?_
              refine tkV 23 (.int .i64 i) hHeld ?_
              refine tkV 24 (.pointer (some ⟨bk, off + i * 2, none⟩)) hHeld ?_
              refine tkV 25 (.agg #[.int .i64 x.1.1, .int .i64 x.1.2]) hHeld ?_
              refine tkV 27 (.pointer (some ⟨w.heap.size, 0, none⟩)) hHeld ?_
              refine tkV 28 (.int .i64 L) hHeld ?_
              refine tkV 29 (.slice (some ⟨bc, oc, none⟩) cs.length cap) hHeld ?_
              refine tkV 30 (.pointer (some ⟨wr.heap.size, 0, none⟩)) hHeld ?_
              refine tkV 31 (.int .i64 k1) hHeld ?_
              refine tkV 32 (.pointer (some ⟨bc, oc + k1 * 2, none⟩)) hHeld ?_
              refine tkV 33 (.agg #[.int .i64 r, .int .i64 t]) hHeld ?_
              refine tkV 35 (.pointer (some ⟨wr.heap.size, 1, none⟩)) hHeld ?_
              refine tkV 36 (.int .i64 f2) hHeld ?_
              refine tkV 37 (.agg #[.int .i64 n, .int .i64 m]) hHeld ?_
              refine tkC 26 (fun K hK => ?_)
              go_simp
              refine (HWA.out _).mono ?_
              rintro e wa ⟨⟨xa, xc, rfl, hxa⟩, hba⟩
              have hbz1 := ((Below.refl wq.heap.size wq).drew).trans hba
              have HS1 := HKS.out wa hbz1
              have HXA := Lib.hid hxa; have HBZ1 := Lib.hid hbz1
              clear hxa hba hbz1
              refine hK.out _ _ HS1 (fun hC => ?_)
              clear hK K
              try simp only [Act.put, List.setIfInBounds_toArray, List.set_cons_zero, List.set_cons_succ]
              refine tkC 34 (fun K hK => ?_)
              go_simp
              refine (HWB.out _).mono ?_
              rintro e wb ⟨⟨ya, yc, rfl, hya⟩, hbb⟩
              have hbz2 := HBZ1.out.trans (hbb.mono HBZ1.out.size)
              have HS2 := HKS.out wb hbz2
              have HYA := Lib.hid hya; have HXB := Lib.hid (HXA.out.below hbb (Nat.le_refl _)); have HBZ2 := Lib.hid hbz2
              clear hya hbb hbz2
              refine hK.out _ _ HS2 (fun hD => ?_)
              clear hK K
              try simp only [Act.put, List.setIfInBounds_toArray, List.set_cons_zero, List.set_cons_succ]
              refine tkC 38 (fun K hK => ?_)
              go_simp
              refine (HRR.out _ _ _ _ _ HXB.out HYA.out).mono ?_
              rintro e wc ⟨rfl, hbc⟩
              have hbz3 := HBZ2.out.trans (hbc.mono HBZ2.out.size)
              have HS3 := HKS.out wc hbz3
              have HBZ3 := Lib.hid hbz3
              clear hbc hbz3
              refine hK.out _ _ HS3 (fun hE => ?_)
              clear hK K
              try simp only [Act.put, List.setIfInBounds_toArray, List.set_cons_zero, List.set_cons_succ]
              refine tkV 39 (.bool false) HS3 ?_
              refine tkV 40 (.bool false) HS3 ?_
              refine wpAnyH_done (by kernel_rfl) ?_ _
              have hbz := (HKS0.out wc HBZ3.out).2
              go_wp2_with fail
              go_roundw
              case rel => exact ⟨i + 1, by omega, by go_num, HALL2.out, hbe.trans (hbz.mono hbe.size)⟩
              case measure => simp [intOf]; omega
      · obtain rfl : i = l.length := by omega
        have hp : prvR L a b c d cs s fs = true := by rw [HPV.out]; exact prvQ_yes hlen (fun j x f h1 h2 => HALL.out j x f (by have := (List.getElem?_eq_some_iff.1 h1).1; exact this) h1 h2)
        have HP := Lib.hid hp
        have i1 : ¬ ((l.length : Int) < (l.length : Int)) := by omega
        clear hp HPV hlen
        go_wp2_with fail
        go_ret2
        exact ⟨by rw [HP.out]; first | rfl | (rw [HEE.out]; rfl), HBW.out⟩
   · have e1 : ((fs.length : Int) != (l.length : Int)) = true := by simp; omega
     have hp : prvR L a b c d cs s fs = false := by rw [HPV.out]; exact prvQ_len hlen
     have HP := Lib.hid hp
     obtain ⟨-, hbw, -, -⟩ := HKR.out w2 HB12.out
     clear hp HPV
     go_wp2_with fail
     go_ret2
     exact ⟨by rw [HP.out, HEE.out]; rfl, hbw⟩
 · have hpe : prvR L a b c d cs s fs = false := by unfold prvR; rw [if_neg hE]
   obtain ⟨-, hbw, -, -⟩ := HKR.out W1 hb01
   have HPE2 := Lib.hid hpe
   clear hpe hnm hb1 hbx q1 hb01
   obtain ⟨v, hvv⟩ : ∃ v, covE L a b c d cs s = v := ⟨_, rfl⟩
   have HVV := Lib.hid hvv
   rw [hvv] at hE ⊢
   have hv : (v != 0) = true := by simpa using hE
   clear hvv
   go_wp2_with fail
   go_ret2
   exact ⟨by rw [HPE2.out, HVV.out]; rfl, by first | exact hbw | (rw [hW1]; exact hbw)⟩
end Go.Proofs.YtahnadhlagabgaaGreatDoor

namespace Go.Proofs.YtahnadhlagabgaaGreatDoor
open Go.RowKit
theorem sameFits_any (aa ab : Option Addr) (xs ys : List (Int × Int)) (ca cb : Nat) (w : World) (ha : Cells w aa (prs xs)) (hb : Cells w ab (prs ys)) (hl : xs.length <= 9223372036854775807) (hl' : ys.length <= 9223372036854775807) :
 Calls Tryz.prog 13 #[.slice aa xs.length ca, .slice ab ys.length cb] w fun e w' => e = .returned (.bool (decide (xs = ys))) /\ Below w.heap.size w w' := by
 by_cases hlen : xs.length = ys.length
 · have h1 : ((xs.length : Int) != ys.length) = false := by simp [hlen]
   have hlt : (ys.length : Int) <= xs.length := by omega
   have HL := Lib.hid hlen; clear hlen
   go_enter Tryz.func13, Tryz.ntmps13
   go_wp2
   go_loopw [5] (fun i wr => ∃ k : Nat, k <= xs.length /\ i = .int .i64 k /\ xs.take k = ys.take k /\ Below w.heap.size w wr) (fun i _ => xs.length - (intOf i).toNat)
   case atStart => exact ⟨0, Nat.zero_le _, rfl, rfl, Below.refl _ _⟩
   case round =>
    obtain ⟨k, hk, rfl, heq, hbe⟩ := hrel
    have HQ := Lib.hid heq; clear heq
    by_cases hlt : k < xs.length
    · have hlt2 : k < ys.length := by have := HL.out; omega
      obtain ⟨⟨x1, x2⟩, hx⟩ := get_of_lt hlt
      obtain ⟨⟨y1, y2⟩, hy⟩ := get_of_lt hlt2
      obtain ⟨b, off, rfl⟩ := ha.addr (prs_ne (by omega))
      obtain ⟨b2, off2, rfl⟩ := hb.addr (prs_ne (by omega))
      have c1 := cell_keep (ha.at (prs_fst hx)) hbe (Nat.le_refl _)
      have c2 := cell_keep (ha.at (prs_snd hx)) hbe (Nat.le_refl _)
      have c3 := cell_keep (hb.at (prs_fst hy)) hbe (Nat.le_refl _)
      have c4 := cell_keep (hb.at (prs_snd hy)) hbe (Nat.le_refl _)
      rw [<- Nat.add_assoc] at c2 c4
      simp only at c1 c2 c3 c4
      have i1 : (k : Int) < xs.length := by omega
      have i2 : (k : Int) < ys.length := by omega
      have i3 : (0 : Int) <= k := by omega
      by_cases hxy : x1 = y1 /\ x2 = y2
      · obtain ⟨rfl, rfl⟩ := hxy
        have ht : xs.take (k + 1) = ys.take (k + 1) := by rw [take_get hx, take_get hy, HQ.out]
        have HT := Lib.hid ht; clear ht hx hy
        go_wp2
        go_quiet (fail)
        go_wp2
        go_roundw
        case rel => exact ⟨k + 1, by omega, by go_num, HT.out, bel_drewN hbe _⟩
        case measure => simp [intOf]; omega
      · have hne : decide (xs = ys) = false := by
         rw [decide_eq_false_iff_not]; rintro rfl
         rw [hx] at hy; simp at hy; exact hxy hy
        have HNE := Lib.hid hne; clear hne hx hy
        by_cases hx1 : x1 = y1
        · obtain rfl := hx1
          have hb1 : (x2 == y2) = false := by simpa using hxy
          go_wp2
          go_quiet (fail)
          go_wp2
          go_ret
          exact ⟨ret_bool HNE.out.symm, bel_drewN hbe _⟩
        · have hb1 : (x1 == y1) = false := by simpa using hx1
          go_wp2
          go_quiet (fail)
          go_wp2
          go_ret
          exact ⟨ret_bool HNE.out.symm, bel_drewN hbe _⟩
    · obtain rfl : k = xs.length := by omega
      have he : decide (xs = ys) = true := by
       rw [decide_eq_true_iff]
       have := HQ.out
       rw [List.take_length, HL.out, List.take_length] at this; exact this
      have HE := Lib.hid he; clear he
      go_wp2
      go_ret
      exact ⟨ret_bool HE.out.symm, hbe⟩
 · have h1 : ((xs.length : Int) != ys.length) = true := by simp; omega
   have he : decide (xs = ys) = false := by
    rw [decide_eq_false_iff_not]; rintro rfl; exact hlen rfl
   have HE := Lib.hid he; clear he
   go_enter Tryz.func13, Tryz.ntmps13
   go_wp2
   go_ret
   exact ⟨ret_bool HE.out.symm, Below.refl _ _⟩
end Go.Proofs.YtahnadhlagabgaaGreatDoor

namespace Go.Proofs.YtahnadhlagabgaaGreatDoor
open Go.RowKit Go.Shelf
set_option maxRecDepth 1000000 in
set_option maxHeartbeats 8000000 in
theorem proofs_law (L a b c d : Int) (cs : List (Int × Int)) (ao : Option Addr) (cap : Nat) (s : ByteArray) (fs : List (Int × Int)) (fo : Option Addr) (fc : Nat) (w : World) (ht : Tab w) (hs : s.size <= 1048576) (hc : Cells w ao (prs cs)) (hcap : cs.length <= cap) (hcap2 : cap <= 9223372036854775807) (hfc : Cells w fo (prs fs)) (hfl : fs.length <= fc) (hfc2 : fc <= 9223372036854775807) :
 Calls Tryz.prog 3 #[.agg #[.int .i64 L, .int .i64 a, .int .i64 b, .int .i64 c, .int .i64 d, .slice ao cs.length cap, .string s], .slice fo fs.length fc] w fun e w' => e = .returned (.bool true) /\ Below w.heap.size w w' := by
 obtain ⟨W0, hW0⟩ : ∃ W0, w.alloc (.cells #[.int .i64 L, .int .i64 a, .int .i64 b, .int .i64 c, .int .i64 d, .slice ao cs.length cap, .string s] 27) = W0 := ⟨_, rfl⟩
 have hB0 : Below w.heap.size w W0 := by rw [<- hW0]; exact (Below.refl _ w).alloc (Nat.le_refl _) _
 have hs0 : W0.heap.size = w.heap.size + 1 := by rw [<- hW0]; simp
 have r0 : Blk W0 w.heap.size 27 #[.int .i64 L, .int .i64 a, .int .i64 b, .int .i64 c, .int .i64 d, .slice ao cs.length cap, .string s] := by rw [<- hW0]; exact heap_alloc_new w _
 have HKB : Hid (∀ wx, Below W0.heap.size W0 wx -> (wx.cell? ⟨w.heap.size, 0, none⟩ = some (.int .i64 L) /\ wx.cell? ⟨w.heap.size, 1, none⟩ = some (.int .i64 a) /\ wx.cell? ⟨w.heap.size, 2, none⟩ = some (.int .i64 b) /\ wx.cell? ⟨w.heap.size, 3, none⟩ = some (.int .i64 c) /\ wx.cell? ⟨w.heap.size, 4, none⟩ = some (.int .i64 d) /\ wx.cell? ⟨w.heap.size, 5, none⟩ = some (.slice ao cs.length cap) /\ wx.cell? ⟨w.heap.size, 6, none⟩ = some (.string s)) /\ Below w.heap.size w wx /\ Tab wx /\ Cells wx ao (prs cs) /\ Cells wx fo (prs fs)) := Lib.hid (fun wx hb => by
  have hbw := hB0.trans (hb.mono (by omega))
  have h := r0.below hb (by omega)
  exact ⟨⟨h.cell 0, h.cell 1, h.cell 2, h.cell 3, h.cell 4, h.cell 5, h.cell 6⟩, hbw, ht.below hbw (Nat.le_refl _), hc.below hbw (Nat.le_refl _), hfc.below hbw (Nat.le_refl _)⟩)
 have hp1 := fun (W : World) (h : Tab W) (h2 : Cells W ao (prs cs)) => Prove_any L a b c d cs ao cap s W h (by omega) h2 (by omega) hcap hcap2
 have hp2 := fun (W : World) (h2 : Cells W ao (prs cs)) => refProve_any L a b c d cs ao cap s W hs h2 (by omega)
 have hq1 := fun (W : World) (h : Tab W) (h2 : Cells W ao (prs cs)) (h3 : Cells W fo (prs fs)) => Proves_any L a b c d cs ao cap s fs fo fc W h (by omega) h2 (by omega) hcap hcap2 h3 (by omega)
 have hq2 := fun (W : World) (h2 : Cells W ao (prs cs)) (h3 : Cells W fo (prs fs)) => refProves_any L a b c d cs ao cap s fs fo fc W hs h2 (by omega) h3 (by omega)
 have hlR : (proR L a b c d cs s).length <= 9223372036854775807 := by
  unfold proR
  split
  · rename_i h
    obtain ⟨hf, _, N, D, hb⟩ := covE_0 h.1
    rw [(misR_yes h.1 hb).2]
    have h1 := ptsAll_len L a c (d - c + 1).toNat (b - a + 1).toNat
    have h2 := (fam_true hf).2.2.2.2.2.2.2.2
    simp only [prfL, List.length_map]
    omega
  · simp
 have hsf := fun (m k : Option Addr) (p q : Nat) (W : World) (h1 : Cells W m (prs (proR L a b c d cs s))) (h2 : Cells W k (prs (proR L a b c d cs s))) => sameFits_any m k (proR L a b c d cs s) (proR L a b c d cs s) p q W h1 h2 hlR hlR
 rw [decide_eq_true rfl] at hsf
 unfold ProRes at hp1 hp2
 generalize proR L a b c d cs s = R at *
 generalize proE L a b c d cs s = E at *
 generalize prvR L a b c d cs s fs = V at *
 generalize covE L a b c d cs s = C at *
 have h1 : (E != E) = false := by simp
 have h2 : (V == V) = true := by simp
 have h3 : (C == C) = true := by simp
 have HW0 := Lib.hid hW0; have HP1 := Lib.hid hp1; have HP2 := Lib.hid hp2; have HQ1 := Lib.hid hq1; have HQ2 := Lib.hid hq2; have HSF := Lib.hid hsf
 clear hW0 hB0 hs0 r0 ht hc hfc hp1 hp2 hq1 hq2 hsf hlR
 obtain ⟨⟨q0, q1, q2, q3, q4, q5, q6⟩, -, htx, hcx, -⟩ := HKB.out W0 (Below.refl _ _)
 have HTX := Lib.hid htx; have HCX := Lib.hid hcx
 clear htx hcx
 go_enter Tryz.func3, Tryz.ntmps3
 go_wp2_with fail
 rw [HW0.out]
 refine (HP1.out _ HTX.out HCX.out).mono ?_
 rintro e w1 ⟨⟨p1, c1, rfl, hr1⟩, hb1⟩
 clear q0 q1 q2 q3 q4 q5 q6
 obtain ⟨⟨q0, q1, q2, q3, q4, q5, q6⟩, -, htx, hcx, -⟩ := HKB.out w1 hb1
 have HTX := Lib.hid htx; have HCX := Lib.hid hcx; have HR1 := Lib.hid hr1
 clear htx hcx hr1
 go_wp2_with fail
 refine (HP2.out _ HCX.out).mono ?_
 rintro e w2 ⟨⟨p2, c2, rfl, hr2⟩, hb2⟩
 have HR1' := Lib.hid (HR1.out.below hb2 (Nat.le_refl _)); have HR2 := Lib.hid hr2
 have hb2 := hb1.trans (hb2.mono hb1.size)
 clear q0 q1 q2 q3 q4 q5 q6 hr2 hb1
 go_wp2_with fail
 refine (HSF.out _ _ _ _ _ HR1'.out HR2.out).mono ?_
 rintro e w3 ⟨rfl, hb3⟩
 have hb3 := hb2.trans (hb3.mono hb2.size)
 obtain ⟨⟨q0, q1, q2, q3, q4, q5, q6⟩, -, htx, hcx, hfx⟩ := HKB.out w3 hb3
 have HTX := Lib.hid htx; have HCX := Lib.hid hcx; have HFX := Lib.hid hfx
 clear htx hcx hfx hb2
 go_wp2_with fail
 refine (HQ1.out _ HTX.out HCX.out HFX.out).mono ?_
 rintro e w4 ⟨rfl, hb4⟩
 have hb4 := hb3.trans (hb4.mono hb3.size)
 clear q0 q1 q2 q3 q4 q5 q6
 obtain ⟨⟨q0, q1, q2, q3, q4, q5, q6⟩, -, htx, hcx, hfx⟩ := HKB.out w4 hb4
 have HTX := Lib.hid htx; have HCX := Lib.hid hcx; have HFX := Lib.hid hfx
 clear htx hcx hfx hb3
 go_wp2_with fail
 refine (HQ2.out _ HCX.out HFX.out).mono ?_
 rintro e w5 ⟨rfl, hb5⟩
 have hb5 := hb4.trans (hb5.mono hb4.size)
 clear q0 q1 q2 q3 q4 q5 q6 hb4
 obtain ⟨-, hbw, htx, -, -⟩ := HKB.out w5 hb5
 have HTX := Lib.hid htx
 clear htx
 go_wp2_with fail
 refine (bworks_any _ HTX.out).mono ?_
 rintro e w6 ⟨rfl, hb6⟩
 go_wp2_with fail
 go_ret
 exact ⟨rfl, hbw.trans (hb6.mono hbw.size)⟩
end Go.Proofs.YtahnadhlagabgaaGreatDoor

namespace Go.Proofs.YtahnadhlagabgaaGreatDoor
open Go.RowKit Go.WideShapes Go.ChangeShapes Go.Deep Go.Joins
section
variable {H : Type}
theorem bulk_mem {d : DataW H} : ∀ {ds : List (DataW H)}, d ∈ ds -> Rows.uptoBulk d <= Rows.uptoBulkAll ds
 | x :: r, h => by
   simp only [Rows.uptoBulkAll]
   rcases List.mem_cons.1 h with rfl | h2
   · omega
   · have := bulk_mem h2; omega
end
end Go.Proofs.YtahnadhlagabgaaGreatDoor

namespace Go.Proofs.YtahnadhlagabgaaGreatDoor
open Go.RowKit Go.WideShapes Go.ChangeShapes Go.Deep Go.Joins
theorem upto_str {H : Type} {ds : List (DataW H)} (h : Rows.uptoSmall H ds = true) {d q0 q1 : DataW H} {l : List UInt8} (hd : d ∈ ds) (he : d = .agg [q0, q1, .lit (.string l)]) : l.length <= 1048576 := by
 have h1 : Rows.uptoBulkAll ds <= 1048576 := by simpa [Rows.uptoSmall] using h
 have h3 := bulk_mem hd
 rw [he] at h3
 simp only [Rows.uptoBulk, Rows.uptoBulkAll] at h3
 omega
end Go.Proofs.YtahnadhlagabgaaGreatDoor
