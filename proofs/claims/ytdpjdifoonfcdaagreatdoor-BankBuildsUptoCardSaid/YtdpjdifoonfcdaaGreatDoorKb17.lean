/- Parts of a proof, in build order: OC, OJ, LC, LE, LN, LU, V5, VA. -/
import Derived.Test.YtdpjdifoonfcdaaGreatDoorKb16
import Derived.Test.YtdpjdifoonfcdaaGreatDoorRows

namespace Go.Proofs.YtdpjdifoonfcdaaGreatDoor
open Go.RowKit
def BegRes (L a b c d : Int) (cs : List (Int × Int)) (s : ByteArray) (w : World) (e : Ending) (w' : World) : Prop :=
 (∃ n m : Nat, e = .returned (.tuple #[.agg #[.int .i64 n, .int .i64 m], .int .i64 (covE L a b c d cs s)]) /\ (covE L a b c d cs s = 0 -> barS s = some (n, m))) /\ Below w.heap.size w w'
set_option maxRecDepth 100000 in
set_option maxHeartbeats 4000000 in
theorem refBegin_any (L a b c d : Int) (cs : List (Int × Int)) (ao : Option Addr) (cap : Nat) (s : ByteArray) (w : World) (hs : s.size <= 1048576) (hc : Cells w ao (prs cs)) (hl : cs.length <= 9223372036854775807) :
 Calls Tryz.prog 76 #[.agg #[.int .i64 L, .int .i64 a, .int .i64 b, .int .i64 c, .int .i64 d], .slice ao cs.length cap, .string s] w (BegRes L a b c d cs s w) := by
 obtain ⟨W0, hW0⟩ : ∃ W0, (w.alloc (.cells #[.int .i64 L, .int .i64 a, .int .i64 b, .int .i64 c, .int .i64 d] 43)).alloc (.cells #[.int .i64 0, .int .i64 0] 163) = W0 := ⟨_, rfl⟩
 have hb0 : Below w.heap.size w W0 := by rw [<- hW0]; exact ((Below.refl _ w).alloc (Nat.le_refl _) _).alloc (by simp) _
 have q0 : Blk W0 w.heap.size 43 #[.int .i64 L, .int .i64 a, .int .i64 b, .int .i64 c, .int .i64 d] := by rw [<- hW0]; exact heap_alloc2_old w _ _
 have q1 : Blk W0 (w.heap.size + 1) 163 #[.int .i64 0, .int .i64 0] := by rw [<- hW0]; exact heap_alloc2_new w _ _
 have hsz0 : W0.heap.size = w.heap.size + 2 := by rw [<- hW0]; simp
 have hkr : ∀ W, Below W0.heap.size W0 W -> ((W.cell? ⟨w.heap.size, 0, none⟩ = some (.int .i64 L) /\ W.cell? ⟨w.heap.size, 1, none⟩ = some (.int .i64 a) /\ W.cell? ⟨w.heap.size, 2, none⟩ = some (.int .i64 b) /\ W.cell? ⟨w.heap.size, 3, none⟩ = some (.int .i64 c) /\ W.cell? ⟨w.heap.size, 4, none⟩ = some (.int .i64 d)) /\
  W.cell? ⟨w.heap.size + 1, 0, none⟩ = some (.int .i64 0) /\ W.cell? ⟨w.heap.size + 1, 1, none⟩ = some (.int .i64 0) /\ W.frozen? ⟨w.heap.size + 1, 0, none⟩ = false /\ W.frozen? ⟨w.heap.size + 1, 1, none⟩ = false) /\ Below w.heap.size w W /\ Cells W ao (prs cs) := fun W h => by
  have hq := q0.below h (by omega)
  have hr := q1.below h (by omega)
  have hb := hb0.trans (h.mono hb0.size)
  exact ⟨⟨⟨hq.cell 0, hq.cell 1, hq.cell 2, hq.cell 3, hq.cell 4⟩, hr.cell 0, hr.cell 1, hr.free 0, hr.free 1⟩, hb, hc.below hb (Nat.le_refl _)⟩
 have hfa := fun W => refFamily_any L a b c d W
 have hbk := fun W h => refBank_any L cs ao cap W h hl
 have hbr := fun W => refBar_any s W hs
 have hle : w.heap.size <= w.heap.size + 1 := Nat.le_succ _
 have hE : covE L a b c d cs s = if famOK L a b c d = false then 71 else if bankOK L cs = false then 72 else if barS s = none then 74 else 0 := rfl
 have HW0 := Lib.hid hW0; have HKR := Lib.hid hkr; have HFA := Lib.hid hfa; have HBK := Lib.hid hbk; have HBR := Lib.hid hbr
 clear hb0 q0 q1 hW0 hkr hfa hbk hbr hc
 obtain ⟨⟨⟨k0, k1, k2, k3, k4⟩, r0, r1, f0, f1⟩, hbw, -⟩ := HKR.out W0 (Below.refl _ _)
 rw [<- HW0.out] at k0 k1 k2 k3 k4 r0 r1 f0 f1
 cases hfo : famOK L a b c d with
 | false =>
   rw [hfo] at HFA
   have hv : covE L a b c d cs s = 71 := by rw [hE, hfo]; rfl
   have HV := Lib.hid hv
   clear hv hE hfo k0 k1 k2 k3 k4 r0 r1 f0 f1
   go_enter Tryz.func76, Tryz.ntmps76
   go_wp2_with fail
   rw [HW0.out]
   refine (HFA.out W0).mono ?_
   rintro e w1 ⟨rfl, hb1⟩
   obtain ⟨⟨-, r0, r1, f0, f1⟩, hbw, -⟩ := HKR.out w1 hb1
   go_wp2_with fail
   refine bodyPost_ret (v := .tuple #[.agg #[.int .i64 0, .int .i64 0], .int .i64 71]) (by simp [results, Tryz.results76, go_sem, r0, r1]) rfl ?_
   exact ⟨⟨0, 0, by rw [HV.out]; rfl, fun h => by rw [HV.out] at h; cases h⟩, (hbw.setCell hle _).setCell hle _⟩
 | true =>
   rw [hfo] at HFA
   cases hbo : bankOK L cs with
   | false =>
     rw [hbo] at HBK
     have hv : covE L a b c d cs s = 72 := by rw [hE, hfo, hbo]; rfl
     have HV := Lib.hid hv
     clear hv hE hfo hbo k0 k1 k2 k3 k4 r0 r1 f0 f1
     go_enter Tryz.func76, Tryz.ntmps76
     go_wp2_with fail
     rw [HW0.out]
     refine (HFA.out W0).mono ?_
     rintro e w1 ⟨rfl, hb1⟩
     obtain ⟨⟨⟨k0, k1, k2, k3, k4⟩, -⟩, -, hc1⟩ := HKR.out w1 hb1
     have HC1 := Lib.hid hc1
     clear hc1
     go_wp2_with fail
     refine (HBK.out _ HC1.out).mono ?_
     rintro e w2 ⟨rfl, hb2⟩
     have hb2 := hb1.trans (hb2.mono hb1.size)
     obtain ⟨⟨-, r0, r1, f0, f1⟩, hbw, -⟩ := HKR.out w2 hb2
     clear k0 k1 k2 k3 k4
     go_wp2_with fail
     refine bodyPost_ret (v := .tuple #[.agg #[.int .i64 0, .int .i64 0], .int .i64 72]) (by simp [results, Tryz.results76, go_sem, r0, r1]) rfl ?_
     exact ⟨⟨0, 0, by rw [HV.out]; rfl, fun h => by rw [HV.out] at h; cases h⟩, (hbw.setCell hle _).setCell hle _⟩
   | true =>
     rw [hbo] at HBK
     cases hbs : barS s with
     | none =>
       have hv : covE L a b c d cs s = 74 := by rw [hE, hfo, hbo, hbs]; rfl
       have HV := Lib.hid hv; have HS := Lib.hid hbs
       clear hv hE hfo hbo hbs k0 k1 k2 k3 k4 r0 r1 f0 f1
       go_enter Tryz.func76, Tryz.ntmps76
       go_wp2_with fail
       rw [HW0.out]
       refine (HFA.out W0).mono ?_
       rintro e w1 ⟨rfl, hb1⟩
       obtain ⟨⟨⟨k0, k1, k2, k3, k4⟩, -⟩, -, hc1⟩ := HKR.out w1 hb1
       have HC1 := Lib.hid hc1
       clear hc1
       go_wp2_with fail
       refine (HBK.out _ HC1.out).mono ?_
       rintro e w2 ⟨rfl, hb2⟩
       have hb2 := hb1.trans (hb2.mono hb1.size)
       clear k0 k1 k2 k3 k4
       go_wp2_with fail
       refine (HBR.out _).mono ?_
       rintro e w3 ⟨⟨n, m, rfl, -⟩, hb3⟩
       rw [HS.out]
       simp only [Option.isSome_none]
       have hb3 := hb2.trans (hb3.mono hb2.size)
       have hb4 := hb3.alloc hb3.size (.cells #[.int .i64 n, .int .i64 m] 163)
       obtain ⟨⟨-, r0, r1, f0, f1⟩, hbw, -⟩ := HKR.out _ hb4
       go_wp2_with fail
       refine bodyPost_ret (v := .tuple #[.agg #[.int .i64 0, .int .i64 0], .int .i64 74]) (by simp [results, Tryz.results76, go_sem, r0, r1]) rfl ?_
       exact ⟨⟨0, 0, by rw [HV.out]; rfl, fun h => by rw [HV.out] at h; cases h⟩, (hbw.setCell hle _).setCell hle _⟩
     | some x =>
       have hv : covE L a b c d cs s = 0 := by rw [hE, hfo, hbo, hbs]; rfl
       have HV := Lib.hid hv; have HS := Lib.hid hbs
       clear hv hE hfo hbo hbs k0 k1 k2 k3 k4 r0 r1 f0 f1
       go_enter Tryz.func76, Tryz.ntmps76
       go_wp2_with fail
       rw [HW0.out]
       refine (HFA.out W0).mono ?_
       rintro e w1 ⟨rfl, hb1⟩
       obtain ⟨⟨⟨k0, k1, k2, k3, k4⟩, -⟩, -, hc1⟩ := HKR.out w1 hb1
       have HC1 := Lib.hid hc1
       clear hc1
       go_wp2_with fail
       refine (HBK.out _ HC1.out).mono ?_
       rintro e w2 ⟨rfl, hb2⟩
       have hb2 := hb1.trans (hb2.mono hb1.size)
       clear k0 k1 k2 k3 k4
       go_wp2_with fail
       refine (HBR.out _).mono ?_
       rintro e w3 ⟨⟨n, m, rfl, hnm⟩, hb3⟩
       rw [HS.out]
       simp only [Option.isSome_some]
       have hnm := hnm x HS.out
       have hb3 := hb2.trans (hb3.mono hb2.size)
       have hb4 := hb3.alloc hb3.size (.cells #[.int .i64 n, .int .i64 m] 163)
       obtain ⟨⟨-, r0, r1, f0, f1⟩, hbw, -⟩ := HKR.out _ hb4
       go_wp2_with fail
       refine bodyPost_ret (v := .tuple #[.agg #[.int .i64 n, .int .i64 m], .int .i64 0]) (by simp [results, Tryz.results76, go_sem, r0, r1]) rfl ?_
       exact ⟨⟨n, m, by rw [HV.out], fun _ => by rw [HS.out, hnm]⟩, (hbw.setCell hle _).setCell hle _⟩
end Go.Proofs.YtdpjdifoonfcdaaGreatDoor

namespace Go.Proofs.YtdpjdifoonfcdaaGreatDoor
open Go.RowKit
theorem heap_lt0 {w : World} {a : Addr} {v : Value} (h : w.cell? a = some v) : a.block < w.heap.size := by
 apply Nat.lt_of_not_le
 intro hc
 have h2 : w.heap[a.block]? = none := by simp; omega
 unfold World.cell? at h
 rw [h2] at h
 cases h
theorem pairs_get {L : Int} {l : List (Pt L)} {i : Nat} {x : Pt L} (h : l[i]? = some x) : (pairsOf l)[i]? = some x.1 := by
 unfold pairsOf
 rw [List.getElem?_map, h]
 rfl
end Go.Proofs.YtdpjdifoonfcdaaGreatDoor

namespace Go.Proofs.YtdpjdifoonfcdaaGreatDoor
open Go.RowKit
def wvC (L : Int) (l : List (Pt L)) : List (List Value) := l.map fun x => ((wav L x.1.1 x.1.2).take L.toNat).map (Value.int .i64)
theorem wvC_snoc (L : Int) (l : List (Pt L)) (x : Pt L) : wvC L (l ++ [x]) = wvC L l ++ [((wav L x.1.1 x.1.2).take L.toNat).map (Value.int .i64)] := by simp [wvC]
theorem wvC_get {L : Int} {l : List (Pt L)} {i : Nat} {x : Pt L} (h : l[i]? = some x) : (wvC L l)[i]? = some (((wav L x.1.1 x.1.2).take L.toNat).map (Value.int .i64)) := by
 unfold wvC
 rw [List.getElem?_map, h]; rfl
theorem wv_len (L p q : Int) (hL : L <= 64) : (((wav L p q).take L.toNat).map (Value.int .i64)).length = L.toNat := by
 rw [List.length_map, List.length_take, wav_length]; omega
set_option maxRecDepth 100000 in
set_option maxHeartbeats 4000000 in
theorem refReached_any (n m : Nat) (L a b c d : Int) (l : List (Pt L)) (pb : Option Addr) (pc : Nat) (w : World) (hL1 : 1 <= L) (hL : L <= 64) (hn6 : n <= 999999) (hm6 : m <= 999999) (h400 : l.length <= 400) (hc : Cells w pb (prs (pairsOf l))) :
 Calls Tryz.prog 78 #[.agg #[.int .i64 L, .int .i64 a, .int .i64 b, .int .i64 c, .int .i64 d], .slice pb l.length pc, .agg #[.int .i64 n, .int .i64 m]] w fun e w' => (∃ v vs, e = .returned v /\ w'.ownsRow w.heap.size 169 1 v l.length vs /\ RowsOf w' w.heap.size 4 vs ((svM n m L l l).map bvs)) /\ Below w.heap.size w w' := by
 obtain ⟨W0, hW0⟩ : ∃ W0, (w.alloc (.cells #[.int .i64 L, .int .i64 a, .int .i64 b, .int .i64 c, .int .i64 d] 43)).alloc (.cells #[.int .i64 n, .int .i64 m] 163) = W0 := ⟨_, rfl⟩
 have hb0 : Below w.heap.size w W0 := by rw [<- hW0]; exact ((Below.refl _ w).alloc (Nat.le_refl _) _).alloc (by simp) _
 have hs0 : W0.heap.size = w.heap.size + 2 := by rw [<- hW0]; simp
 have q0 : Blk W0 w.heap.size 43 #[.int .i64 L, .int .i64 a, .int .i64 b, .int .i64 c, .int .i64 d] := by rw [<- hW0]; exact heap_alloc2_old w _ _
 have q1 : Blk W0 (w.heap.size + 1) 163 #[.int .i64 n, .int .i64 m] := by rw [<- hW0]; exact heap_alloc2_new w _ _
 have hkr : ∀ W, Below W0.heap.size W0 W -> (W.cell? ⟨w.heap.size, 0, none⟩ = some (.int .i64 L)) /\ (W.cell? ⟨w.heap.size + 1, 0, none⟩ = some (.int .i64 n) /\ W.cell? ⟨w.heap.size + 1, 1, none⟩ = some (.int .i64 m)) /\ Below w.heap.size w W /\ Cells W pb (prs (pairsOf l)) := fun W h => by
  have hq := q0.below h (by omega)
  have hq1 := q1.below h (by omega)
  have hb := hb0.trans (h.mono hb0.size)
  exact ⟨hq.cell 0, ⟨hq1.cell 0, hq1.cell 1⟩, hb, hc.below hb (Nat.le_refl _)⟩
 obtain ⟨i0, hi, hz0, hz1, hz2⟩ := info_parts Tryz.infoInts
 obtain ⟨j0, hj, hy0, hy1, hy2⟩ := info_parts Tryz.infoBools
 have HW0 := Lib.hid hW0; have HKR := Lib.hid hkr
 have HI := Lib.hid hi; have HJ := Lib.hid hj
 clear hW0 hb0 q0 q1 hkr hc hi hj
 go_enter Tryz.func78, Tryz.ntmps78
 go_wp2_with fail
 rw [HW0.out]
 go_loopw [7, 8] (fun ov iv wr => ∃ (i : Nat) (vs : List Value), i <= l.length /\ iv = .int .i64 i /\ wr.ownsRow W0.heap.size 24 1 ov i vs /\ RowsOf wr W0.heap.size 3 vs (wvC L (l.take i)) /\ Below W0.heap.size W0 wr) (fun _ iv _ => l.length - (intOf iv).toNat)
 case atStart => exact ⟨0, [], Nat.zero_le _, rfl, World.ownsRow_nil _ _ _ _, by rw [List.take_zero]; exact RowsOf.nil _ _ _, Below.refl _ _⟩
 case round =>
  obtain ⟨i, vs, hi', rfl, hown, hrows, hbe⟩ := hrel
  have hvl := hrows.1
  by_cases hlt : i < l.length
  · obtain ⟨x, hx⟩ := get_of_lt hlt
    have hxx := pairs_get hx
    have hll : (pairsOf l).length = l.length := by simp [pairsOf]
    obtain ⟨k0, -, hbw, hcr⟩ := HKR.out wr hbe
    obtain ⟨bk, off, rfl⟩ := hcr.addr (prs_ne (by omega))
    have c1 := hcr.at (prs_fst hxx)
    have c2 := hcr.at (prs_snd hxx)
    rw [<- Nat.add_assoc] at c2
    have i1 : (i : Int) < (l.length : Int) := by omega
    have i2 : (0 : Int) <= (i : Int) := by omega
    have hks : ∀ W, Below W0.heap.size W0 W -> W.cell? ⟨w.heap.size, 0, none⟩ = some (.int .i64 L) /\ W.cell? ⟨bk, off + i * 2, none⟩ = some (.int .i64 x.1.1) /\ W.cell? ⟨bk, off + i * 2 + 1, none⟩ = some (.int .i64 x.1.2) := fun W h => by
     obtain ⟨k, -, -, hcc⟩ := HKR.out W h
     exact ⟨k, hcc.at (prs_fst hxx), by have := hcc.at (prs_snd hxx); rwa [<- Nat.add_assoc] at this⟩
    have HKS := Lib.hid hks
    have hwv := fun W => refWaveO_any L x.1.1 x.1.2 W x.2.1
    have hsn := wvC_snoc L (l.take i) x
    rw [<- take_get hx] at hsn
    have hwl := wv_len L x.1.1 x.1.2 hL
    have HWV := Lib.hid hwv; have HSN := Lib.hid hsn; have HO := Lib.hid hown; have HR := Lib.hid hrows; have HBE := Lib.hid hbe; have HWL := Lib.hid hwl
    have HOB : Hid (∀ j, u7.ownBlock = some j -> W0.heap.size <= j) := fun j e => (hown.lt j e).1
    clear hks hwv hsn hxx hll hcr hbw hown hrows hbe hx hwl
    go_wp2_with fail
    refine wp_region_held_drew (S := fun w' => w'.cell? ⟨w.heap.size, 0, none⟩ = some (.int .i64 L) /\ w'.cell? ⟨bk, off + i * 2, none⟩ = some (.int .i64 x.1.1) /\ w'.cell? ⟨bk, off + i * 2 + 1, none⟩ = some (.int .i64 x.1.2)) (by kernel_rfl) ⟨k0, c1, c2⟩ (fun hHeld => ?_)
    refine tkV 0 u7 hHeld ?_
    refine tkV 1 (.pointer (some ⟨w.heap.size, 0, none⟩)) hHeld ?_
    refine tkV 2 (.int .i64 L) hHeld ?_
    refine tkV 3 (.slice (some ⟨bk, off, none⟩) l.length pc) hHeld ?_
    refine tkV 4 (.int .i64 i) hHeld ?_
    refine tkV 5 (.pointer (some ⟨bk, off + i * 2, none⟩)) hHeld ?_
    refine tkV 6 (.agg #[.int .i64 x.1.1, .int .i64 x.1.2]) hHeld ?_
    refine tkC 7 (fun K hK => ?_)
    go_simp
    refine (HWV.out _).mono ?_
    rintro e w1 ⟨⟨v, rfl, hv⟩, hb1⟩
    obtain ⟨va, vc, rfl, -⟩ := own_cells hv
    have hbz1 := HBE.out.drew.trans (hb1.mono HBE.out.size)
    have hvv := own_baseL hv (show W0.heap.size <= wr.drew.heap.size + 1 from Nat.le_trans HBE.out.size (Nat.le_succ _))
    have HRW := Lib.hid ((HR.out.below ((Below.refl _ wr).drew) (Nat.le_refl _)).below hb1 (Nat.le_refl _)); have HO1 := Lib.hid (own_belowK (HO.out.drew) hb1 (Nat.le_refl _))
    have HV := Lib.hid hvv; have HBZ := Lib.hid hbz1
    refine hK.out _ _ (HKS.out _ hbz1) (fun hH1 => ?_)
    clear hK K hv hvv hb1 hbz1
    try simp only [Act.put, List.setIfInBounds_toArray, List.set_cons_zero, List.set_cons_succ]
    refine tkC 8 (fun K hK => ?_)
    go_simp
    have hbz2 := HBZ.out.alloc HBZ.out.size (.cells #[.slice va L.toNat vc] 24)
    have HRW2 := Lib.hid (HRW.out.below ((Below.refl _ _).alloc (Nat.le_refl _) (.cells #[.slice va L.toNat vc] 24)) (Nat.le_refl _)); have HV2 := Lib.hid (HV.out.alloc (.cells #[.slice va L.toNat vc] 24))
    have HO2 := Lib.hid (HO1.out.alloc (.cells #[.slice va L.toNat vc] 24))
    have HBZ2 := Lib.hid hbz2
    refine hK.out _ _ (HKS.out _ hbz2) (fun hH2 => ?_)
    clear hK K hbz2
    try simp only [Act.put, List.setIfInBounds_toArray, List.set_cons_zero, List.set_cons_succ]
    refine tkC 9 (fun K hK => ?_)
    have hsz1 := HBZ.out.size
    refine step_append_lies _ (by rfl) _ _ _ (by rfl) W0.heap.size 24 i0 _ 1 24 Tryz.underlying31 HI.out hz0 hz1 hz2 rfl (by omega) u7 i vs (by rfl) HO2.out ⟨w1.heap.size, 0, none⟩ 1 1 [.slice va L.toNat vc] (by rfl) (by rfl) (World.news_of_block (cs := #[.slice va L.toNat vc]) (t := 24) (fr := (0, 0)) (heap_alloc_new w1 _)) (by simp [Value.oneCell']) (by omega) (by unfold maxLen; omega) (by omega) (by simp; omega) (w1.heap.size + 1) (by simp) ?_
    intro gg cp wz hown1 hgrow hat hlt1
    have hbz3 := HBZ2.out.grown hgrow (by simp; omega) HOB.out
    have hrz := RowsOf.kept (HRW2.out.snoc (by rw [HWL.out]; exact HV2.out)) hgrow HO2.out (by decide)
    rw [<- HSN.out] at hrz
    have HRZ := Lib.hid hrz; have HBZ3 := Lib.hid hbz3; have HOZ := Lib.hid hown1
    refine hK.out _ _ (HKS.out _ hbz3) (fun hH3 => ?_)
    clear hK K hbz3 hown1 hgrow hat hlt1 hrz
    try simp only [Act.put, List.setIfInBounds_toArray, List.set_cons_zero, List.set_cons_succ]
    refine tkV 10 (.slice (some ⟨gg, 0, none⟩) (i + 1) cp) hH3 ?_
    refine wpAnyH_done (by kernel_rfl) ?_ _
    go_wp2_with fail
    go_roundw
    case rel => exact ⟨i + 1, vs ++ [.slice va L.toNat vc], by omega, by go_num, HOZ.out, HRZ.out, HBZ3.out⟩
    case measure => simp [intOf]; omega
  · obtain rfl : i = l.length := by omega
    rw [List.take_length] at hrows
    obtain ⟨wa, wc, rfl, hwc⟩ := own_cells hown
    have HRW := Lib.hid hrows; have HWC := Lib.hid hwc; have HBE := Lib.hid hbe
    clear hrows hwc hbe hown
    obtain ⟨W1, hW1⟩ : ∃ W1, W1 = wr := ⟨_, rfl⟩
    subst hW1
    go_wp2_with fail
    go_loopw [9, 10] (fun ov iv wr => ∃ (j : Nat) (rs : List Value), j <= l.length /\ iv = .int .i64 j /\ wr.ownsRow W1.heap.size 169 1 ov j rs /\ RowsOf wr W1.heap.size 4 rs ((svM n m L l (l.take j)).map bvs) /\ Below W1.heap.size W1 wr) (fun _ iv _ => l.length - (intOf iv).toNat)
    case atStart => exact ⟨0, [], Nat.zero_le _, rfl, World.ownsRow_nil _ _ _ _, by rw [List.take_zero]; exact RowsOf.nil _ _ _, Below.refl _ _⟩
    case round =>
     obtain ⟨j, rs, hj', rfl, hown, hrows, hbe⟩ := hrel
     obtain ⟨wo, hwo⟩ : ∃ wo, wo = wr := ⟨_, rfl⟩
     subst hwo
     have hbe0 := HBE.out.trans (hbe.mono HBE.out.size)
     by_cases hlt : j < l.length
     · obtain ⟨xb, hxb⟩ := get_of_lt hlt
       have hmk := fun W => run_make_bools (n := l.length) (z := (l.length : Int)) rfl (by omega) W
       have hsn := svM_snoc n m L l (l.take j) xb
       rw [<- take_get hxb] at hsn
       obtain ⟨aj, cj, hvj, hcj⟩ := HRW.out.at (wvC_get hxb)
       rw [wv_len L _ _ hL] at hvj
       obtain ⟨row, hrow⟩ : ∃ row, row = fun xa : Pt L => svB n m L xb.1 xa.1 := ⟨_, rfl⟩
       rw [show (fun xa : Pt L => svB n m L xb.1 xa.1) = row from hrow.symm] at hsn
       have hnew := Blk.new wo 4 (bvs (List.replicate l.length false)).toArray
       obtain ⟨Z, hZ⟩ : ∃ Z, (bvs (List.replicate l.length false)).toArray = Z := ⟨_, rfl⟩
       simp only [hZ] at hmk
       rw [hZ] at hnew
       have HZ := Lib.hid hZ
       clear hZ
       have hbn : Below wo.heap.size wo (wo.alloc (.cells Z 4)) := (Below.refl _ _).alloc (Nat.le_refl _) _
       have HO := Lib.hid hown; have HR2 := Lib.hid hrows; have HBW := Lib.hid hbe; have HB0 := Lib.hid hbe0; have HSN := Lib.hid hsn; have HCJ := Lib.hid hcj
       have HOB : Hid (∀ j, u9.ownBlock = some j -> W1.heap.size <= j) := fun j e => (hown.lt j e).1
       clear hown hrows hbe hbe0 hsn hcj
       go_wp2_with fail
       generalize wo.alloc (.cells Z 4) = W2 at *
       have HNEW := Lib.hid hnew; have HBN := Lib.hid hbn
       clear hnew hbn hmk
       go_loopw [12] (fun kv ws => ∃ k : Nat, k <= l.length /\ kv = .int .i64 k /\ Blk ws wo.heap.size 4 (bvs (rowTo row l k)).toArray /\ Below wo.heap.size wo ws) (fun kv _ => l.length - (intOf kv).toNat)
       case atStart => exact ⟨0, Nat.zero_le _, rfl, by rw [rowTo_zero, HZ.out]; exact HNEW.out, HBN.out⟩
       case round =>
        obtain ⟨k, hk, rfl, hblk, hbs⟩ := hrel
        by_cases hlt3 : k < l.length
        · obtain ⟨xa, hxa⟩ := get_of_lt hlt3
          obtain ⟨ak, ck, hvk, hck⟩ := HRW.out.at (wvC_get hxa)
          rw [wv_len L _ _ hL] at hvk
          have hset := rowTo_set (f := row) hxa
          have hrl := rowTo_len row l (show k <= l.length by omega)
          obtain ⟨pk, hpk⟩ := get_of_lt (xs := rowTo row l k) (show k < (rowTo row l k).length by omega)
          have d1 := hblk.boolAt hpk
          have d2 := hblk.free k
          have hb1 := HBW.out.trans (hbs.mono HBW.out.size)
          have hb0 := HBE.out.trans (hb1.mono HBE.out.size)
          obtain ⟨-, ⟨m0, m1⟩, -, -⟩ := HKR.out wr hb0
          have hwcr := HWC.out.below hb1 (Nat.le_refl _)
          obtain ⟨bw, ow, rfl⟩ := hwcr.addr (by intro h; rw [h] at hvk; simp at hvk)
          have c1 := hwcr.at hvk
          have c2 := hwcr.at hvj
          have hks : ∀ W, Below wr.heap.size wr W -> W.cell? ⟨bw, ow + k, none⟩ = some (.slice ak L.toNat ck) /\ W.cell? ⟨bw, ow + j, none⟩ = some (.slice aj L.toNat cj) /\ W.cell? ⟨w.heap.size + 1, 0, none⟩ = some (.int .i64 n) /\ W.cell? ⟨w.heap.size + 1, 1, none⟩ = some (.int .i64 m) := fun W h => ⟨cell_keep c1 h (Nat.le_refl _), cell_keep c2 h (Nat.le_refl _), cell_keep m0 h (Nat.le_refl _), cell_keep m1 h (Nat.le_refl _)⟩
          have hfit := fun W (h : Below wr.heap.size wr W) => refFit_any (n : Int) (m : Int) L.toNat (wav L xa.1.1 xa.1.2) (wav L xb.1.1 xb.1.2) ak ck aj cj W (wav_length _ _ _) (wav_length _ _ _) (by omega) (by omega) (wav_bd _ _ _) (wav_bd _ _ _) (by omega) (by omega) (by omega) (by omega) ((hck.below hb1 (Nat.le_refl _)).below h (Nat.le_refl _)) ((HCJ.out.below hb1 (Nat.le_refl _)).below h (Nat.le_refl _))
          have hsv : row xa = (fstS (rchB (n : Int) m (wav L xa.1.1 xa.1.2) (wav L xb.1.1 xb.1.2) L.toNat) (shl L.toNat (2 * L.toNat - 1))).isSome := by rw [hrow]; rfl
          rw [<- hsv] at hfit
          generalize fstV (rchB (n : Int) m (wav L xa.1.1 xa.1.2) (wav L xb.1.1 xb.1.2) L.toNat) (shl L.toNat (2 * L.toNat - 1)) = fv at *
          have hne1 : bw ≠ wo.heap.size := by have h1 := heap_lt0 (HWC.out.at hvk); have h2 := HBW.out.size; simp at h1; omega
          have hne2 : w.heap.size + 1 ≠ wo.heap.size := by have h1 := HBE.out.size; have h2 := HBW.out.size; omega
          have hs2 : ∀ W (u : Value), Below wr.heap.size wr W -> (W.setCell ⟨wo.heap.size, k, none⟩ u).cell? ⟨bw, ow + k, none⟩ = some (.slice ak L.toNat ck) /\ (W.setCell ⟨wo.heap.size, k, none⟩ u).cell? ⟨bw, ow + j, none⟩ = some (.slice aj L.toNat cj) /\ (W.setCell ⟨wo.heap.size, k, none⟩ u).cell? ⟨w.heap.size + 1, 0, none⟩ = some (.int .i64 n) /\ (W.setCell ⟨wo.heap.size, k, none⟩ u).cell? ⟨w.heap.size + 1, 1, none⟩ = some (.int .i64 m) := fun W u h => by
           obtain ⟨x0, x1, x2, x3⟩ := hks W h
           exact ⟨(World.cell?_setCell_other _ _ _ _ (by intro e; injection e with e1; omega)).trans x0, (World.cell?_setCell_other _ _ _ _ (by intro e; injection e with e1; omega)).trans x1, (World.cell?_setCell_other _ _ _ _ (by intro e; injection e with e1; omega)).trans x2, (World.cell?_setCell_other _ _ _ _ (by intro e; injection e with e1; omega)).trans x3⟩
          have HS2 := Lib.hid hs2
          have i1 : (k : Int) < (l.length : Int) := by omega
          have i2 : (0 : Int) <= (k : Int) := by omega
          have i3 : (j : Int) < (l.length : Int) := by omega
          have i4 : (0 : Int) <= (j : Int) := by omega
          have HKS := Lib.hid hks; have HFIT := Lib.hid hfit; have HSET := Lib.hid hset; have HBLK := Lib.hid hblk; have HBS := Lib.hid hbs
          clear hks hs2 hfit hset hblk hbs hb1 hb0 hwcr hck hsv hpk hxa hrl
          generalize row xa = bb at *
          go_wp2_with fail
          refine wp_region_held_drew (S := fun w' => w'.cell? ⟨bw, ow + k, none⟩ = some (.slice ak L.toNat ck) /\ w'.cell? ⟨bw, ow + j, none⟩ = some (.slice aj L.toNat cj) /\ w'.cell? ⟨w.heap.size + 1, 0, none⟩ = some (.int .i64 n) /\ w'.cell? ⟨w.heap.size + 1, 1, none⟩ = some (.int .i64 m)) (by kernel_rfl) ⟨c1, c2, m0, m1⟩ (fun hHeld => ?_)
          refine tkV 0 (.slice (some ⟨wo.heap.size, 0, none⟩) l.length l.length) hHeld ?_
          refine tkV 1 (.int .i64 k) hHeld ?_
          refine tkV 2 (.slice (some ⟨bw, ow, none⟩) l.length wc) hHeld ?_
          refine tkV 3 (.int .i64 k) hHeld ?_
          refine tkV 4 (.pointer (some ⟨bw, ow + k, none⟩)) hHeld ?_
          refine tkV 5 (.slice ak L.toNat ck) hHeld ?_
          refine tkV 6 (.slice (some ⟨bw, ow, none⟩) l.length wc) hHeld ?_
          refine tkV 7 (.int .i64 j) hHeld ?_
          refine tkV 8 (.pointer (some ⟨bw, ow + j, none⟩)) hHeld ?_
          refine tkV 9 (.slice aj L.toNat cj) hHeld ?_
          refine tkV 10 (.agg #[.int .i64 n, .int .i64 m]) hHeld ?_
          refine tkC 11 (fun K hK => ?_)
          go_simp
          refine (HFIT.out _ ((Below.refl _ wr).drew)).mono ?_
          rintro e w3 ⟨rfl, hb3⟩
          have hbz := ((Below.refl wr.heap.size wr).drew).trans hb3
          have hblk3 := HBLK.out.below hbz HBLK.out.lt
          have e1 := cell_keep d1 hbz (Nat.le_refl _)
          have e2 := hblk3.free k
          refine hK.out _ _ (HKS.out _ hbz) (fun hH1 => ?_)
          clear hK K
          try simp only [Act.put, List.setIfInBounds_toArray, List.set_cons_zero, List.set_cons_succ]
          refine tkV 12 (.tuple #[.int .i64 fv, .bool bb]) hH1 ?_
          refine tkV 13 (.int .i64 fv) hH1 ?_
          refine tkV 14 (.bool bb) hH1 ?_
          refine tkV 15 (.pointer (some ⟨wo.heap.size, k, none⟩)) hH1 ?_
          refine tkC 16 (fun K hK => ?_)
          go_simp
          refine hK.out _ _ (HS2.out _ _ hbz) (fun hH2 => ?_)
          clear hK K
          try simp only [Act.put, List.setIfInBounds_toArray, List.set_cons_zero, List.set_cons_succ]
          refine wpAnyH_done (by kernel_rfl) ?_ _
          have hfin := hblk3.setBool k bb
          rw [HSET.out] at hfin
          have HFIN := Lib.hid hfin
          have hbf := (HBS.out.trans (hbz.mono HBS.out.size)).setCell (p := ⟨wo.heap.size, k, none⟩) (Nat.le_refl _) (.bool bb)
          have HBF := Lib.hid hbf
          clear hfin hbf hblk3
          go_wp2_with fail
          go_roundw
          case rel => exact ⟨k + 1, by omega, by go_num, HFIN.out, HBF.out⟩
          case measure => simp [intOf]; omega
        · obtain rfl : k = l.length := by omega
          rw [rowTo_full] at hblk
          have hown3 := hblk.ownB (Nat.le_refl _) (by rw [List.length_map]; omega)
          rw [List.length_map] at hown3
          have hown4 := own_baseL hown3 HBW.out.size
          have hb1 := HBW.out.trans (hbs.mono HBW.out.size)
          have hox := own_belowK HO.out hbs (Nat.le_refl _)
          have hrx := (HR2.out.below hbs (Nat.le_refl _)).snoc (v := .slice (some ⟨wo.heap.size, 0, none⟩) l.length l.length) (xs := bvs (l.map row)) (by rw [bvs_len, List.length_map]; exact hown4)
          rw [<- HSN.out] at hrx
          have HOX := Lib.hid hox; have HRX := Lib.hid hrx; have HBX := Lib.hid hb1
          have hsz1 := hb1.size
          clear hown3 hown4 hb1 hox hrx hblk hbs
          go_wp2_with (at_builtin; refine wpList_append_own _ rfl _ _ 167 rfl W1.heap.size 169 j0 (.slice none 0 0) 1 24 Tryz.underlying167 HJ.out hy0 hy1 hy2 rfl (by decide) _ _ _ rfl (HOX.out.alloc _) ⟨wr.heap.size, 0, none⟩ 1 1 [.slice (some ⟨wo.heap.size, 0, none⟩) l.length l.length] rfl rfl (news1 _ _ _) (by simp [Value.oneCell']) (by unfold maxLen; omega) (by omega) (by simp; omega) ?_; intro v1 wz hown1 hgrow _)
          have hbz := (HBX.out.alloc HBX.out.size (.cells #[.slice (some ⟨wo.heap.size, 0, none⟩) l.length l.length] 169)).grown hgrow (by simp; omega) HOB.out
          have hrz := RowsOf.kept (HRX.out.below ((Below.refl _ _).alloc (Nat.le_refl _) (.cells #[.slice (some ⟨wo.heap.size, 0, none⟩) l.length l.length] 169)) (Nat.le_refl _)) hgrow (HOX.out.alloc _) (by decide)
          have HOZ := Lib.hid hown1; have HRZ := Lib.hid hrz; have HBZ := Lib.hid hbz
          clear hown1 hgrow hrz hbz
          go_wp2_with fail
          go_roundw
          case rel => exact ⟨j + 1, _, by omega, by go_num, HOZ.out, HRZ.out, HBZ.out⟩
          case measure => simp [intOf]; omega
     · obtain rfl : j = l.length := by omega
       rw [List.take_length] at hrows
       have HO := Lib.hid (own_baseL hown (show w.heap.size <= W1.heap.size by have := HBE.out.size; omega))
       have HR2 := Lib.hid (hrows.base (show w.heap.size <= W1.heap.size by have := HBE.out.size; omega))
       obtain ⟨-, -, hbw, -⟩ := HKR.out wo hbe0
       have HBW := Lib.hid hbw
       clear hown hrows hbe hbe0 hbw
       go_wp2_with fail
       go_ret
       exact ⟨⟨_, _, rfl, HO.out, HR2.out⟩, HBW.out⟩
end Go.Proofs.YtdpjdifoonfcdaaGreatDoor

namespace Go.Proofs.YtdpjdifoonfcdaaGreatDoor
open Go.RowKit
set_option maxRecDepth 100000 in
set_option maxHeartbeats 4000000 in
theorem refBuild_good (n m : Nat) (L a b c d : Int) (s : ByteArray) (w : World) (hs : s.size <= 1048576) (hE : covE L a b c d [] s = 0) (hbs : barS s = some (n, m)) :
 Calls Tryz.prog 20 #[.agg #[.int .i64 L, .int .i64 a, .int .i64 b, .int .i64 c, .int .i64 d], .string s] w fun e w' => (∃ ao co, e = .returned (.tuple #[.slice ao (bldL L (ptsAll L a c (d - c + 1).toNat (b - a + 1).toNat) (bldO n m L (ptsAll L a c (d - c + 1).toNat (b - a + 1).toNat))).length co, .int .i64 (bldX (bldO n m L (ptsAll L a c (d - c + 1).toNat (b - a + 1).toNat)))]) /\ Cells w' ao (prs (bldL L (ptsAll L a c (d - c + 1).toNat (b - a + 1).toNat) (bldO n m L (ptsAll L a c (d - c + 1).toNat (b - a + 1).toNat))))) /\ Below w.heap.size w w' := by
 obtain ⟨W0, hW0⟩ : ∃ W0, w.alloc (.cells #[.int .i64 L, .int .i64 a, .int .i64 b, .int .i64 c, .int .i64 d] 43) = W0 := ⟨_, rfl⟩
 have hb0 : Below w.heap.size w W0 := by rw [<- hW0]; exact (Below.refl _ w).alloc (Nat.le_refl _) _
 have hs0 : W0.heap.size = w.heap.size + 1 := by rw [<- hW0]; simp
 have q0 : Blk W0 w.heap.size 43 #[.int .i64 L, .int .i64 a, .int .i64 b, .int .i64 c, .int .i64 d] := by rw [<- hW0]; exact heap_alloc_new w _
 have hbg := refBegin_any L a b c d [] none 0 s W0 hs (Cells.nil _ _) (by simp)
 rw [List.length_nil] at hbg
 obtain ⟨hfo, -, -⟩ := covE_0 hE
 obtain ⟨_, _, hn6, hm6, _, _⟩ := barS_some hbs
 have hpt := fun W => refPoints_any L a b c d W hfo
 have hpl := ptsAll_len L a c (d - c + 1).toNat (b - a + 1).toNat
 have hfm := fam_true hfo
 have h400 : (ptsAll L a c (d - c + 1).toNat (b - a + 1).toNat).length <= 400 := Nat.le_trans hpl hfm.2.2.2.2.2.2.2.2
 have hL1 : 1 <= L := by have := hfm.1; omega
 have hL64 : L <= 64 := by have := hfm.2.1; omega
 generalize ptsAll L a c (d - c + 1).toNat (b - a + 1).toNat = l at *
 have hre := fun pb pc W h => refReached_any n m L a b c d l pb pc W hL1 hL64 (by omega) (by omega) h400 h
 obtain ⟨g, hg⟩ : ∃ g, g = svM n m L l l := ⟨_, rfl⟩
 have hgl : ∀ i, i < l.length -> ∃ row, g[i]? = some row /\ row.length = l.length /\ rowAt g i = row := fun i h => by rw [hg]; exact svM_row h
 have hres : bldO n m L l = grd g l.length 65 (l.map fun _ => true) [] := by rw [hg]; rfl
 rw [<- hg] at hre
 obtain ⟨RES, hRES⟩ : ∃ R, R = bldO n m L l := ⟨_, rfl⟩
 rw [<- hRES] at hres ⊢
 have HW0 := Lib.hid hW0; have HBG := Lib.hid hbg; have HB0 := Lib.hid hb0; have HQ0 := Lib.hid q0; have HPT := Lib.hid hpt; have HRE := Lib.hid hre; have HGL := Lib.hid hgl; have HRES := Lib.hid hres; have HS0 := Lib.hid hs0
 clear hW0 hb0 q0 hbg hpt hre hgl hres hpl hfm hfo hg hRES hs0
 go_enter Tryz.func20, Tryz.ntmps20
 go_wp2_with fail
 rw [HW0.out]
 refine HBG.out.mono ?_
 rintro e w1 ⟨⟨n', m', rfl, hnm⟩, hb1⟩
 have hnm2 := (hbs.symm.trans (hnm hE))
 simp only [Option.some.injEq, Prod.mk.injEq] at hnm2
 obtain ⟨rfl, rfl⟩ := hnm2
 rw [hE]
 clear hnm hE
 have hbw := HB0.out.trans (hb1.mono HB0.out.size)
 have hq1 := HQ0.out.below hb1 (by have := HS0.out; omega)
 have hks : ∀ W, Below w1.heap.size w1 W -> W.cell? ⟨w.heap.size, 0, none⟩ = some (.int .i64 L) /\ W.cell? ⟨w.heap.size, 1, none⟩ = some (.int .i64 a) /\ W.cell? ⟨w.heap.size, 2, none⟩ = some (.int .i64 b) /\ W.cell? ⟨w.heap.size, 3, none⟩ = some (.int .i64 c) /\ W.cell? ⟨w.heap.size, 4, none⟩ = some (.int .i64 d) := fun W h => by
  have hq := hq1.below h hq1.lt
  exact ⟨hq.cell 0, hq.cell 1, hq.cell 2, hq.cell 3, hq.cell 4⟩
 obtain ⟨k0, k1, k2, k3, k4⟩ := hks w1 (Below.refl _ _)
 have HKS := Lib.hid hks; have HBW := Lib.hid hbw
 have hlt : w.heap.size < w1.heap.size := hq1.lt
 clear hks hb1 hbw hq1 HBG HB0 HQ0
 go_wp2_with fail
 refine (HPT.out _).mono ?_
 rintro e w2 ⟨⟨pb, pc, rfl, hpc⟩, hb2⟩
 have qb := (Blk.new w1 163 #[.int .i64 n, .int .i64 m]).below hb2 (by simp)
 have hb12 : Below w1.heap.size w1 w2 := ((Below.refl w1.heap.size w1).alloc (Nat.le_refl _) _).trans (hb2.mono (by simp))
 have n0 : w2.cell? ⟨w1.heap.size, 0, none⟩ = some (.int .i64 n) := qb.cell 0
 have n1 : w2.cell? ⟨w1.heap.size, 1, none⟩ = some (.int .i64 m) := qb.cell 1
 clear k0 k1 k2 k3 k4
 obtain ⟨k0, k1, k2, k3, k4⟩ := HKS.out w2 hb12
 have HPC := Lib.hid hpc; have HB12 := Lib.hid hb12
 clear hpc hb12 hb2 qb
 go_wp2_with fail
 refine (HRE.out _ _ _ HPC.out).mono ?_
 rintro e w3 ⟨⟨rv, rs, rfl, hro, hrr⟩, hb3⟩
 obtain ⟨ra, rc, rfl, hrc⟩ := own_cells hro
 have hb13 := HB12.out.trans (hb3.mono HB12.out.size)
 have hpc3 := HPC.out.below hb3 (Nat.le_refl _)
 have hmk := fun W => run_make_bools (n := l.length) (z := (l.length : Int)) rfl (by omega) W
 have hnew := Blk.new w3 4 (bvs (List.replicate l.length false)).toArray
 obtain ⟨Z, hZ⟩ : ∃ Z, (bvs (List.replicate l.length false)).toArray = Z := ⟨_, rfl⟩
 simp only [hZ] at hmk
 rw [hZ] at hnew
 have HZ := Lib.hid hZ
 have hbn : Below w3.heap.size w3 (w3.alloc (.cells Z 4)) := (Below.refl _ _).alloc (Nat.le_refl _) _
 have HRC := Lib.hid hrc; have HRR := Lib.hid hrr; have HB13 := Lib.hid hb13; have HPC3 := Lib.hid hpc3
 clear hZ hro hrc hrr hb3 hb13 hpc3 HPC HB12 n0 n1 k0 k1 k2 k3 k4
 go_wp2_with fail
 generalize w3.alloc (.cells Z 4) = W4 at *
 have HNEW := Lib.hid hnew; have HBN := Lib.hid hbn
 clear hnew hbn hmk
 go_loopw [11] (fun kv ws => ∃ k : Nat, k <= l.length /\ kv = .int .i64 k /\ Blk ws w3.heap.size 4 (bvs (rowTo (fun _ => true) l k)).toArray /\ Below w3.heap.size w3 ws) (fun kv _ => l.length - (intOf kv).toNat)
 case atStart => exact ⟨0, Nat.zero_le _, rfl, by rw [rowTo_zero, HZ.out]; exact HNEW.out, HBN.out⟩
 case round =>
  obtain ⟨k, hk, rfl, hblk, hbs⟩ := hrel
  by_cases hlt3 : k < l.length
  · obtain ⟨xa, hxa⟩ := get_of_lt hlt3
    have hset := rowTo_set (f := fun _ => true) hxa
    have hrl := rowTo_len (fun _ => true) l (show k <= l.length by omega)
    obtain ⟨pk, hpk⟩ := get_of_lt (xs := rowTo (fun _ => true) l k) (show k < (rowTo (fun _ => true) l k).length by omega)
    have d1 := hblk.boolAt hpk
    have d2 := hblk.free k
    have hfin := hblk.setBool k true
    rw [hset] at hfin
    have i1 : (k : Int) < (l.length : Int) := by omega
    have i2 : (0 : Int) <= (k : Int) := by omega
    have HFIN := Lib.hid hfin; have HBS := Lib.hid hbs
    clear hfin hbs hblk hpk hrl hset hxa
    go_wp2_with fail
    go_roundw
    case rel => exact ⟨k + 1, by omega, by go_num, HFIN.out, HBS.out.setCell (p := ⟨w3.heap.size, k, none⟩) (Nat.le_refl _) _⟩
    case measure => simp [intOf]; omega
  · obtain rfl : k = l.length := by omega
    rw [rowTo_full] at hblk
    have HBLK := Lib.hid hblk; have HBS := Lib.hid hbs
    clear hblk hbs
    go_wp2_with fail
    go_loopw [12] (fun ov ws => ∃ (out : List Nat) (mi : List Bool), out.length <= 64 /\ mi.length = l.length /\ grd g l.length (65 - out.length) mi out = RES /\ ws.ownsRow w3.heap.size 23 2 ov out.length (prs (pick (pairsOf l) out)) /\ Blk ws w3.heap.size 4 (bvs mi).toArray /\ Below w3.heap.size w3 ws) (fun ov _ => 65 - vlen ov)
    case atStart => exact ⟨[], l.map fun _ => true, by simp, by simp, HRES.out.symm, World.ownsRow_nil _ _ _ _, HBLK.out, HBS.out⟩
    case round =>
     obtain ⟨out, mi, ho64, hml, hgrd, hown, hblk, hbe⟩ := hrel
     obtain ⟨wo, hwo⟩ : ∃ wo, wo = wr := ⟨_, rfl⟩
     subst hwo
     have hst := grd_step g l.length mi out ho64
     rw [hgrd] at hst
     have hvl := own_vlen hown
     have HST := Lib.hid hst; have HO := Lib.hid hown; have HBK := Lib.hid hblk; have HBE := Lib.hid hbe; have HVL := Lib.hid hvl
     have HOB : Hid (∀ j, u12.ownBlock = some j -> w3.heap.size <= j) := fun j e => (hown.lt j e).1
     clear hst hown hblk hbe hgrd hvl
     go_wp2_with fail
     go_loopw [13, 14, 15] (fun bv mv iv ws => ∃ i : Nat, i <= l.length /\ iv = .int .i64 i /\ bv = .int .i64 (bestTo g mi i).1 /\ mv = .int .i64 (bestTo g mi i).2 /\ Below wo.heap.size wo ws) (fun _ _ iv _ => l.length - (intOf iv).toNat)
     case atStart => exact ⟨0, Nat.zero_le _, rfl, rfl, rfl, Below.refl _ _⟩
     case round =>
      obtain ⟨i, hi, rfl, rfl, rfl, hbs⟩ := hrel
      have hb3 := HBE.out.trans (hbs.mono HBE.out.size)
      by_cases hlt4 : i < l.length
      · obtain ⟨row, hrow, hrl, hra⟩ := HGL.out i hlt4
        obtain ⟨ai, ci, hai, hci⟩ := HRR.out.at (j := i) (xs := bvs row) (by rw [List.getElem?_map, hrow]; rfl)
        rw [bvs_len, hrl] at hai
        have hrcs := HRC.out.below hb3 (Nat.le_refl _)
        obtain ⟨br, or, rfl⟩ := hrcs.addr (by intro h; rw [h] at hai; simp at hai)
        have c1 := hrcs.at hai
        have hgn := gain_any row mi ai (some ⟨w3.heap.size, 0, none⟩) ci l.length wr (hrl.trans hml.symm) (by omega) (hci.below hb3 (Nat.le_refl _)) ((HBK.out.below hbs HBK.out.lt).cellsB)
        rw [hrl, hml] at hgn
        have hbst : bestTo g mi (i + 1) = if (bestTo g mi i).2 < gainTo row mi l.length then (i, gainTo row mi l.length) else bestTo g mi i := by rw [bestTo, hra, hml]
        have hgl1 := gainTo_le row mi l.length
        have hbl := bestTo_le g mi i
        have i1 : (i : Int) < (l.length : Int) := by omega
        have i2 : (0 : Int) <= (i : Int) := by omega
        have HGN := Lib.hid hgn; have HBST := Lib.hid hbst; have HBS := Lib.hid hbs
        clear hgn hbst hrcs hai hci hrow hra hbs hb3
        generalize gainTo row mi l.length = gn at *
        generalize bestTo g mi i = bi at *
        obtain ⟨b1, b2⟩ := bi
        simp only at hbl
        go_wp2_with fail
        refine HGN.out.mono ?_
        rintro e w5 ⟨rfl, hb5⟩
        have hbz := HBS.out.trans (hb5.mono HBS.out.size)
        have HBZ := Lib.hid hbz
        clear hb5 hbz
        by_cases hp : b2 < gn
        · have hbst := HBST.out
          rw [if_pos hp] at hbst
          have HM := Lib.hid hbst
          have j1 : (b2 : Int) < (gn : Int) := by omega
          clear hbst
          go_wp2_with fail
          go_roundw
          case rel => exact ⟨i + 1, by omega, by go_num, by rw [HM.out], by rw [HM.out], HBZ.out⟩
          case measure => simp [intOf]; omega
        · have hbst := HBST.out
          rw [if_neg hp] at hbst
          have HM := Lib.hid hbst
          have j1 : ¬ (b2 : Int) < (gn : Int) := by omega
          clear hbst
          go_wp2_with fail
          go_roundw
          case rel => exact ⟨i + 1, by omega, by go_num, by rw [HM.out], by rw [HM.out], HBZ.out⟩
          case measure => simp [intOf]; omega
      · obtain rfl : i = l.length := by omega
        have hbl := bestTo_le g mi l.length
        have hblt := bestTo_lt g mi l.length
        have hst := HST.out
        have hown := own_belowK HO.out hbs (Nat.le_refl _)
        have hblk := HBK.out.below hbs HBK.out.lt
        have hpcx := HPC3.out.below hb3 (Nat.le_refl _)
        generalize bestTo g mi l.length = bi at *
        obtain ⟨b1, b2⟩ := bi
        simp only at hbl hblt hst
        by_cases hz : b2 = 0
        · rw [if_pos hz] at hst
          have hlen : (pick (pairsOf l) out).length = out.length := List.length_map _
          obtain ⟨oa, oc, rfl, hoc⟩ := own_cells hown
          have HR := Lib.hid hst; have HOC := Lib.hid hoc; have HB3 := Lib.hid (HBW.out.trans ((HB13.out.trans (hb3.mono HB13.out.size)).mono HBW.out.size))
          have j1 : ((b2 : Int) == 0) = true := by rw [hz]; rfl
          have HLEN := Lib.hid hlen
          clear hst hoc hown hblk hbs hb3 hblt hpcx hlen
          go_wp2_with fail
          go_ret2
          exact ⟨⟨oa, ⟨oc, by rw [HR.out]; show _ = Ending.returned (.tuple #[.slice oa (pick (pairsOf l) out).length oc, .int .i64 0]); rw [HLEN.out]; rfl⟩, by rw [HR.out]; exact HOC.out⟩, HB3.out⟩
        · rw [if_neg hz] at hst
          have j1 : ((b2 : Int) == 0) = false := by simpa using hz
          obtain ⟨oa, oc, hoe, -⟩ := own_cells hown
          by_cases h64 : out.length = 64
          · rw [if_pos h64] at hst
            have HR := Lib.hid hst; have HB3 := Lib.hid (HBW.out.trans ((HB13.out.trans (hb3.mono HB13.out.size)).mono HBW.out.size))
            subst hoe
            have j2 : ((out.length : Int) == 64) = true := by rw [h64]; rfl
            clear hst hown hblk hbs hb3 hblt hpcx
            go_wp2_with fail
            go_ret2
            exact ⟨⟨none, ⟨0, by rw [HR.out]; rfl⟩, by rw [HR.out]; exact Cells.nil _ _⟩, HB3.out⟩
          · rw [if_neg h64] at hst
            have hb1l := hblt hz
            obtain ⟨row, hrow, hrl, hra⟩ := HGL.out b1 hb1l
            rw [hra] at hst
            obtain ⟨ai, ci, hai, hci⟩ := HRR.out.at (j := b1) (xs := bvs row) (by rw [List.getElem?_map, hrow]; rfl)
            rw [bvs_len, hrl] at hai
            obtain ⟨t, ht⟩ := get_of_lt hb1l
            have htt := pairs_get ht
            have hll : (pairsOf l).length = l.length := by simp [pairsOf]
            obtain ⟨bk, off, rfl⟩ := hpcx.addr (prs_ne (by omega))
            have c1 := hpcx.at (prs_fst htt)
            have c2 := hpcx.at (prs_snd htt)
            rw [<- Nat.add_assoc] at c2
            have i1 : (b1 : Int) < (l.length : Int) := by omega
            have i2 : (0 : Int) <= (b1 : Int) := by omega
            have hps := pick_snoc out htt
            have j2 : ((out.length : Int) == 64) = false := by simp; omega
            obtain ⟨i0, hi, hz0, hz1, hz2⟩ := info_parts Tryz.infoChirp
            subst hoe
            have HR := Lib.hid hst; have HOX := Lib.hid hown; have HBX := Lib.hid hblk; have HPS := Lib.hid hps
            have hB3 := HBE.out.trans (hbs.mono HBE.out.size)
            have HB3 := Lib.hid hB3
            have hsz := hB3.size
            clear hst hown hblk hps hbs hb3 hB3 hblt hpcx hrow hra htt hll
            go_wp2_with (at_builtin; refine wpList_append_own _ rfl _ _ 44 rfl w3.heap.size 23 i0 (.agg #[.int .i64 0, .int .i64 0]) 2 16 Tryz.underlying44 hi hz0 hz1 hz2 rfl (by decide) _ _ _ rfl (HOX.out.alloc _) ⟨wr.heap.size, 0, none⟩ 1 1 [.int .i64 t.1.1, .int .i64 t.1.2] rfl rfl (World.news_of_block (cs := #[.int .i64 t.1.1, .int .i64 t.1.2]) (t := 23) (fr := (0, 0)) (heap_alloc_new wr _)) (by simp [Value.oneCell']) (by unfold maxLen; omega) (by omega) (by simp; omega) ?_; intro v1 wz hown1 hgrow _)
            have hbz := (HB3.out.alloc HB3.out.size (.cells #[.int .i64 t.1.1, .int .i64 t.1.2] 23)).grown hgrow (by simp; omega) HOB.out
            have hblkz := (HBX.out.alloc (.cells #[.int .i64 t.1.1, .int .i64 t.1.2] 23)).kept hgrow (own_ne_blk (HOX.out.alloc (.cells #[.int .i64 t.1.1, .int .i64 t.1.2] 23)) (HBX.out.alloc (.cells #[.int .i64 t.1.1, .int .i64 t.1.2] 23)) (by decide))
            rw [<- HPS.out] at hown1
            have HOZ := Lib.hid hown1; have HBLZ := Lib.hid hblkz; have HBZ := Lib.hid hbz
            clear hown1 hgrow hblkz hbz c1 c2
            have hrm : row.length = mi.length := hrl.trans hml.symm
            go_wp2_with fail
            go_loopw [17] (fun kv ws => ∃ k : Nat, k <= l.length /\ kv = .int .i64 k /\ Blk ws w3.heap.size 4 (bvs (midTo row mi k)).toArray /\ ws.ownsRow w3.heap.size 23 2 v1 (out.length + 1) (prs (pick (pairsOf l) (out ++ [b1]))) /\ Below w3.heap.size w3 ws) (fun kv _ => l.length - (intOf kv).toNat)
            case atStart => exact ⟨0, Nat.zero_le _, rfl, by rw [midTo_zero]; exact HBLZ.out, HOZ.out, HBZ.out⟩
            case round =>
             obtain ⟨k, hk, rfl, hblk, hown, hbs⟩ := hrel
             by_cases hlt5 : k < l.length
             · obtain ⟨q, hq⟩ := get_of_lt (xs := mi) (show k < mi.length by omega)
               obtain ⟨p, hp⟩ := get_of_lt (xs := row) (show k < row.length by omega)
               have d1 := hblk.boolAt ((midTo_get hrm (show k < mi.length by omega)).trans hq)
               have d2 := hblk.free k
               have hset := hblk.setBool k (q && !p)
               rw [midTo_set hrm hq hp] at hset
               have hnob := own_ne_blk hown hblk (by decide)
               have hrcs := HRC.out.below hbs (Nat.le_refl _)
               obtain ⟨br, or, rfl⟩ := hrcs.addr (by intro h; rw [h] at hai; simp at hai)
               have e1 := hrcs.at hai
               have hcis := hci.below hbs (Nat.le_refl _)
               obtain ⟨bi, oi, rfl⟩ := hcis.addr (bools_ne (by omega))
               have e2 := bools_at hcis hp
               have k1 : (k : Int) < (l.length : Int) := by omega
               have k2 : (0 : Int) <= (k : Int) := by omega
               have hownz := fun u => own_set3 (p := ⟨w3.heap.size, k, none⟩) (u := u) hown (fun h => hnob h.symm)
               have HSET := Lib.hid hset; have HOWN := Lib.hid hownz; have HBS := Lib.hid hbs
               clear hset hownz hown hblk hbs hrcs hcis hnob hq hp
               cases q with
               | false =>
                 go_wp2_with fail
                 go_roundw
                 case rel => exact ⟨k + 1, by omega, by go_num, HSET.out, HOWN.out _, HBS.out.setCell (p := ⟨w3.heap.size, k, none⟩) (Nat.le_refl _) _⟩
                 case measure => simp [intOf]; omega
               | true =>
                 cases p with
                 | false =>
                   go_wp2_with fail
                   go_roundw
                   case rel => exact ⟨k + 1, by omega, by go_num, HSET.out, HOWN.out _, HBS.out.setCell (p := ⟨w3.heap.size, k, none⟩) (Nat.le_refl _) _⟩
                   case measure => simp [intOf]; omega
                 | true =>
                   go_wp2_with fail
                   go_roundw
                   case rel => exact ⟨k + 1, by omega, by go_num, HSET.out, HOWN.out _, HBS.out.setCell (p := ⟨w3.heap.size, k, none⟩) (Nat.le_refl _) _⟩
                   case measure => simp [intOf]; omega
             · obtain rfl : k = l.length := by omega
               rw [<- hml, midTo_full hrm] at hblk
               have hlen1 : (out ++ [b1]).length = out.length + 1 := by simp
               have hvl2 := own_vlen hown
               rw [<- hlen1] at hown
               have HBL := Lib.hid hblk; have HOWN := Lib.hid hown; have HBS := Lib.hid hbs
               have hsl := strike_len hrm
               clear hblk hown hbs
               go_wp2_with fail
               go_roundw
               case rel => exact ⟨out ++ [b1], strike row mi, by simp; omega, by omega, HR.out.symm, HOWN.out, HBL.out, HBS.out⟩
               case measure => have h5 := HVL.out; simp; omega
end Go.Proofs.YtdpjdifoonfcdaaGreatDoor

namespace Go.Proofs.YtdpjdifoonfcdaaGreatDoor
open Go.RowKit
def BuiRes (L a b c d : Int) (s : ByteArray) (w : World) (e : Ending) (w' : World) : Prop := (∃ ao co, e = .returned (.tuple #[.slice ao (buiR L a b c d s).length co, .int .i64 (buiE L a b c d s)]) /\ Cells w' ao (prs (buiR L a b c d s))) /\ Below w.heap.size w w'
set_option maxRecDepth 100000 in
set_option maxHeartbeats 2000000 in
theorem refBuild_any (L a b c d : Int) (s : ByteArray) (w : World) (hs : s.size <= 1048576) :
 Calls Tryz.prog 20 #[.agg #[.int .i64 L, .int .i64 a, .int .i64 b, .int .i64 c, .int .i64 d], .string s] w (BuiRes L a b c d s w) := by
 by_cases hE : covE L a b c d [] s = 0
 · obtain ⟨_, _, n, m, hb⟩ := covE_0 hE
   have h := refBuild_good n m L a b c d s w hs hE hb
   obtain ⟨h1, h2⟩ := bui_yes hE hb
   unfold BuiRes
   rw [h1, h2]
   exact h
 · obtain ⟨h1, h2⟩ := bui_no hE
   unfold BuiRes
   rw [h1, h2]
   obtain ⟨W0, hW0⟩ : ∃ W0, w.alloc (.cells #[.int .i64 L, .int .i64 a, .int .i64 b, .int .i64 c, .int .i64 d] 43) = W0 := ⟨_, rfl⟩
   have hb0 : Below w.heap.size w W0 := by rw [<- hW0]; exact (Below.refl _ w).alloc (Nat.le_refl _) _
   have hbg := refBegin_any L a b c d [] none 0 s W0 hs (Cells.nil _ _) (by simp)
   rw [List.length_nil] at hbg
   have HW0 := Lib.hid hW0; have HBG := Lib.hid hbg; have HB0 := Lib.hid hb0
   clear hW0 hb0 hbg
   go_enter Tryz.func20, Tryz.ntmps20
   go_wp2_with fail
   rw [HW0.out]
   refine HBG.out.mono ?_
   rintro e w1 ⟨⟨n, m, rfl, -⟩, hb1⟩
   have hbw := HB0.out.trans (hb1.mono HB0.out.size)
   have HBW := Lib.hid hbw
   generalize hvv : covE L a b c d [] s = v at *
   have HVV := Lib.hid hvv
   have hv : (v != 0) = true := by simpa using hE
   clear hvv hb1 hbw
   go_wp2_with fail
   go_ret2
   exact ⟨⟨none, 0, by rw [HVV.out]; rfl, Cells.nil _ _⟩, HBW.out.alloc HBW.out.size _⟩
end Go.Proofs.YtdpjdifoonfcdaaGreatDoor

namespace Go.Proofs.YtdpjdifoonfcdaaGreatDoor
open Go.RowKit Go.Shelf
set_option maxRecDepth 1000000 in
set_option maxHeartbeats 4000000 in
theorem builds_law (L a b c d : Int) (s : ByteArray) (w : World) (ht : Tab w) (hs : s.size <= 1048576) :
 Calls Tryz.prog 4 #[.agg #[.int .i64 L, .int .i64 a, .int .i64 b, .int .i64 c, .int .i64 d], .string s] w fun e w' => e = .returned (.bool true) /\ Below w.heap.size w w' := by
 have hp1 := fun (W : World) (h : Tab W) => Build_any L a b c d s W h (by omega)
 have hp2 := fun (W : World) => refBuild_any L a b c d s W hs
 unfold BuiRes at hp2
 have hl := buiR_len L a b c d s
 have hsc := fun (m k : Option Addr) (p q : Nat) (W : World) (h1 : Cells W m (prs (buiR L a b c d s))) (h2 : Cells W k (prs (buiR L a b c d s))) => sameChirps_any m k (buiR L a b c d s) (buiR L a b c d s) p q W h1 h2 (by omega) (by omega)
 rw [decide_eq_true rfl] at hsc
 generalize buiR L a b c d s = R at *
 generalize buiE L a b c d s = E at *
 have h1 : (E == E) = true := by simp
 obtain ⟨W0, hW0⟩ : ∃ W0, w.alloc (.cells #[.int .i64 L, .int .i64 a, .int .i64 b, .int .i64 c, .int .i64 d] 43) = W0 := ⟨_, rfl⟩
 have hB0 : Below w.heap.size w W0 := by rw [<- hW0]; exact (Below.refl _ w).alloc (Nat.le_refl _) _
 have hs0 : W0.heap.size = w.heap.size + 1 := by rw [<- hW0]; simp
 have r0 : Blk W0 w.heap.size 43 #[.int .i64 L, .int .i64 a, .int .i64 b, .int .i64 c, .int .i64 d] := by rw [<- hW0]; exact heap_alloc_new w _
 have HKB : Hid (∀ wx, Below W0.heap.size W0 wx -> (wx.cell? ⟨w.heap.size, 0, none⟩ = some (.int .i64 L) /\ wx.cell? ⟨w.heap.size, 1, none⟩ = some (.int .i64 a) /\ wx.cell? ⟨w.heap.size, 2, none⟩ = some (.int .i64 b) /\ wx.cell? ⟨w.heap.size, 3, none⟩ = some (.int .i64 c) /\ wx.cell? ⟨w.heap.size, 4, none⟩ = some (.int .i64 d)) /\ Below w.heap.size w wx /\ Tab wx) := Lib.hid (fun wx hb => by
  have hbw := hB0.trans (hb.mono (by omega))
  have h := r0.below hb (by omega)
  exact ⟨⟨h.cell 0, h.cell 1, h.cell 2, h.cell 3, h.cell 4⟩, hbw, ht.below hbw (Nat.le_refl _)⟩)
 have HW0 := Lib.hid hW0; have HP1 := Lib.hid hp1; have HP2 := Lib.hid hp2; have HSC := Lib.hid hsc
 clear hW0 hB0 hs0 r0 hp1 hp2 hsc ht hl
 obtain ⟨⟨q0, q1, q2, q3, q4⟩, -, -⟩ := HKB.out W0 (Below.refl _ _)
 go_enter Tryz.func4, Tryz.ntmps4
 go_wp2_with fail
 rw [HW0.out]
 refine (HP1.out _ (HKB.out W0 (Below.refl _ _)).2.2).mono ?_
 rintro e w1 ⟨⟨p1, c1, rfl, hr1, -, -⟩, hb1⟩
 have HR1 := Lib.hid hr1; have HB1 := Lib.hid hb1
 clear q0 q1 q2 q3 q4
 obtain ⟨⟨q0, q1, q2, q3, q4⟩, -, -⟩ := HKB.out w1 hb1
 clear hr1 hb1
 go_wp2_with fail
 refine (HP2.out _).mono ?_
 rintro e w2 ⟨⟨p2, c2, rfl, hr2⟩, hb2⟩
 have HR2 := Lib.hid hr2; have HR12 := Lib.hid (HR1.out.below hb2 (Nat.le_refl _)); have HB2 := Lib.hid (HB1.out.trans (hb2.mono HB1.out.size))
 clear hr2 hb2 q0 q1 q2 q3 q4
 go_wp2_with fail
 refine (HSC.out _ _ _ _ _ HR12.out HR2.out).mono ?_
 rintro e w3 ⟨rfl, hb3⟩
 have HB3 := Lib.hid (HB2.out.trans (hb3.mono HB2.out.size))
 clear hb3
 go_wp2_with fail
 refine (bworks_any w3 (HKB.out w3 HB3.out).2.2).mono ?_
 rintro e w4 ⟨rfl, hb4⟩
 have HB4 := Lib.hid (HB3.out.trans (hb4.mono HB3.out.size))
 clear hb4
 go_wp2_with fail
 go_ret
 exact ⟨rfl, (HKB.out w4 HB4.out).2.1⟩
end Go.Proofs.YtdpjdifoonfcdaaGreatDoor

namespace Go.Proofs.YtdpjdifoonfcdaaGreatDoor
open Go.RowKit Go.WideShapes Go.ChangeShapes Go.Deep Go.Joins
section
variable {H : Type}
theorem bulk_mem {d : DataW H} : ∀ {ds : List (DataW H)}, d ∈ ds -> Rows.uptoBulk d <= Rows.uptoBulkAll ds
 | x :: r, h => by
   simp only [Rows.uptoBulkAll]
   rcases List.mem_cons.1 h with rfl | h2
   · omega
   · have := bulk_mem h2; omega
end
end Go.Proofs.YtdpjdifoonfcdaaGreatDoor

namespace Go.Proofs.YtdpjdifoonfcdaaGreatDoor
open Go.RowKit Go.WideShapes Go.ChangeShapes Go.Deep Go.Joins
theorem upto_str1 {H : Type} {ds : List (DataW H)} (h : Rows.uptoSmall H ds = true) {l : List UInt8} (hd : DataW.lit (.string l) ∈ ds) : l.length <= 1048576 := by
 have h1 : Rows.uptoBulkAll ds <= 1048576 := by simpa [Rows.uptoSmall] using h
 have h3 := bulk_mem hd
 simp only [Rows.uptoBulk] at h3
 omega
end Go.Proofs.YtdpjdifoonfcdaaGreatDoor
