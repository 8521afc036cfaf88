/- Parts of a proof, in build order: Y6, Y7, Y8, Y9, YA, Y0, Y1, PL, Y2, YC, YB, Y3. -/
import Derived.Test.YtdpjdifoonfcdaaGreatDoorKb8

namespace Go.Proofs.YtdpjdifoonfcdaaGreatDoor
open Go.RowKit
def realB (s : ByteArray) : Bool := !Lib.hasSuffix s.data.toList [105] && (getR s).isSome
theorem get_both (s : ByteArray) (w : World) (ht : Tab w) (hs : s.size <= 140737488351232) :
 Calls Tryz.prog 129 #[.string s] w fun e w' => ((e = .returned (.tuple #[.agg #[.bool false, .slice none 0 0, .slice none 0 0, .bool false, .slice none 0 0, .slice none 0 0], .bool false]) /\ realB s = false) ∨ ∃ v s1 n d s2 n2 d2, e = .returned (.tuple #[v, .bool true]) /\ ValV w' v s1 n d s2 n2 d2 /\ decide (n2 = 0) = realB s) /\ Below w.heap.size w w' := by
 cases hi : Lib.hasSuffix s.data.toList [105] with
 | true =>
   have hr : realB s = false := by rw [realB, hi]; rfl
   refine (get_hasI s w ht hs hi).mono ?_
   rintro e w' ⟨h | ⟨v, s1, n, d, s2, n2, d2, rfl, hv, h0⟩, hb⟩
   · exact ⟨.inl ⟨h, hr⟩, hb⟩
   · exact ⟨.inr ⟨v, s1, n, d, s2, n2, d2, rfl, hv, by rw [hr, decide_eq_false h0]⟩, hb⟩
 | false =>
   refine (get_noI s w ht hs hi).mono ?_
   rintro e w' ⟨h, hb⟩
   cases hg : getR s with
   | none =>
     rw [hg] at h
     exact ⟨.inl ⟨h, by rw [realB, hi, hg]; rfl⟩, hb⟩
   | some x =>
     obtain ⟨s1, n, d⟩ := x
     rw [hg] at h
     obtain ⟨v, rfl, hv⟩ := h
     exact ⟨.inr ⟨v, s1, n, d, false, 0, 1, rfl, hv, by rw [realB, hi, hg]; rfl⟩, hb⟩
set_option maxRecDepth 100000 in
set_option maxHeartbeats 2000000 in
theorem isRealF_any (s : ByteArray) (w : World) (ht : Tab w) (hs : s.size <= 140737488351232) :
 Calls Tryz.prog 167 #[.string s] w fun e w' => e = .returned (.bool (realB s)) /\ Below w.heap.size w w' := by
 have HG := Lib.hid (get_both s w ht hs)
 generalize realB s = R at *
 clear ht hs
 go_enter Tryz.func167, Tryz.ntmps167
 go_wp2_with fail
 refine HG.out.mono ?_
 clear HG
 rintro e w1 ⟨⟨rfl, rfl⟩ | ⟨v, s1, n, d, s2, n2, d2, rfl, hv, hR⟩, hb1⟩
 · go_wp2_with fail
   go_ret
   exact ⟨rfl, hb1.alloc hb1.size _⟩
 · have HV := Lib.hid hv; have HR := Lib.hid hR
   obtain ⟨va, vb, vc, vd, rfl, ha, hb, hc, hd⟩ := hv
   obtain ⟨aa, ca, rfl⟩ := ha.cases
   obtain ⟨ab, cb, rfl⟩ := hb.cases
   obtain ⟨ac, cc, rfl⟩ := hc.cases
   obtain ⟨ad, cd, rfl⟩ := hd.cases
   clear ha hb hc hd hR
   go_wp2_with fail
   refine (isReal_any _ s1 s2 n d n2 d2 _ (HV.out.below ((Below.refl _ _).alloc (Nat.le_refl _) _) (Nat.le_refl _))).mono ?_
   rw [HR.out]
   rintro e w2 ⟨rfl, hb2⟩
   go_wp2_with fail
   go_ret
   exact ⟨rfl, (hb1.alloc hb1.size _).trans (hb2.mono (by have := hb1.size; simp; omega))⟩
end Go.Proofs.YtdpjdifoonfcdaaGreatDoor

namespace Go.Proofs.YtdpjdifoonfcdaaGreatDoor
open Go.RowKit
set_option maxRecDepth 100000 in
set_option maxHeartbeats 2000000 in
theorem int_small (s : ByteArray) (sg : Bool) (N : Nat) (w : World) (ht : Tab w) (hs : s.size <= 1099511627776) (hi : Lib.hasSuffix s.data.toList [105] = false) (hg : getR s = some (sg, N, 1)) (hN : N < 1000000000) :
 Calls Tryz.prog 53 #[.string s] w fun e w' => e = .returned (.tuple #[.int .i64 (sgI sg N), .int .i64 0]) /\ Below w.heap.size w w' := by
 have hB0 : Below w.heap.size w (w.alloc (.cells #[.string s] 34)) := (Below.refl _ _).alloc (Nat.le_refl _) _
 have hr := reals_any (some ⟨w.heap.size, 0, none⟩) [s] 1 (w.alloc (.cells #[.string s] 34)) (ht.below hB0 (Nat.le_refl _)) (.inr ⟨w.heap.size, 0, rfl, fun j u hu => by
  rw [cell_of_row _ _ _ _ _ _ (heap_alloc_new w _), Nat.zero_add]; simpa using hu⟩) (by simp) (by simp [hs, hi])
 have HR : Hid (Calls Tryz.prog 91 #[.slice (some ⟨w.heap.size, 0, none⟩) 1 1] (w.alloc (.cells #[.string s] 34)) (RealsRes [s] (w.alloc (.cells #[.string s] 34)))) := Lib.hid hr
 have hgl : getL [s] = some [(sg, N, 1)] := by simp only [getL, hg]
 have HB0 := Lib.hid hB0; have HGL := Lib.hid hgl; have HN := Lib.hid hN
 clear hr hs hi ht hB0 hg hgl hN
 go_enter Tryz.func53, Tryz.ntmps53
 go_wp2_with fail
 refine HR.out.mono ?_
 rintro e w1 ⟨hm, hb1⟩
 have hbw := HB0.out.trans (hb1.mono HB0.out.size)
 clear hb1
 rw [HGL.out] at hm
 obtain ⟨ar, cr, cs, rfl, hc, hnr⟩ := hm
 have h6 := hnr.six
 have hlen : cs.length = 1 := hnr.1
 obtain ⟨te, htc⟩ := get_of_lt (show 0 < cs.length by omega)
 obtain ⟨p1, g1, p2, g2, p3, g3, p4, g4, rfl, j1, j2, _, _⟩ := hnr.2 0 te _ htc rfl
 simp only at htc j1 j2
 have hne : row3 cs ≠ [] := by intro h; have := row3_get h6 htc (j := 0) rfl (by omega); rw [h] at this; simp at this
 obtain ⟨bb, of, rfl⟩ := hc.addr hne
 have x0 : w1.cell? ⟨bb, of, none⟩ = some (.bool sg) := hc.at (row3_get h6 htc (j := 0) rfl (by omega))
 have x1 : w1.cell? ⟨bb, of + 1, none⟩ = some (.slice p1 (dig N).length g1) := hc.at (row3_get h6 htc (j := 1) rfl (by omega))
 have x2 : w1.cell? ⟨bb, of + 2, none⟩ = some (.slice p2 (dig 1).length g2) := hc.at (row3_get h6 htc (j := 2) rfl (by omega))
 have HJ1 := Lib.hid j1
 obtain ⟨_, _, heq, hd, -, -⟩ := j2
 cases heq
 rw [dig_1] at hd
 obtain ⟨b2, o2, rfl⟩ := hd.addr (by simp [dgs])
 have d0 : w1.cell? ⟨b2, o2, none⟩ = some (.int .u64 1) := hd.at (show (dgs [1])[0]? = some _ from rfl)
 rw [dig_1] at x2
 simp only [List.length_cons, List.length_nil, Nat.zero_add] at x2
 clear hd hc hnr h6 hlen htc hne j1 HGL HR
 go_wp2_with fail
 refine (natural_any 9007199254740991 _ (by decide)).mono ?_
 rintro e w2 ⟨⟨aq, cq, rfl, hcq, hq1, hq2⟩, hb2⟩
 have hq : NatV w2 (.slice aq (dig 9007199254740991).length cq) 9007199254740991 := ⟨_, _, rfl, hcq, hq1, hq2⟩
 have hz1 : Below w1.heap.size w1 w2 := ((Below.refl w1.heap.size w1).alloc (Nat.le_refl _) _).trans (hb2.mono (by simp))
 have k0 : w2.cell? ⟨w1.heap.size, 0, none⟩ = some (.bool sg) := box_keep hb2 (by simp) 0
 have k1 : w2.cell? ⟨w1.heap.size, 1, none⟩ = some (.slice p1 (dig N).length g1) := box_keep hb2 (by simp) 1
 have k2 : w2.cell? ⟨w1.heap.size, 2, none⟩ = some (.slice (some ⟨b2, o2, none⟩) 1 g2) := box_keep hb2 (by simp) 2
 have d2 := cell_keep d0 hz1 (Nat.le_refl _)
 have hl2 : w1.heap.size < w2.heap.size := by have := hb2.size; simp at this; omega
 have hdN : (dig N).length <= 1 /\ (dig N ≠ [] -> dig N = [N]) /\ (dig N = [] -> N = 0) := by
  by_cases h0 : N = 0
  · subst h0; rw [dig_zero]; simp
  · rw [dig_small (show N < B from HN.out) h0]; simp
 have hq3 : (dig 9007199254740991).length <= 3 := dig_len_u64 (by decide)
 have hcm := natCmp_any _ _ N 9007199254740991 w2 (HJ1.out.below hz1 (Nat.le_refl _)) hq (by omega) (by omega)
 rw [cmpN_lt (by have := HN.out; omega)] at hcm
 have HCM := Lib.hid hcm; have HW := Lib.hid (hbw.trans (hz1.mono hbw.size)); have HD := Lib.hid hdN; have HJ2 := Lib.hid (HJ1.out.below hz1 (Nat.le_refl _))
 generalize (dig 9007199254740991).length = kq at *
 have hkN := hdN.1
 clear hcm hq hcq hq1 hq2 hb2 hz1 hbw hdN d0 x0 x1 x2 hq3
 go_wp2_with fail
 refine HCM.out.mono ?_
 rintro e w3 ⟨rfl, hb3⟩
 have m0 := cell_keep k0 hb3 (Nat.le_refl _)
 have m1 := cell_keep k1 hb3 (Nat.le_refl _)
 have hbw := HW.out.trans (hb3.mono HW.out.size)
 have hl3 : w1.heap.size < w3.heap.size := by have := hb3.size; omega
 have HJ3 := Lib.hid (HJ2.out.below hb3 (Nat.le_refl _))
 clear k0 k1 k2 d2 hb3 HCM hl2
 by_cases h0 : N = 0
 · subst h0
   rw [dig_zero] at m1
   simp only [List.length_nil] at m1
   have hR : (0 : Int) = sgI sg ((0 : Nat) : Nat) := by unfold sgI; split <;> rfl
   have HRR := Lib.hid hR
   clear hR hkN HJ1 HJ2 HJ3 HD HN
   go_wp2_with fail
   go_loopw [8, 9] (fun v8 v9 wr => v8 = .int .i64 0 /\ v9 = .int .i64 (-1) /\ wr = w3) (fun _ _ _ => 0)
   case atStart => exact ⟨rfl, rfl, rfl⟩
   case round =>
    obtain ⟨rfl, rfl, hwr⟩ := hrel
    obtain rfl : w3 = wr := hwr.symm
    cases sg
    all_goals go_wp2_with fail
    all_goals go_ret2
    all_goals rw [<- HRR.out]
    all_goals exact ⟨rfl, hbw⟩
 · have hdg : dig N = [N] := dig_small (show N < B from HN.out) h0
   have hj := HJ3.out
   obtain ⟨_, _, heq, hd, -, -⟩ := hj
   cases heq
   rw [hdg] at hd m1
   obtain ⟨b3, o3, rfl⟩ := hd.addr (by simp [dgs])
   have d3 : w3.cell? ⟨b3, o3, none⟩ = some (.int .u64 N) := hd.at (show (dgs [N])[0]? = some _ from rfl)
   simp only [List.length_cons, List.length_nil, Nat.zero_add] at m1
   have hN1 := HN.out
   have HH0 := Lib.hid h0
   clear hkN HJ1 HJ2 HJ3 HD hd hdg h0
   go_wp2_with fail
   go_loopw [8, 9] (fun v8 v9 wr => ((v8 = .int .i64 0 /\ v9 = .int .i64 0) ∨ (v8 = .int .i64 N /\ v9 = .int .i64 (-1))) /\ wr = w3) (fun _ v9 _ => (intOf v9 + 1).toNat)
   case atStart => exact ⟨.inl ⟨rfl, rfl⟩, rfl⟩
   case round =>
    obtain ⟨⟨rfl, rfl⟩ | ⟨rfl, rfl⟩, hwr⟩ := hrel
    · obtain rfl : w3 = wr := hwr.symm
      go_wp2_with fail
      exact ⟨⟨.inr ⟨rfl, rfl⟩, trivial⟩, by decide⟩
    · obtain rfl : w3 = wr := hwr.symm
      cases sg
      all_goals go_wp2_with fail
      all_goals go_ret2
      all_goals exact ⟨rfl, hbw⟩
end Go.Proofs.YtdpjdifoonfcdaaGreatDoor

namespace Go.Proofs.YtdpjdifoonfcdaaGreatDoor
open Go.RowKit
theorem getR_text {s : ByteArray} {sg : Bool} {N D : Nat} (h : getR s = some (sg, N, D)) : s = ratT sg N D /\ bigQ N D = false /\ D ≠ 0 /\ Nat.gcd N D = 1 /\ (N = 0 -> sg = false) := by
 unfold getR at h
 split at h
 · cases h
 · rcases hp : parseR s.data.toList with _ | ⟨m, n, d⟩
   · rw [hp] at h; cases h
   · rw [hp] at h
     simp only [ownD] at h
     split at h
     · rename_i hc
       cases h
       obtain ⟨_, _, hd0⟩ := parseR_bd hp
       have hg : 0 < Nat.gcd n d := Nat.gcd_pos_of_pos_right _ (by omega)
       have h4 := Nat.div_pos (Nat.le_of_dvd (by omega) (Nat.gcd_dvd_right n d)) hg
       refine ⟨hc.1.symm, hc.2, by omega, Nat.gcd_div_gcd_div_gcd_of_pos_right (by omega), fun h0 => ?_⟩
       have h5 : n = 0 := by
        have h6 : n / Nat.gcd n d * Nat.gcd n d = n := Nat.div_mul_cancel (Nat.gcd_dvd_left n d)
        rw [h0, Nat.zero_mul] at h6
        exact h6.symm
       simp [h5]
     · cases h
theorem cut_own (sg : Bool) (N D : Nat) : Lib.cut (ratT sg N D).data.toList [47] = ((ratT sg N 1).data.toList, if D = 1 then [] else Lib.decDigits D, decide (D ≠ 1)) := by
 have hne : ∀ b ∈ (if sg = true then [45] else []) ++ Lib.decDigits N, b ≠ (47 : UInt8) := by
  intro b hb
  rcases List.mem_append.1 hb with h | h
  · split at h
    · rw [List.mem_singleton.1 h]; decide
    · cases h
  · exact (dg_ne (dec_dg N b h)).1
 rw [ratT_list, ratT_list, if_pos rfl, List.append_nil]
 by_cases hd : D = 1
 · rw [if_pos hd, if_pos hd, List.append_nil, cut_none hne, decide_eq_false (by simpa using hd)]
 · rw [if_neg hd, if_neg hd, <- List.append_assoc, cut_some hne, decide_eq_true (by simpa using hd)]
theorem arr_same (b : ByteArray) : (⟨b.data.toList.toArray⟩ : ByteArray) = b := by cases b; simp
theorem ratT_one (sg : Bool) (N : Nat) : (ratT sg N 1).size = (if sg = true then 1 else 0) + Lib.nDigits N := by
 show (ratT sg N 1).data.toList.length = _
 rw [ratT_list, if_pos rfl, List.append_nil, List.length_append, Lib.decDigits_length]
 split <;> rfl
theorem dec_text (D : Nat) : (⟨(Lib.decDigits D).toArray⟩ : ByteArray) = ratT false D 1 := by
 have h := ratT_list false D 1
 rw [if_pos rfl, List.append_nil, if_neg (by decide), List.nil_append] at h
 rw [<- h, arr_same]
theorem small_digits {N : Nat} (h : Lib.nDigits N <= 6) : N < 1000000 := by
 have h1 := (dec_read N)
 have h2 := natP_some (natP_dec N)
 rw [Lib.decDigits_length] at h2
 exact Nat.lt_of_lt_of_le h2 (Nat.pow_le_pow_right (by decide) h)
theorem getR_whole {sg : Bool} {N : Nat} (hs : N = 0 -> sg = false) (h : Lib.nDigits N <= 6) : getR (ratT sg N 1) = some (sg, N, 1) := by
 refine getR_own (by decide) (Nat.gcd_one_right N) hs ?_
 have h1 : Lib.nDigits 1 = 1 := Lib.nDigits_small (by decide)
 unfold bigQ
 rw [Bool.or_eq_false_iff, decide_eq_false_iff_not, decide_eq_false_iff_not]
 exact ⟨by omega, by omega⟩
def barS (s : ByteArray) : Option (Nat × Nat) :=
 if realB s = true then (match getR s with
  | some (sg, N, D) => if sg = false /\ Lib.nDigits N <= 6 /\ Lib.nDigits D <= 6 /\ N <= D then some (N, D) else none
  | none => none) else none
theorem realB_true {s : ByteArray} (h : realB s = true) : Lib.hasSuffix s.data.toList [105] = false /\ ∃ sg N D, getR s = some (sg, N, D) := by
 unfold realB at h
 rw [Bool.and_eq_true, Bool.not_eq_true'] at h
 obtain ⟨⟨sg, N, D⟩, hx⟩ := Option.isSome_iff_exists.1 h.2
 exact ⟨h.1, sg, N, D, hx⟩
theorem barS_some {s : ByteArray} {N D : Nat} (h : barS s = some (N, D)) : Lib.hasSuffix s.data.toList [105] = false /\ getR s = some (false, N, D) /\ N < 1000000 /\ D < 1000000 /\ N <= D /\ D ≠ 0 := by
 unfold barS at h
 split at h
 · rename_i hr
   obtain ⟨h1, sg, N', D', hx⟩ := realB_true hr
   rw [hx] at h
   simp only at h
   split at h
   · rename_i hc
     cases h
     obtain ⟨rfl, h2, h3, h4⟩ := hc
     exact ⟨h1, hx, small_digits h2, small_digits h3, h4, (getR_text hx).2.2.1⟩
   · cases h
 · cases h
end Go.Proofs.YtdpjdifoonfcdaaGreatDoor

namespace Go.Proofs.YtdpjdifoonfcdaaGreatDoor
open Go.RowKit
def BarRes (r : Option (Nat × Nat)) (w : World) (e : Ending) (w' : World) : Prop :=
 (match r with
  | none => ∃ n d : Int, e = .returned (.tuple #[.agg #[.int .i64 n, .int .i64 d], .bool false])
  | some (N, D) => e = .returned (.tuple #[.agg #[.int .i64 N, .int .i64 D], .bool true])) /\ Below w.heap.size w w'
theorem bar_none {r : Option (Nat × Nat)} {w w' : World} {n d : Int} (h : r = none) (hb : Below w.heap.size w w') : BarRes r w (.returned (.tuple #[.agg #[.int .i64 n, .int .i64 d], .bool false])) w' := by subst h; exact ⟨⟨n, d, rfl⟩, hb⟩
theorem bar_some {r : Option (Nat × Nat)} {w w' : World} {N D : Nat} (h : r = some (N, D)) (hb : Below w.heap.size w w') : BarRes r w (.returned (.tuple #[.agg #[.int .i64 N, .int .i64 D], .bool true])) w' := by subst h; exact ⟨rfl, hb⟩
set_option maxRecDepth 100000 in
set_option maxHeartbeats 2000000 in
theorem barOf_any (s : ByteArray) (w : World) (ht : Tab w) (hs : s.size <= 140737488351232) :
 Calls Tryz.prog 140 #[.string s] w (BarRes (barS s) w) := by
 obtain ⟨W0, hW0⟩ : ∃ W0, w.alloc (.cells #[.int .i64 0, .int .i64 0] 157) = W0 := ⟨_, rfl⟩
 have hB0 : Below w.heap.size w W0 := by rw [<- hW0]; exact (Below.refl _ w).alloc (Nat.le_refl _) _
 have hs0 : W0.heap.size = w.heap.size + 1 := by rw [<- hW0]; simp
 have r0 : Blk W0 w.heap.size 157 #[.int .i64 0, .int .i64 0] := by rw [<- hW0]; exact heap_alloc_new w _
 have HKB : Hid (∀ wx, Below W0.heap.size W0 wx -> Blk wx w.heap.size 157 #[.int .i64 0, .int .i64 0] /\ Below w.heap.size w wx /\ Tab wx) := Lib.hid (fun wx hb => ⟨r0.below hb (by omega), hB0.trans (hb.mono (by omega)), ht.below (hB0.trans (hb.mono (by omega))) (Nat.le_refl _)⟩)
 have hcut := cut_slash s W0 hs
 have hre := fun W (h : Tab W) => isRealF_any s W h hs
 have HW0 := Lib.hid hW0; have HS0 := Lib.hid hs0
 cases hR : realB s with
 | false =>
   have hbn : barS s = none := by rw [barS, if_neg (by rw [hR]; decide)]
   rw [hR] at hre
   generalize (⟨(Lib.cut s.data.toList [47]).1.toArray⟩ : ByteArray) = A at *
   generalize (⟨(Lib.cut s.data.toList [47]).2.1.toArray⟩ : ByteArray) = B2 at *
   generalize (Lib.cut s.data.toList [47]).2.2 = dv at *
   have HC := Lib.hid hcut; have HRE := Lib.hid hre; have HBN := Lib.hid hbn
   clear hcut hre hbn hR hW0 hs0 r0 hB0 ht hs
   go_enter Tryz.func140, Tryz.ntmps140
   go_wp2_with fail
   rw [HW0.out]
   refine HC.out.mono ?_
   rintro e w1 ⟨rfl, n, hw1⟩
   have hb1 : Below W0.heap.size W0 w1 := by rw [hw1]; exact bel_drewN (Below.refl _ _) n
   clear hw1
   go_wp2_with fail
   refine (HRE.out _ (HKB.out _ hb1).2.2).mono ?_
   rintro e w2 ⟨rfl, hb2⟩
   have hb02 := hb1.trans (hb2.mono hb1.size)
   obtain ⟨hk, hbw, -⟩ := HKB.out _ hb02
   have k0 := hk.c0; have k1 := hk.c1; have g0 := hk.free 0; have g1 := hk.free 1
   clear hk hb1 hb2 hb02
   go_wp2_with fail
   refine bodyPost_ret (v := .tuple #[.agg #[.int .i64 0, .int .i64 0], .bool false]) (by simp [results, Tryz.results140, go_sem, k0, k1] <;> omega) rfl ?_
   exact bar_none HBN.out ((hbw.setCell (Nat.le_refl _) _).setCell (Nat.le_refl _) _)
 | true =>
   obtain ⟨hi, sg, N, D, hx⟩ := realB_true hR
   obtain ⟨hse, hbq, hD0, hgcd, hn0⟩ := getR_text hx
   have hbs : barS s = if sg = false /\ Lib.nDigits N <= 6 /\ Lib.nDigits D <= 6 /\ N <= D then some (N, D) else none := by rw [barS, if_pos hR, hx]
   have hco : Lib.cut s.data.toList [47] = ((ratT sg N 1).data.toList, if D = 1 then [] else Lib.decDigits D, decide (D ≠ 1)) := by rw [hse]; exact cut_own sg N D
   rw [hR] at hre
   rw [hco] at hcut
   simp only [arr_same] at hcut
   have hA := ratT_one sg N
   have hdB : (⟨(if D = 1 then [] else Lib.decDigits D).toArray⟩ : ByteArray).size = if D = 1 then 0 else Lib.nDigits D := by
    rw [arr_size]
    split
    · rfl
    · rw [Lib.decDigits_length]
   have hd1 : Lib.nDigits 1 = 1 := Lib.nDigits_small (by decide)
   have HRE := Lib.hid hre; have HBS := Lib.hid hbs
   -- the two ways out that are too long
   by_cases hlong : 6 < (ratT sg N 1).size ∨ 6 < (⟨(if D = 1 then [] else Lib.decDigits D).toArray⟩ : ByteArray).size
   · have hbn : barS s = none := by
      rw [hbs, if_neg]
      rintro ⟨rfl, h1, h2, h3⟩
      rw [hA, hdB] at hlong
      simp only [Bool.false_eq_true, if_false] at hlong
      split at hlong <;> omega
     generalize (⟨(if D = 1 then [] else Lib.decDigits D).toArray⟩ : ByteArray) = B2 at *
     generalize ratT sg N 1 = A at *
     generalize decide (D ≠ 1) = dv at *
     have HC := Lib.hid hcut; have HBN := Lib.hid hbn
     clear hcut hre hbn hR hW0 hs0 r0 hB0 ht hs hbs hco hA hdB hd1 hx hse hbq hD0 hgcd hn0 hi HBS
     by_cases hl1 : 6 < A.size
     · clear hlong
       have hl1i : (6 : Int) < A.size := by omega
       go_enter Tryz.func140, Tryz.ntmps140
       go_wp2_with fail
       rw [HW0.out]
       refine HC.out.mono ?_
       rintro e w1 ⟨rfl, n, hw1⟩
       have hb1 : Below W0.heap.size W0 w1 := by rw [hw1]; exact bel_drewN (Below.refl _ _) n
       clear hw1
       go_wp2_with fail
       refine (HRE.out _ (HKB.out _ hb1).2.2).mono ?_
       rintro e w2 ⟨rfl, hb2⟩
       have hb02 := hb1.trans (hb2.mono hb1.size)
       obtain ⟨hk, hbw, -⟩ := HKB.out _ hb02
       have k0 := hk.c0; have k1 := hk.c1; have g0 := hk.free 0; have g1 := hk.free 1
       clear hk hb1 hb2 hb02
       go_wp2_with fail
       refine bodyPost_ret (v := .tuple #[.agg #[.int .i64 0, .int .i64 0], .bool false]) (by simp [results, Tryz.results140, go_sem, k0, k1] <;> omega) rfl ?_
       exact bar_none HBN.out ((hbw.setCell (Nat.le_refl _) _).setCell (Nat.le_refl _) _)
     · have hl2i : (6 : Int) < B2.size := by omega
       have hl1i : ¬ (6 : Int) < A.size := by omega
       clear hlong hl1
       go_enter Tryz.func140, Tryz.ntmps140
       go_wp2_with fail
       rw [HW0.out]
       refine HC.out.mono ?_
       rintro e w1 ⟨rfl, n, hw1⟩
       have hb1 : Below W0.heap.size W0 w1 := by rw [hw1]; exact bel_drewN (Below.refl _ _) n
       clear hw1
       go_wp2_with fail
       refine (HRE.out _ (HKB.out _ hb1).2.2).mono ?_
       rintro e w2 ⟨rfl, hb2⟩
       have hb02 := hb1.trans (hb2.mono hb1.size)
       obtain ⟨hk, hbw, -⟩ := HKB.out _ hb02
       have k0 := hk.c0; have k1 := hk.c1; have g0 := hk.free 0; have g1 := hk.free 1
       clear hk hb1 hb2 hb02
       go_wp2_with fail
       refine bodyPost_ret (v := .tuple #[.agg #[.int .i64 0, .int .i64 0], .bool false]) (by simp [results, Tryz.results140, go_sem, k0, k1] <;> omega) rfl ?_
       exact bar_none HBN.out ((hbw.setCell (Nat.le_refl _) _).setCell (Nat.le_refl _) _)
   · have hl : ¬ 6 < (ratT sg N 1).size /\ ¬ 6 < (⟨(if D = 1 then [] else Lib.decDigits D).toArray⟩ : ByteArray).size := by omega
     clear hlong
     have hN6 : Lib.nDigits N <= 6 := by rw [hA] at hl; omega
     have hD6 : Lib.nDigits D <= 6 := by
      by_cases h1 : D = 1
      · rw [h1, hd1]; omega
      · have := hl.2; rw [hdB, if_neg h1] at this; omega
     have hNs := small_digits hN6
     have hDs := small_digits hD6
     have hia := fun W (h : Tab W) => int_small (ratT sg N 1) sg N W h (by rw [hA]; split <;> omega) (ratT_noI sg N 1) (getR_whole hn0 hN6) (by omega)
     have hib : D ≠ 1 -> ∀ W, Tab W -> Calls Tryz.prog 53 #[.string ⟨(if D = 1 then [] else Lib.decDigits D).toArray⟩] W fun e w' => e = .returned (.tuple #[.int .i64 D, .int .i64 0]) /\ Below W.heap.size W w' := fun h1 W h => by
      rw [if_neg h1, dec_text]
      have hz := ratT_one false D
      exact int_small (ratT false D 1) false D W h (by rw [hz]; simp; omega) (ratT_noI false D 1) (getR_whole (fun _ => rfl) hD6) (by omega)
     -- the three ways in which the fraction can lie
     have hv : (sgI sg N < 0 /\ barS s = none) ∨ (0 <= sgI sg N /\ (D : Int) < sgI sg N /\ barS s = none) ∨ (0 <= sgI sg N /\ sgI sg N <= D /\ ∃ M : Nat, sgI sg N = M /\ barS s = some (M, D)) := by
      cases sg with
      | true =>
        refine .inl ⟨?_, by rw [hbs, if_neg (by rintro ⟨h, _⟩; cases h)]⟩
        have : N ≠ 0 := fun h => by have := hn0 h; cases this
        simp only [sgI, if_true]; omega
      | false =>
        simp only [sgI, Bool.false_eq_true, if_false]
        by_cases hle : N <= D
        · exact .inr (.inr ⟨by omega, by omega, N, rfl, by rw [hbs, if_pos ⟨rfl, hN6, hD6, hle⟩]⟩)
        · exact .inr (.inl ⟨by omega, by omega, by rw [hbs, if_neg (fun h => hle h.2.2.2)]⟩)
     have hvb : -1000000 < sgI sg N /\ sgI sg N < 1000000 := by unfold sgI; split <;> omega
     obtain ⟨hl1, hl2⟩ := hl
     have hl1i : ¬ (6 : Int) < (ratT sg N 1).size := by omega
     have hl2i : ¬ (6 : Int) < (⟨(if D = 1 then [] else Lib.decDigits D).toArray⟩ : ByteArray).size := by omega
     generalize (⟨(if D = 1 then [] else Lib.decDigits D).toArray⟩ : ByteArray) = B2 at *
     generalize ratT sg N 1 = A at *
     generalize sgI sg N = v at *
     have HC := Lib.hid hcut; have HIA := Lib.hid hia; have HIB := Lib.hid hib; have HV := Lib.hid hv
     clear hcut hre hR hW0 hs0 r0 hB0 ht hs hbs hco hA hdB hd1 hx hse hbq hD0 hgcd hn0 hi HBS hia hib hv hl1 hl2 hN6 hD6 hNs
     by_cases hD1 : D = 1
     · subst hD1
       rw [show decide ((1 : Nat) ≠ 1) = false from rfl] at HC
       clear hDs
       go_enter Tryz.func140, Tryz.ntmps140
       go_wp2_with fail
       rw [HW0.out]
       refine HC.out.mono ?_
       rintro e w1 ⟨rfl, n, hw1⟩
       have hb1 : Below W0.heap.size W0 w1 := by rw [hw1]; exact bel_drewN (Below.refl _ _) n
       clear hw1
       go_wp2_with fail
       refine (HRE.out _ (HKB.out _ hb1).2.2).mono ?_
       rintro e w2 ⟨rfl, hb2⟩
       have hb02 := hb1.trans (hb2.mono hb1.size)
       clear hb1 hb2
       go_wp2_with fail
       refine (HIA.out _ (HKB.out _ hb02).2.2).mono ?_
       rintro e w3 ⟨rfl, hb3⟩
       have hb03 := hb02.trans (hb3.mono hb02.size)
       obtain ⟨hk, hbw, -⟩ := HKB.out _ hb03
       have k0 := hk.c0; have k1 := hk.c1; have g0 := hk.free 0; have g1 := hk.free 1
       clear hk hb02 hb3 hb03
       rcases HV.out with ⟨h1, hbn⟩ | ⟨h0, h1, hbn⟩ | ⟨h0, h1, M, hM, hbn⟩
       · have HBN := Lib.hid hbn
         clear hbn
         go_wp2_with fail
         refine bodyPost_ret (v := .tuple #[.agg #[.int .i64 v, .int .i64 1], .bool false]) (by simp [results, Tryz.results140, go_sem, k0, k1] <;> omega) rfl ?_
         exact bar_none HBN.out ((hbw.setCell (Nat.le_refl _) _).setCell (Nat.le_refl _) _)
       · have HBN := Lib.hid hbn
         simp only [Int.natCast_one] at h1
         clear hbn
         go_wp2_with fail
         refine bodyPost_ret (v := .tuple #[.agg #[.int .i64 v, .int .i64 1], .bool false]) (by simp [results, Tryz.results140, go_sem, k0, k1] <;> omega) rfl ?_
         exact bar_none HBN.out ((hbw.setCell (Nat.le_refl _) _).setCell (Nat.le_refl _) _)
       · have HBN := Lib.hid hbn; have HM := Lib.hid hM
         clear hbn hM
         go_wp2_with fail
         refine bodyPost_ret (v := .tuple #[.agg #[.int .i64 v, .int .i64 1], .bool true]) (by simp [results, Tryz.results140, go_sem, k0, k1] <;> omega) rfl ?_
         rw [HM.out]
         exact bar_some HBN.out ((hbw.setCell (Nat.le_refl _) _).setCell (Nat.le_refl _) _)
     · rw [decide_eq_true hD1] at HC
       have HD1 := Lib.hid hD1
       clear hD1
       go_enter Tryz.func140, Tryz.ntmps140
       go_wp2_with fail
       rw [HW0.out]
       refine HC.out.mono ?_
       rintro e w1 ⟨rfl, n, hw1⟩
       have hb1 : Below W0.heap.size W0 w1 := by rw [hw1]; exact bel_drewN (Below.refl _ _) n
       clear hw1
       go_wp2_with fail
       refine (HRE.out _ (HKB.out _ hb1).2.2).mono ?_
       rintro e w2 ⟨rfl, hb2⟩
       have hb02 := hb1.trans (hb2.mono hb1.size)
       clear hb1 hb2
       go_wp2_with fail
       refine (HIA.out _ (HKB.out _ hb02).2.2).mono ?_
       rintro e w3 ⟨rfl, hb3⟩
       have hb03 := hb02.trans (hb3.mono hb02.size)
       clear hb02 hb3
       go_wp2_with fail
       refine (HIB.out HD1.out _ (HKB.out _ hb03).2.2).mono ?_
       rintro e w4 ⟨rfl, hb4⟩
       have hb04 := hb03.trans (hb4.mono hb03.size)
       obtain ⟨hk, hbw, -⟩ := HKB.out _ hb04
       have k0 := hk.c0; have k1 := hk.c1; have g0 := hk.free 0; have g1 := hk.free 1
       clear hk hb03 hb4 hb04
       rcases HV.out with ⟨h1, hbn⟩ | ⟨h0, h1, hbn⟩ | ⟨h0, h1, M, hM, hbn⟩
       · have HBN := Lib.hid hbn
         clear hbn
         go_wp2_with fail
         refine bodyPost_ret (v := .tuple #[.agg #[.int .i64 v, .int .i64 D], .bool false]) (by simp [results, Tryz.results140, go_sem, k0, k1] <;> omega) rfl ?_
         exact bar_none HBN.out ((hbw.setCell (Nat.le_refl _) _).setCell (Nat.le_refl _) _)
       · have HBN := Lib.hid hbn
         clear hbn
         go_wp2_with fail
         refine bodyPost_ret (v := .tuple #[.agg #[.int .i64 v, .int .i64 D], .bool false]) (by simp [results, Tryz.results140, go_sem, k0, k1] <;> omega) rfl ?_
         exact bar_none HBN.out ((hbw.setCell (Nat.le_refl _) _).setCell (Nat.le_refl _) _)
       · have HBN := Lib.hid hbn; have HM := Lib.hid hM
         clear hbn hM
         go_wp2_with fail
         refine bodyPost_ret (v := .tuple #[.agg #[.int .i64 v, .int .i64 D], .bool true]) (by simp [results, Tryz.results140, go_sem, k0, k1] <;> omega) rfl ?_
         rw [HM.out]
         exact bar_some HBN.out ((hbw.setCell (Nat.le_refl _) _).setCell (Nat.le_refl _) _)
end Go.Proofs.YtdpjdifoonfcdaaGreatDoor

namespace Go.Proofs.YtdpjdifoonfcdaaGreatDoor
open Go.RowKit
theorem index_chirps (ao : Option Addr) (xs : List (Int × Int)) (cap : Nat) (p q : Int) (w : World) (hc : Cells w ao (prs xs)) (hl : xs.length <= 9223372036854775807) :
 Calls Tryz.prog 223 #[.slice ao xs.length cap, .agg #[.int .i64 p, .int .i64 q]] w fun e w' => (∃ r : Int, e = .returned (.int .i64 r) /\ decide (0 <= r) = xs.contains (p, q)) /\ Below w.heap.size w w' := by
 obtain ⟨W0, hW0⟩ : ∃ W0, w.alloc (.cells #[.int .i64 p, .int .i64 q] 23) = W0 := ⟨_, rfl⟩
 have hB0 : Below w.heap.size w W0 := by rw [<- hW0]; exact (Below.refl _ w).alloc (Nat.le_refl _) _
 have hs0 : W0.heap.size = w.heap.size + 1 := by rw [<- hW0]; simp
 have r0 : Blk W0 w.heap.size 23 #[.int .i64 p, .int .i64 q] := by rw [<- hW0]; exact heap_alloc_new w _
 have hc0 := hc.below hB0 (Nat.le_refl _)
 have HW0 := Lib.hid hW0; have HB0 := Lib.hid hB0; have HS0 := Lib.hid hs0
 clear hW0 hB0 hs0 hc
 go_enter Tryz.func223, Tryz.ntmps223
 go_wp2_with fail
 rw [HW0.out]
 go_loopw [8] (fun i wr => ∃ k : Nat, k <= xs.length /\ i = .int .i64 k /\ (xs.take k).contains (p, q) = false /\ Below W0.heap.size W0 wr) (fun i _ => xs.length - (intOf i).toNat)
 case atStart => exact ⟨0, Nat.zero_le _, rfl, rfl, Below.refl _ _⟩
 case round =>
  obtain ⟨k, hk, rfl, hany, hbe⟩ := hrel
  have HA := Lib.hid hany; clear hany
  have hbw := HB0.out.trans (hbe.mono (by have := HS0.out; omega))
  have hkb := r0.below hbe (by have := HS0.out; omega)
  by_cases hlt : k < xs.length
  · obtain ⟨⟨x1, x2⟩, hx⟩ := get_of_lt hlt
    obtain ⟨b, off, rfl⟩ := hc0.addr (prs_ne (by omega))
    have c1 := cell_keep (hc0.at (prs_fst hx)) hbe (Nat.le_refl _)
    have c2 := cell_keep (hc0.at (prs_snd hx)) hbe (Nat.le_refl _)
    rw [<- Nat.add_assoc] at c2
    simp only at c1 c2
    have k0 := hkb.c0; have k1 := hkb.c1
    have i1 : (k : Int) < xs.length := by omega
    have i3 : (0 : Int) <= k := by omega
    have hmem := List.mem_of_getElem? hx
    have htk := take_get hx
    have HR0 := Lib.hid r0
    clear hkb r0 hc0
    by_cases hx1 : p = x1
    · by_cases hx2 : q = x2
      · subst hx1; subst hx2
        have hm : xs.contains (p, q) = true := by simpa using hmem
        have HM := Lib.hid hm
        clear hm hx htk hmem
        go_wp2
        go_quiet (fail)
        go_wp2
        go_ret
        exact ⟨⟨_, rfl, by rw [HM.out]; simp⟩, bel_drewN hbw _⟩
      · subst hx1
        have hb1 : (q == x2) = false := by simpa using hx2
        have ht : (xs.take (k + 1)).contains (p, q) = false := by
         rw [htk, List.contains_eq_any_beq, List.any_append, <- List.contains_eq_any_beq, HA.out]
         simp [hx2]
        have HT := Lib.hid ht
        clear ht hx htk hmem hx2
        go_wp2
        go_quiet (fail)
        go_wp2
        go_roundw
        case rel => exact ⟨k + 1, by omega, by go_num, HT.out, bel_drewN hbe _⟩
        case measure => simp [intOf]; omega
    · have hb1 : (p == x1) = false := by simpa using hx1
      have ht : (xs.take (k + 1)).contains (p, q) = false := by
       rw [htk, List.contains_eq_any_beq, List.any_append, <- List.contains_eq_any_beq, HA.out]
       simp [hx1]
      have HT := Lib.hid ht
      clear ht hx htk hmem hx1
      go_wp2
      go_quiet (fail)
      go_wp2
      go_roundw
      case rel => exact ⟨k + 1, by omega, by go_num, HT.out, bel_drewN hbe _⟩
      case measure => simp [intOf]; omega
  · obtain rfl : k = xs.length := by omega
    have HR : Hid (xs.contains (p, q) = false) := Lib.hid (by have := HA.out; rwa [List.take_length] at this)
    go_wp2
    go_ret
    exact ⟨⟨-1, rfl, by rw [HR.out]; rfl⟩, hbw⟩
theorem contains_chirps (ao : Option Addr) (xs : List (Int × Int)) (cap : Nat) (p q : Int) (w : World) (hc : Cells w ao (prs xs)) (hl : xs.length <= 9223372036854775807) :
 Calls Tryz.prog 155 #[.slice ao xs.length cap, .agg #[.int .i64 p, .int .i64 q]] w fun e w' => e = .returned (.bool (xs.contains (p, q))) /\ Below w.heap.size w w' := by
 have hB0 : Below w.heap.size w (w.alloc (.cells #[.int .i64 p, .int .i64 q] 23)) := (Below.refl _ w).alloc (Nat.le_refl _) _
 have hix := index_chirps ao xs cap p q _ (hc.below hB0 (Nat.le_refl _)) hl
 have HIX := Lib.hid hix; have HB0 := Lib.hid hB0
 clear hix hB0 hc
 go_enter Tryz.func155, Tryz.ntmps155
 go_wp2_with fail
 refine HIX.out.mono ?_
 rintro e w1 ⟨⟨r, rfl, hr⟩, hb1⟩
 have hb2 := HB0.out.trans (hb1.mono HB0.out.size)
 have HR := Lib.hid hr
 clear hr hb1
 go_wp2
 go_ret
 exact ⟨ret_bool HR.out, hb2⟩
end Go.Proofs.YtdpjdifoonfcdaaGreatDoor

namespace Go.Proofs.YtdpjdifoonfcdaaGreatDoor
open Go.RowKit
set_option maxHeartbeats 1000000 in
theorem product_any (a b : Int) (w : World) (a1 : 0 <= a) (a2 : a <= 1099511627776) (b1 : 0 <= b) (b2 : b <= 999999) :
 Calls Tryz.prog 156 #[.int .i64 a, .int .i64 b] w fun e w' => e = .returned (.tuple #[.int .i64 (a * b / 2147483648), .int .i64 (a * b % 2147483648)]) /\ w = w' := by
 obtain ⟨r, hr⟩ : ∃ r, r = a % 2147483648 := ⟨_, rfl⟩
 obtain ⟨q, hq⟩ : ∃ q, q = a / 2147483648 := ⟨_, rfl⟩
 have hr1 : 0 <= r /\ r < 2147483648 := by omega
 have hq1 : 0 <= q /\ q <= 512 := by omega
 have e : a * b = 2147483648 * (q * b) + r * b := by
  have h : a = 2147483648 * q + r := by omega
  rw [h, Int.add_mul, Int.mul_assoc]
 have t1 : Int.tmod a 2147483648 = r := by rw [Int.tmod_eq_emod_of_nonneg a1]; exact hr.symm
 have t2 : Int.tdiv a 2147483648 = q := by rw [Int.tdiv_eq_ediv_of_nonneg a1]; exact hq.symm
 have t1' : a % 2147483648 = r := hr.symm
 have t2' : a / 2147483648 = q := hq.symm
 have u1 := Int.mul_nonneg hr1.1 b1
 have u2 := Int.mul_le_mul (show r <= 2147483648 by omega) b2 b1 (by omega)
 have v1 := Int.mul_nonneg hq1.1 b1
 have v2 := Int.mul_le_mul hq1.2 b2 b1 (by omega)
 obtain ⟨u, hu⟩ : ∃ u, u = r * b := ⟨_, rfl⟩
 obtain ⟨v, hv⟩ : ∃ v, v = q * b := ⟨_, rfl⟩
 rw [<- hu] at e u1 u2
 rw [<- hv] at e v1 v2
 have f1 : a * b / 2147483648 = v + u / 2147483648 := by omega
 have f2 : a * b % 2147483648 = u % 2147483648 := by omega
 rw [f1, f2]
 have q1 : IntKind.i64.wrap (r * b) = u := by rw [<- hu]; exact IntWalk.i64_in _ (by omega)
 have q2 : IntKind.i64.wrap (q * b) = v := by rw [<- hv]; exact IntWalk.i64_in _ (by omega)
 have t3 : Int.tdiv u 2147483648 = u / 2147483648 := Int.tdiv_eq_ediv_of_nonneg u1
 have t4 : Int.tmod u 2147483648 = u % 2147483648 := Int.tmod_eq_emod_of_nonneg u1
 have q3 : IntKind.i64.wrap (v + u / 2147483648) = v + u / 2147483648 := IntWalk.i64_in _ (by omega)
 clear hr hq e hu hv f1 f2
 go_enter Tryz.func156, Tryz.ntmps156
 go_wp2
 go_ret2
 exact ⟨rfl, rfl⟩
def rchB (n d : Int) (xs ys : List Int) (L s : Int) : Bool := decide (0 < ovl xs ys L s) && decide (ovl xs xs L 0 * ovl ys ys L 0 * n <= ovl xs ys L s * ovl xs ys L s * d)
set_option maxRecDepth 100000 in
set_option maxHeartbeats 4000000 in
theorem reaches_any (n d L : Int) (xs ys : List Int) (s : Int) (w : World) (hx : xs.length = 64) (hy : ys.length = 64) (hL1 : 1 <= L) (hL : L <= 64) (h1 : ∀ x ∈ xs, -127 <= x /\ x <= 127) (h2 : ∀ x ∈ ys, -127 <= x /\ x <= 127)
 (s1 : -1000 <= s) (s2 : s <= 1000) (n1 : 0 <= n) (n2 : n <= 999999) (d1 : 0 <= d) (d2 : d <= 999999) :
 Calls Tryz.prog 88 #[.agg #[.int .i64 n, .int .i64 d], .agg (shp L xs), .agg (shp L ys), .int .i64 s] w fun e w' => e = .returned (.bool (rchB n d xs ys L s)) /\ Below w.heap.size w w' := by
 have ho := fun w => overlap_any L L xs ys s w hx hy hL1 hL s1 s2 h1 h2
 have hn1 := fun w => norm_any L xs w hx hL1 hL h1
 have hn2 := fun w => norm_any L ys w hy hL1 hL h2
 have hi1 : (Tryz.prog.info? 129).map (·.size) = some (shp L xs).size := by rw [shp_size, hx]; kernel_rfl
 have hi2 : (Tryz.prog.info? 129).map (·.size) = some (shp L ys).size := by rw [shp_size, hy]; kernel_rfl
 have b0 := ovl_bd h1 h2 L s (by omega)
 have b1 := ovl_bd h1 h1 L 0 (by omega)
 have b2 := ovl_bd h2 h2 L 0 (by omega)
 have c1 := norm_nn xs L
 have c2 := norm_nn ys L
 have hR : rchB n d xs ys L s = (decide (0 < ovl xs ys L s) && decide (ovl xs xs L 0 * ovl ys ys L 0 * n <= ovl xs ys L s * ovl xs ys L s * d)) := rfl
 rw [hR]
 clear hR
 generalize shp L xs = V1 at *
 generalize shp L ys = V2 at *
 generalize ovl xs ys L s = N at *
 generalize ovl xs xs L 0 = m1 at *
 generalize ovl ys ys L 0 = m2 at *
 have b0' : -1032256 <= N /\ N <= 1032256 := by omega
 have b1' : m1 <= 1032256 := by omega
 have b2' : m2 <= 1032256 := by omega
 have HO := Lib.hid ho; have HN1 := Lib.hid hn1; have HN2 := Lib.hid hn2; have HI1 := Lib.hid hi1; have HI2 := Lib.hid hi2
 clear ho hn1 hn2 hi1 hi2 b0 b1 b2 h1 h2
 obtain ⟨W0, hW0⟩ : ∃ W0, ((w.alloc (.cells #[.int .i64 n, .int .i64 d] 157)).alloc (.cells V1 129)).alloc (.cells V2 129) = W0 := ⟨_, rfl⟩
 have hB0 : Below w.heap.size w W0 := by rw [<- hW0]; exact (((Below.refl _ w).alloc (Nat.le_refl _) _).alloc (by simp) _).alloc (by simp; omega) _
 have hs0 : W0.heap.size = w.heap.size + 3 := by rw [<- hW0]; simp
 have r0 : W0.heap[w.heap.size]? = some (.cells #[.int .i64 n, .int .i64 d] 157 (0, 0)) := by rw [<- hW0, hold_old _ _ _ (by simp; omega)]; exact heap_alloc2_old w _ _
 have r1 : W0.heap[w.heap.size + 1]? = some (.cells V1 129 (0, 0)) := by rw [<- hW0, hold_old _ _ _ (by simp)]; exact heap_alloc2_new w _ _
 have r2 : W0.heap[w.heap.size + 1 + 1]? = some (.cells V2 129 (0, 0)) := by
  have hsz : ((w.alloc (.cells #[.int .i64 n, .int .i64 d] 157)).alloc (.cells V1 129)).heap.size = w.heap.size + 1 + 1 := by simp
  rw [<- hW0, <- hsz]; exact heap_alloc_new _ _
 have FK : ∀ wx, Below W0.heap.size W0 wx -> wx.cell? ⟨w.heap.size, 0, none⟩ = some (.int .i64 n) /\ wx.cell? ⟨w.heap.size, 1, none⟩ = some (.int .i64 d) /\ wx.heap[w.heap.size + 1]? = some (.cells V1 129 (0, 0)) /\ wx.heap[w.heap.size + 1 + 1]? = some (.cells V2 129 (0, 0)) /\ Below w.heap.size w wx := by
  intro wx hb
  have e0 := (hb.block _ (by omega)).trans r0
  have e1 := (hb.block _ (by omega)).trans r1
  have e2 := (hb.block _ (by omega)).trans r2
  exact ⟨(cell_of_row wx _ 0 _ _ _ e0).trans rfl, (cell_of_row wx _ 1 _ _ _ e0).trans rfl, e1, e2, hB0.trans (hb.mono (by omega))⟩
 have HFK := Lib.hid FK; have HW0 := Lib.hid hW0
 clear FK hW0 r0 r1 r2 hB0
 have hz1 : ¬ V1 = #[] := by
  intro h
  have := HI1.out; rw [h] at this
  have h0 : (Tryz.prog.info? 129).map (·.size) = some 65 := by kernel_rfl
  rw [h0] at this; simp at this
 have hz2 : ¬ V2 = #[] := by
  intro h
  have := HI2.out; rw [h] at this
  have h0 : (Tryz.prog.info? 129).map (·.size) = some 65 := by kernel_rfl
  rw [h0] at this; simp at this
 go_enter Tryz.func88, Tryz.ntmps88
 by_cases hp : N <= 0
 · have hd : decide (0 < N) = false := decide_eq_false (by omega)
   rw [hd]
   clear hd c1 c2 b1' b2'
   go_wp2_with (first
    | (rw [HW0.out]; refine wpList_load_row (by rfl) 129 _ (by rfl) (w.heap.size + 1) (by rfl) _ V1 _ _ (HFK.out _ (Below.refl _ _)).2.2.1 Tryz.underlying129 (by rfl) HI1.out ?_)
    | (refine wpList_load_row (by rfl) 129 _ (by rfl) (w.heap.size + 1 + 1) (by rfl) _ V2 _ _ (HFK.out _ (Below.refl _ _)).2.2.2.1 Tryz.underlying129 (by rfl) HI2.out ?_)
    | (go_at_call 94; refine (HO.out _).mono ?_; rintro e w1 ⟨rfl, hb1⟩))
   go_ret
   exact ⟨rfl, (HFK.out _ hb1).2.2.2.2⟩
 · have hd : decide (0 < N) = true := decide_eq_true (by omega)
   rw [hd]
   have sq1 := Int.mul_nonneg (show 0 <= N by omega) (show 0 <= N by omega)
   have sq2 := Int.mul_le_mul (show N <= 1032256 by omega) (show N <= 1032256 by omega) (by omega) (by omega)
   have nm1 := Int.mul_nonneg c1 c2
   have nm2 := Int.mul_le_mul b1' b2' c2 (by omega)
   have q1 : IntKind.i64.wrap (N * N) = N * N := IntWalk.i64_in _ (by omega)
   have q2 : IntKind.i64.wrap (m1 * m2) = m1 * m2 := IntWalk.i64_in _ (by omega)
   have hp1 := fun W => product_any (N * N) d W sq1 (by omega) d1 d2
   have hp2 := fun W => product_any (m1 * m2) n W nm1 (by omega) n1 n2
   generalize N * N * d = P at *
   generalize m1 * m2 * n = Q at *
   have HP1 := Lib.hid hp1; have HP2 := Lib.hid hp2
   clear hp1 hp2 hd c1 c2 b1' b2' sq1 sq2 nm1 nm2 n1 n2 d1 d2 b0'
   go_wp2_with (first
    | (rw [HW0.out]; refine wpList_load_row (by rfl) 129 _ (by rfl) (w.heap.size + 1) (by rfl) _ V1 _ _ (HFK.out _ (Below.refl _ _)).2.2.1 Tryz.underlying129 (by rfl) HI1.out ?_)
    | (refine wpList_load_row (by rfl) 129 _ (by rfl) (w.heap.size + 1 + 1) (by rfl) _ V2 _ _ (HFK.out _ (Below.refl _ _)).2.2.2.1 Tryz.underlying129 (by rfl) HI2.out ?_)
    | (go_at_call 94; refine (HO.out _).mono ?_; rintro e w1 ⟨rfl, hb1⟩; obtain ⟨y0, y1, -, -, -⟩ := HFK.out _ hb1)
    | (go_at_call 156; refine (HP1.out _).mono ?_; rintro e w' ⟨rfl, rfl⟩))
   refine wp_region_quiet (C := fun w' => Below w1.heap.size w1 w') (by kernel_rfl) (by kernel_rfl) (Below.refl _ w1).drew ?_
   simp only
   have hsz := hb1.size
   have FL : ∀ w', Below w1.heap.size w1 w' -> Below W0.heap.size W0 w' := fun w' h => hb1.trans (h.mono hsz)
   repeat
    (refine wpQuiet_step (fun K hK => ?_)
     first
      | (refine quiet_load_row (by rfl) 129 _ (by with_reducible rfl) (w.heap.size + 1) (by rfl) 129 V1 (0, 0) _ (fun w' hw' => (HFK.out w' (FL w' hw')).2.2.1) Tryz.underlying129 (by rfl) HI1.out ?_; refine hK _ ?_; clear hK K; simp only [Act.put, List.setIfInBounds_toArray, List.set_cons_succ, List.set_cons_zero])
      | (refine quiet_load_row (by rfl) 129 _ (by with_reducible rfl) (w.heap.size + 1 + 1) (by rfl) 129 V2 (0, 0) _ (fun w' hw' => (HFK.out w' (FL w' hw')).2.2.2.1) Tryz.underlying129 (by rfl) HI2.out ?_; refine hK _ ?_; clear hK K; simp only [Act.put, List.setIfInBounds_toArray, List.set_cons_succ, List.set_cons_zero])
      | (go_simp
         first
          | (refine hK _ ?_; clear hK K)
          | (apply Exists.intro
             refine ⟨fun w' hw' => ?_, hK _ ?_⟩
             (first
              | rfl
              | (have z0 := (HFK.out w' (FL w' hw')).1; go_simp; rfl)
              | (with_reducible refine Calls.mono (HN1.out w') ?_; exact fun e w'' ⟨he, hb⟩ => ⟨he, hw'.trans (hb.mono hw'.size)⟩)
              | (with_reducible refine Calls.mono (HN2.out w') ?_; exact fun e w'' ⟨he, hb⟩ => ⟨he, hw'.trans (hb.mono hw'.size)⟩)
              | (with_reducible refine Calls.mono (HP2.out w') ?_; rintro e w'' ⟨he, rfl⟩; exact ⟨he, hw'⟩))
             clear hK K)))
   refine wpQuiet_nil ?_
   intro w2 hb2
   have g2 : Below w.heap.size w w2 := (HFK.out _ (FL w2 hb2)).2.2.2.2
   clear FL y0 y1 q1 q2 hp
   obtain ⟨ph, hph⟩ : ∃ ph, ph = P / 2147483648 := ⟨_, rfl⟩
   obtain ⟨pl, hpl⟩ : ∃ pl, pl = P % 2147483648 := ⟨_, rfl⟩
   obtain ⟨qh, hqh⟩ : ∃ qh, qh = Q / 2147483648 := ⟨_, rfl⟩
   obtain ⟨ql, hql⟩ : ∃ ql, ql = Q % 2147483648 := ⟨_, rfl⟩
   rw [<- hph, <- hpl, <- hqh, <- hql]
   have hcmp : (Q <= P) ↔ (qh < ph ∨ (ph = qh /\ ql <= pl)) := by omega
   have HCM := Lib.hid hcmp
   clear hcmp hph hpl hqh hql
   by_cases h1 : qh < ph
   · have hf : decide (Q <= P) = true := decide_eq_true (HCM.out.2 (.inl h1))
     have HF := Lib.hid hf
     have d1 : decide (qh < ph) = true := decide_eq_true h1
     clear hf
     go_wp2
     go_ret
     exact ⟨by rw [HF.out]; rfl, g2⟩
   · by_cases h2 : ph = qh
     · subst h2
       have hf : decide (Q <= P) = decide (ql <= pl) := by
        rw [Bool.eq_iff_iff, decide_eq_true_iff, decide_eq_true_iff, HCM.out]
        constructor
        · rintro (h | h)
          · exact absurd h h1
          · exact h.2
        · intro h; exact .inr ⟨rfl, h⟩
       have HF := Lib.hid hf
       have d2 : (ph == ph) = true := by simp
       clear hf
       go_wp2
       go_ret
       exact ⟨by rw [HF.out]; rfl, g2⟩
     · have hf : decide (Q <= P) = false := decide_eq_false (fun h => by
        rcases HCM.out.1 h with h3 | h3
        · exact h1 h3
        · exact h2 h3.1)
       have HF := Lib.hid hf
       have d2 : (ph == qh) = false := by rw [beq_eq_false_iff_ne]; exact h2
       clear hf h2
       go_wp2
       go_ret
       exact ⟨by rw [HF.out]; rfl, g2⟩
end Go.Proofs.YtdpjdifoonfcdaaGreatDoor

namespace Go.Proofs.YtdpjdifoonfcdaaGreatDoor
open Go.RowKit Go.Shelf
theorem row_kept {A B : World} {row : Option Nat} {i : Nat} {t : TypeId} {cs : Array Value} (h : A.heap[i]? = some (.cells cs t (0, 0))) (hg : A.grownBy B row) (hr : ∀ r, row = some r -> ∃ o : Obj, A.heap[r]? = some o /\ o.isCells = false) : B.heap[i]? = some (.cells cs t (0, 0)) := by
 refine (hg.block i (Array.getElem?_eq_some_iff.1 h).1 (fun e => ?_)).trans h
 obtain ⟨o, ho, hc⟩ := hr i e.symm
 rw [h] at ho; cases ho; cases hc
def fstS (f : Int -> Bool) (l : List Sh) : Option Sh := l.find? (fun x => f x.1)
def fstV (f : Int -> Bool) (l : List Sh) : Int := match fstS f l with | none => 0 | some y => y.1
theorem fstS_none {f : Int -> Bool} {l : List Sh} (h : ∀ y ∈ l, f y.1 = false) : fstS f l = none := by
 unfold fstS
 rw [List.find?_eq_none]
 intro x hx
 rw [h x hx]; decide
theorem fstS_some {f : Int -> Bool} {pre l : List Sh} {x : Sh} (h : ∀ y ∈ pre, f y.1 = false) (hx : f x.1 = true) (hp : pre ++ [x] <+: l) : fstS f l = some x := by
 obtain ⟨t, rfl⟩ := hp
 unfold fstS
 rw [List.append_assoc, List.find?_append, List.find?_eq_none.2 (fun y hy => by rw [h y hy]; decide)]
 simp [hx]
set_option maxRecDepth 1000000 in
set_option maxHeartbeats 4000000 in
theorem shift_any (n d : Int) (L : Nat) (xs ys : List Int) (w : World) (hx : xs.length = 64) (hy : ys.length = 64) (hL1 : 1 <= L) (hL : L <= 64) (h1 : ∀ x ∈ xs, -127 <= x /\ x <= 127) (h2 : ∀ x ∈ ys, -127 <= x /\ x <= 127)
 (n1 : 0 <= n) (n2 : n <= 999999) (d1 : 0 <= d) (d2 : d <= 999999) :
 Calls Tryz.prog 75 #[.agg #[.int .i64 n, .int .i64 d], .agg (shp L xs), .agg (shp L ys)] w fun e w' => e = .returned (.tuple #[.int .i64 (fstV (rchB n d xs ys L) (shl L (2 * L - 1))), .bool (fstS (rchB n d xs ys L) (shl L (2 * L - 1))).isSome]) /\ Below w.heap.size w w' := by
 have hr : ∀ (s : Int) (wx : World), -1000 <= s -> s <= 1000 -> Calls Tryz.prog 88 #[.agg #[.int .i64 n, .int .i64 d], .agg (shp L xs), .agg (shp L ys), .int .i64 s] wx fun e w' => e = .returned (.bool (rchB n d xs ys L s)) /\ Below wx.heap.size wx w' := fun s wx s1 s2 => reaches_any n d L xs ys s wx hx hy (by omega) (by omega) h1 h2 s1 s2 n1 n2 d1 d2
 have hi1 : (Tryz.prog.info? 129).map (·.size) = some (shp L xs).size := by rw [shp_size, hx]; kernel_rfl
 have hi2 : (Tryz.prog.info? 129).map (·.size) = some (shp L ys).size := by rw [shp_size, hy]; kernel_rfl
 have hz0 : (shp L ys)[0]? = some (.int .i64 L) := rfl
 generalize rchB n d xs ys L = f at *
 generalize shp L xs = V1 at *
 generalize shp L ys = V2 at *
 have hz1 : ¬ V1 = #[] := by
  intro h
  rw [h] at hi1
  have h0 : (Tryz.prog.info? 129).map (·.size) = some 65 := by kernel_rfl
  rw [h0] at hi1; simp at hi1
 have hz2 : ¬ V2 = #[] := by
  intro h
  rw [h] at hi2
  have h0 : (Tryz.prog.info? 129).map (·.size) = some 65 := by kernel_rfl
  rw [h0] at hi2; simp at hi2
 have HR := Lib.hid hr; have HI1 := Lib.hid hi1; have HI2 := Lib.hid hi2
 clear hr hi1 hi2 h1 h2 n1 n2 d1 d2 hx hy
 obtain ⟨W0, hW0⟩ : ∃ W0, ((((w.alloc (.cells #[.int .i64 n, .int .i64 d] 157)).alloc (.cells V1 129)).alloc (.cells V2 129)).alloc (.cells #[.int .i64 0] 3)).alloc (.cells #[.bool false] 4) = W0 := ⟨_, rfl⟩
 obtain ⟨W3, hW3⟩ : ∃ W3, ((w.alloc (.cells #[.int .i64 n, .int .i64 d] 157)).alloc (.cells V1 129)).alloc (.cells V2 129) = W3 := ⟨_, rfl⟩
 have hB3 : Below w.heap.size w W3 := by rw [<- hW3]; exact (((Below.refl _ w).alloc (Nat.le_refl _) _).alloc (by simp) _).alloc (by simp; omega) _
 have hs3 : W3.heap.size = w.heap.size + 3 := by rw [<- hW3]; simp
 have r0 : W3.heap[w.heap.size]? = some (.cells #[.int .i64 n, .int .i64 d] 157 (0, 0)) := by rw [<- hW3, hold_old _ _ _ (by simp; omega)]; exact heap_alloc2_old w _ _
 have r1 : W3.heap[w.heap.size + 1]? = some (.cells V1 129 (0, 0)) := by rw [<- hW3, hold_old _ _ _ (by simp)]; exact heap_alloc2_new w _ _
 have r2 : W3.heap[w.heap.size + 1 + 1]? = some (.cells V2 129 (0, 0)) := by
  have hsz : ((w.alloc (.cells #[.int .i64 n, .int .i64 d] 157)).alloc (.cells V1 129)).heap.size = w.heap.size + 1 + 1 := by simp
  rw [<- hW3, <- hsz]; exact heap_alloc_new _ _
 rw [hW3] at hW0
 have hk : ∀ i, i < w.heap.size + 3 -> W0.heap[i]? = W3.heap[i]? := fun i hi => by rw [<- hW0, hold_old _ _ _ (by simp; omega), hold_old _ _ _ (by omega)]
 have t0 := (hk _ (by omega)).trans r0
 have t1 := (hk _ (by omega)).trans r1
 have t2 := (hk _ (by omega)).trans r2
 clear hk
 have t3 : W0.heap[w.heap.size + 1 + 1 + 1]? = some (.cells #[.int .i64 0] 3 (0, 0)) := by rw [<- hW0, show w.heap.size + 1 + 1 + 1 = W3.heap.size from hs3.symm]; exact heap_alloc2_old W3 _ _
 have t4 : W0.heap[w.heap.size + 1 + 1 + 1 + 1]? = some (.cells #[.bool false] 4 (0, 0)) := by rw [<- hW0, show w.heap.size + 1 + 1 + 1 + 1 = W3.heap.size + 1 by omega]; exact heap_alloc2_new W3 _ _
 have hs0 : W0.heap.size = w.heap.size + 5 := by rw [<- hW0]; simp; omega
 have hB0 : Below w.heap.size w W0 := by rw [<- hW0]; exact (hB3.alloc (by omega) _).alloc (by simp; omega) _
 have y0 : W0.cell? ⟨w.heap.size + 1 + 1, 0, none⟩ = some (.int .i64 L) := (cell_of_row W0 _ 0 _ _ _ t2).trans hz0
 have y0e : (((((w.alloc (.cells #[.int .i64 n, .int .i64 d] 157)).alloc (.cells V1 129)).alloc (.cells V2 129)).alloc (.cells #[.int .i64 0] 3)).alloc (.cells #[.bool false] 4)).cell? ⟨w.heap.size + 1 + 1, 0, none⟩ = some (.int .i64 L) := by rw [hW3, hW0]; exact y0
 have c3 := (cell_of_row W0 _ 0 _ _ _ t3).trans rfl
 have c4 := (cell_of_row W0 _ 0 _ _ _ t4).trans rfl
 have f3 := frozen_of_row W0 _ 0 _ _ t3
 have f4 := frozen_of_row W0 _ 0 _ _ t4
 have HZ0 := Lib.hid hz0
 have T0 := Lib.hid t0; have T1 := Lib.hid t1; have T2 := Lib.hid t2; have HW0 := Lib.hid hW0; have HW3 := Lib.hid hW3; have HS0 := Lib.hid hs0; have HS3 := Lib.hid hs3
 clear r0 r1 r2 t0 t1 t2 t3 t4 hW0 hW3 hB3 hz0
 refine (callsIn_wide (n := 8)).1 ?_
 refine callsIn_of_wp_marks Tryz.func75 rfl trivial ?_ rfl
 simp only [Tryz.ntmps75, List.size_toArray, List.length_cons, List.length_nil, Nat.reduceAdd, Nat.reduceSub, Array.replicate_succ, Array.replicate_zero, List.push_toArray, List.append_toArray, List.nil_append, List.cons_append]
 gi_wp2_with (refine ⟨trivial, ?_⟩; gi_at_call 142; refine (callsIn_wide.2 (shifts_any _ _)).mono ?_; rintro e w1 ⟨rfl, rfl⟩; refine Hid.out ?_)
 refine Lib.hid ?_
 rw [HW3.out, HW0.out]
 clear y0e
 gi_wp2
 have g1 : (W0.alloc (.cells #[.int .i64 (L : Int)] 3)).cell? ⟨w.heap.size + 1 + 1 + 1 + 1 + 1, 0, none⟩ = some (.int .i64 L) := by rw [show w.heap.size + 1 + 1 + 1 + 1 + 1 = W0.heap.size by have := HS0.out; omega]; exact (cell_of_row _ _ 0 _ _ _ (heap_alloc_new _ _)).trans rfl
 have hB1 : Below w.heap.size w (W0.alloc (.cells #[.int .i64 (L : Int)] 3)) := hB0.alloc (by have := HS0.out; omega) _
 have hbw := (Below.refl W0.heap.size W0).alloc (Nat.le_refl _) (.cells #[.int .i64 (L : Int)] 3)
 have hz := HS0.out
 have k0 := (hold_old W0 (.cells #[.int .i64 (L : Int)] 3) w.heap.size (by omega)).trans T0.out
 have k1 := (hold_old W0 (.cells #[.int .i64 (L : Int)] 3) (w.heap.size + 1) (by omega)).trans T1.out
 have k2 := (hold_old W0 (.cells #[.int .i64 (L : Int)] 3) (w.heap.size + 1 + 1) (by omega)).trans T2.out
 have e3 := cell_keep c3 hbw (Nat.le_refl _)
 have e4 := cell_keep c4 hbw (Nat.le_refl _)
 have m3 := (hbw.frozen (p := ⟨w.heap.size + 1 + 1 + 1, 0, none⟩) (by show w.heap.size + 1 + 1 + 1 < W0.heap.size; omega)).trans f3
 have m4 := (hbw.frozen (p := ⟨w.heap.size + 1 + 1 + 1 + 1, 0, none⟩) (by show w.heap.size + 1 + 1 + 1 + 1 < W0.heap.size; omega)).trans f4
 have hsz1 : (W0.alloc (.cells #[.int .i64 (L : Int)] 3)).heap.size = W0.heap.size + 1 := by simp
 generalize W0.alloc (.cells #[.int .i64 (L : Int)] 3) = W1 at *
 clear c3 c4 f3 f4 y0 hbw hB0
 refine wpIn_rangeFunc_ownF rfl (by omega) (gf := 209) (lb := #[.pointer (some ⟨w.heap.size + 1 + 1 + 1 + 1 + 1, 0, none⟩)]) rfl trivial (enters_of Tryz.func209 (by kernel_rfl) rfl)
  (shifts_stops Fence.wide _ trivial rfl (by omega) (w.heap.size + 1 + 1 + 1 + 1 + 1) L hL1 hL W1.heap.size W1 (by omega) (Nat.le_refl _) g1) belowK_t (belowK_b (Nat.le_refl _)) (Below.refl _ _) (fun _ => rfl)
  (fun pre W => ((∀ y ∈ pre, f y.1 = false) /\ W.heap[w.heap.size]? = some (.cells #[.int .i64 n, .int .i64 d] 157 (0, 0)) /\ W.heap[w.heap.size + 1]? = some (.cells V1 129 (0, 0)) /\ W.heap[w.heap.size + 1 + 1]? = some (.cells V2 129 (0, 0)) /\ W.cell? ⟨w.heap.size + 1 + 1 + 1, 0, none⟩ = some (.int .i64 0) /\ W.frozen? ⟨w.heap.size + 1 + 1 + 1, 0, none⟩ = false /\ W.cell? ⟨w.heap.size + 1 + 1 + 1 + 1, 0, none⟩ = some (.bool false) /\ W.frozen? ⟨w.heap.size + 1 + 1 + 1 + 1, 0, none⟩ = false) /\ Below w.heap.size w W /\ W1.heap.size <= W.heap.size)
  (fun c pre W => (c = .ret /\ ∃ pr x, pre = pr ++ [x] /\ (∀ y ∈ pr, f y.1 = false) /\ f x.1 = true /\ W.cell? ⟨w.heap.size + 1 + 1 + 1, 0, none⟩ = some (.int .i64 x.1) /\ W.cell? ⟨w.heap.size + 1 + 1 + 1 + 1, 0, none⟩ = some (.bool true)) /\ Below w.heap.size w W)
  (OwnFrom.and (Own.from (fun s A B row hs hg hr => ⟨hs.1, row_kept hs.2.1 hg hr, row_kept hs.2.2.1 hg hr, row_kept hs.2.2.2.1 hg hr, cell_kept hs.2.2.2.2.1 hg hr, (frozen_kept hs.2.2.2.2.1 hg hr).trans hs.2.2.2.2.2.1, cell_kept hs.2.2.2.2.2.2.1 hg hr, (frozen_kept hs.2.2.2.2.2.2.1 hg hr).trans hs.2.2.2.2.2.2.2⟩) _) (OwnFrom.and (ownFrom_below (Nat.le_refl _) (by omega)) (fun _ _ _ _ hs hg _ => Nat.le_trans hs hg.size)))
  (fun c => OwnFrom.and (Own.from (fun s A B row hs hg hr => by
   obtain ⟨h1, pr, x, h2, h3, h4, h5, h6⟩ := hs
   exact ⟨h1, pr, x, h2, h3, h4, cell_kept h5 hg hr, cell_kept h6 hg hr⟩) _) (ownFrom_below (Nat.le_refl _) (by omega)))
  ⟨⟨by simp, k0, k1, k2, e3, m3, e4, m4⟩, hB1, Nat.le_refl _⟩
  (fun x => { tmps := #[.agg #[.int .i64 n, .int .i64 d], .agg V1, .agg V2, .pointer (some ⟨w.heap.size, 0, none⟩), .pointer (some ⟨w.heap.size + 1, 0, none⟩), .pointer (some ⟨w.heap.size + 1 + 1, 0, none⟩), .pointer (some ⟨w.heap.size + 1 + 1 + 1, 0, none⟩), .pointer (some ⟨w.heap.size + 1 + 1 + 1 + 1, 0, none⟩), .int .i64 x.1, .pointer (some ⟨w.heap.size + 1 + 1, 0, none⟩), .int .i64 L, .func (.func 209) #[] #[.pointer (some ⟨w.heap.size + 1 + 1 + 1 + 1 + 1, 0, none⟩)], .int .i64 x.1, undef, undef, undef, undef, undef, undef], defers := [] }) ?assign ?body ?done ?stop
 case assign =>
  intro l x W K hK
  gi_wp2_with (rw [Oper.semAt_eq _ _ _ (fun c h => by cases h)]; go_simp; try go_bits)
  exact hK
 case body =>
  rintro l pre x W ⟨⟨hp, r0, r1, r2, c3, f3, c4, f4⟩, hB, hsW⟩ _
  have hr := HR.out x.1 W x.2.1 x.2.2
  have R0 := Lib.hid r0; have R1 := Lib.hid r1; have R2 := Lib.hid r2; have HP := Lib.hid hp
  have x0 := (cell_of_row W _ 0 _ _ _ r0).trans rfl
  have x1 := (cell_of_row W _ 1 _ _ _ r0).trans rfl
  clear r0 r1 r2 hp
  have hp3 : w.heap.size + 1 + 1 + 1 < W.heap.size := by omega
  have hp4 : w.heap.size + 1 + 1 + 1 + 1 < W.heap.size := by omega
  cases hf : f x.1
  · rw [hf] at hr
    have HRR := Lib.hid hr; have HF := Lib.hid hf
    clear hr hf
    gi_wp2_with (first
     | (refine wpListIn_load_row (by rfl) 129 _ (by rfl) (w.heap.size + 1) (by rfl) _ V1 _ _ R1.out Tryz.underlying129 (by rfl) HI1.out ?_)
     | (refine wpListIn_load_row (by rfl) 129 _ (by rfl) (w.heap.size + 1 + 1) (by rfl) _ V2 _ _ R2.out Tryz.underlying129 (by rfl) HI2.out ?_)
     | (refine ⟨trivial, ?_⟩; gi_at_call 88; refine (CallsIn.inRound l (callsIn_wide.2 HRR.out)).mono ?_; rintro e w1 ⟨rfl, hb1⟩)
     | (rw [Oper.semAt_eq _ _ _ (fun c h => by cases h)]; go_simp; try go_bits))
    have hn1 := hb1.size
    refine ⟨keepsOthers_below hb1, hb1.mono (by omega), ⟨?_, (hb1.block _ (by omega)).trans R0.out, (hb1.block _ (by omega)).trans R1.out, (hb1.block _ (by omega)).trans R2.out, cell_keep c3 hb1 (Nat.le_refl _), (hb1.frozen (p := ⟨w.heap.size + 1 + 1 + 1, 0, none⟩) hp3).trans f3, cell_keep c4 hb1 (Nat.le_refl _), (hb1.frozen (p := ⟨w.heap.size + 1 + 1 + 1 + 1, 0, none⟩) hp4).trans f4⟩, hB.trans (hb1.mono (by omega)), by omega⟩
    intro y hy
    rcases List.mem_append.1 hy with h | h
    · exact HP.out y h
    · simp at h; rw [h]; exact HF.out
  · rw [hf] at hr
    have HRR := Lib.hid hr; have HF := Lib.hid hf
    clear hr hf
    gi_wp2_with (first
     | (refine wpListIn_load_row (by rfl) 129 _ (by rfl) (w.heap.size + 1) (by rfl) _ V1 _ _ R1.out Tryz.underlying129 (by rfl) HI1.out ?_)
     | (refine wpListIn_load_row (by rfl) 129 _ (by rfl) (w.heap.size + 1 + 1) (by rfl) _ V2 _ _ R2.out Tryz.underlying129 (by rfl) HI2.out ?_)
     | (refine ⟨trivial, ?_⟩; gi_at_call 88; refine (CallsIn.inRound l (callsIn_wide.2 HRR.out)).mono ?_; rintro e w1 ⟨rfl, hb1⟩; have k3 := cell_keep c3 hb1 (Nat.le_refl _); have k4 := cell_keep c4 hb1 (Nat.le_refl _); have j3 := (hb1.frozen (p := ⟨w.heap.size + 1 + 1 + 1, 0, none⟩) hp3).trans f3; have j4 := (hb1.frozen (p := ⟨w.heap.size + 1 + 1 + 1 + 1, 0, none⟩) hp4).trans f4; have k2 := cell_keep ((cell_of_row W _ 0 _ _ _ R2.out).trans HZ0.out) hb1 (Nat.le_refl _))
     | (rw [Oper.semAt_eq _ _ _ (fun c h => by cases h)]; go_simp; try go_bits))
    obtain ⟨_, u1, _, u2, _⟩ := two_set (u := .int .i64 x.1) (v := .bool true) k2 k3 j3 k4 j4
    have hbb : Below w.heap.size w1 ((w1.setCell ⟨w.heap.size + 1 + 1 + 1, 0, none⟩ (.int .i64 x.1)).setCell ⟨w.heap.size + 1 + 1 + 1 + 1, 0, none⟩ (.bool true)) := ((Below.refl _ w1).setCell (p := ⟨w.heap.size + 1 + 1 + 1, 0, none⟩) (by show w.heap.size <= w.heap.size + 1 + 1 + 1; omega) _).setCell (p := ⟨w.heap.size + 1 + 1 + 1 + 1, 0, none⟩) (by show w.heap.size <= w.heap.size + 1 + 1 + 1 + 1; omega) _
    exact ⟨(keepsOthers_below hb1).trans ((KeepsOthers.setCell _ _ _).trans (KeepsOthers.setCell _ _ _)), ⟨rfl, pre, x, rfl, HP.out, HF.out, u1, u2⟩, hB.trans ((hb1.mono (by omega)).trans hbb)⟩
 case done =>
  rintro D ys' W hD rfl ⟨⟨hp, r0, r1, r2, c3, f3, c4, f4⟩, hB, hsW⟩ hK
  have hn : fstS f (shl L (2 * L - 1)) = none := fstS_none hp
  have hv1 : fstV f (shl L (2 * L - 1)) = 0 := by unfold fstV; rw [hn]
  have hv2 : (fstS f (shl L (2 * L - 1))).isSome = false := by rw [hn]; rfl
  have k2 := (cell_of_row W _ 0 _ _ _ r2).trans HZ0.out
  have HV1 := Lib.hid hv1; have HV2 := Lib.hid hv2
  clear r0 r1 r2 hp hn hv1 hv2
  gi_wp2
  obtain ⟨_, u1, _, u2, _⟩ := two_set (u := .int .i64 0) (v := .bool false) k2 c3 f3 c4 f4
  have hk := ((KeepsOthers.setCell W ⟨w.heap.size + 1 + 1 + 1, 0, none⟩ (.int .i64 0)).trans (KeepsOthers.setCell _ ⟨w.heap.size + 1 + 1 + 1 + 1, 0, none⟩ (.bool false))).same D _ hK rfl
  have hbb : Below w.heap.size W ((W.setCell ⟨w.heap.size + 1 + 1 + 1, 0, none⟩ (.int .i64 0)).setCell ⟨w.heap.size + 1 + 1 + 1 + 1, 0, none⟩ (.bool false)) := ((Below.refl _ W).setCell (p := ⟨w.heap.size + 1 + 1 + 1, 0, none⟩) (by show w.heap.size <= w.heap.size + 1 + 1 + 1; omega) _).setCell (p := ⟨w.heap.size + 1 + 1 + 1 + 1, 0, none⟩) (by show w.heap.size <= w.heap.size + 1 + 1 + 1 + 1; omega) _
  refine ⟨by simp, .inl ⟨_, _, rfl, run_takeDeferred hk, ?_⟩⟩
  have p2 := cell_kept u1 (grownBy_putObj' _ D (.deferred none)) (fun r e => by cases e; exact ⟨_, hk, rfl⟩)
  have p4 := cell_kept u2 (grownBy_putObj' _ D (.deferred none)) (fun r e => by cases e; exact ⟨_, hk, rfl⟩)
  refine ⟨.tuple #[.int .i64 0, .bool false], ?_, by rw [HV1.out, HV2.out], (hB.trans hbb).trans (belowK_b (w := w) (Nat.le_refl _) _ D _ _ (by omega) hk rfl rfl)⟩
  simp [results, Tryz.f75, go_sem, p2, p4]
 case stop =>
  rintro D c pre W hD hpre ⟨⟨rfl, pr, x, rfl, hp, hx, u1, u2⟩, hB⟩ hK
  have hn : fstS f (shl L (2 * L - 1)) = some x := fstS_some hp hx hpre
  have hv1 : fstV f (shl L (2 * L - 1)) = x.1 := by unfold fstV; rw [hn]
  have hv2 : (fstS f (shl L (2 * L - 1))).isSome = true := by rw [hn]; rfl
  have HV1 := Lib.hid hv1; have HV2 := Lib.hid hv2
  clear hp hx hn hv1 hv2 hpre
  gi_wp2
  refine ⟨by simp, .inl ⟨_, _, rfl, run_takeDeferred hK, ?_⟩⟩
  have p2 := cell_kept u1 (grownBy_putObj' _ D (.deferred none)) (fun r e => by cases e; exact ⟨_, hK, rfl⟩)
  have p4 := cell_kept u2 (grownBy_putObj' _ D (.deferred none)) (fun r e => by cases e; exact ⟨_, hK, rfl⟩)
  refine ⟨.tuple #[.int .i64 x.1, .bool true], ?_, by rw [HV1.out, HV2.out], hB.trans (belowK_b (w := w) (Nat.le_refl _) _ D _ _ (by omega) hK rfl rfl)⟩
  simp [results, Tryz.f75, go_sem, p2, p4]
end Go.Proofs.YtdpjdifoonfcdaaGreatDoor

namespace Go.Proofs.YtdpjdifoonfcdaaGreatDoor
open Go.RowKit
theorem run_loadVar_list {P : Program} (w : World) (p : Addr) (ty : TypeId) (cs : List Value) (d : TypeDesc) (hc : ∀ j v, cs[j]? = some v -> w.cell? (p.add j) = some v)
 (hu : P.underlying ty = some d) (hd : (match d with | .struct _ | .array _ _ => true | _ => false) = true) (hi : (P.info? ty).map (·.size) = some cs.length) :
 (loadVar ty p).run P w = .ok (.agg cs.toArray) w := by
 have hl : (loadCells p cs.length).run P w = .ok cs.toArray w := run_loadCells_list (P := P) w p cs hc
 cases hq : P.info? ty with
 | none => simp [hq] at hi
 | some i =>
   have hs : i.size = cs.length := by simpa [hq] using hi
   have hagg : (isAgg ty).run P w = .ok true w := by
    unfold isAgg
    rw [Sem.run_bind, run_underlying hu w]
    cases d <;> simp_all
   simp [loadVar, Sem.run_bind, hagg, sizeOf, typeInfo, hq, hs, hl]
theorem wpList_load_list {P : Program} {ops : Array Oper} {rest : List Oper} {o : Oper} {a : Act} {w : World} {Q : Exit -> Act -> World -> Prop} (hgd : o.guard = none) (ty : TypeId) (x : Operand) (ho : o.op = .load ty x)
 (p : Addr) (hx : a.eval x = .pointer (some p)) (cs : List Value) (d : TypeDesc) (hc : ∀ j v, cs[j]? = some v -> w.cell? (p.add j) = some v)
 (hu : P.underlying ty = some d) (hd : (match d with | .struct _ | .array _ _ => true | _ => false) = true) (hi : (P.info? ty).map (·.size) = some cs.length)
 (h : wpList P ops Q rest (a.put o.dst (.agg cs.toArray)) w) : wpList P ops Q (o :: rest) a w :=
 wpList_plain hgd fun K hK => by
  unfold Oper.wp execOp
  simp only [ho, hx, Instr.loadAt, Instr.sureAddr, Sem.run_bind, Sem.run_pure, Result.andThen_ok, run_loadVar_list w p ty cs d hc hu hd hi]
  exact hK _ _ h
end Go.Proofs.YtdpjdifoonfcdaaGreatDoor

namespace Go.Proofs.YtdpjdifoonfcdaaGreatDoor
open Go.RowKit
theorem wpList_load_arr {P : Program} {ops : Array Oper} {rest : List Oper} {o : Oper} {a : Act} {w : World} {Q : Exit -> Act -> World -> Prop} (hgd : o.guard = none) (ty : TypeId) (x : Operand) (ho : o.op = .load ty x)
 (p : Addr) (hx : a.eval x = .pointer (some p)) (V : Array Value) (d : TypeDesc) (hc : ∀ j v, V[j]? = some v -> w.cell? (p.add j) = some v)
 (hu : P.underlying ty = some d) (hd : (match d with | .struct _ | .array _ _ => true | _ => false) = true) (hi : (P.info? ty).map (·.size) = some V.size)
 (h : wpList P ops Q rest (a.put o.dst (.agg V)) w) : wpList P ops Q (o :: rest) a w := by
 refine wpList_load_list hgd ty x ho p hx V.toList d (fun j v hj => hc j v (by simpa using hj)) hu hd (by simpa using hi) ?_
 simpa using h
def shpL (L : Int) (ys : List (List Int)) : List Value := ys.flatMap fun y => (shp L y).toList
theorem shpL_snoc (L : Int) (ys : List (List Int)) (y : List Int) : shpL L (ys ++ [y]) = shpL L ys ++ (shp L y).toList := by simp [shpL]
theorem shpL_length (L : Int) (ys : List (List Int)) (h : ∀ y ∈ ys, y.length = 64) : (shpL L ys).length = ys.length * 65 := by
 induction ys with
 | nil => simp [shpL]
 | cons y r ih =>
   have h1 := ih (fun z hz => h z (by simp [hz]))
   have h2 : (shp L y).size = 65 := by rw [shp_size, h y (by simp)]
   simp only [shpL, List.flatMap_cons, List.length_append, List.length_cons, Array.length_toList] at h1 ⊢
   rw [h1, h2]; omega
theorem shpL_get {L : Int} {ys : List (List Int)} (h : ∀ y ∈ ys, y.length = 64) {i : Nat} {y : List Int} (hy : ys[i]? = some y) {j : Nat} {v : Value} (hv : (shp L y)[j]? = some v) : (shpL L ys)[i * 65 + j]? = some v := by
 have hj : j < 65 := by
  have := (Array.getElem?_eq_some_iff.1 hv).1
  rw [shp_size, h y (List.mem_of_getElem? hy)] at this; exact this
 induction ys generalizing i with
 | nil => simp at hy
 | cons z r ih =>
   have h2 : (shp L z).toList.length = 65 := by rw [Array.length_toList, shp_size, h z (by simp)]
   have e : shpL L (z :: r) = (shp L z).toList ++ shpL L r := by simp [shpL]
   rw [e]
   cases i with
   | zero =>
     simp only [List.getElem?_cons_zero, Option.some.injEq] at hy
     subst hy
     rw [List.getElem?_append_left (by omega), Nat.zero_mul, Nat.zero_add]
     simpa using hv
   | succ i =>
     simp only [List.getElem?_cons_succ] at hy
     rw [List.getElem?_append_right (by rw [h2]; omega), h2, show (i + 1) * 65 + j - 65 = i * 65 + j by omega]
     exact ih (fun w hw => h w (by simp [hw])) hy
def srv (n d : Int) (L : Nat) (xs ys : List Int) : Option Sh := fstS (rchB n d xs ys L) (shl L (2 * L - 1))
end Go.Proofs.YtdpjdifoonfcdaaGreatDoor

namespace Go.Proofs.YtdpjdifoonfcdaaGreatDoor
open Go.RowKit
theorem foldl_zipSet (l : List Value) : ∀ (k : Nat) (A : Array Value), k + l.length <= A.size ->
 ((l.zipIdx k).foldl (fun (cs : Array Value) (x : Value × Nat) => cs.setIfInBounds (0 + x.2) x.1) A).toList = A.toList.take k ++ (l ++ A.toList.drop (k + l.length)) := by
 induction l with
 | nil => intro k A h; simp
 | cons v r ih =>
   intro k A h
   rw [List.length_cons] at h
   rw [List.zipIdx_cons, List.foldl_cons, ih (k + 1) _ (by rw [Array.size_setIfInBounds]; omega), Nat.zero_add, Array.toList_setIfInBounds]
   have hk : k < A.toList.length := by rw [Array.length_toList]; omega
   rw [List.take_add_one, List.take_set_of_le (Nat.le_refl k), List.getElem?_set_self hk, List.drop_set_of_lt (by omega), List.length_cons, show k + 1 + r.length = k + (r.length + 1) by omega]
   simp
theorem foldl_zipSet_all (V A : Array Value) (h : A.size = V.size) : V.zipIdx.foldl (fun (cs : Array Value) (x : Value × Nat) => cs.setIfInBounds (0 + x.2) x.1) A = V := by
 apply Array.toList_inj.1
 rw [<- Array.foldl_toList, Array.toList_zipIdx, foldl_zipSet V.toList 0 A (by rw [Array.length_toList]; omega)]
 rw [List.take_zero, List.nil_append, Nat.zero_add, Array.length_toList, List.drop_of_length_le (by rw [Array.length_toList]; omega), List.append_nil]
theorem run_buildSlice_one {P : Program} {w : World} (t elem : TypeId) (i : TypeInfo) (V Z : Array Value) (hu : P.underlying t = some (.slice elem)) (hi : P.info? elem = some i) (hz : i.zero = some (.agg Z)) (hsz : i.size = V.size) (hZ : Z.size = V.size) (h0 : V.size ≠ 0) (hm : V.size <= 16777216) :
 (Instr.buildSlice t 1 #[(0, .agg V)]).run P w = .ok (.slice (some ⟨w.heap.size, 0, none⟩) 1 1) (w.alloc (.cells V elem)) := by
 have hm2 : ¬ 16777216 < V.size := by omega
 simp [Instr.buildSlice, run_underlying hu, sizeOf, zeroValue, typeInfo, hi, hz, hsz, h0, hm2, Instr.fill, Value.cells, go_sem]
 have h := foldl_zipSet_all V ((Array.range V.size).map (fun x => Z[x % Z.size]!)) (by simp)
 simp only [Nat.zero_add, Array.size_zipIdx] at h
 rw [h]
theorem wpList_buildSlice_one {P : Program} {ops : Array Oper} {rest : List Oper} {o : Oper} {a : Act} {w : World} {Q : Exit -> Act -> World -> Prop} (hgd : o.guard = none) (t elem : TypeId) (x : Operand) (ho : o.op = .buildSlice t 1 #[(0, x)])
 (i : TypeInfo) (V Z : Array Value) (hx : a.eval x = .agg V) (hu : P.underlying t = some (.slice elem)) (hi : P.info? elem = some i) (hz : i.zero = some (.agg Z)) (hsz : i.size = V.size) (hZ : Z.size = V.size) (h0 : V.size ≠ 0) (hm : V.size <= 16777216)
 (h : wpList P ops Q rest (a.put o.dst (.slice (some ⟨w.heap.size, 0, none⟩) 1 1)) (w.alloc (.cells V elem))) : wpList P ops Q (o :: rest) a w :=
 wpList_plain hgd fun K hK => by
  unfold Oper.wp execOp
  simp only [ho, List.map_toArray, List.map_cons, List.map_nil, hx, Sem.run_bind, run_buildSlice_one t elem i V Z hu hi hz hsz hZ h0 hm, Sem.run_pure, Result.andThen_ok]
  exact hK _ _ h
end Go.Proofs.YtdpjdifoonfcdaaGreatDoor

namespace Go.Proofs.YtdpjdifoonfcdaaGreatDoor
open Go.RowKit Go.Shelf
theorem Tryz.infoShape : (Tryz.prog.info? 129).map (fun i => (i.zero, i.size, i.bytes)) = some (some (.agg (shp 0 (smp 0 0 0))), 65, 520) := by kernel_rfl
theorem prs_take (l : List (Int × Int)) : ∀ k, prs (l.take k) = (prs l).take (k * 2) := by
 induction l with
 | nil => intro k; simp [prs_nil]
 | cons c r ih =>
   intro k
   cases k with
   | zero => simp [prs_nil]
   | succ n => rw [List.take_succ_cons, prs_cons, prs_cons, ih n, show (n + 1) * 2 = n * 2 + 1 + 1 by omega, List.take_succ_cons, List.take_succ_cons]
def chOK (L : Int) (c : Int × Int) : Bool := waveOK L c.1 c.2 && !silentB (wav L c.1 c.2)
def bankOK (L : Int) (cs : List (Int × Int)) : Bool := decide (cs.length <= 64) && cs.all (chOK L) && decide cs.Nodup
def wvs (L : Int) (cs : List (Int × Int)) : List (List Int) := cs.map fun c => wav L c.1 c.2
theorem bankOK_not {L : Int} {cs : List (Int × Int)} {k : Nat} {c : Int × Int} (h : cs[k]? = some c) (hn : chOK L c = false ∨ (cs.take k).contains c = true) : bankOK L cs = false := by
 rw [Bool.eq_false_iff]
 intro hb
 simp only [bankOK, Bool.and_eq_true, decide_eq_true_eq, List.all_eq_true] at hb
 obtain ⟨⟨_, h2⟩, h3⟩ := hb
 rcases hn with hn | hn
 · rw [h2 c (List.mem_of_getElem? h)] at hn; cases hn
 · have h4 : c ∈ cs.take k := by simpa using hn
   obtain ⟨j, hj⟩ := List.mem_iff_getElem?.1 h4
   rw [List.getElem?_take] at hj
   split at hj
   · rename_i hjk
     have := (List.getElem?_inj (List.getElem?_eq_some_iff.1 hj).1 h3).1 (hj.trans h.symm)
     omega
   · cases hj
theorem bankOK_all {L : Int} {cs : List (Int × Int)} (h1 : cs.length <= 64) (h2 : cs.all (chOK L) = true) (h3 : cs.Nodup) : bankOK L cs = true := by
 simp only [bankOK, Bool.and_eq_true, decide_eq_true_eq]
 exact ⟨⟨h1, h2⟩, h3⟩
def WavRes (L : Int) (cs : List (Int × Int)) (w : World) (e : Ending) (w' : World) : Prop :=
 (if bankOK L cs = true then ∃ a c, e = .returned (.tuple #[.slice a cs.length c, .bool true]) /\ Cells w' a (shpL L (wvs L cs)) else e = .returned (.tuple #[.slice none 0 0, .bool false])) /\ Below w.heap.size w w'
theorem wav_no {L : Int} {cs : List (Int × Int)} {w w' : World} (h : bankOK L cs = false) (hb : Below w.heap.size w w') : WavRes L cs w (.returned (.tuple #[.slice none 0 0, .bool false])) w' := ⟨by rw [h]; exact rfl, hb⟩
theorem wav_yes {L : Int} {cs : List (Int × Int)} {w w' : World} {a : Option Addr} {c : Nat} (h : bankOK L cs = true) (hc : Cells w' a (shpL L (wvs L cs))) (hb : Below w.heap.size w w') : WavRes L cs w (.returned (.tuple #[.slice a cs.length c, .bool true])) w' := ⟨by rw [h]; exact ⟨_, _, rfl, hc⟩, hb⟩
set_option maxRecDepth 1000000 in
set_option maxHeartbeats 4000000 in
theorem waves_any (L : Int) (cs : List (Int × Int)) (ao : Option Addr) (cap : Nat) (w : World) (hc : Cells w ao (prs cs)) (hl : cs.length <= 9223372036854775807) (hcap : cs.length <= cap) (hcap2 : cap <= 9223372036854775807) :
 Calls Tryz.prog 87 #[.int .i64 L, .slice ao cs.length cap] w (WavRes L cs w) := by
 by_cases h64 : 64 < cs.length
 · have hbo : bankOK L cs = false := by rw [bankOK, decide_eq_false (by omega)]; rfl
   have HBO := Lib.hid hbo
   have h64i : (64 : Int) < cs.length := by omega
   clear hbo h64 hc
   go_enter Tryz.func87, Tryz.ntmps87
   go_wp2_with fail
   go_ret2
   exact wav_no HBO.out (Below.refl _ _)
 · obtain ⟨Z, hZ⟩ : ∃ Z, Z = shp 0 (smp 0 0 0) := ⟨_, rfl⟩
   have z : Tryz.zeroCells129 = Z := by rw [hZ]; exact zero101
   have hZs : Z.size = 65 := by rw [hZ, shp_size, smp_length]
   have h64' : cs.length <= 64 := by omega
   have h64i : ¬ (64 : Int) < cs.length := by omega
   obtain ⟨i0, hi, hz0, hz1, hz2⟩ := info_parts Tryz.infoShape
   rw [<- hZ] at hz0
   clear hZ h64
   go_enter Tryz.func87, Tryz.ntmps87
   go_wp2_with fail
   go_loopw [6, 16] (fun v i wr => ∃ k : Nat, k <= cs.length /\ i = .int .i64 k /\ (cs.take k).all (chOK L) = true /\ (cs.take k).Nodup /\ wr.ownsRow w.heap.size 129 65 v k (shpL L (wvs L (cs.take k))) /\ Below w.heap.size w wr) (fun _ i _ => cs.length - (intOf i).toNat)
   case atStart => exact ⟨0, Nat.zero_le _, rfl, by simp, by simp, World.ownsRow_nil _ _ _ _, Below.refl _ _⟩
   case round =>
    obtain ⟨k, hk, rfl, hall, hnd, hown, hbe⟩ := hrel
    by_cases hlt : k < cs.length
    · obtain ⟨⟨p, q⟩, hx⟩ := get_of_lt hlt
      obtain ⟨b, off, rfl⟩ := hc.addr (prs_ne (by omega))
      have c1 := cell_keep (hc.at (prs_fst hx)) hbe (Nat.le_refl _)
      have c2 := cell_keep (hc.at (prs_snd hx)) hbe (Nat.le_refl _)
      rw [<- Nat.add_assoc] at c2
      simp only at c1 c2
      have hwv := fun W => wave_any L p q W
      have hVs := waveV_size L p q
      have hst := store_shape (waveV L p q) Z hVs hZs (waveV_one L p q)
      have hone := waveV_one L p q
      generalize hV : waveV L p q = V at hwv hst hVs hone
      have hne : ¬ V = #[] := by intro h; rw [h] at hVs; simp at hVs
      have HWV := Lib.hid hwv; have HALL := Lib.hid hall; have HND := Lib.hid hnd; have HOWN := Lib.hid hown; have HX := Lib.hid hx; have HV := Lib.hid hV; have HC := Lib.hid hc; have HONE := Lib.hid hone
      clear hwv hall hnd hx hV hc hone
      cases hok : waveOK L p q with
      | false =>
        have hbo : bankOK L cs = false := bankOK_not HX.out (.inl (by rw [chOK, hok]; rfl))
        have HBO := Lib.hid hbo
        rw [hok] at HWV
        clear hbo hok hown
        go_wp2_with (go_at_call 63; refine (HWV.out _).mono ?_; rintro e w1 ⟨rfl, hb1⟩)
        have hbw := (hbe.alloc hbe.size (.cells #[.int .i64 p, .int .i64 q] 23)).trans (hb1.mono (by have := hbe.size; simp; omega))
        go_quiet (fail)
        go_wp2_with fail
        go_ret2
        exact wav_no HBO.out (bel_drewN (hbw.alloc hbw.size _) _)
      | true =>
        have hsi := fun W => silent_any L (wav L p q) W (wav_length _ _ _)
        rw [show shp L (wav L p q) = V by rw [<- HV.out]; simp [waveV, hok]] at hsi
        have hct := fun (W : World) (hb : Below w.heap.size w W) => contains_chirps (some ⟨b, off, none⟩) (cs.take k) cap p q W (by rw [prs_take]; exact (HC.out.below hb (Nat.le_refl _)).take _) (by rw [List.length_take]; omega)
        rw [List.length_take, Nat.min_eq_left hk] at hct
        have hinf : (Tryz.prog.info? 129).map (·.size) = some V.size := by rw [hVs]; kernel_rfl
        have hch : chOK L (p, q) = !silentB (wav L p q) := by rw [chOK, hok]; rfl
        rw [hok] at HWV
        have hvw : shp L (wav L p q) = V := by rw [<- HV.out]; simp [waveV, hok]
        have HVW := Lib.hid hvw; have HOB : Hid (∀ j, u6.ownBlock = some j -> w.heap.size <= j) := Lib.hid (fun j e => (HOWN.out.lt j e).1)
        have HSI := Lib.hid hsi; have HCT := Lib.hid hct; have HI := Lib.hid hinf; have HCH := Lib.hid hch
        clear hsi hct hinf hok hch hown hvw
        go_wp2_with (go_at_call 63; refine (HWV.out _).mono ?_; rintro e w1 ⟨rfl, hb1⟩)
        have hbw := (hbe.alloc hbe.size (.cells #[.int .i64 p, .int .i64 q] 23)).trans (hb1.mono (by have := hbe.size; simp; omega))
        have hsz1 : wr.heap.size < w1.heap.size := by have := hb1.size; simp at this; omega
        have hsz0 := hbe.size
        have s1 : (w1.alloc (.cells V 129)).drew.heap[w1.heap.size]? = some (.cells V 129 (0, 0)) := heap_alloc_new w1 _
        have s2 : (w1.alloc (.cells V 129)).drew.heap[wr.heap.size]? = some (.cells #[.int .i64 p, .int .i64 q] 23 (0, 0)) := (hold_old w1 _ _ hsz1).trans ((hb1.block _ (by simp)).trans (heap_alloc_new wr _))
        have k3 : (k : Int) <= cs.length := by omega
        have k4 : (0 : Int) <= k := by omega
        refine wp_region_held_drew (S := fun w' => w'.heap[w1.heap.size]? = some (.cells V 129 (0, 0)) /\ w'.heap[wr.heap.size]? = some (.cells #[.int .i64 p, .int .i64 q] 23 (0, 0))) (by kernel_rfl) ⟨s1, s2⟩ (fun hHeld => ?_)
        refine tkV 0 (.bool true) hHeld ?_
        refine tkV 1 (.bool false) hHeld ?_
        refine tkV 2 (.bool false) hHeld ?_
        refine tkV 3 (.agg V) hHeld ?_ (hy := by intro w9 h; exact exec_load_row 129 _ rfl w1.heap.size rfl 129 V (0, 0) _ h.1 Tryz.underlying129 (by rfl) HI.out)
        refine tkC 4 (fun K hK => ?_)
        go_simp
        refine (HSI.out _).mono ?_
        rintro e w4 ⟨rfl, hb4⟩
        have t1 := (hb4.block _ (by have := hsz1; show w1.heap.size < (w1.alloc (.cells V 129)).heap.size; simp)).trans s1
        have t2 := (hb4.block _ (by have := hsz1; show wr.heap.size < (w1.alloc (.cells V 129)).heap.size; simp; omega)).trans s2
        refine hK.out _ _ ⟨t1, t2⟩ (fun hHeld4 => ?_)
        clear hK K
        try simp only [Act.put, List.setIfInBounds_toArray, List.set_cons_zero, List.set_cons_succ]
        cases hsb : silentB (wav L p q) with
        | true =>
          have hbo : bankOK L cs = false := bankOK_not HX.out (.inl (by rw [HCH.out, hsb]; rfl))
          have HBO := Lib.hid hbo
          clear hbo hsb
          refine tkV 5 (.bool true) hHeld4 ?_
          refine tkV 6 (.bool true) hHeld4 ?_
          refine tkS 7 hHeld4 ?_
          refine tkS 8 hHeld4 ?_
          refine tkS 9 hHeld4 ?_
          refine tkS 10 hHeld4 ?_
          refine tkS 11 hHeld4 ?_
          refine tkV 12 (.bool true) hHeld4 ?_
          refine wpAnyH_done (by kernel_rfl) ?_ _
          have hbw1 : Below w.heap.size w (w1.alloc (.cells V 129)).drew := bel_drewN (hbw.alloc hbw.size _) 1
          have hbw4 := hbw1.trans (hb4.mono hbw1.size)
          go_wp2_with fail
          go_ret2
          exact wav_no HBO.out hbw4
        | false =>
          have hbw1 : Below w.heap.size w (w1.alloc (.cells V 129)).drew := bel_drewN (hbw.alloc hbw.size _) 1
          have hcw4 := hbw1.trans (hb4.mono hbw1.size)
          have hs4 := hb4.size
          have hsv1 : w1.heap.size < w4.heap.size := by have h : (w1.alloc (.cells V 129)).heap.size <= w4.heap.size := hs4; simp at h; omega
          have hsv2 : wr.heap.size < w4.heap.size := by omega
          cases hcb : (cs.take k).contains (p, q) with
          | true =>
            have hbo : bankOK L cs = false := bankOK_not HX.out (.inr hcb)
            have HBO := Lib.hid hbo
            rw [hcb] at HCT
            clear hbo hsb hcb hs4
            refine tkV 5 (.bool false) hHeld4 ?_
            refine tkV 6 (.bool false) hHeld4 ?_
            refine tkV 7 (.slice (some ⟨b, off, none⟩) cs.length cap) hHeld4 ?_
            refine tkV 8 (.int .i64 k) hHeld4 ?_
            refine tkV 9 (.slice (some ⟨b, off, none⟩) k cap) hHeld4 ?_ (hy := by intro w9 h; go_simp; try (intro hcc; omega))
            refine tkV 10 (.agg #[.int .i64 p, .int .i64 q]) hHeld4 ?_ (hy := by intro w9 h; exact exec_load_row 23 _ rfl wr.heap.size rfl 23 #[.int .i64 p, .int .i64 q] (0, 0) _ h.2 Tryz.underlying23 (by rfl) (by kernel_rfl))
            refine tkC 11 (fun K hK => ?_)
            go_simp
            refine (HCT.out _ hcw4).mono ?_
            rintro e w5 ⟨rfl, hb5⟩
            have v1 := (hb5.block _ hsv1).trans t1
            have v2 := (hb5.block _ hsv2).trans t2
            refine hK.out _ _ ⟨v1, v2⟩ (fun hHeld5 => ?_)
            clear hK K
            try simp only [Act.put, List.setIfInBounds_toArray, List.set_cons_zero, List.set_cons_succ]
            refine tkV 12 (.bool true) hHeld5 ?_
            refine wpAnyH_done (by kernel_rfl) ?_ _
            have hbw5 := hcw4.trans (hb5.mono hcw4.size)
            go_wp2_with fail
            go_ret2
            exact wav_no HBO.out hbw5
          | false =>
            rw [hcb] at HCT
            have HSB := Lib.hid hsb; have HCB := Lib.hid hcb
            clear hsb hcb hs4
            refine tkV 5 (.bool false) hHeld4 ?_
            refine tkV 6 (.bool false) hHeld4 ?_
            refine tkV 7 (.slice (some ⟨b, off, none⟩) cs.length cap) hHeld4 ?_
            refine tkV 8 (.int .i64 k) hHeld4 ?_
            refine tkV 9 (.slice (some ⟨b, off, none⟩) k cap) hHeld4 ?_ (hy := by intro w9 h; go_simp; try (intro hcc; omega))
            refine tkV 10 (.agg #[.int .i64 p, .int .i64 q]) hHeld4 ?_ (hy := by intro w9 h; exact exec_load_row 23 _ rfl wr.heap.size rfl 23 #[.int .i64 p, .int .i64 q] (0, 0) _ h.2 Tryz.underlying23 (by rfl) (by kernel_rfl))
            refine tkC 11 (fun K hK => ?_)
            go_simp
            refine (HCT.out _ hcw4).mono ?_
            rintro e w5 ⟨rfl, hb5⟩
            have v1 := (hb5.block _ hsv1).trans t1
            have v2 := (hb5.block _ hsv2).trans t2
            refine hK.out _ _ ⟨v1, v2⟩ (fun hHeld5 => ?_)
            clear hK K
            try simp only [Act.put, List.setIfInBounds_toArray, List.set_cons_zero, List.set_cons_succ]
            refine tkV 12 (.bool false) hHeld5 ?_
            refine wpAnyH_done (by kernel_rfl) ?_ _
            have hbw5 := hcw4.trans (hb5.mono hcw4.size)
            have hbx : Below wr.heap.size wr w5 := by
             have h1 := ((Below.refl wr.heap.size wr).alloc (Nat.le_refl _) (.cells #[.int .i64 p, .int .i64 q] 23)).trans (hb1.mono (by simp))
             have h2 : Below wr.heap.size wr (w1.alloc (.cells V 129)).drew := bel_drewN (h1.alloc h1.size _) 1
             have h3 := h2.trans (hb4.mono h2.size)
             exact h3.trans (hb5.mono h3.size)
            have hown5 := own_belowK HOWN.out hbx (Nat.le_refl _)
            clear hb1 hb4 hb5
            go_wp2_with (first
             | (refine wpList_load_row (by rfl) 129 _ (by rfl) w1.heap.size (by rfl) _ V _ _ v1 Tryz.underlying129 (by rfl) HI.out ?_)
             | (refine wpList_buildSlice_one (by rfl) 152 129 _ (by rfl) i0 V Z (by rfl) Tryz.underlying152 hi hz0 (hz1.trans hVs.symm) (hZs.trans hVs.symm) (by omega) (by omega) ?_)
             | (at_builtin; refine wpList_append_own _ rfl _ _ 152 rfl w.heap.size 129 i0 (.agg Z) 65 520 Tryz.underlying152 hi hz0 hz1 hz2 hZs (by decide) _ _ _ rfl (hown5.alloc _) ⟨w5.heap.size, 0, none⟩ 1 1 V.toList rfl (by rw [Array.length_toList, hVs]) (World.news_of_block (cs := V) (t := 129) (fr := (0, 0)) (heap_alloc_new w5 _)) HONE.out (by unfold maxLen; omega) (by omega) (by have := hbw5.size; simp; omega) ?_; intro v9 wz hown9 hgrow _))
            have hgr : (w5.alloc (.cells V 129)).grownBy wz u6.ownBlock := hgrow
            have hbz := (hbw5.alloc hbw5.size (.cells V 129)).grown hgr (by have := hbw5.size; simp; omega) HOB.out
            have htk := take_get HX.out
            refine ⟨⟨k + 1, by omega, by go_num, ?_, ?_, ?_, hbz⟩, by simp [intOf]; omega⟩
            · rw [htk, List.all_append, HALL.out]; simp [HCH.out, HSB.out]
            · rw [htk, List.nodup_append]
              refine ⟨HND.out, by simp, ?_⟩
              intro a ha c hc2 hac
              rw [List.mem_singleton] at hc2
              subst hc2; subst hac
              have h1 := HCB.out
              rw [Bool.eq_false_iff] at h1
              exact h1 (by simpa using ha)
            · rw [htk, wvs, List.map_append, List.map_cons, List.map_nil, shpL_snoc, HVW.out]
              exact hown9
    · obtain rfl : k = cs.length := by omega
      rw [List.take_length] at hall hnd hown
      have hbo := bankOK_all h64' hall hnd
      obtain ⟨g, c, rfl, hcs⟩ := own_cells hown
      have HCS := Lib.hid hcs; have HBO := Lib.hid hbo
      clear hall hnd hown hbo hcs hc
      go_wp2
      go_ret2
      exact wav_yes HBO.out HCS.out hbe
end Go.Proofs.YtdpjdifoonfcdaaGreatDoor

namespace Go.Proofs.YtdpjdifoonfcdaaGreatDoor
open Go.RowKit Go.Shelf
theorem grown_set3 (w : World) (p : Addr) (u : Value) : w.grownBy (w.setCell p u) (some p.block) :=
 ⟨rfl, rfl, rfl, by simp [World.setCell], fun k _ hk => Below.heap_setCell _ _ _ _ (fun e => hk (by rw [e]))⟩
theorem own_set3 {w : World} {B : Nat} {e : TypeId} {s : Nat} {v : Value} {n : Nat} {xs : List Value} (h : w.ownsRow B e s v n xs) {p : Addr} {u : Value} (hp : v.ownBlock ≠ some p.block) : (w.setCell p u).ownsRow B e s v n xs := h.kept (grown_set3 w p u) (.inr hp)
theorem own_ne3 {w : World} {b1 b2 : Nat} {e1 e2 : TypeId} {s1 s2 n1 n2 : Nat} {v1 v2 : Value} {x1 x2 : List Value} (h1 : w.ownsRow b1 e1 s1 v1 n1 x1) (h2 : w.ownsRow b2 e2 s2 v2 n2 x2) (he : e1 ≠ e2) : v1.ownBlock = none ∨ v1.ownBlock ≠ v2.ownBlock := by
 rcases h1.2 with ⟨rfl, _⟩ | ⟨g, cap, cur, rfl, _, hg, _⟩
 · exact .inl rfl
 · right
   intro hv
   replace hv := hv.symm
   rcases h2.2 with ⟨rfl, _⟩ | ⟨g', cap', cur', rfl, _, hg', _⟩
   · simp [Value.ownBlock] at hv
   · simp [Value.ownBlock] at hv
     subst hv
     rw [hg'] at hg
     simp at hg
     exact he hg.2.symm
theorem own_keptF {A B : World} {row : Option Nat} {b : Nat} {e : TypeId} {s : Nat} {v : Value} {n : Nat} {xs : List Value} (h : A.ownsRow b e s v n xs) (hg : A.grownBy B row) (hr : ∀ r, row = some r -> ∃ o : Obj, A.heap[r]? = some o /\ o.isCells = false) : B.ownsRow b e s v n xs := by
 refine h.kept hg ?_
 rcases h.2 with ⟨rfl, _⟩ | ⟨g, cap, cur, rfl, _, hgb, _⟩
 · exact .inl rfl
 · right
   intro e'
   obtain ⟨o, ho, hc⟩ := hr g e'.symm
   rw [hgb] at ho; cases ho; cases hc
structure Fts (B1 B2 B3 BF BP n0 : Nat) (fam : Array Value) (C : Addr) (vp vm : Value) (P : List (Int × Int)) (M : List Int) (i : Int) (W : World) : Prop where
 bp : Blk W B1 58 #[vp]
 rp : W.ownsRow n0 182 2 vp P.length (prs P)
 bm : Blk W B2 24 #[vm]
 rm : W.ownsRow n0 3 1 vm M.length (M.map (Value.int .i64))
 bi : Blk W B3 3 #[.int .i64 i]
 bf : Blk W BF 43 fam
 bc : Blk W BP 149 #[.pointer (some C)]
theorem Fts.below {B1 B2 B3 BF BP n0 : Nat} {fam : Array Value} {C : Addr} {vp vm : Value} {P : List (Int × Int)} {M : List Int} {i : Int} {W W' : World} (h : Fts B1 B2 B3 BF BP n0 fam C vp vm P M i W) (hb : Below W.heap.size W W') : Fts B1 B2 B3 BF BP n0 fam C vp vm P M i W' :=
 ⟨h.bp.below hb h.bp.lt, own_belowK h.rp hb (Nat.le_refl _), h.bm.below hb h.bm.lt, own_belowK h.rm hb (Nat.le_refl _), h.bi.below hb h.bi.lt, h.bf.below hb h.bf.lt, h.bc.below hb h.bc.lt⟩
theorem Fts.keptF {B1 B2 B3 BF BP n0 : Nat} {fam : Array Value} {C : Addr} {vp vm : Value} {P : List (Int × Int)} {M : List Int} {i : Int} {W W' : World} {row : Option Nat} (h : Fts B1 B2 B3 BF BP n0 fam C vp vm P M i W) (hg : W.grownBy W' row) (hr : ∀ r, row = some r -> ∃ o : Obj, W.heap[r]? = some o /\ o.isCells = false) : Fts B1 B2 B3 BF BP n0 fam C vp vm P M i W' :=
 ⟨row_kept h.bp hg hr, own_keptF h.rp hg hr, row_kept h.bm hg hr, own_keptF h.rm hg hr, row_kept h.bi hg hr, row_kept h.bf hg hr, row_kept h.bc hg hr⟩
end Go.Proofs.YtdpjdifoonfcdaaGreatDoor
