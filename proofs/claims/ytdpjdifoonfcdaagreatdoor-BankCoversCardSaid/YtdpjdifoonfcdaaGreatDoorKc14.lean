/- Parts of a proof, in build order: LZ. -/
import Derived.Test.YtdpjdifoonfcdaaGreatDoorKc13

namespace Go.Proofs.YtdpjdifoonfcdaaGreatDoor
open Go.RowKit Go.Shelf
theorem bui_all (L a b c d : Int) (s : ByteArray) : (buiE L a b c d s ≠ 0 /\ (buiR L a b c d s).length = 0) ∨ (buiE L a b c d s = 0 /\ Built L a b c d s (buiR L a b c d s) /\ ∃ n m, barS s = some (n, m)) := by
 by_cases hE : covE L a b c d [] s = 0
 · obtain ⟨_, _, n, m, hb⟩ := covE_0 hE
   obtain ⟨h1, h2⟩ := bui_yes hE hb
   rw [h1, h2]
   cases hr : bldO n m L (ptsAll L a c (d - c + 1).toNat (b - a + 1).toNat) with
   | none => exact .inl ⟨by decide, rfl⟩
   | some res => exact .inr ⟨rfl, built_all hE hb hr, n, m, hb⟩
 · obtain ⟨h1, h2⟩ := bui_no hE
   rw [h1, h2]
   exact .inl ⟨hE, rfl⟩
set_option maxRecDepth 1000000 in
set_option maxHeartbeats 8000000 in
theorem covers_law (L a b c d : Int) (s : ByteArray) (w : World) (ht : Tab w) (hs : s.size <= 140737488351232) :
 Calls Tryz.prog 6 #[.agg #[.int .i64 L, .int .i64 a, .int .i64 b, .int .i64 c, .int .i64 d], .string s] w fun e w' => e = .returned (.bool true) /\ Below w.heap.size w w' := by
 have hp1 := fun (W : World) (h : Tab W) => Build_any L a b c d s W h hs
 have hall := bui_all L a b c d s
 obtain ⟨R, hR⟩ : ∃ R, buiR L a b c d s = R := ⟨_, rfl⟩
 obtain ⟨E, hEE⟩ : ∃ E, buiE L a b c d s = E := ⟨_, rfl⟩
 rw [hR, hEE] at hall hp1
 have hm1 := fun (ao : Option Addr) (co : Nat) (W : World) (h : Tab W) (h2 : Cells W ao (prs R)) (h3 : R.length <= co) (h4 : co <= 9223372036854775807) => Misses_any L a b c d R ao co s W h hs h2 (by omega) h3 h4
 have hk1 := fun (ao : Option Addr) (co : Nat) (W : World) (h2 : Cells W ao (prs R)) (h3 : R.length <= co) (h4 : co <= 9223372036854775807) => checkBank_any L R ao co W h2 (by omega) h3 h4
 have hpr := fun (ao : Option Addr) (co : Nat) (W : World) (h : Tab W) (h2 : Cells W ao (prs R)) (h3 : R.length <= co) (h4 : co <= 9223372036854775807) => Prove_any L a b c d R ao co s W h hs h2 (by omega) h3 h4
 have hpv := fun (ao : Option Addr) (co : Nat) (t : ByteArray) (fo : Option Addr) (fc : Nat) (W : World) (h : Tab W) (hts : t.size <= 140737488351232) (h2 : Cells W ao (prs R)) (h3 : R.length <= co) (h4 : co <= 9223372036854775807) (h5 : Cells W fo (prs (proR L a b c d R s))) (h6 : (proR L a b c d R s).length <= 9223372036854775807) => Proves_any L a b c d R ao co t (proR L a b c d R s) fo fc W h hts h2 (by omega) h3 h4 h5 h6
 have hwo := fun (ao : Option Addr) (co : Nat) (W : World) (h : Tab W) (h2 : Cells W ao (prs R)) (h3 : R.length <= co) (h4 : co <= 9223372036854775807) => Worst_any L a b c d R ao co W h h2 (by omega) h3 h4
 unfold ProRes at hpr
 obtain ⟨W0, hW0⟩ : ∃ W0, w.alloc (.cells #[.int .i64 L, .int .i64 a, .int .i64 b, .int .i64 c, .int .i64 d] 43) = W0 := ⟨_, rfl⟩
 have hB0 : Below w.heap.size w W0 := by rw [<- hW0]; exact (Below.refl _ w).alloc (Nat.le_refl _) _
 have hs0 : W0.heap.size = w.heap.size + 1 := by rw [<- hW0]; simp
 have r0 : Blk W0 w.heap.size 43 #[.int .i64 L, .int .i64 a, .int .i64 b, .int .i64 c, .int .i64 d] := by rw [<- hW0]; exact heap_alloc_new w _
 have HKB : Hid (∀ wx, Below W0.heap.size W0 wx -> (wx.cell? ⟨w.heap.size, 0, none⟩ = some (.int .i64 L) /\ wx.cell? ⟨w.heap.size, 1, none⟩ = some (.int .i64 a) /\ wx.cell? ⟨w.heap.size, 2, none⟩ = some (.int .i64 b) /\ wx.cell? ⟨w.heap.size, 3, none⟩ = some (.int .i64 c) /\ wx.cell? ⟨w.heap.size, 4, none⟩ = some (.int .i64 d)) /\ Below w.heap.size w wx /\ Tab wx) := Lib.hid (fun wx hb => by
  have hbw := hB0.trans (hb.mono (by omega))
  have h := r0.below hb (by omega)
  exact ⟨⟨h.cell 0, h.cell 1, h.cell 2, h.cell 3, h.cell 4⟩, hbw, ht.below hbw (Nat.le_refl _)⟩)
 have HW0 := Lib.hid hW0; have HP1 := Lib.hid hp1; have HM1 := Lib.hid hm1; have HK1 := Lib.hid hk1; have HPR := Lib.hid hpr; have HPV := Lib.hid hpv; have HWO := Lib.hid hwo
 clear hW0 hB0 hs0 r0 hp1 hm1 hk1 hpr hpv hwo hR hEE
 obtain ⟨⟨q0, q1, q2, q3, q4⟩, -, -⟩ := HKB.out W0 (Below.refl _ _)
 rcases hall with ⟨hE, hl⟩ | ⟨rfl, hbt, n, m, hbs⟩
 · have h1 : (E != 0) = true := by simpa using hE
   go_enter Tryz.func6, Tryz.ntmps6
   go_wp2_with fail
   rw [HW0.out]
   refine (HP1.out _ (HKB.out W0 (Below.refl _ _)).2.2).mono ?_
   rintro e w1 ⟨⟨p1, c1, rfl, -, -, -⟩, hb1⟩
   rw [hl]
   go_wp2_with fail
   refine (bworks_any w1 (HKB.out w1 hb1).2.2).mono ?_
   rintro e w4 ⟨rfl, hb4⟩
   have HB4 := Lib.hid (hb1.trans (hb4.mono hb1.size))
   clear hb4
   go_wp2_with fail
   go_ret
   exact ⟨rfl, (HKB.out w4 HB4.out).2.1⟩
 · have HBT := Lib.hid hbt; have HBS := Lib.hid hbs
   clear hbt hbs
   go_enter Tryz.func6, Tryz.ntmps6
   go_wp2_with fail
   rw [HW0.out]
   refine (HP1.out _ (HKB.out W0 (Below.refl _ _)).2.2).mono ?_
   rintro e w1 ⟨⟨ao, co, rfl, hr1, h3, h4⟩, hb1⟩
   have HR1 := Lib.hid (fun (W : World) (h : Below w1.heap.size w1 W) => hr1.below h (Nat.le_refl _)); have HB1 := Lib.hid hb1
   clear q0 q1 q2 q3 q4
   obtain ⟨⟨q0, q1, q2, q3, q4⟩, -, -⟩ := HKB.out w1 hb1
   clear hr1 hb1
   go_wp2_with fail
   refine (HM1.out ao co w1 (HKB.out w1 HB1.out).2.2 (HR1.out w1 (Below.refl _ _)) h3 h4).mono ?_
   rintro e w2 ⟨⟨m2, cm, rfl, -⟩, hb2⟩
   rw [HBT.out.mis, HBT.out.cov, List.length_nil]
   have HB2 := Lib.hid hb2
   clear q0 q1 q2 q3 q4 hb2
   obtain ⟨⟨q0, q1, q2, q3, q4⟩, -, -⟩ := HKB.out w2 (HB1.out.trans (HB2.out.mono HB1.out.size))
   go_wp2_with fail
   refine (HK1.out ao co w2 (HR1.out w2 HB2.out) h3 h4).mono ?_
   rintro e w3 ⟨rfl, hb3⟩
   rw [HBT.out.chk]
   have HB3 := Lib.hid (HB2.out.trans (hb3.mono HB2.out.size))
   clear q0 q1 q2 q3 q4 hb3
   obtain ⟨⟨q0, q1, q2, q3, q4⟩, -, -⟩ := HKB.out w3 (HB1.out.trans (HB3.out.mono HB1.out.size))
   go_wp2_with fail
   refine (HPR.out ao co w3 (HKB.out w3 (HB1.out.trans (HB3.out.mono HB1.out.size))).2.2 (HR1.out w3 HB3.out) h3 h4).mono ?_
   rintro e w4 ⟨⟨fo, fc, rfl, hfo⟩, hb4⟩
   rw [HBT.out.pro]
   have HB4 := Lib.hid (HB3.out.trans (hb4.mono HB3.out.size))
   have HFO := Lib.hid (fun (W : World) (h : Below w4.heap.size w4 W) => hfo.below h (Nat.le_refl _))
   have hpl : (proR L a b c d R s).length <= 400 := by
    have := HBT.out.wor
    unfold proR
    split
    · rw [(misR_yes HBT.out.cov HBS.out).2]
      unfold prfL
      rw [List.length_map]
      obtain ⟨hf, -, -⟩ := covE_0 HBT.out.cov
      exact Nat.le_trans (ptsAll_len _ _ _ _ _) (fam_true hf).2.2.2.2.2.2.2.2
    · exact Nat.zero_le _
   clear q0 q1 q2 q3 q4 hb4 hfo
   obtain ⟨⟨q0, q1, q2, q3, q4⟩, -, -⟩ := HKB.out w4 (HB1.out.trans (HB4.out.mono HB1.out.size))
   go_wp2_with fail
   refine (HPV.out ao co s fo fc w4 (HKB.out w4 (HB1.out.trans (HB4.out.mono HB1.out.size))).2.2 hs (HR1.out w4 HB4.out) h3 h4 (HFO.out w4 (Below.refl _ _)) (by omega)).mono ?_
   rintro e w5 ⟨rfl, hb5⟩
   rw [HBT.out.prv, HBT.out.cov]
   have HB45 := Lib.hid hb5
   have HB5 := Lib.hid (HB4.out.trans (hb5.mono HB4.out.size))
   clear q0 q1 q2 q3 q4 hb5
   obtain ⟨⟨q0, q1, q2, q3, q4⟩, -, -⟩ := HKB.out w5 (HB1.out.trans (HB5.out.mono HB1.out.size))
   go_wp2_with fail
   refine (HPV.out ao co ⟨#[48]⟩ fo fc w5 (HKB.out w5 (HB1.out.trans (HB5.out.mono HB1.out.size))).2.2 (by decide) (HR1.out w5 HB5.out) h3 h4 (HFO.out w5 HB45.out) (by omega)).mono ?_
   rintro e w6 ⟨rfl, hb6⟩
   rw [HBT.out.prv0, HBT.out.cov0]
   have HB6 := Lib.hid (HB5.out.trans (hb6.mono HB5.out.size))
   clear q0 q1 q2 q3 q4 hb6
   obtain ⟨⟨q0, q1, q2, q3, q4⟩, -, -⟩ := HKB.out w6 (HB1.out.trans (HB6.out.mono HB1.out.size))
   go_wp2_with fail
   refine (HWO.out ao co w6 (HKB.out w6 (HB1.out.trans (HB6.out.mono HB1.out.size))).2.2 (HR1.out w6 HB6.out) h3 h4).mono ?_
   rintro e w7 ⟨rfl, hb7⟩
   have HB7 := Lib.hid (HB6.out.trans (hb7.mono HB6.out.size))
   have hW7 := HKB.out w7 (HB1.out.trans (HB7.out.mono HB1.out.size))
   have HT7 := Lib.hid hW7.2.2
   clear q0 q1 q2 q3 q4 hb7
   rcases HBT.out.wor with ⟨hx, hpz⟩ | ⟨hx, hce, hcv, hsz, hsf⟩
   · rw [hx]
     generalize worV L a b c d R = V at *
     rw [hpz]
     go_wp2_with fail
     refine (bworks_any w7 HT7.out).mono ?_
     rintro e w8 ⟨rfl, hb8⟩
     have hb18 := HB1.out.trans ((HB7.out.trans (hb8.mono HB7.out.size)).mono HB1.out.size)
     have HB8 := Lib.hid hb18
     clear hb8 hb18 hW7
     go_wp2_with fail
     go_ret
     exact ⟨rfl, (HKB.out w8 HB8.out).2.1⟩
   · rw [hx]
     have hcm := cmp_any (worV L a b c d R) s w7 HT7.out ⟨hsz, hsf⟩ (barS_small HBS.out)
     rw [hce] at hcm
     generalize worV L a b c d R = V at *
     generalize cmpV V s = cv at *
     have HCM := Lib.hid hcm
     clear hcm hx hce hsz hsf hW7
     have k0 : ¬ cv < 0 := by omega
     go_wp2_with fail
     refine HCM.out.mono ?_
     rintro e w8 ⟨rfl, hb8⟩
     have HB8 := Lib.hid (HB7.out.trans (hb8.mono HB7.out.size))
     clear hb8
     go_wp2_with fail
     refine (bworks_any w8 (HKB.out w8 (HB1.out.trans (HB8.out.mono HB1.out.size))).2.2).mono ?_
     rintro e w9 ⟨rfl, hb9⟩
     have hb19 := HB1.out.trans ((HB8.out.trans (hb9.mono HB8.out.size)).mono HB1.out.size)
     have HB9 := Lib.hid hb19
     clear hb9 hb19
     go_wp2_with fail
     go_ret
     exact ⟨rfl, (HKB.out w9 HB9.out).2.1⟩
end Go.Proofs.YtdpjdifoonfcdaaGreatDoor
