/- Parts of a proof, in build order: Ct. -/
import Derived.Test.YtdpjdifoonfcdaaGreatDoorKr7
import Derived.Test.YtdpjdifoonfcdaaGreatDoorKr8

namespace Go.Proofs.YtdpjdifoonfcdaaGreatDoor
open Go.RowKit
theorem cells_lit (w : World) (cs : List Value) (T : TypeId) : Cells (w.alloc (.cells cs.toArray T)) (some ⟨w.heap.size, 0, none⟩) cs :=
 .inr ⟨w.heap.size, 0, rfl, fun j u hu => by
  rw [cell_of_row _ _ _ _ _ _ (heap_alloc_new _ _), Nat.zero_add]; simpa using hu⟩
set_option maxRecDepth 100000 in
set_option maxHeartbeats 4000000 in
theorem bworks_any (w : World) (ht : Tab w) :
 Calls Tryz.prog 22 #[] w fun e w' => e = .returned (.bool true) /\ Below w.heap.size w w' := by
 have hw := fun w => Wave_any 4 8 0 w
 have hm := fun w ht => match_any 4 16 0 48 0 w ht
 have hp := fun w => Points_any 4 31 33 0 0 w
 have hf := fun ao cap w hc => filter_any 4 16 0 ao [0, 127, 0, -127, 0] cap w hc (by decide)
 have hs := fun ao cap w ht hc => misfit_any 4 16 0 ao [0, 127, 0, 127] cap 0 2 w ht hc (by decide)
 rw [ex_wave.1, ex_wave.2] at hw
 rw [ex_match.1, ex_match.2] at hm
 rw [ex_points.1, ex_points.2] at hp
 rw [ex_filter.1, ex_filter.2] at hf
 rw [ex_misfit.1, ex_misfit.2] at hs
 simp only [List.length_cons, List.length_nil, Nat.reduceAdd] at hw hp hf hs
 have HW := Lib.hid hw; have HM := Lib.hid hm; have HP := Lib.hid hp; have HF := Lib.hid hf; have HS := Lib.hid hs; have HT := Lib.hid ht
 clear hw hm hp hf hs ht
 go_enter Tryz.func22, Tryz.ntmps22
 go_wp2_with fail
 refine (HW.out _).mono ?_
 rintro e w1 ⟨⟨b1, c1, rfl, hc1⟩, g1⟩
 have HC1 := Lib.hid hc1; clear hc1
 go_wp2_with fail
 refine (tone_any _).mono ?_
 rintro e w2 ⟨rfl, hb2⟩
 have g2 := g1.trans (hb2.mono g1.size)
 go_wp2_with fail
 refine (HM.out _ (HT.out.below g2 (Nat.le_refl _))).mono ?_
 rintro e w3 ⟨rfl, hb3⟩
 have g3 := g2.trans (hb3.mono g2.size)
 have HC3 := Lib.hid ((HC1.out.below hb2 (Nat.le_refl _)).below hb3 (Nat.le_refl _)); clear HC1 hb2 hb3
 go_wp2_with fail
 refine (HP.out _).mono ?_
 rintro e w4 ⟨⟨b4, c4, rfl, hc4⟩, hb4⟩
 have g4 := g3.trans (hb4.mono g3.size)
 have HC4 := Lib.hid (HC3.out.below hb4 (Nat.le_refl _))
 have HP4 := Lib.hid hc4; clear hc4 HC3 hb4
 go_wp2_with fail
 refine (tone_any _).mono ?_
 rintro e w5 ⟨rfl, hb5⟩
 have g5 := g4.trans (hb5.mono g4.size)
 have HC5 := Lib.hid (HC4.out.below hb5 (Nat.le_refl _))
 have HP5 := Lib.hid (HP4.out.below hb5 (Nat.le_refl _))
 clear HC4 HP4 hb5
 go_wp2_with fail
 have l6 := cells_lit w5 ([0, 127, 0, -127, 0].map (Value.int .i64)) 3
 have B6 := (Below.refl w5.heap.size w5).alloc (Nat.le_refl _) (.cells ([0, 127, 0, -127, 0].map (Value.int .i64)).toArray 3)
 have HC6 := Lib.hid (HC5.out.below B6 (Nat.le_refl _))
 have HP6 := Lib.hid (HP5.out.below B6 (Nat.le_refl _))
 have g6 := g5.trans (B6.mono g5.size)
 clear HC5 HP5 B6
 refine (show _ from HF.out _ 5 _ l6).mono ?_
 rintro e w7 ⟨⟨b7, c7, rfl, hc7⟩, hb7⟩
 have g7 := g6.trans (hb7.mono g6.size)
 have HC7 := Lib.hid (HC6.out.below hb7 (Nat.le_refl _))
 have HP7 := Lib.hid (HP6.out.below hb7 (Nat.le_refl _))
 have HF7 := Lib.hid hc7
 clear HC6 HP6 hb7 hc7 l6
 go_wp2_with fail
 refine (tone_any _).mono ?_
 rintro e w8 ⟨rfl, hb8⟩
 have g8 := g7.trans (hb8.mono g7.size)
 have HC8 := Lib.hid (HC7.out.below hb8 (Nat.le_refl _))
 have HP8 := Lib.hid (HP7.out.below hb8 (Nat.le_refl _))
 have HF8 := Lib.hid (HF7.out.below hb8 (Nat.le_refl _))
 clear HC7 HP7 HF7 hb8
 go_wp2_with fail
 have l9 := cells_lit w8 ([0, 127, 0, 127].map (Value.int .i64)) 3
 have B9 := (Below.refl w8.heap.size w8).alloc (Nat.le_refl _) (.cells ([0, 127, 0, 127].map (Value.int .i64)).toArray 3)
 have HC9 := Lib.hid (HC8.out.below B9 (Nat.le_refl _))
 have HP9 := Lib.hid (HP8.out.below B9 (Nat.le_refl _))
 have HF9 := Lib.hid (HF8.out.below B9 (Nat.le_refl _))
 have g9 := g8.trans (B9.mono g8.size)
 clear HC8 HP8 HF8 B9
 refine (show _ from HS.out _ 4 _ (HT.out.below g9 (Nat.le_refl _)) l9).mono ?_
 rintro e wa ⟨rfl, hba⟩
 have ga := g9.trans (hba.mono g9.size)
 have HCa := Lib.hid (HC9.out.below hba (Nat.le_refl _))
 have HPa := Lib.hid (HP9.out.below hba (Nat.le_refl _))
 have HFa := Lib.hid (HF9.out.below hba (Nat.le_refl _))
 clear HC9 HP9 HF9 hba l9
 go_wp2_with fail
 have lb := cells_lit wa ([0, 90, 127, 90].map (Value.int .i64)) 3
 have Bb := (Below.refl wa.heap.size wa).alloc (Nat.le_refl _) (.cells ([0, 90, 127, 90].map (Value.int .i64)).toArray 3)
 have HCb := Lib.hid (HCa.out.below Bb (Nat.le_refl _))
 have HPb := Lib.hid (HPa.out.below Bb (Nat.le_refl _))
 have HFb := Lib.hid (HFa.out.below Bb (Nat.le_refl _))
 have gb := ga.trans (Bb.mono ga.size)
 clear HCa HPa HFa Bb
 refine (show _ from same_ints_eq b1 _ c1 4 _ [0, 90, 127, 90] 4 rfl (by decide) HCb.out lb).mono ?_
 rintro e wc ⟨rfl, hbc⟩
 have gc := gb.trans (hbc.mono gb.size)
 have HPc := Lib.hid (HPb.out.below hbc (Nat.le_refl _))
 have HFc := Lib.hid (HFb.out.below hbc (Nat.le_refl _))
 clear HCb HPb HFb hbc lb
 go_wp2_with fail
 have ld := cells_lit wc (prs [(31, 0), (33, 0)]) 23
 have Bd := (Below.refl wc.heap.size wc).alloc (Nat.le_refl _) (.cells (prs [(31, 0), (33, 0)]).toArray 23)
 have HPd := Lib.hid (HPc.out.below Bd (Nat.le_refl _))
 have HFd := Lib.hid (HFc.out.below Bd (Nat.le_refl _))
 have gd := gc.trans (Bd.mono gc.size)
 clear HPc HFc Bd
 refine (show _ from sameChirps_any b4 _ [(31, 0), (33, 0)] [(31, 0), (33, 0)] c4 2 _ HPd.out ld (by decide) (by decide)).mono ?_
 rintro e we ⟨rfl, hbe⟩
 have ge := gd.trans (hbe.mono gd.size)
 have HFe := Lib.hid (HFd.out.below hbe (Nat.le_refl _))
 clear HPd HFd hbe ld
 rw [decide_eq_true (show [((31 : Int), (0 : Int)), (33, 0)] = [(31, 0), (33, 0)] from rfl)]
 go_wp2_with fail
 have lf := cells_lit we ([32258, 0].map (Value.int .i64)) 3
 have Bf := (Below.refl we.heap.size we).alloc (Nat.le_refl _) (.cells ([32258, 0].map (Value.int .i64)).toArray 3)
 have HFf := Lib.hid (HFe.out.below Bf (Nat.le_refl _))
 have gf := ge.trans (Bf.mono ge.size)
 clear HFe Bf
 refine (show _ from same_ints_eq b7 _ c7 2 _ [32258, 0] 2 rfl (by decide) HFf.out lf).mono ?_
 rintro e wg ⟨rfl, hbg⟩
 have gg := gf.trans (hbg.mono gf.size)
 clear HFf hbg lf
 go_wp2
 go_ret
 exact ⟨rfl, gg⟩
end Go.Proofs.YtdpjdifoonfcdaaGreatDoor
