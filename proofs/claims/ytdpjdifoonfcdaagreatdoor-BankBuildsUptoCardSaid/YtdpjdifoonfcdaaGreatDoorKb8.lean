/- Parts of a proof, in build order: Si, Ct, V1, V6, Cy, Cz, V7, Y4, Y5. -/
import Derived.Test.YtdpjdifoonfcdaaGreatDoorKb7
import Derived.ProofKit
import Derived.OpenShut
import Derived.ReadAgain
import Derived.Deep.Slices
import Derived.Deep.SlicePairs
import Derived.Lib.SmallJoins
import Derived.Below
import Derived.ChangeSame
import Derived.Test.YtdpjdifoonfcdaaGreatDoorRows
import Derived.SizedLaws
import Derived.Lib.LaidTab
import Derived.Laws.ResultCell
import Derived.Deep.Strs
import Derived.Deep.CutBlock
import Derived.Deep.RegionWith

namespace Go.Proofs.YtdpjdifoonfcdaaGreatDoor
open Go.RowKit
theorem sameInts_any (aa ab : Option Addr) (xs ys : List Int) (ca cb : Nat) (w : World) (ha : Cells w aa (xs.map (Value.int .i64))) (hb : Cells w ab (ys.map (Value.int .i64))) (hl : xs.length <= 9223372036854775807) (hl' : ys.length <= 9223372036854775807) :
 Calls Tryz.prog 37 #[.slice aa xs.length ca, .slice ab ys.length cb] w fun e w' => e = .returned (.bool (decide (xs = ys))) /\ Below w.heap.size w w' := by
 by_cases hlen : xs.length = ys.length
 · have h1 : ((xs.length : Int) != ys.length) = false := by simp [hlen]
   have hlt : (ys.length : Int) <= xs.length := by omega
   have HL := Lib.hid hlen; clear hlen
   have HA := Lib.hid ha; have HB := Lib.hid hb; clear ha hb
   go_enter Tryz.func37, Tryz.ntmps37
   go_wp2
   go_loopw [5] (fun i wr => ∃ k : Nat, k <= xs.length /\ i = .int .i64 k /\ xs.take k = ys.take k /\ Below w.heap.size w wr) (fun i _ => xs.length - (intOf i).toNat)
   case atStart => exact ⟨0, Nat.zero_le _, rfl, rfl, Below.refl _ _⟩
   case round =>
    obtain ⟨k, hk, rfl, heq, hbe⟩ := hrel
    have HQ := Lib.hid heq; clear heq
    by_cases hlt : k < xs.length
    · have hlt2 : k < ys.length := by have := HL.out; omega
      obtain ⟨x, hx⟩ := get_of_lt hlt
      obtain ⟨y, hy⟩ := get_of_lt hlt2
      obtain ⟨b, off, rfl⟩ := HA.out.addr (by simpa using List.ne_nil_of_length_pos (by omega))
      obtain ⟨b2, off2, rfl⟩ := HB.out.addr (by simpa using List.ne_nil_of_length_pos (by omega))
      have c1 := cell_keep (HA.out.int hx) hbe (Nat.le_refl _)
      have c2 := cell_keep (HB.out.int hy) hbe (Nat.le_refl _)
      have i1 : (k : Int) < xs.length := by omega
      have i2 : (k : Int) < ys.length := by omega
      have i3 : (0 : Int) <= k := by omega
      by_cases hxy : x = y
      · obtain rfl := hxy
        have ht : xs.take (k + 1) = ys.take (k + 1) := by rw [take_get hx, take_get hy, HQ.out]
        have HT := Lib.hid ht; clear ht hx hy
        go_wp2
        go_quiet (fail)
        go_wp2
        go_roundw
        case rel => exact ⟨k + 1, by omega, by go_num, HT.out, bel_drewN hbe _⟩
        case measure => simp [intOf]; omega
      · have hne : decide (xs = ys) = false := by
         rw [decide_eq_false_iff_not]; rintro rfl
         rw [hx] at hy; simp at hy; exact hxy hy
        have HNE := Lib.hid hne; clear hne hx hy
        have hb1 : (x == y) = false := by simpa using hxy
        have hb2 : (x != y) = true := by simpa using hxy
        go_wp2
        go_quiet (fail)
        go_wp2
        go_ret
        exact ⟨ret_bool HNE.out.symm, bel_drewN hbe _⟩
    · obtain rfl : k = xs.length := by omega
      have he : decide (xs = ys) = true := by
       rw [decide_eq_true_iff]
       have := HQ.out
       rw [List.take_length, HL.out, List.take_length] at this; exact this
      have HE := Lib.hid he; clear he
      go_wp2
      go_ret
      exact ⟨ret_bool HE.out.symm, hbe⟩
 · have h1 : ((xs.length : Int) != ys.length) = true := by simp; omega
   have he : decide (xs = ys) = false := by
    rw [decide_eq_false_iff_not]; rintro rfl; exact hlen rfl
   have HE := Lib.hid he; clear he
   go_enter Tryz.func37, Tryz.ntmps37
   go_wp2
   go_ret
   exact ⟨ret_bool HE.out.symm, Below.refl _ _⟩
theorem same_ints_eq (aa ab : Option Addr) (ca cb : Nat) (w : World) (xs : List Int) (n : Nat) (hn : n = xs.length) (hl : xs.length <= 9223372036854775807) (ha : Cells w aa (xs.map (Value.int .i64))) (hb : Cells w ab (xs.map (Value.int .i64))) :
 Calls Tryz.prog 37 #[.slice aa n ca, .slice ab n cb] w fun e w' => e = .returned (.bool true) /\ Below w.heap.size w w' := by
 subst hn
 have h := sameInts_any aa ab xs xs ca cb w ha hb hl hl
 simpa using h
end Go.Proofs.YtdpjdifoonfcdaaGreatDoor

namespace Go.Proofs.YtdpjdifoonfcdaaGreatDoor
open Go.RowKit
theorem cells_lit (w : World) (cs : List Value) (T : TypeId) : Cells (w.alloc (.cells cs.toArray T)) (some ⟨w.heap.size, 0, none⟩) cs :=
 .inr ⟨w.heap.size, 0, rfl, fun j u hu => by
  rw [cell_of_row _ _ _ _ _ _ (heap_alloc_new _ _), Nat.zero_add]; simpa using hu⟩
set_option maxRecDepth 100000 in
set_option maxHeartbeats 4000000 in
theorem bworks_any (w : World) (ht : Tab w) :
 Calls Tryz.prog 22 #[] w fun e w' => e = .returned (.bool true) /\ Below w.heap.size w w' := by
 have hw := fun w => Wave_any 4 8 0 w
 have hm := fun w ht => match_any 4 16 0 48 0 w ht
 have hp := fun w => Points_any 4 31 33 0 0 w
 have hf := fun ao cap w hc => filter_any 4 16 0 ao [0, 127, 0, -127, 0] cap w hc (by decide)
 have hs := fun ao cap w ht hc => misfit_any 4 16 0 ao [0, 127, 0, 127] cap 0 2 w ht hc (by decide)
 rw [ex_wave.1, ex_wave.2] at hw
 rw [ex_match.1, ex_match.2] at hm
 rw [ex_points.1, ex_points.2] at hp
 rw [ex_filter.1, ex_filter.2] at hf
 rw [ex_misfit.1, ex_misfit.2] at hs
 simp only [List.length_cons, List.length_nil, Nat.reduceAdd] at hw hp hf hs
 have HW := Lib.hid hw; have HM := Lib.hid hm; have HP := Lib.hid hp; have HF := Lib.hid hf; have HS := Lib.hid hs; have HT := Lib.hid ht
 clear hw hm hp hf hs ht
 go_enter Tryz.func22, Tryz.ntmps22
 go_wp2_with fail
 refine (HW.out _).mono ?_
 rintro e w1 ⟨⟨b1, c1, rfl, hc1⟩, g1⟩
 have HC1 := Lib.hid hc1; clear hc1
 go_wp2_with fail
 refine (tone_any _).mono ?_
 rintro e w2 ⟨rfl, hb2⟩
 have g2 := g1.trans (hb2.mono g1.size)
 go_wp2_with fail
 refine (HM.out _ (HT.out.below g2 (Nat.le_refl _))).mono ?_
 rintro e w3 ⟨rfl, hb3⟩
 have g3 := g2.trans (hb3.mono g2.size)
 have HC3 := Lib.hid ((HC1.out.below hb2 (Nat.le_refl _)).below hb3 (Nat.le_refl _)); clear HC1 hb2 hb3
 go_wp2_with fail
 refine (HP.out _).mono ?_
 rintro e w4 ⟨⟨b4, c4, rfl, hc4⟩, hb4⟩
 have g4 := g3.trans (hb4.mono g3.size)
 have HC4 := Lib.hid (HC3.out.below hb4 (Nat.le_refl _))
 have HP4 := Lib.hid hc4; clear hc4 HC3 hb4
 go_wp2_with fail
 refine (tone_any _).mono ?_
 rintro e w5 ⟨rfl, hb5⟩
 have g5 := g4.trans (hb5.mono g4.size)
 have HC5 := Lib.hid (HC4.out.below hb5 (Nat.le_refl _))
 have HP5 := Lib.hid (HP4.out.below hb5 (Nat.le_refl _))
 clear HC4 HP4 hb5
 go_wp2_with fail
 have l6 := cells_lit w5 ([0, 127, 0, -127, 0].map (Value.int .i64)) 3
 have B6 := (Below.refl w5.heap.size w5).alloc (Nat.le_refl _) (.cells ([0, 127, 0, -127, 0].map (Value.int .i64)).toArray 3)
 have HC6 := Lib.hid (HC5.out.below B6 (Nat.le_refl _))
 have HP6 := Lib.hid (HP5.out.below B6 (Nat.le_refl _))
 have g6 := g5.trans (B6.mono g5.size)
 clear HC5 HP5 B6
 refine (show _ from HF.out _ 5 _ l6).mono ?_
 rintro e w7 ⟨⟨b7, c7, rfl, hc7⟩, hb7⟩
 have g7 := g6.trans (hb7.mono g6.size)
 have HC7 := Lib.hid (HC6.out.below hb7 (Nat.le_refl _))
 have HP7 := Lib.hid (HP6.out.below hb7 (Nat.le_refl _))
 have HF7 := Lib.hid hc7
 clear HC6 HP6 hb7 hc7 l6
 go_wp2_with fail
 refine (tone_any _).mono ?_
 rintro e w8 ⟨rfl, hb8⟩
 have g8 := g7.trans (hb8.mono g7.size)
 have HC8 := Lib.hid (HC7.out.below hb8 (Nat.le_refl _))
 have HP8 := Lib.hid (HP7.out.below hb8 (Nat.le_refl _))
 have HF8 := Lib.hid (HF7.out.below hb8 (Nat.le_refl _))
 clear HC7 HP7 HF7 hb8
 go_wp2_with fail
 have l9 := cells_lit w8 ([0, 127, 0, 127].map (Value.int .i64)) 3
 have B9 := (Below.refl w8.heap.size w8).alloc (Nat.le_refl _) (.cells ([0, 127, 0, 127].map (Value.int .i64)).toArray 3)
 have HC9 := Lib.hid (HC8.out.below B9 (Nat.le_refl _))
 have HP9 := Lib.hid (HP8.out.below B9 (Nat.le_refl _))
 have HF9 := Lib.hid (HF8.out.below B9 (Nat.le_refl _))
 have g9 := g8.trans (B9.mono g8.size)
 clear HC8 HP8 HF8 B9
 refine (show _ from HS.out _ 4 _ (HT.out.below g9 (Nat.le_refl _)) l9).mono ?_
 rintro e wa ⟨rfl, hba⟩
 have ga := g9.trans (hba.mono g9.size)
 have HCa := Lib.hid (HC9.out.below hba (Nat.le_refl _))
 have HPa := Lib.hid (HP9.out.below hba (Nat.le_refl _))
 have HFa := Lib.hid (HF9.out.below hba (Nat.le_refl _))
 clear HC9 HP9 HF9 hba l9
 go_wp2_with fail
 have lb := cells_lit wa ([0, 90, 127, 90].map (Value.int .i64)) 3
 have Bb := (Below.refl wa.heap.size wa).alloc (Nat.le_refl _) (.cells ([0, 90, 127, 90].map (Value.int .i64)).toArray 3)
 have HCb := Lib.hid (HCa.out.below Bb (Nat.le_refl _))
 have HPb := Lib.hid (HPa.out.below Bb (Nat.le_refl _))
 have HFb := Lib.hid (HFa.out.below Bb (Nat.le_refl _))
 have gb := ga.trans (Bb.mono ga.size)
 clear HCa HPa HFa Bb
 refine (show _ from same_ints_eq b1 _ c1 4 _ [0, 90, 127, 90] 4 rfl (by decide) HCb.out lb).mono ?_
 rintro e wc ⟨rfl, hbc⟩
 have gc := gb.trans (hbc.mono gb.size)
 have HPc := Lib.hid (HPb.out.below hbc (Nat.le_refl _))
 have HFc := Lib.hid (HFb.out.below hbc (Nat.le_refl _))
 clear HCb HPb HFb hbc lb
 go_wp2_with fail
 have ld := cells_lit wc (prs [(31, 0), (33, 0)]) 23
 have Bd := (Below.refl wc.heap.size wc).alloc (Nat.le_refl _) (.cells (prs [(31, 0), (33, 0)]).toArray 23)
 have HPd := Lib.hid (HPc.out.below Bd (Nat.le_refl _))
 have HFd := Lib.hid (HFc.out.below Bd (Nat.le_refl _))
 have gd := gc.trans (Bd.mono gc.size)
 clear HPc HFc Bd
 refine (show _ from sameChirps_any b4 _ [(31, 0), (33, 0)] [(31, 0), (33, 0)] c4 2 _ HPd.out ld (by decide) (by decide)).mono ?_
 rintro e we ⟨rfl, hbe⟩
 have ge := gd.trans (hbe.mono gd.size)
 have HFe := Lib.hid (HFd.out.below hbe (Nat.le_refl _))
 clear HPd HFd hbe ld
 rw [decide_eq_true (show [((31 : Int), (0 : Int)), (33, 0)] = [(31, 0), (33, 0)] from rfl)]
 go_wp2_with fail
 have lf := cells_lit we ([32258, 0].map (Value.int .i64)) 3
 have Bf := (Below.refl we.heap.size we).alloc (Nat.le_refl _) (.cells ([32258, 0].map (Value.int .i64)).toArray 3)
 have HFf := Lib.hid (HFe.out.below Bf (Nat.le_refl _))
 have gf := ge.trans (Bf.mono ge.size)
 clear HFe Bf
 refine (show _ from same_ints_eq b7 _ c7 2 _ [32258, 0] 2 rfl (by decide) HFf.out lf).mono ?_
 rintro e wg ⟨rfl, hbg⟩
 have gg := gf.trans (hbg.mono gf.size)
 clear HFf hbg lf
 go_wp2
 go_ret
 exact ⟨rfl, gg⟩
end Go.Proofs.YtdpjdifoonfcdaaGreatDoor

namespace Go.Proofs.YtdpjdifoonfcdaaGreatDoor
open Go.RowKit Go.WideShapes Go.ChangeShapes Go.Deep Go.Joins
section
variable {H : Type} {enc : TypeId × Value -> H} {P : Program}
theorem sameAt_below {W W' : World} (hb : Below W.heap.size W W') {p : MemPlace} (hp : p.block < W.heap.size) : W.sameAt W' p := by
 cases p with
 | cell b off => exact hb.cell (p := ⟨b, off, none⟩) hp
 | map b => exact hb.block b hp
theorem trodAll_carry {W W' : World} {base : Nat} {sp : Nat -> Bool} {held : Bool} : ∀ {ts : List TypeId} {vs : List Value} {ds : List (DataW H)} {ps : List MemPlace}, DataW.TrodAll enc P W base sp held ts vs ds ps -> (∀ p ∈ ps, W.sameAt W' p) -> DataW.TrodAll enc P W' base sp held ts vs ds ps
 | [], [], [], _, h, _ => h
 | _ :: _, _ :: _, _ :: _, _, ⟨p, q, ⟨n, h1⟩, h2, e⟩, hs => ⟨p, q, ⟨n, DataW.trod_carry n _ _ _ h1 fun x hx => hs x (by rw [e]; exact List.mem_append_left _ hx)⟩, trodAll_carry h2 fun x hx => hs x (by rw [e]; exact List.mem_append_right _ hx), e⟩
theorem law_post {f : Func} {s : ChangeSpec} {W W' : World} {args : Array Value} {ds : List (DataW H)} {before : List MemPlace} (K : Kids P (· < P.types.size))
 (full : ∀ t e, t < P.types.size -> P.underlying t = some (.slice e) -> 0 < P.cellsOf e) (hT : ∀ t ∈ f.params.toList, t < P.types.size) (hv : s.vars = [])
 (hW : DataW.Whole enc P f.params.toList s.vars false W args.toList ds [] before) (hA : DataW.TrodAll enc P W 0 (fun _ => true) true f.params.toList args.toList ds before)
 (hfn : s.fn H (ds ++ []) = { results := [.lit (.bool true)], args := ds }) (hr : f.resultTypes = #[4]) (hu : P.underlying 4 = some .bool) (hb : Below W.heap.size W W') :
 s.post enc P f false true false false W args (.bool true) W' := by
 have hlt : ∀ p ∈ before, p.block < W.heap.size := fun p hp => hW.lt p hp
 have hold : ∀ p ∈ before, (fun b => decide (b < W.heap.size)) p.block = true := fun p hp => by simpa using hlt p hp
 have hargs : ∀ sp : Nat -> Bool, (∀ p ∈ before, sp p.block = true) -> DataW.TrodAll enc P W' 0 sp true f.params.toList args.toList (s.fn H (ds ++ [])).args before := by
  intro sp hsp
  rw [hfn]
  exact trodAll_carry (DataW.TrodAll.respare K full hT hA hsp) fun p hp => sameAt_below hb (hlt p hp)
 have hres : ∀ (b : Nat) (sp : Nat -> Bool) (hd : Bool), DataW.TrodAll enc P W' b sp hd f.resultTypes.toList ((Value.bool true).resultList f.resultTypes.size) (s.fn H (ds ++ [])).results [] := by
  intro b sp hd
  rw [hfn, hr]
  exact trodAll_cons_mk (shut_bool hu _) trodAll_mk0
 have hvars : ∀ sp : Nat -> Bool, DataW.TrodVars enc P W' sp s.vars (s.fn H (ds ++ [])).vars [] := by
  intro sp
  rw [hfn, hv]
  rfl
 refine ⟨ds, [], before, [], before, [], hW, hres _ _ _, hargs _ hold, hvars _, World.keptBut_mono (fun p hp => ⟨hp, Or.inr (Or.inl hp)⟩) (hb.frame (· ∈ before)), fun _ => ?_⟩
 obtain ⟨_, _, _, _, _, hz, hn⟩ := hW
 refine ⟨?_, _, _, ([] ++ before) ++ [], ⟨[] ++ before, [], trodAll_append (hargs _ (fun _ _ => rfl)) (hres _ _ _), hvars _, rfl, ?_, ?_⟩, ?_⟩
 · exact ok_one hr rfl (okWide_bool_mk hu _)
 · intro b off hp
   have hin : MemPlace.cell b off ∈ before := by simpa using hp
   rw [hb.frozen (hlt _ hin)]
   exact hz b off hin
 · intro ha
   have := hn ha
   simpa using this
 · intro p hp _
   simpa using hp
end
end Go.Proofs.YtdpjdifoonfcdaaGreatDoor

namespace Go.Proofs.YtdpjdifoonfcdaaGreatDoor
open Go.RowKit Go.WideShapes Go.ChangeShapes Go.Deep Go.Joins
section
variable {H : Type} {enc : TypeId × Value -> H} {P : Program}
end
theorem pow10_data : (Rows.laid_internal_strconv_uint64pow10 : DataW Unit) = Lib.tabData .u64 Lib.pow10Tab := rfl
theorem pow10_global : Tryz.prog.globalNamed "internal/strconv.uint64pow10" = some 3 := by kernel_rfl
theorem pow10_type : (Tryz.prog.globals[3]?).map (·.type) = some 430 := by kernel_rfl
theorem tab_of_laid {W : World} (h : laidMet Tryz.prog [("math/bits.deBruijn32tab", Rows.laid_math_bits_deBruijn32tab), ("math/bits.deBruijn64tab", Rows.laid_math_bits_deBruijn64tab), ("internal/strconv.uint64pow10", Rows.laid_internal_strconv_uint64pow10)] W) : Tab W := by
 obtain ⟨_, ⟨_, _, _, _, _, _, _, _, _, _, ⟨_, _, _, _, _, _, _, _, _, _, ⟨g', t', cs, fuel, p, q, hg', ht', hvar, hd, _, _⟩, _⟩, _⟩, _⟩ := h
 obtain rfl := Option.some.inj (pow10_global.symm.trans hg')
 obtain rfl := Option.some.inj (pow10_type.symm.trans ht')
 unfold Tab Lib.TabIs
 rw [hvar]
 rw [pow10_data] at hd
 rw [<- Lib.cells_of_tab Tryz.underlying430 Tryz.underlying208 (by kernel_rfl) (by kernel_rfl) hd]
end Go.Proofs.YtdpjdifoonfcdaaGreatDoor

namespace Go.Proofs.YtdpjdifoonfcdaaGreatDoor
open Go.RowKit
set_option maxRecDepth 100000 in
set_option maxHeartbeats 2000000 in
theorem reals1_any (s : Bool) (n d : Nat) (a1 a2 a3 a4 : Option Addr) (c1 c2 c3 c4 : Nat) (w : World) (hv : ValV w (.agg #[.bool s, .slice a1 (dig n).length c1, .slice a2 (dig d).length c2, .bool false, .slice a3 (dig 0).length c3, .slice a4 (dig 1).length c4]) s n d false 0 1) :
 Calls Tryz.prog 160 #[.agg #[.bool s, .slice a1 (dig n).length c1, .slice a2 (dig d).length c2, .bool false, .slice a3 (dig 0).length c3, .slice a4 (dig 1).length c4]] w fun e w' => e = .returned (.tuple #[.agg #[.bool s, .slice a1 (dig n).length c1, .slice a2 (dig d).length c2], .bool true]) /\ Below w.heap.size w w' := by
 obtain ⟨W2, hW2⟩ : ∃ W2, W2 = (w.alloc (.cells #[.bool s, .slice a1 (dig n).length c1, .slice a2 (dig d).length c2, .bool false, .slice a3 (dig 0).length c3, .slice a4 (dig 1).length c4] 148)).alloc (.cells #[.bool false, .slice none 0 0, .slice none 0 0] 146) := ⟨_, rfl⟩
 have hal : Below w.heap.size w W2 := by rw [hW2]; exact ((Below.refl _ _).alloc (Nat.le_refl _) _).alloc (by simp) _
 have hs2 : w.heap.size + 2 <= W2.heap.size := by rw [hW2]; simp
 have b1 : W2.heap[w.heap.size]? = some (.cells #[.bool s, .slice a1 (dig n).length c1, .slice a2 (dig d).length c2, .bool false, .slice a3 (dig 0).length c3, .slice a4 (dig 1).length c4] 148 (0, 0)) := by rw [hW2]; exact heap_alloc2_old w _ _
 have b2 : W2.heap[w.heap.size + 1]? = some (.cells #[.bool false, .slice none 0 0, .slice none 0 0] 146 (0, 0)) := by rw [hW2]; exact heap_alloc2_new w _ _
 have x0 := (cell_of_row W2 _ 0 _ _ _ b1).trans rfl
 have x1 := (cell_of_row W2 _ 1 _ _ _ b1).trans rfl
 have x2 := (cell_of_row W2 _ 2 _ _ _ b1).trans rfl
 have x3 := (cell_of_row W2 _ 3 _ _ _ b1).trans rfl
 have x4 := (cell_of_row W2 _ 4 _ _ _ b1).trans rfl
 have x5 := (cell_of_row W2 _ 5 _ _ _ b1).trans rfl
 have hi := isReal_any _ s false n d 0 1 W2.drew (hv.below (hal.drew) (Nat.le_refl _))
 rw [decide_eq_true (show (0 : Nat) = 0 from rfl)] at hi
 have HI := Lib.hid hi; have HAL := Lib.hid hal; have HW2 := Lib.hid hW2; have HB2 := Lib.hid b2
 clear hi hal hW2 hv b1 b2
 generalize (dig n).length = kn at *
 generalize (dig d).length = kd at *
 generalize (dig 0).length = k0 at *
 generalize (dig 1).length = k1 at *
 go_enter Tryz.func160, Tryz.ntmps160
 go_wp2_with fail
 rw [<- HW2.out]
 have xd0 : W2.drew.cell? ⟨w.heap.size, 0, none⟩ = some (.bool s) := x0
 have xd1 : W2.drew.cell? ⟨w.heap.size, 1, none⟩ = some (.slice a1 kn c1) := x1
 have xd2 : W2.drew.cell? ⟨w.heap.size, 2, none⟩ = some (.slice a2 kd c2) := x2
 have xd3 : W2.drew.cell? ⟨w.heap.size, 3, none⟩ = some (.bool false) := x3
 have xd4 : W2.drew.cell? ⟨w.heap.size, 4, none⟩ = some (.slice a3 k0 c3) := x4
 have xd5 : W2.drew.cell? ⟨w.heap.size, 5, none⟩ = some (.slice a4 k1 c4) := x5
 go_region_held3 (fun w' => w'.cell? ⟨w.heap.size, 0, none⟩ = some (.bool s) /\ w'.cell? ⟨w.heap.size, 1, none⟩ = some (.slice a1 kn c1) /\ w'.cell? ⟨w.heap.size, 2, none⟩ = some (.slice a2 kd c2) /\ w'.cell? ⟨w.heap.size, 3, none⟩ = some (.bool false) /\ w'.cell? ⟨w.heap.size, 4, none⟩ = some (.slice a3 k0 c3) /\ w'.cell? ⟨w.heap.size, 5, none⟩ = some (.slice a4 k1 c4))
  (first | with_reducible exact ⟨x0, x1, x2, x3, x4, x5⟩ | with_reducible exact ⟨xd0, xd1, xd2, xd3, xd4, xd5⟩ | with_reducible exact ⟨px0, px1, px2, px3, px4, px5⟩ | (refine ⟨?_, ?_, ?_, ?_, ?_, ?_⟩ <;> (repeat rw [World.cell?_setCell_other _ _ _ _ (by simp <;> omega)]) <;> assumption) | go_keep)
  (first | (go_at_call 161; (with_reducible refine Calls.mono HI.out ?_); rintro e w4 ⟨rfl, hb4⟩; have hbz : Below W2.heap.size W2 w4 := ((Below.refl W2.heap.size W2).drew).trans hb4; have HB4 := Lib.hid hbz; have px0 := cell_keep x0 hbz (Nat.le_refl _); have px1 := cell_keep x1 hbz (Nat.le_refl _); have px2 := cell_keep x2 hbz (Nat.le_refl _); have px3 := cell_keep x3 hbz (Nat.le_refl _); have px4 := cell_keep x4 hbz (Nat.le_refl _); have px5 := cell_keep x5 hbz (Nat.le_refl _); have hbk5 := (hbz.block (w.heap.size + 1) (by omega)).trans HB2.out; have z0 := (cell_of_row w4 _ 0 _ _ _ hbk5).trans rfl; have z1 := (cell_of_row w4 _ 1 _ _ _ hbk5).trans rfl; have z2 := (cell_of_row w4 _ 2 _ _ _ hbk5).trans rfl; have zf0 := frozen_of_row w4 _ 0 _ _ hbk5; have zf1 := frozen_of_row w4 _ 1 _ _ hbk5; have zf2 := frozen_of_row w4 _ 2 _ _ hbk5; clear hbk5 hb4 hbz))
 all_goals
  have hbw := HAL.out.trans (HB4.out.mono (by omega))
  have hle : w.heap.size <= w.heap.size + 1 := by omega
  go_wp2
  refine bodyPost_ret (v := .tuple #[.agg #[.bool s, .slice a1 kn c1, .slice a2 kd c2], .bool true]) (by simp [results, Tryz.results160, go_sem, z0, z1, z2]) rfl ?_
  exact ⟨rfl, ((hbw.setCell hle _).setCell hle _).setCell hle _⟩
end Go.Proofs.YtdpjdifoonfcdaaGreatDoor

namespace Go.Proofs.YtdpjdifoonfcdaaGreatDoor
open Go.RowKit
theorem Tryz.infoRat : (Tryz.prog.info? 146).map (fun i => (i.zero, i.size, i.bytes)) = some (some (.agg #[.bool false, .slice none 0 0, .slice none 0 0]), 3, 56) := by kernel_rfl
def row3 (cs : List (List Value)) : List Value := (cs.map (·.take 3)).flatten
theorem row3_snoc (cs : List (List Value)) (c : List Value) : row3 (cs ++ [c]) = row3 cs ++ c.take 3 := by simp [row3]
theorem row3_get {cs : List (List Value)} (h : ∀ c ∈ cs, c.length = 6) {k j : Nat} {c : List Value} {u : Value} (hk : cs[k]? = some c) (hj : c[j]? = some u) (h3 : j < 3) : (row3 cs)[k * 3 + j]? = some u := by
 unfold row3
 induction cs generalizing k with
 | nil => simp at hk
 | cons d r ih =>
   have hd : (d.take 3).length = 3 := by rw [List.length_take, h d (by simp)]; rfl
   cases k with
   | zero =>
     simp at hk; subst hk
     rw [Nat.zero_mul, Nat.zero_add, List.map_cons, List.flatten_cons, List.getElem?_append_left (by rw [hd]; exact h3), List.getElem?_take, if_pos h3]
     exact hj
   | succ k =>
     rw [List.map_cons, List.flatten_cons, List.getElem?_append_right (by rw [hd]; omega), hd, show (k + 1) * 3 + j - 3 = k * 3 + j by omega]
     exact ih (fun x hx => h x (by simp [hx])) (by simpa using hk)
set_option maxRecDepth 100000 in
set_option maxHeartbeats 2000000 in
theorem all_real (ao : Option Addr) (cs : List (List Value)) (l : List (Bool × Nat × Nat)) (cap : Nat) (w : World) (hc : Cells w ao cs.flatten) (hnr : NRow w cs l) (hl : l.length <= 4096) :
 Calls Tryz.prog 159 #[.slice ao l.length cap, .func (.func 160) #[] #[]] w fun e w' => (∃ a c, e = .returned (.tuple #[.slice a l.length c, .bool true]) /\ Cells w' a (row3 cs)) /\ Below w.heap.size w w' := by
 obtain ⟨i0, hi, hz0, hz1, hz2⟩ := info_parts Tryz.infoRat
 have h6 := hnr.six
 have HC := Lib.hid hc; have HNR := Lib.hid hnr; have H6 := Lib.hid h6
 clear hc hnr h6
 go_enter Tryz.func159, Tryz.ntmps159
 go_wp2_with fail
 go_loopw [6, 13] (fun ov iv wr => ∃ k : Nat, k <= l.length /\ iv = .int .i64 k /\ wr.ownsRow w.heap.size 146 3 ov k (row3 (cs.take k)) /\ Below w.heap.size w wr) (fun _ iv _ => l.length - (intOf iv).toNat)
 case atStart => exact ⟨0, Nat.zero_le _, rfl, World.ownsRow_nil _ _ _ _, Below.refl _ _⟩
 case round =>
  obtain ⟨k, hk, rfl, hown, hb⟩ := hrel
  have hsz := hb.size
  by_cases hlt : k < l.length
  · obtain ⟨t, ht⟩ := get_of_lt hlt
    obtain ⟨te, htc⟩ := get_of_lt (show k < cs.length by rw [HNR.out.1]; exact hlt)
    have hnce := (HNR.out.2 k te t htc ht).below hb (Nat.le_refl _)
    obtain ⟨se, ne, de⟩ := t
    have hev : ValV wr (.agg te.toArray) se ne de false 0 1 := by
     obtain ⟨b1, d1, b2, d2, b3, d3, b4, d4, rfl, j1, j2, j3, j4⟩ := hnce
     exact ⟨_, _, _, _, rfl, j1, j2, j3, j4⟩
    obtain ⟨a1, c1, a2, c2, a3, c3, a4, c4, rfl, j1, j2, j3, j4⟩ := hnce
    simp only at hev
    have hfl := HNR.out.flat_len
    obtain ⟨ba, offa, rfl⟩ := HC.out.addr (by intro h; rw [h] at hfl; simp at hfl; omega)
    have x0 : wr.cell? ⟨ba, offa + k * 6, none⟩ = some (.bool se) := by have := HC.out.at (flat_get H6.out htc (j := 0) rfl); have := cell_keep this hb (Nat.le_refl _); rwa [<- Nat.add_assoc] at this
    have x1 : wr.cell? ⟨ba, offa + k * 6 + 1, none⟩ = some (.slice a1 (dig ne).length c1) := by have := HC.out.at (flat_get H6.out htc (j := 1) rfl); have := cell_keep this hb (Nat.le_refl _); rwa [<- Nat.add_assoc] at this
    have x2 : wr.cell? ⟨ba, offa + k * 6 + 2, none⟩ = some (.slice a2 (dig de).length c2) := by have := HC.out.at (flat_get H6.out htc (j := 2) rfl); have := cell_keep this hb (Nat.le_refl _); rwa [<- Nat.add_assoc] at this
    have x3 : wr.cell? ⟨ba, offa + k * 6 + 3, none⟩ = some (.bool false) := by have := HC.out.at (flat_get H6.out htc (j := 3) rfl); have := cell_keep this hb (Nat.le_refl _); rwa [<- Nat.add_assoc] at this
    have x4 : wr.cell? ⟨ba, offa + k * 6 + 4, none⟩ = some (.slice a3 (dig 0).length c3) := by have := HC.out.at (flat_get H6.out htc (j := 4) rfl); have := cell_keep this hb (Nat.le_refl _); rwa [<- Nat.add_assoc] at this
    have x5 : wr.cell? ⟨ba, offa + k * 6 + 5, none⟩ = some (.slice a4 (dig 1).length c4) := by have := HC.out.at (flat_get H6.out htc (j := 5) rfl); have := cell_keep this hb (Nat.le_refl _); rwa [<- Nat.add_assoc] at this
    have hr := fun W (hbW : Below wr.heap.size wr W) => reals1_any se ne de a1 a2 a3 a4 c1 c2 c3 c4 W (hev.below hbW (Nat.le_refl _))
    have e1 : row3 (cs.take (k + 1)) = row3 (cs.take k) ++ [.bool se, .slice a1 (dig ne).length c1, .slice a2 (dig de).length c2] := by rw [take_get htc, row3_snoc]; rfl
    have HR := Lib.hid hr; have E1 := Lib.hid e1
    clear hr e1 ht htc hev j1 j2 j3 j4 hfl
    generalize (dig ne).length = kn at *
    generalize (dig de).length = kd at *
    generalize (dig 0).length = k0 at *
    generalize (dig 1).length = k1 at *
    have j0 : (k : Int) < l.length := by omega
    have HOB : Hid (∀ j, u6.ownBlock = some j -> w.heap.size <= j) := fun j e => (hown.lt j e).1
    go_wp2_with fail
    refine (HR.out _ ((Below.refl _ _).alloc (Nat.le_refl _) _)).mono ?_
    rintro e w5 ⟨rfl, hb5⟩
    have hbx : Below wr.heap.size wr w5 := ((Below.refl _ _).alloc (Nat.le_refl _) _).trans (hb5.mono (by simp))
    have hown5 := own_belowK hown hbx (Nat.le_refl _)
    have hs5 := hbx.size
    clear x0 x1 x2 x3 x4 x5 hb5
    go_wp2_with (at_builtin; refine wpList_append_own _ rfl _ _ 188 rfl w.heap.size 146 i0 (.agg #[.bool false, .slice none 0 0, .slice none 0 0]) 3 56 Tryz.underlying188 hi hz0 hz1 hz2 rfl (by decide) _ _ _ rfl ((hown5.alloc _).alloc _) ⟨w5.heap.size + 1, 0, none⟩ 1 1 [.bool se, .slice a1 kn c1, .slice a2 kd c2] rfl rfl (World.news_of_block (cs := #[Value.bool se, .slice a1 kn c1, .slice a2 kd c2]) (t := 146) (fr := (0, 0)) (heap_alloc2_new w5 _ _)) (by simp [Value.oneCell']) (by unfold maxLen; omega) (by omega) (by simp; omega) ?_; intro v1 wz hown1 hgrow _)
    have hbz := (((hb.trans (hbx.mono hsz)).alloc (by omega) (.cells #[Value.bool se, .slice a1 kn c1, .slice a2 kd c2] 146)).alloc (by simp; omega) (.cells #[Value.bool se, .slice a1 kn c1, .slice a2 kd c2] 146)).grown hgrow (by simp; omega) HOB.out
    rw [<- E1.out] at hown1
    have HFIN := Lib.hid hown1
    clear hown1 hgrow hown hown5
    obtain ⟨gg, cp, rfl⟩ := own_succ HFIN.out
    go_wp2
    go_roundw
    case rel => exact ⟨k + 1, by omega, by go_num, HFIN.out, hbz⟩
    case measure => simp [intOf]; omega
  · obtain rfl : k = l.length := by omega
    rw [List.take_of_length_le (by rw [HNR.out.1]; omega)] at hown
    obtain ⟨g, c, rfl, hcs⟩ := own_cells hown
    have HCS := Lib.hid hcs
    clear hcs hown
    go_wp2
    go_ret2
    exact ⟨⟨g, c, rfl, HCS.out⟩, hb⟩
def RealsRes (ss : List ByteArray) (w : World) (e : Ending) (w' : World) : Prop :=
 (match getL ss with
  | none => e = .returned (.tuple #[.slice none 0 0, .int .i64 10])
  | some l => ∃ a c cs, e = .returned (.tuple #[.slice a l.length c, .int .i64 0]) /\ Cells w' a (row3 cs) /\ NRow w' cs l) /\ Below w.heap.size w w'
theorem realsRes_none {ss : List ByteArray} {w w' : World} (h : getL ss = none) (hb : Below w.heap.size w w') : RealsRes ss w (.returned (.tuple #[.slice none 0 0, .int .i64 10])) w' := ⟨by rw [h], hb⟩
theorem realsRes_some {ss : List ByteArray} {w w' : World} {l : List (Bool × Nat × Nat)} {a : Option Addr} {c k : Nat} {cs : List (List Value)} (h : getL ss = some l) (hk : k = l.length) (h1 : Cells w' a (row3 cs)) (h2 : NRow w' cs l) (hb : Below w.heap.size w w') : RealsRes ss w (.returned (.tuple #[.slice a k c, .int .i64 0])) w' := ⟨by subst hk; rw [h]; exact ⟨a, c, cs, rfl, h1, h2⟩, hb⟩
set_option maxRecDepth 100000 in
theorem reals_any (ao : Option Addr) (ss : List ByteArray) (cap : Nat) (w : World) (ht : Tab w) (hc : Cells w ao (ss.map Value.string)) (hl : ss.length <= 4096) (hs : ∀ s ∈ ss, s.size <= 1099511627776 /\ Lib.hasSuffix s.data.toList [105] = false) :
 Calls Tryz.prog 91 #[.slice ao ss.length cap] w (RealsRes ss w) := by
 have hall := all_get ao ss cap w ht hc (by omega) hs
 have HALL := Lib.hid hall
 clear hall ht hc hs
 go_enter Tryz.func91, Tryz.ntmps91
 go_wp2_with fail
 refine HALL.out.mono ?_
 rintro e w1 ⟨hm, hb1⟩
 rcases hgl : getL ss with _ | l
 · rw [hgl] at hm
   subst hm
   have HGL := Lib.hid hgl
   clear hgl
   go_wp2
   go_ret2
   exact realsRes_none HGL.out hb1
 · rw [hgl] at hm
   obtain ⟨a, c, cs, rfl, hcc, hnr⟩ := hm
   have hlen := getL_len hgl
   have hr := all_real a cs l c w1 hcc hnr (by omega)
   have HR := Lib.hid hr; have HNR := Lib.hid hnr; have HGL := Lib.hid hgl
   clear hr hnr hcc hgl hlen
   go_wp2_with fail
   refine HR.out.mono ?_
   rintro e w2 ⟨⟨a2, c2, rfl, hc2⟩, hb2⟩
   have HC2 := Lib.hid hc2; have HN2 := Lib.hid (HNR.out.below hb2 (Nat.le_refl _))
   clear hc2
   go_wp2
   go_ret2
   exact realsRes_some HGL.out rfl HC2.out HN2.out (hb1.trans (hb2.mono hb1.size))
end Go.Proofs.YtdpjdifoonfcdaaGreatDoor

namespace Go.Proofs.YtdpjdifoonfcdaaGreatDoor
open Go.RowKit Go.WideShapes Go.ChangeShapes Go.Deep Go.Joins
section
variable {H : Type} {enc : TypeId × Value -> H} {P : Program} {w : World} {base : Nat} {spare : Nat -> Bool} {held : Bool}
theorem array5 {α : Type} {cs : Array α} (h : cs.size = 5) : ∃ c0 c1 c2 c3 c4, cs = #[c0, c1, c2, c3, c4] := by
 obtain ⟨l⟩ := cs
 match l, h with
 | [c0, c1, c2, c3, c4], _ => exact ⟨c0, c1, c2, c3, c4, rfl⟩
end
end Go.Proofs.YtdpjdifoonfcdaaGreatDoor

namespace Go.Proofs.YtdpjdifoonfcdaaGreatDoor
open Go.RowKit
theorem bytes_ne {a b : ByteArray} (h : a ≠ b) : (a.toList == b.toList) = false /\ (a.toList != b.toList) = true := by
 have e : (a.toList != b.toList) = true := by
  rw [bne_iff_ne]
  intro h2
  refine h ?_
  rw [Lib.toList_data, Lib.toList_data] at h2
  cases a; cases b
  simpa using h2
 exact ⟨by rw [beq_eq_false_iff_ne]; exact bne_iff_ne.1 e, e⟩
set_option maxRecDepth 100000 in
set_option maxHeartbeats 4000000 in
theorem valText_cx (v : Value) (s : Bool) (n d : Nat) (s2 : Bool) (n2 d2 : Nat) (w : World) (hv : ValV w v s n d s2 n2 d2) (ht : Tab w) (h : Lib.nDigits n <= 8500) (h2 : Lib.nDigits d <= 8500) (h3 : d ≠ 0) (g : Lib.nDigits n2 <= 8500) (g2 : Lib.nDigits d2 <= 8500) (g3 : d2 ≠ 0) (hn2 : n2 ≠ 0) :
 Calls Tryz.prog 151 #[v] w fun e w' => (∃ T : ByteArray, e = .returned (.string T)) /\ Below w.heap.size w w' := by
 have HV := Lib.hid hv
 obtain ⟨va, vb, vc, vd, rfl, ha, hb, hc, hd⟩ := hv
 have HA := Lib.hid ha; have HB := Lib.hid hb; have HC := Lib.hid hc; have HD := Lib.hid hd
 obtain ⟨aa, ca, rfl⟩ := ha.cases
 obtain ⟨ab, cb, rfl⟩ := hb.cases
 obtain ⟨ac, cc, rfl⟩ := hc.cases
 obtain ⟨ad, cd, rfl⟩ := hd.cases
 have hir := fun wx (hb : Below w.heap.size w wx) => isReal_any _ s s2 n d n2 d2 wx (HV.out.below hb (Nat.le_refl _))
 have hze := fun wx (hb : Below w.heap.size w wx) => zero_any _ s n d wx ⟨_, _, rfl, HA.out.below hb (Nat.le_refl _), HB.out.below hb (Nat.le_refl _)⟩
 have hx := fun wx (hb : Below w.heap.size w wx) => ratText_any _ s n d wx ⟨_, _, rfl, HA.out.below hb (Nat.le_refl _), HB.out.below hb (Nat.le_refl _)⟩ (ht.below hb (Nat.le_refl _)) (by omega) (by omega) h3
 have hy := fun wx (hb : Below w.heap.size w wx) => ratText_any _ s2 n2 d2 wx ⟨_, _, rfl, HC.out.below hb (Nat.le_refl _), HD.out.below hb (Nat.le_refl _)⟩ (ht.below hb (Nat.le_refl _)) (by omega) (by omega) g3
 have sx := ratT_size s n d
 have sy := ratT_size s2 n2 d2
 rw [decide_eq_false hn2] at hir
 have hxs : (ratT s n d).size <= 20000 := by omega
 have hys : (ratT s2 n2 d2).size <= 20000 := by omega
 generalize ratT s n d = X at *
 generalize ratT s2 n2 d2 = Y at *
 generalize (dig n).length = l1 at *
 generalize (dig d).length = l2 at *
 generalize (dig n2).length = l3 at *
 generalize (dig d2).length = l4 at *
 have HIR := Lib.hid hir; have HZE := Lib.hid hze; have HX := Lib.hid hx; have HY := Lib.hid hy
 clear hir hze hx hy ha hb hc hd HV HA HB HC HD ht h h2 g g2 h3 g3 hn2 sx sy
 obtain ⟨W0, hW0⟩ : ∃ W0, w.alloc (.cells #[.bool s, .slice aa l1 ca, .slice ab l2 cb, .bool s2, .slice ac l3 cc, .slice ad l4 cd] 148) = W0 := ⟨_, rfl⟩
 have hB0 : Below w.heap.size w W0 := by rw [<- hW0]; exact (Below.refl _ w).alloc (Nat.le_refl _) _
 have r0 : W0.heap[w.heap.size]? = some (.cells #[.bool s, .slice aa l1 ca, .slice ab l2 cb, .bool s2, .slice ac l3 cc, .slice ad l4 cd] 148 (0, 0)) := by rw [<- hW0]; exact heap_alloc_new w _
 have hs0 : W0.heap.size = w.heap.size + 1 := by rw [<- hW0]; simp
 have FK : ∀ wx, Below W0.heap.size W0 wx -> (wx.cell? ⟨w.heap.size, 0, none⟩ = some (.bool s) /\ wx.cell? ⟨w.heap.size, 1, none⟩ = some (.slice aa l1 ca) /\ wx.cell? ⟨w.heap.size, 2, none⟩ = some (.slice ab l2 cb)) /\ (wx.cell? ⟨w.heap.size, 3, none⟩ = some (.bool s2) /\ wx.cell? ⟨w.heap.size, 4, none⟩ = some (.slice ac l3 cc) /\ wx.cell? ⟨w.heap.size, 5, none⟩ = some (.slice ad l4 cd)) /\ Below w.heap.size w wx := by
  intro wx hb
  have e0 := (hb.block _ (by omega)).trans r0
  exact ⟨⟨(cell_of_row wx _ 0 _ _ _ e0).trans rfl, (cell_of_row wx _ 1 _ _ _ e0).trans rfl, (cell_of_row wx _ 2 _ _ _ e0).trans rfl⟩, ⟨(cell_of_row wx _ 3 _ _ _ e0).trans rfl, (cell_of_row wx _ 4 _ _ _ e0).trans rfl, (cell_of_row wx _ 5 _ _ _ e0).trans rfl⟩, hB0.trans (hb.mono (by omega))⟩
 have HFK := Lib.hid FK; have HW0 := Lib.hid hW0
 clear FK hW0 r0 hs0
 go_enter Tryz.func151, Tryz.ntmps151
 go_wp2_with fail
 rw [HW0.out]
 refine (HIR.out _ hB0).mono ?_
 rintro e w1 ⟨rfl, hb1⟩
 have hb1 : Below W0.heap.size W0 w1 := hb1
 obtain ⟨⟨y0, y1, y2⟩, ⟨y3, y4, y5⟩, g1⟩ := HFK.out w1 hb1
 go_wp2_with fail
 refine (HZE.out _ g1).mono ?_
 rintro e w2 ⟨rfl, hb2⟩
 have hb2 := hb1.trans (hb2.mono hb1.size)
 clear y0 y1 y2 y3 y4 y5 g1 hb1
 obtain ⟨⟨y0, y1, y2⟩, ⟨y3, y4, y5⟩, g2⟩ := HFK.out w2 hb2
 have hcase : Y = ⟨#[49]⟩ ∨ (Y ≠ ⟨#[49]⟩ /\ Y = ⟨#[45, 49]⟩) ∨ (Y ≠ ⟨#[49]⟩ /\ Y ≠ ⟨#[45, 49]⟩) := by
  by_cases e1 : Y = ⟨#[49]⟩
  · exact .inl e1
  · by_cases e2 : Y = ⟨#[45, 49]⟩
    · exact .inr (.inl ⟨e1, e2⟩)
    · exact .inr (.inr ⟨e1, e2⟩)
 by_cases hn : n = 0
 · have d1 : decide (n = 0) = true := decide_eq_true hn
   rw [d1]
   clear d1 hn
   rcases hcase with rfl | ⟨-, rfl⟩ | ⟨e1, e2⟩
   · go_wp2_with (go_at_call 219; (with_reducible refine Calls.mono (HY.out _ g2) ?_); rintro e w4 ⟨rfl, hb4⟩)
     go_ret
     exact ⟨⟨_, rfl⟩, g2.trans (hb4.mono g2.size)⟩
   · go_wp2_with (go_at_call 219; (with_reducible refine Calls.mono (HY.out _ g2) ?_); rintro e w4 ⟨rfl, hb4⟩)
     go_ret
     exact ⟨⟨_, rfl⟩, g2.trans (hb4.mono g2.size)⟩
   · obtain ⟨b1, b2⟩ := bytes_ne e1
     obtain ⟨b3, b4⟩ := bytes_ne e2
     have k1 : ¬ Y.toList = [49] := by simpa [Lib.toList_data] using b1
     have k2 : ¬ Y.toList = [45, 49] := by simpa [Lib.toList_data] using b3
     have k3 : (Y.toList == [49]) = false := by rw [beq_eq_false_iff_ne]; exact k1
     have k4 : (Y.toList == [45, 49]) = false := by rw [beq_eq_false_iff_ne]; exact k2
     clear e1 e2 b1 b2 b3 b4
     go_wp2_with (go_at_call 219; (with_reducible refine Calls.mono (HY.out _ g2) ?_); rintro e w4 ⟨rfl, hb4⟩)
     go_ret
     exact ⟨⟨_, rfl⟩, g2.trans (hb4.mono g2.size)⟩
 · have d1 : decide (n = 0) = false := decide_eq_false hn
   rw [d1]
   clear d1 hn
   rcases hcase with rfl | ⟨-, rfl⟩ | ⟨e1, e2⟩
   · cases s2
     all_goals
      go_wp2_with (first
       | (go_at_call 219; (with_reducible refine Calls.mono (HX.out _ g2) ?_); rintro e w3 ⟨rfl, hb3⟩; have hb3 := hb2.trans (hb3.mono hb2.size); obtain ⟨-, ⟨x3, x4, x5⟩, g3⟩ := HFK.out w3 hb3)
       | (go_at_call 219; (with_reducible refine Calls.mono (HY.out _ g3) ?_); rintro e w4 ⟨rfl, hb4⟩))
      go_ret
      exact ⟨⟨_, rfl⟩, g3.trans (hb4.mono g3.size)⟩
   · cases s2
     all_goals
      go_wp2_with (first
       | (go_at_call 219; (with_reducible refine Calls.mono (HX.out _ g2) ?_); rintro e w3 ⟨rfl, hb3⟩; have hb3 := hb2.trans (hb3.mono hb2.size); obtain ⟨-, ⟨x3, x4, x5⟩, g3⟩ := HFK.out w3 hb3)
       | (go_at_call 219; (with_reducible refine Calls.mono (HY.out _ g3) ?_); rintro e w4 ⟨rfl, hb4⟩))
      go_ret
      exact ⟨⟨_, rfl⟩, g3.trans (hb4.mono g3.size)⟩
   · obtain ⟨b1, b2⟩ := bytes_ne e1
     obtain ⟨b3, b4⟩ := bytes_ne e2
     have k1 : ¬ Y.toList = [49] := by simpa [Lib.toList_data] using b1
     have k2 : ¬ Y.toList = [45, 49] := by simpa [Lib.toList_data] using b3
     have k3 : (Y.toList == [49]) = false := by rw [beq_eq_false_iff_ne]; exact k1
     have k4 : (Y.toList == [45, 49]) = false := by rw [beq_eq_false_iff_ne]; exact k2
     clear e1 e2 b1 b2 b3 b4
     cases s2
     all_goals
      go_wp2_with (first
       | (go_at_call 219; (with_reducible refine Calls.mono (HX.out _ g2) ?_); rintro e w3 ⟨rfl, hb3⟩; have hb3 := hb2.trans (hb3.mono hb2.size); obtain ⟨-, ⟨x3, x4, x5⟩, g3⟩ := HFK.out w3 hb3)
       | (go_at_call 219; (with_reducible refine Calls.mono (HY.out _ g3) ?_); rintro e w4 ⟨rfl, hb4⟩))
      go_ret
      exact ⟨⟨_, rfl⟩, g3.trans (hb4.mono g3.size)⟩
end Go.Proofs.YtdpjdifoonfcdaaGreatDoor

namespace Go.Proofs.YtdpjdifoonfcdaaGreatDoor
open Go.RowKit
def GetI (w : World) (e : Ending) (w' : World) : Prop := (e = .returned (.tuple #[.agg #[.bool false, .slice none 0 0, .slice none 0 0, .bool false, .slice none 0 0, .slice none 0 0], .bool false]) ∨ ∃ v s n d s2 n2 d2, e = .returned (.tuple #[v, .bool true]) /\ ValV w' v s n d s2 n2 d2 /\ n2 ≠ 0) /\ Below w.heap.size w w'
theorem getI_no {w w' : World} (hb : Below w.heap.size w w') : GetI w (.returned (.tuple #[.agg #[.bool false, .slice none 0 0, .slice none 0 0, .bool false, .slice none 0 0, .slice none 0 0], .bool false])) w' := ⟨.inl rfl, hb⟩
theorem getI_yes {w w' : World} {v : Value} {s s2 : Bool} {n d n2 d2 : Nat} (hv : ValV w' v s n d s2 n2 d2) (h : n2 ≠ 0) (hb : Below w.heap.size w w') : GetI w (.returned (.tuple #[v, .bool true])) w' := ⟨.inr ⟨_, _, _, _, _, _, _, rfl, hv, h⟩, hb⟩
theorem digits_pow2 {n L : Nat} (h : n <= 10 ^ L) (hL : L <= 8100) : Lib.nDigits n <= 8101 := by
 refine Nat.le_trans (nDigits_le L n ?_) (by omega)
 have : 10 ^ L < 10 ^ (L + 1) := Nat.pow_lt_pow_right (by decide) (by omega)
 omega
theorem parsedI {s : ByteArray} {w w1 : World} {e : Ending} (hs : s.size <= 8009) (h : ParsedRes (parseR s.data.toList) w e w1) :
 (e = .returned (.tuple #[.agg #[.bool false, .slice none 0 0, .slice none 0 0], .bool false]) ∨ ∃ sb N D an cn ad cd, e = .returned (.tuple #[.agg #[.bool sb, .slice an (dig N).length cn, .slice ad (dig D).length cd], .bool true]) /\ NatV w1 (.slice an (dig N).length cn) N /\ NatV w1 (.slice ad (dig D).length cd) D /\ D ≠ 0 /\ Lib.nDigits N <= 8101 /\ Lib.nDigits D <= 8101) /\ Below w.heap.size w w1 := by
 obtain ⟨h1, hb⟩ := h
 refine ⟨?_, hb⟩
 rcases hpr : parseR s.data.toList with _ | ⟨m, n, d⟩
 · rw [hpr] at h1; exact Or.inl h1
 · rw [hpr] at h1
   obtain ⟨v1, rfl, va, vb, rfl, ha, hb2⟩ := h1
   obtain ⟨hn1, hd1, hd0⟩ := parseR_bd hpr
   obtain ⟨aa, ca, rfl⟩ := ha.cases
   obtain ⟨ab, cb, rfl⟩ := hb2.cases
   have hL : s.data.toList.length <= 8100 := by have : s.data.toList.length = s.size := rfl; omega
   have h3 : 0 < Nat.gcd n d := Nat.gcd_pos_of_pos_right _ (by omega)
   have h4 := Nat.div_pos (Nat.le_of_dvd (by omega) (Nat.gcd_dvd_right n d)) h3
   have h5 := Nat.div_le_self n (Nat.gcd n d)
   have h6 := Nat.div_le_self d (Nat.gcd n d)
   exact Or.inr ⟨_, _, _, _, _, _, _, rfl, ha, hb2, by omega, digits_pow2 (by omega) hL, digits_pow2 (by omega) hL⟩
set_option maxRecDepth 100000 in
set_option maxHeartbeats 4000000 in
theorem get_hasI (s : ByteArray) (w : World) (ht : Tab w) (hs : s.size <= 140737488351232) (hi : Lib.hasSuffix s.data.toList [105] = true) :
 Calls Tryz.prog 129 #[.string s] w (GetI w) := by
 have hcs : ∀ W, Calls Tryz.prog 197 #[.string s, .string ⟨#[105]⟩] W fun e w' => e = .returned (.tuple #[.string ⟨(Lib.trimSuffix s.data.toList [105]).toArray⟩, .bool true]) /\ w' = W := fun W => by
  have := Tryz.strings_CutSuffix s ⟨#[105]⟩ W (by omega)
  rwa [show (⟨#[105]⟩ : ByteArray).data.toList = [105] from rfl, hi] at this
 have htl : (Lib.trimSuffix s.data.toList [105]).length <= s.size := by
  unfold Lib.trimSuffix
  have : s.data.toList.length = s.size := rfl
  split
  all_goals first | exact Nat.le_trans (List.length_take_le' _ _) (by omega) | omega
 have htl2 : (⟨(Lib.trimSuffix s.data.toList [105]).toArray⟩ : ByteArray).size <= s.size := by rw [arr_size]; exact htl
 generalize (⟨(Lib.trimSuffix s.data.toList [105]).toArray⟩ : ByteArray) = t at *
 have HCS := Lib.hid hcs
 clear hcs htl
 obtain ⟨W0, hW0⟩ : ∃ W0, w.alloc (.cells #[.bool false, .slice none 0 0, .slice none 0 0, .bool false, .slice none 0 0, .slice none 0 0] 148) = W0 := ⟨_, rfl⟩
 have hB0 : Below w.heap.size w W0 := by rw [<- hW0]; exact (Below.refl _ w).alloc (Nat.le_refl _) _
 have hs0 : W0.heap.size = w.heap.size + 1 := by rw [<- hW0]; simp
 have r0 : Blk W0 w.heap.size 148 #[.bool false, .slice none 0 0, .slice none 0 0, .bool false, .slice none 0 0, .slice none 0 0] := by rw [<- hW0]; exact heap_alloc_new w _
 have HW0 := Lib.hid hW0; have HS0 := Lib.hid hs0
 by_cases hlen : 8008 < s.size
 · clear hW0 hs0
   go_enter Tryz.func129, Tryz.ntmps129
   go_wp2_with fail
   refine bodyPost_ret (v := .tuple #[.agg #[.bool false, .slice none 0 0, .slice none 0 0, .bool false, .slice none 0 0, .slice none 0 0], .bool false]) (by simp [results, Tryz.results129, go_sem]) rfl ?_
   rw [HW0.out]
   exact getI_no hB0
 · have hlen : s.size <= 8008 := by omega
   clear hW0 hs0
   go_enter Tryz.func129, Tryz.ntmps129
   clear hlen
   go_upto_if 25 with (go_at_call 197; rw [HW0.out]; refine (HCS.out _).mono ?_; rintro e w' ⟨rfl, hww⟩; obtain rfl : W0 = w' := hww.symm)
   have ht8 : t.size <= 8008 := by omega
   clear htl2 hs
   go_cut [5, 6] (fun u5 u6 wx => ∃ x y : ByteArray, u5 = .string x /\ u6 = .string y /\ x.size <= 8008 /\ y.size <= 8009 /\ Below W0.heap.size W0 wx)
   case first =>
    go_wp2_with fail
    go_step3
    go_wp2_with fail
    go_step3
    go_upto_block 0 with fail
    go_cut [5, 6, 9] from 30 to 46 (fun u5 u6 u9 wx => ∃ x y : ByteArray, u5 = .string x /\ u6 = .string y /\ x.size <= 8008 /\ y.size <= 8008 /\ Below W0.heap.size W0 wx)
    case first =>
     have HTP : Hid (∀ (k : Nat) (W : World), Calls Tryz.prog 198 #[.string (t.extract k t.size), .string ⟨#[43]⟩] W fun e w' => (∃ y : ByteArray, e = .returned (.string y) /\ y.size <= 8008) /\ w' = W) := Lib.hid (fun k W => by
      refine (Tryz.strings_TrimPrefix (t.extract k t.size) ⟨#[43]⟩ W).mono ?_
      rintro e w' ⟨rfl, rfl⟩
      refine ⟨⟨_, rfl, ?_⟩, rfl⟩
      rw [arr_size]
      refine Nat.le_trans (trim_len _ _) ?_
      show (t.extract k t.size).size <= 8008
      rw [ByteArray.size_extract]
      omega)
     go_wp2_with fail
     go_loopw [5, 6, 9] (fun u5 u6 i wr => ∃ k : Int, u5 = .string ⟨#[48]⟩ /\ u6 = .string t /\ i = .int .i64 k /\ -1 <= k /\ k < t.size /\ wr = W0) (fun _ _ i _ => (intOf i + 1).toNat)
     case atStart => exact ⟨_, rfl, rfl, rfl, by omega, by omega, rfl⟩
     case round =>
      obtain ⟨k, rfl, rfl, rfl, hk1, hk2, hwr⟩ := hrel
      obtain rfl : W0 = wr := hwr.symm
      by_cases hk : 0 < k
      · obtain ⟨n, rfl⟩ : ∃ n : Nat, k = n := ⟨k.toNat, by omega⟩
        have hn2 : n < t.size := by omega
        have hx : (t.extract 0 n).size <= 8008 := by rw [ByteArray.size_extract]; omega
        go_wp2_with fail
        all_goals first
         | exact ⟨⟨_, rfl, rfl, rfl, by omega, by omega, trivial⟩, by simp only [intOf]; omega⟩
         | (go_region_with (refine (HTP.out _ _).mono ?_; rintro e w' ⟨⟨y, rfl, hy⟩, rfl⟩)
            all_goals (go_wp2_with fail; go_meet; exact ⟨_, _, rfl, rfl, hx, hy, (Below.refl _ _).drew⟩))
      · go_wp2_with fail
        go_meet
        exact ⟨_, _, rfl, rfl, by decide, ht8, Below.refl _ _⟩
    case rest =>
     obtain ⟨x, y, rfl, rfl, hx, hy, hbc⟩ := hcut
     go_upto_region 17 with fail
     all_goals (try rw [Exit.noGoto_normal])
     all_goals (go_wp2_with fail)
     all_goals go_meet
     · exact ⟨_, _, rfl, rfl, hx, by rw [ByteArray.size_append]; show y.size + 1 <= 8009; omega, hbc⟩
     · exact ⟨_, _, rfl, rfl, hx, by rw [ByteArray.size_append]; show y.size + 1 <= 8009; omega, hbc⟩
     · exact ⟨_, _, rfl, rfl, hx, by omega, hbc⟩
   case rest =>
    obtain ⟨x, y, rfl, rfl, hx, hy, hbc⟩ := hcut
    have hpx := fun W => parsed_any x W (by omega)
    have hpy := fun W => parsed_any y W (by omega)
    have HPX := Lib.hid hpx; have HPY := Lib.hid hpy
    have hnoI : ∀ sb N D, ratT sb N D ≠ s := fun sb N D h => by
     have := ratT_noI sb N D
     rw [h, hi] at this
     cases this
    have HNI := Lib.hid hnoI; have HHI := Lib.hid hi
    have HT := Lib.hid (ht.below hB0 (Nat.le_refl _))
    have HB0 := Lib.hid hB0; have HR0 := Lib.hid r0
    have HKB : Hid (∀ wx, Below W0.heap.size W0 wx -> Blk wx w.heap.size 148 #[.bool false, .slice none 0 0, .slice none 0 0, .bool false, .slice none 0 0, .slice none 0 0] /\ Below w.heap.size w wx /\ Tab wx) := Lib.hid (fun wx hb => ⟨HR0.out.below hb (by have := HS0.out; omega), HB0.out.trans (hb.mono (by have := HS0.out; omega)), HT.out.below hb (Nat.le_refl _)⟩)
    clear hpx hpy hnoI hi ht hB0 r0 HCS
    go_wp2_with fail
    refine (HPX.out _).mono ?_
    rintro e w1 hres
    obtain ⟨hr1, hb1⟩ := parsedI (by omega) hres
    have hb01 := hbc.trans (hb1.mono hbc.size)
    clear hres
    rcases hr1 with rfl | ⟨sb, N, D, an, cn, ad, cd, rfl, ha, hbb, hD0, hNd, hDd⟩
    · obtain ⟨hk, hbw, -⟩ := HKB.out w1 hb01
      have q0 := hk.cell 0
      have q1 := hk.cell 1
      have q2 := hk.cell 2
      have q3 := hk.cell 3
      have q4 := hk.cell 4
      have q5 := hk.cell 5
      simp only [List.getElem?_toArray, List.getElem?_cons_succ, List.getElem?_cons_zero] at q0 q1 q2 q3 q4 q5
      have g0 := hk.free 0
      have g1 := hk.free 1
      have g2 := hk.free 2
      have g3 := hk.free 3
      have g4 := hk.free 4
      have g5 := hk.free 5
      have hlt := hk.lt
      clear hk
      go_wp2_with fail
      refine bodyPost_ret (v := .tuple #[.agg #[.bool false, .slice none 0 0, .slice none 0 0, .bool false, .slice none 0 0, .slice none 0 0], .bool false]) (by simp [results, Tryz.results129, go_sem, q0, q1, q2, q3, q4, q5, hlt]) rfl ?_
      exact getI_no ((((((((hbw.setCell (Nat.le_refl _) _).setCell (Nat.le_refl _) _).setCell (Nat.le_refl _) _).setCell (Nat.le_refl _) _).setCell (Nat.le_refl _) _).setCell (Nat.le_refl _) _)).alloc (by simp; omega) _)
    · have HA := Lib.hid ha; have HBB := Lib.hid hbb; have HD0 := Lib.hid hD0; have HNd := Lib.hid hNd; have HDd := Lib.hid hDd
      clear ha hbb hD0 hNd hDd
      go_wp2_with fail
      refine (HPY.out _).mono ?_
      rintro e w2 hres
      obtain ⟨hr2, hb2⟩ := parsedI (by omega) hres
      clear hres
      have hal := (Below.refl w1.heap.size w1).alloc (Nat.le_refl _) (.cells #[.bool sb, .slice an (dig N).length cn, .slice ad (dig D).length cd] 146)
      have hab := hal.trans (hb2.mono (show w1.heap.size <= (w1.alloc (.cells #[.bool sb, .slice an (dig N).length cn, .slice ad (dig D).length cd] 146)).heap.size by simp))
      have hb02 := hb01.trans (hab.mono hb01.size)
      have a0 : w2.cell? ⟨w1.heap.size, 0, none⟩ = some (.bool sb) := box_keep hb2 (by simp) 0
      have a1 : w2.cell? ⟨w1.heap.size, 1, none⟩ = some (.slice an (dig N).length cn) := box_keep hb2 (by simp) 1
      have a2 : w2.cell? ⟨w1.heap.size, 2, none⟩ = some (.slice ad (dig D).length cd) := box_keep hb2 (by simp) 2
      have hl1 : w1.heap.size < w2.heap.size := by have := hb2.size; simp at this; omega
      have hl0 : w.heap.size < w2.heap.size := ((HKB.out w2 hb02).1).lt
      have n1 : ¬ w1.heap.size = w2.heap.size := by omega
      have n2 : ¬ w.heap.size = w2.heap.size := by omega
      have HAB := Lib.hid hab; have HB02 := Lib.hid hb02
      clear hb1 hb2 hal hab hb02 hb01 hbc
      rcases hr2 with rfl | ⟨tb, M, E, am, cm, ae, ce, rfl, hc, hdd, hE0, hMd, hEd⟩
      · obtain ⟨hk, hbw, -⟩ := HKB.out w2 HB02.out
        have q0 := hk.cell 0
        have q1 := hk.cell 1
        have q2 := hk.cell 2
        have q3 := hk.cell 3
        have q4 := hk.cell 4
        have q5 := hk.cell 5
        simp only [List.getElem?_toArray, List.getElem?_cons_succ, List.getElem?_cons_zero] at q0 q1 q2 q3 q4 q5
        have g0 := hk.free 0
        have g1 := hk.free 1
        have g2 := hk.free 2
        have g3 := hk.free 3
        have g4 := hk.free 4
        have g5 := hk.free 5
        clear hk
        go_wp2_with fail
        refine bodyPost_ret (v := .tuple #[.agg #[.bool false, .slice none 0 0, .slice none 0 0, .bool false, .slice none 0 0, .slice none 0 0], .bool false]) (by simp [results, Tryz.results129, go_sem, q0, q1, q2, q3, q4, q5, hl0]) rfl ?_
        exact getI_no (((((((((hbw.setCell (Nat.le_refl _) _).setCell (Nat.le_refl _) _).setCell (Nat.le_refl _) _).setCell (Nat.le_refl _) _).setCell (Nat.le_refl _) _).setCell (Nat.le_refl _) _)).alloc (by simp; omega) _).alloc (by simp; omega) _)
      · have HC := Lib.hid hc; have HD := Lib.hid hdd; have HE0 := Lib.hid hE0; have HMd := Lib.hid hMd; have HEd := Lib.hid hEd
        clear hc hdd hE0 hMd hEd
        have HVV : Hid (∀ W, Below w2.heap.size w2 W -> ValV W (.agg #[.bool sb, .slice an (dig N).length cn, .slice ad (dig D).length cd, .bool tb, .slice am (dig M).length cm, .slice ae (dig E).length ce]) sb N D tb M E) := fun W hb => ⟨_, _, _, _, rfl, (HA.out.below HAB.out (Nat.le_refl _)).below hb (Nat.le_refl _), (HBB.out.below HAB.out (Nat.le_refl _)).below hb (Nat.le_refl _), HC.out.below hb (Nat.le_refl _), HD.out.below hb (Nat.le_refl _)⟩
        have HTT : Hid (∀ W, Below w2.heap.size w2 W -> Blk W w.heap.size 148 #[.bool false, .slice none 0 0, .slice none 0 0, .bool false, .slice none 0 0, .slice none 0 0] /\ Below w.heap.size w W /\ Tab W) := fun W hb => HKB.out W (HB02.out.trans (hb.mono HB02.out.size))
        by_cases hM0 : M = 0
        · subst hM0
          go_wp2_with fail
          refine (valText_any _ sb N D tb E _ (HVV.out _ (((Below.refl _ _).alloc (Nat.le_refl _) _).alloc (by simp) _)) (HTT.out _ (((Below.refl _ _).alloc (Nat.le_refl _) _).alloc (by simp) _)).2.2 (by have := HNd.out; omega) (by have := HDd.out; omega) HD0.out).mono ?_
          rintro e w3 ⟨rfl, hb3⟩
          have hb23 : Below w2.heap.size w2 w3 := (((Below.refl _ _).alloc (Nat.le_refl _) _).alloc (by simp) _).trans (hb3.mono (by simp; omega))
          obtain ⟨e2, e1⟩ := bytes_ne (HNI.out sb N D)
          obtain ⟨hk, hbw, -⟩ := HTT.out w3 hb23
          generalize ratT sb N D = T at *
          have hl3 := hk.lt
          have q0 := hk.cell 0
          have q1 := hk.cell 1
          have q2 := hk.cell 2
          have q3 := hk.cell 3
          have q4 := hk.cell 4
          have q5 := hk.cell 5
          simp only [List.getElem?_toArray, List.getElem?_cons_succ, List.getElem?_cons_zero] at q0 q1 q2 q3 q4 q5
          have g0 := hk.free 0
          have g1 := hk.free 1
          have g2 := hk.free 2
          have g3 := hk.free 3
          have g4 := hk.free 4
          have g5 := hk.free 5
          clear hk hb3 n1 n2 a0 a1 a2
          go_wp2_with fail
          refine bodyPost_ret (v := .tuple #[.agg #[.bool false, .slice none 0 0, .slice none 0 0, .bool false, .slice none 0 0, .slice none 0 0], .bool false]) (by simp [results, Tryz.results129, go_sem, q0, q1, q2, q3, q4, q5]) rfl ?_
          exact getI_no (((((((hbw.setCell (Nat.le_refl _) _).setCell (Nat.le_refl _) _).setCell (Nat.le_refl _) _).setCell (Nat.le_refl _) _).setCell (Nat.le_refl _) _).setCell (Nat.le_refl _) _))
        · have HM0 := Lib.hid hM0
          clear hM0
          go_wp2_with fail
          refine (valText_cx _ sb N D tb M E _ (HVV.out _ (((Below.refl _ _).alloc (Nat.le_refl _) _).alloc (by simp) _)) (HTT.out _ (((Below.refl _ _).alloc (Nat.le_refl _) _).alloc (by simp) _)).2.2 (by have := HNd.out; omega) (by have := HDd.out; omega) HD0.out (by have := HMd.out; omega) (by have := HEd.out; omega) HE0.out HM0.out).mono ?_
          rintro e w3 ⟨⟨T, rfl⟩, hb3⟩
          have hb23 : Below w2.heap.size w2 w3 := (((Below.refl _ _).alloc (Nat.le_refl _) _).alloc (by simp) _).trans (hb3.mono (by simp; omega))
          by_cases heq : T = s
          · subst heq
            have e1 : (T.toList == T.toList) = true := by simp
            have p0 : w3.cell? ⟨w2.heap.size, 0, none⟩ = some (.bool tb) := box_keep2 hb3 (by simp; omega) 0
            have p1 : w3.cell? ⟨w2.heap.size, 1, none⟩ = some (.slice am (dig M).length cm) := box_keep2 hb3 (by simp; omega) 1
            have p2 : w3.cell? ⟨w2.heap.size, 2, none⟩ = some (.slice ae (dig E).length ce) := box_keep2 hb3 (by simp; omega) 2
            have c0 : w3.cell? ⟨w2.heap.size + 1, 0, none⟩ = some (.bool sb) := box_keep1 hb3 (by simp) 0
            have c1 : w3.cell? ⟨w2.heap.size + 1, 1, none⟩ = some (.slice an (dig N).length cn) := box_keep1 hb3 (by simp) 1
            have c2 : w3.cell? ⟨w2.heap.size + 1, 2, none⟩ = some (.slice ad (dig D).length cd) := box_keep1 hb3 (by simp) 2
            have c3 : w3.cell? ⟨w2.heap.size + 1, 3, none⟩ = some (.bool tb) := box_keep1 hb3 (by simp) 3
            have c4 : w3.cell? ⟨w2.heap.size + 1, 4, none⟩ = some (.slice am (dig M).length cm) := box_keep1 hb3 (by simp) 4
            have c5 : w3.cell? ⟨w2.heap.size + 1, 5, none⟩ = some (.slice ae (dig E).length ce) := box_keep1 hb3 (by simp) 5
            have A0 := cell_keep a0 hb23 (Nat.le_refl _)
            have A1 := cell_keep a1 hb23 (Nat.le_refl _)
            have A2 := cell_keep a2 hb23 (Nat.le_refl _)
            clear hb3 n1 n2 a0 a1 a2
            go_wp2_with fail
            clear A0 A1 A2 e1
            refine (big_any _ sb N D _ ⟨_, _, rfl, (HA.out.below HAB.out (Nat.le_refl _)).below hb23 (Nat.le_refl _), (HBB.out.below HAB.out (Nat.le_refl _)).below hb23 (Nat.le_refl _)⟩ (HTT.out _ hb23).2.2 (by have := len_of_digits (n := N) (by have := HNd.out; omega); omega) (by have := len_of_digits (n := D) (by have := HDd.out; omega); omega)).mono ?_
            rintro e w4 ⟨rfl, hb4⟩
            have hb24 := hb23.trans (hb4.mono hb23.size)
            rcases hbq : bigQ N D with _ | _
            · have HBQ := Lib.hid hbq
              clear hbq
              have P0 := cell_keep p0 hb4 (Nat.le_refl _)
              have P1 := cell_keep p1 hb4 (Nat.le_refl _)
              have P2 := cell_keep p2 hb4 (Nat.le_refl _)
              go_wp2_with fail
              clear P0 P1 P2
              refine (big_any _ tb M E _ ⟨_, _, rfl, HC.out.below hb24 (Nat.le_refl _), HD.out.below hb24 (Nat.le_refl _)⟩ (HTT.out _ hb24).2.2 (by have := len_of_digits (n := M) (by have := HMd.out; omega); omega) (by have := len_of_digits (n := E) (by have := HEd.out; omega); omega)).mono ?_
              rintro e w5 ⟨rfl, hb5⟩
              have hb35 := hb4.trans (hb5.mono hb4.size)
              have hb25 := hb24.trans (hb5.mono hb24.size)
              rcases hbq2 : bigQ M E with _ | _
              · have C0 := cell_keep c0 hb35 (Nat.le_refl _)
                have C1 := cell_keep c1 hb35 (Nat.le_refl _)
                have C2 := cell_keep c2 hb35 (Nat.le_refl _)
                have C3 := cell_keep c3 hb35 (Nat.le_refl _)
                have C4 := cell_keep c4 hb35 (Nat.le_refl _)
                have C5 := cell_keep c5 hb35 (Nat.le_refl _)
                obtain ⟨hk, hbw, -⟩ := HTT.out w5 hb25
                have HBQ2 := Lib.hid hbq2
                have q0 := hk.cell 0
                have q1 := hk.cell 1
                have q2 := hk.cell 2
                have q3 := hk.cell 3
                have q4 := hk.cell 4
                have q5 := hk.cell 5
                simp only [List.getElem?_toArray, List.getElem?_cons_succ, List.getElem?_cons_zero] at q0 q1 q2 q3 q4 q5
                have g0 := hk.free 0
                have g1 := hk.free 1
                have g2 := hk.free 2
                have g3 := hk.free 3
                have g4 := hk.free 4
                have g5 := hk.free 5
                clear hk p0 p1 p2 c0 c1 c2 c3 c4 c5 hb4 hb5 hbq2
                go_wp2_with fail
                refine bodyPost_ret (v := .tuple #[.agg #[.bool sb, .slice an (dig N).length cn, .slice ad (dig D).length cd, .bool tb, .slice am (dig M).length cm, .slice ae (dig E).length ce], .bool true]) (by simp [results, Tryz.results129, go_sem, q0, q1, q2, q3, q4, q5]) rfl ?_
                obtain ⟨_, _, _, _, hh, i1, i2, i3, i4⟩ := HVV.out _ hb25
                simp only [Value.agg.injEq, Array.mk.injEq, List.cons.injEq, and_true, true_and] at hh
                obtain ⟨rfl, rfl, rfl, rfl⟩ := hh
                refine getI_yes ⟨_, _, _, _, rfl, i1.box6 q0 q1 q2 q3 q4 q5 trivial trivial trivial trivial trivial trivial, i2.box6 q0 q1 q2 q3 q4 q5 trivial trivial trivial trivial trivial trivial, i3.box6 q0 q1 q2 q3 q4 q5 trivial trivial trivial trivial trivial trivial, i4.box6 q0 q1 q2 q3 q4 q5 trivial trivial trivial trivial trivial trivial⟩ HM0.out (((((((hbw.setCell (Nat.le_refl _) _).setCell (Nat.le_refl _) _).setCell (Nat.le_refl _) _).setCell (Nat.le_refl _) _).setCell (Nat.le_refl _) _).setCell (Nat.le_refl _) _))
              · obtain ⟨hk, hbw, -⟩ := HTT.out w5 hb25
                have HBQ2 := Lib.hid hbq2
                have q0 := hk.cell 0
                have q1 := hk.cell 1
                have q2 := hk.cell 2
                have q3 := hk.cell 3
                have q4 := hk.cell 4
                have q5 := hk.cell 5
                simp only [List.getElem?_toArray, List.getElem?_cons_succ, List.getElem?_cons_zero] at q0 q1 q2 q3 q4 q5
                have g0 := hk.free 0
                have g1 := hk.free 1
                have g2 := hk.free 2
                have g3 := hk.free 3
                have g4 := hk.free 4
                have g5 := hk.free 5
                clear hk p0 p1 p2 c0 c1 c2 c3 c4 c5 hb4 hb5 hbq2
                go_wp2_with fail
                refine bodyPost_ret (v := .tuple #[.agg #[.bool false, .slice none 0 0, .slice none 0 0, .bool false, .slice none 0 0, .slice none 0 0], .bool false]) (by simp [results, Tryz.results129, go_sem, q0, q1, q2, q3, q4, q5]) rfl ?_
                exact getI_no (((((((hbw.setCell (Nat.le_refl _) _).setCell (Nat.le_refl _) _).setCell (Nat.le_refl _) _).setCell (Nat.le_refl _) _).setCell (Nat.le_refl _) _).setCell (Nat.le_refl _) _))
            · obtain ⟨hk, hbw, -⟩ := HTT.out w4 hb24
              have HBQ := Lib.hid hbq
              have q0 := hk.cell 0
              have q1 := hk.cell 1
              have q2 := hk.cell 2
              have q3 := hk.cell 3
              have q4 := hk.cell 4
              have q5 := hk.cell 5
              simp only [List.getElem?_toArray, List.getElem?_cons_succ, List.getElem?_cons_zero] at q0 q1 q2 q3 q4 q5
              have g0 := hk.free 0
              have g1 := hk.free 1
              have g2 := hk.free 2
              have g3 := hk.free 3
              have g4 := hk.free 4
              have g5 := hk.free 5
              clear hk p0 p1 p2 c0 c1 c2 c3 c4 c5 hb4 hbq
              go_wp2_with fail
              refine bodyPost_ret (v := .tuple #[.agg #[.bool false, .slice none 0 0, .slice none 0 0, .bool false, .slice none 0 0, .slice none 0 0], .bool false]) (by simp [results, Tryz.results129, go_sem, q0, q1, q2, q3, q4, q5]) rfl ?_
              exact getI_no (((((((hbw.setCell (Nat.le_refl _) _).setCell (Nat.le_refl _) _).setCell (Nat.le_refl _) _).setCell (Nat.le_refl _) _).setCell (Nat.le_refl _) _).setCell (Nat.le_refl _) _))
          · obtain ⟨e2, e1⟩ := bytes_ne heq
            obtain ⟨hk, hbw, -⟩ := HTT.out w3 hb23
            have q0 := hk.cell 0
            have q1 := hk.cell 1
            have q2 := hk.cell 2
            have q3 := hk.cell 3
            have q4 := hk.cell 4
            have q5 := hk.cell 5
            simp only [List.getElem?_toArray, List.getElem?_cons_succ, List.getElem?_cons_zero] at q0 q1 q2 q3 q4 q5
            have g0 := hk.free 0
            have g1 := hk.free 1
            have g2 := hk.free 2
            have g3 := hk.free 3
            have g4 := hk.free 4
            have g5 := hk.free 5
            clear hk hb3 n1 n2 a0 a1 a2 heq
            go_wp2_with fail
            refine bodyPost_ret (v := .tuple #[.agg #[.bool false, .slice none 0 0, .slice none 0 0, .bool false, .slice none 0 0, .slice none 0 0], .bool false]) (by simp [results, Tryz.results129, go_sem, q0, q1, q2, q3, q4, q5]) rfl ?_
            exact getI_no (((((((hbw.setCell (Nat.le_refl _) _).setCell (Nat.le_refl _) _).setCell (Nat.le_refl _) _).setCell (Nat.le_refl _) _).setCell (Nat.le_refl _) _).setCell (Nat.le_refl _) _))
end Go.Proofs.YtdpjdifoonfcdaaGreatDoor
