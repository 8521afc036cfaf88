/- Parts of a proof, in build order: Si, Ct, V1, V6, Cx, Cy, Cz, H0, Cu, V7, Y4. -/
import Derived.Test.YtdpjdifoonfcdaaGreatDoorKc7
import Derived.ProofKit
import Derived.OpenShut
import Derived.ReadAgain
import Derived.Deep.Slices
import Derived.Deep.SlicePairs
import Derived.Lib.SmallJoins
import Derived.Below
import Derived.ChangeSame
import Derived.Test.YtdpjdifoonfcdaaGreatDoorRows
import Derived.SizedLaws
import Derived.Lib.LaidTab
import Derived.Laws.ResultCell
import Derived.Deep.Strs

namespace Go.Proofs.YtdpjdifoonfcdaaGreatDoor
open Go.RowKit
theorem sameInts_any (aa ab : Option Addr) (xs ys : List Int) (ca cb : Nat) (w : World) (ha : Cells w aa (xs.map (Value.int .i64))) (hb : Cells w ab (ys.map (Value.int .i64))) (hl : xs.length <= 9223372036854775807) (hl' : ys.length <= 9223372036854775807) :
 Calls Tryz.prog 37 #[.slice aa xs.length ca, .slice ab ys.length cb] w fun e w' => e = .returned (.bool (decide (xs = ys))) /\ Below w.heap.size w w' := by
 by_cases hlen : xs.length = ys.length
 · have h1 : ((xs.length : Int) != ys.length) = false := by simp [hlen]
   have hlt : (ys.length : Int) <= xs.length := by omega
   have HL := Lib.hid hlen; clear hlen
   have HA := Lib.hid ha; have HB := Lib.hid hb; clear ha hb
   go_enter Tryz.func37, Tryz.ntmps37
   go_wp2
   go_loopw [5] (fun i wr => ∃ k : Nat, k <= xs.length /\ i = .int .i64 k /\ xs.take k = ys.take k /\ Below w.heap.size w wr) (fun i _ => xs.length - (intOf i).toNat)
   case atStart => exact ⟨0, Nat.zero_le _, rfl, rfl, Below.refl _ _⟩
   case round =>
    obtain ⟨k, hk, rfl, heq, hbe⟩ := hrel
    have HQ := Lib.hid heq; clear heq
    by_cases hlt : k < xs.length
    · have hlt2 : k < ys.length := by have := HL.out; omega
      obtain ⟨x, hx⟩ := get_of_lt hlt
      obtain ⟨y, hy⟩ := get_of_lt hlt2
      obtain ⟨b, off, rfl⟩ := HA.out.addr (by simpa using List.ne_nil_of_length_pos (by omega))
      obtain ⟨b2, off2, rfl⟩ := HB.out.addr (by simpa using List.ne_nil_of_length_pos (by omega))
      have c1 := cell_keep (HA.out.int hx) hbe (Nat.le_refl _)
      have c2 := cell_keep (HB.out.int hy) hbe (Nat.le_refl _)
      have i1 : (k : Int) < xs.length := by omega
      have i2 : (k : Int) < ys.length := by omega
      have i3 : (0 : Int) <= k := by omega
      by_cases hxy : x = y
      · obtain rfl := hxy
        have ht : xs.take (k + 1) = ys.take (k + 1) := by rw [take_get hx, take_get hy, HQ.out]
        have HT := Lib.hid ht; clear ht hx hy
        go_wp2
        go_quiet (fail)
        go_wp2
        go_roundw
        case rel => exact ⟨k + 1, by omega, by go_num, HT.out, bel_drewN hbe _⟩
        case measure => simp [intOf]; omega
      · have hne : decide (xs = ys) = false := by
         rw [decide_eq_false_iff_not]; rintro rfl
         rw [hx] at hy; simp at hy; exact hxy hy
        have HNE := Lib.hid hne; clear hne hx hy
        have hb1 : (x == y) = false := by simpa using hxy
        have hb2 : (x != y) = true := by simpa using hxy
        go_wp2
        go_quiet (fail)
        go_wp2
        go_ret
        exact ⟨ret_bool HNE.out.symm, bel_drewN hbe _⟩
    · obtain rfl : k = xs.length := by omega
      have he : decide (xs = ys) = true := by
       rw [decide_eq_true_iff]
       have := HQ.out
       rw [List.take_length, HL.out, List.take_length] at this; exact this
      have HE := Lib.hid he; clear he
      go_wp2
      go_ret
      exact ⟨ret_bool HE.out.symm, hbe⟩
 · have h1 : ((xs.length : Int) != ys.length) = true := by simp; omega
   have he : decide (xs = ys) = false := by
    rw [decide_eq_false_iff_not]; rintro rfl; exact hlen rfl
   have HE := Lib.hid he; clear he
   go_enter Tryz.func37, Tryz.ntmps37
   go_wp2
   go_ret
   exact ⟨ret_bool HE.out.symm, Below.refl _ _⟩
theorem same_ints_eq (aa ab : Option Addr) (ca cb : Nat) (w : World) (xs : List Int) (n : Nat) (hn : n = xs.length) (hl : xs.length <= 9223372036854775807) (ha : Cells w aa (xs.map (Value.int .i64))) (hb : Cells w ab (xs.map (Value.int .i64))) :
 Calls Tryz.prog 37 #[.slice aa n ca, .slice ab n cb] w fun e w' => e = .returned (.bool true) /\ Below w.heap.size w w' := by
 subst hn
 have h := sameInts_any aa ab xs xs ca cb w ha hb hl hl
 simpa using h
end Go.Proofs.YtdpjdifoonfcdaaGreatDoor

namespace Go.Proofs.YtdpjdifoonfcdaaGreatDoor
open Go.RowKit
theorem cells_lit (w : World) (cs : List Value) (T : TypeId) : Cells (w.alloc (.cells cs.toArray T)) (some ⟨w.heap.size, 0, none⟩) cs :=
 .inr ⟨w.heap.size, 0, rfl, fun j u hu => by
  rw [cell_of_row _ _ _ _ _ _ (heap_alloc_new _ _), Nat.zero_add]; simpa using hu⟩
set_option maxRecDepth 100000 in
set_option maxHeartbeats 4000000 in
theorem bworks_any (w : World) (ht : Tab w) :
 Calls Tryz.prog 22 #[] w fun e w' => e = .returned (.bool true) /\ Below w.heap.size w w' := by
 have hw := fun w => Wave_any 4 8 0 w
 have hm := fun w ht => match_any 4 16 0 48 0 w ht
 have hp := fun w => Points_any 4 31 33 0 0 w
 have hf := fun ao cap w hc => filter_any 4 16 0 ao [0, 127, 0, -127, 0] cap w hc (by decide)
 have hs := fun ao cap w ht hc => misfit_any 4 16 0 ao [0, 127, 0, 127] cap 0 2 w ht hc (by decide)
 rw [ex_wave.1, ex_wave.2] at hw
 rw [ex_match.1, ex_match.2] at hm
 rw [ex_points.1, ex_points.2] at hp
 rw [ex_filter.1, ex_filter.2] at hf
 rw [ex_misfit.1, ex_misfit.2] at hs
 simp only [List.length_cons, List.length_nil, Nat.reduceAdd] at hw hp hf hs
 have HW := Lib.hid hw; have HM := Lib.hid hm; have HP := Lib.hid hp; have HF := Lib.hid hf; have HS := Lib.hid hs; have HT := Lib.hid ht
 clear hw hm hp hf hs ht
 go_enter Tryz.func22, Tryz.ntmps22
 go_wp2_with fail
 refine (HW.out _).mono ?_
 rintro e w1 ⟨⟨b1, c1, rfl, hc1⟩, g1⟩
 have HC1 := Lib.hid hc1; clear hc1
 go_wp2_with fail
 refine (tone_any _).mono ?_
 rintro e w2 ⟨rfl, hb2⟩
 have g2 := g1.trans (hb2.mono g1.size)
 go_wp2_with fail
 refine (HM.out _ (HT.out.below g2 (Nat.le_refl _))).mono ?_
 rintro e w3 ⟨rfl, hb3⟩
 have g3 := g2.trans (hb3.mono g2.size)
 have HC3 := Lib.hid ((HC1.out.below hb2 (Nat.le_refl _)).below hb3 (Nat.le_refl _)); clear HC1 hb2 hb3
 go_wp2_with fail
 refine (HP.out _).mono ?_
 rintro e w4 ⟨⟨b4, c4, rfl, hc4⟩, hb4⟩
 have g4 := g3.trans (hb4.mono g3.size)
 have HC4 := Lib.hid (HC3.out.below hb4 (Nat.le_refl _))
 have HP4 := Lib.hid hc4; clear hc4 HC3 hb4
 go_wp2_with fail
 refine (tone_any _).mono ?_
 rintro e w5 ⟨rfl, hb5⟩
 have g5 := g4.trans (hb5.mono g4.size)
 have HC5 := Lib.hid (HC4.out.below hb5 (Nat.le_refl _))
 have HP5 := Lib.hid (HP4.out.below hb5 (Nat.le_refl _))
 clear HC4 HP4 hb5
 go_wp2_with fail
 have l6 := cells_lit w5 ([0, 127, 0, -127, 0].map (Value.int .i64)) 3
 have B6 := (Below.refl w5.heap.size w5).alloc (Nat.le_refl _) (.cells ([0, 127, 0, -127, 0].map (Value.int .i64)).toArray 3)
 have HC6 := Lib.hid (HC5.out.below B6 (Nat.le_refl _))
 have HP6 := Lib.hid (HP5.out.below B6 (Nat.le_refl _))
 have g6 := g5.trans (B6.mono g5.size)
 clear HC5 HP5 B6
 refine (show _ from HF.out _ 5 _ l6).mono ?_
 rintro e w7 ⟨⟨b7, c7, rfl, hc7⟩, hb7⟩
 have g7 := g6.trans (hb7.mono g6.size)
 have HC7 := Lib.hid (HC6.out.below hb7 (Nat.le_refl _))
 have HP7 := Lib.hid (HP6.out.below hb7 (Nat.le_refl _))
 have HF7 := Lib.hid hc7
 clear HC6 HP6 hb7 hc7 l6
 go_wp2_with fail
 refine (tone_any _).mono ?_
 rintro e w8 ⟨rfl, hb8⟩
 have g8 := g7.trans (hb8.mono g7.size)
 have HC8 := Lib.hid (HC7.out.below hb8 (Nat.le_refl _))
 have HP8 := Lib.hid (HP7.out.below hb8 (Nat.le_refl _))
 have HF8 := Lib.hid (HF7.out.below hb8 (Nat.le_refl _))
 clear HC7 HP7 HF7 hb8
 go_wp2_with fail
 have l9 := cells_lit w8 ([0, 127, 0, 127].map (Value.int .i64)) 3
 have B9 := (Below.refl w8.heap.size w8).alloc (Nat.le_refl _) (.cells ([0, 127, 0, 127].map (Value.int .i64)).toArray 3)
 have HC9 := Lib.hid (HC8.out.below B9 (Nat.le_refl _))
 have HP9 := Lib.hid (HP8.out.below B9 (Nat.le_refl _))
 have HF9 := Lib.hid (HF8.out.below B9 (Nat.le_refl _))
 have g9 := g8.trans (B9.mono g8.size)
 clear HC8 HP8 HF8 B9
 refine (show _ from HS.out _ 4 _ (HT.out.below g9 (Nat.le_refl _)) l9).mono ?_
 rintro e wa ⟨rfl, hba⟩
 have ga := g9.trans (hba.mono g9.size)
 have HCa := Lib.hid (HC9.out.below hba (Nat.le_refl _))
 have HPa := Lib.hid (HP9.out.below hba (Nat.le_refl _))
 have HFa := Lib.hid (HF9.out.below hba (Nat.le_refl _))
 clear HC9 HP9 HF9 hba l9
 go_wp2_with fail
 have lb := cells_lit wa ([0, 90, 127, 90].map (Value.int .i64)) 3
 have Bb := (Below.refl wa.heap.size wa).alloc (Nat.le_refl _) (.cells ([0, 90, 127, 90].map (Value.int .i64)).toArray 3)
 have HCb := Lib.hid (HCa.out.below Bb (Nat.le_refl _))
 have HPb := Lib.hid (HPa.out.below Bb (Nat.le_refl _))
 have HFb := Lib.hid (HFa.out.below Bb (Nat.le_refl _))
 have gb := ga.trans (Bb.mono ga.size)
 clear HCa HPa HFa Bb
 refine (show _ from same_ints_eq b1 _ c1 4 _ [0, 90, 127, 90] 4 rfl (by decide) HCb.out lb).mono ?_
 rintro e wc ⟨rfl, hbc⟩
 have gc := gb.trans (hbc.mono gb.size)
 have HPc := Lib.hid (HPb.out.below hbc (Nat.le_refl _))
 have HFc := Lib.hid (HFb.out.below hbc (Nat.le_refl _))
 clear HCb HPb HFb hbc lb
 go_wp2_with fail
 have ld := cells_lit wc (prs [(31, 0), (33, 0)]) 23
 have Bd := (Below.refl wc.heap.size wc).alloc (Nat.le_refl _) (.cells (prs [(31, 0), (33, 0)]).toArray 23)
 have HPd := Lib.hid (HPc.out.below Bd (Nat.le_refl _))
 have HFd := Lib.hid (HFc.out.below Bd (Nat.le_refl _))
 have gd := gc.trans (Bd.mono gc.size)
 clear HPc HFc Bd
 refine (show _ from sameChirps_any b4 _ [(31, 0), (33, 0)] [(31, 0), (33, 0)] c4 2 _ HPd.out ld (by decide) (by decide)).mono ?_
 rintro e we ⟨rfl, hbe⟩
 have ge := gd.trans (hbe.mono gd.size)
 have HFe := Lib.hid (HFd.out.below hbe (Nat.le_refl _))
 clear HPd HFd hbe ld
 rw [decide_eq_true (show [((31 : Int), (0 : Int)), (33, 0)] = [(31, 0), (33, 0)] from rfl)]
 go_wp2_with fail
 have lf := cells_lit we ([32258, 0].map (Value.int .i64)) 3
 have Bf := (Below.refl we.heap.size we).alloc (Nat.le_refl _) (.cells ([32258, 0].map (Value.int .i64)).toArray 3)
 have HFf := Lib.hid (HFe.out.below Bf (Nat.le_refl _))
 have gf := ge.trans (Bf.mono ge.size)
 clear HFe Bf
 refine (show _ from same_ints_eq b7 _ c7 2 _ [32258, 0] 2 rfl (by decide) HFf.out lf).mono ?_
 rintro e wg ⟨rfl, hbg⟩
 have gg := gf.trans (hbg.mono gf.size)
 clear HFf hbg lf
 go_wp2
 go_ret
 exact ⟨rfl, gg⟩
end Go.Proofs.YtdpjdifoonfcdaaGreatDoor

namespace Go.Proofs.YtdpjdifoonfcdaaGreatDoor
open Go.RowKit Go.WideShapes Go.ChangeShapes Go.Deep Go.Joins
section
variable {H : Type} {enc : TypeId × Value -> H} {P : Program}
theorem sameAt_below {W W' : World} (hb : Below W.heap.size W W') {p : MemPlace} (hp : p.block < W.heap.size) : W.sameAt W' p := by
 cases p with
 | cell b off => exact hb.cell (p := ⟨b, off, none⟩) hp
 | map b => exact hb.block b hp
theorem trodAll_carry {W W' : World} {base : Nat} {sp : Nat -> Bool} {held : Bool} : ∀ {ts : List TypeId} {vs : List Value} {ds : List (DataW H)} {ps : List MemPlace}, DataW.TrodAll enc P W base sp held ts vs ds ps -> (∀ p ∈ ps, W.sameAt W' p) -> DataW.TrodAll enc P W' base sp held ts vs ds ps
 | [], [], [], _, h, _ => h
 | _ :: _, _ :: _, _ :: _, _, ⟨p, q, ⟨n, h1⟩, h2, e⟩, hs => ⟨p, q, ⟨n, DataW.trod_carry n _ _ _ h1 fun x hx => hs x (by rw [e]; exact List.mem_append_left _ hx)⟩, trodAll_carry h2 fun x hx => hs x (by rw [e]; exact List.mem_append_right _ hx), e⟩
theorem law_post {f : Func} {s : ChangeSpec} {W W' : World} {args : Array Value} {ds : List (DataW H)} {before : List MemPlace} (K : Kids P (· < P.types.size))
 (full : ∀ t e, t < P.types.size -> P.underlying t = some (.slice e) -> 0 < P.cellsOf e) (hT : ∀ t ∈ f.params.toList, t < P.types.size) (hv : s.vars = [])
 (hW : DataW.Whole enc P f.params.toList s.vars false W args.toList ds [] before) (hA : DataW.TrodAll enc P W 0 (fun _ => true) true f.params.toList args.toList ds before)
 (hfn : s.fn H (ds ++ []) = { results := [.lit (.bool true)], args := ds }) (hr : f.resultTypes = #[4]) (hu : P.underlying 4 = some .bool) (hb : Below W.heap.size W W') :
 s.post enc P f false true false false W args (.bool true) W' := by
 have hlt : ∀ p ∈ before, p.block < W.heap.size := fun p hp => hW.lt p hp
 have hold : ∀ p ∈ before, (fun b => decide (b < W.heap.size)) p.block = true := fun p hp => by simpa using hlt p hp
 have hargs : ∀ sp : Nat -> Bool, (∀ p ∈ before, sp p.block = true) -> DataW.TrodAll enc P W' 0 sp true f.params.toList args.toList (s.fn H (ds ++ [])).args before := by
  intro sp hsp
  rw [hfn]
  exact trodAll_carry (DataW.TrodAll.respare K full hT hA hsp) fun p hp => sameAt_below hb (hlt p hp)
 have hres : ∀ (b : Nat) (sp : Nat -> Bool) (hd : Bool), DataW.TrodAll enc P W' b sp hd f.resultTypes.toList ((Value.bool true).resultList f.resultTypes.size) (s.fn H (ds ++ [])).results [] := by
  intro b sp hd
  rw [hfn, hr]
  exact trodAll_cons_mk (shut_bool hu _) trodAll_mk0
 have hvars : ∀ sp : Nat -> Bool, DataW.TrodVars enc P W' sp s.vars (s.fn H (ds ++ [])).vars [] := by
  intro sp
  rw [hfn, hv]
  rfl
 refine ⟨ds, [], before, [], before, [], hW, hres _ _ _, hargs _ hold, hvars _, World.keptBut_mono (fun p hp => ⟨hp, Or.inr (Or.inl hp)⟩) (hb.frame (· ∈ before)), fun _ => ?_⟩
 obtain ⟨_, _, _, _, _, hz, hn⟩ := hW
 refine ⟨?_, _, _, ([] ++ before) ++ [], ⟨[] ++ before, [], trodAll_append (hargs _ (fun _ _ => rfl)) (hres _ _ _), hvars _, rfl, ?_, ?_⟩, ?_⟩
 · exact ok_one hr rfl (okWide_bool_mk hu _)
 · intro b off hp
   have hin : MemPlace.cell b off ∈ before := by simpa using hp
   rw [hb.frozen (hlt _ hin)]
   exact hz b off hin
 · intro ha
   have := hn ha
   simpa using this
 · intro p hp _
   simpa using hp
end
end Go.Proofs.YtdpjdifoonfcdaaGreatDoor

namespace Go.Proofs.YtdpjdifoonfcdaaGreatDoor
open Go.RowKit Go.WideShapes Go.ChangeShapes Go.Deep Go.Joins
section
variable {H : Type} {enc : TypeId × Value -> H} {P : Program}
theorem reach_all {ts : List TypeId} {ds : List (DataW H)} (h : (DataW.weightsEach P ts ds).all (· <= reachBytes) = true) {j : Nat} {t : TypeId} {d : DataW H} (ht : ts[j]? = some t) (hd : ds[j]? = some d) : ∀ n ∈ d.weights P t, n <= reachBytes := fun n hn => by
 have := List.all_eq_true.1 h _ (DataW.weights_mem_each ht hd n hn)
 simpa using this
end
theorem pow10_data : (Rows.laid_internal_strconv_uint64pow10 : DataW Unit) = Lib.tabData .u64 Lib.pow10Tab := rfl
theorem pow10_global : Tryz.prog.globalNamed "internal/strconv.uint64pow10" = some 3 := by kernel_rfl
theorem pow10_type : (Tryz.prog.globals[3]?).map (·.type) = some 430 := by kernel_rfl
theorem tab_of_laid {W : World} (h : laidMet Tryz.prog [("math/bits.deBruijn32tab", Rows.laid_math_bits_deBruijn32tab), ("math/bits.deBruijn64tab", Rows.laid_math_bits_deBruijn64tab), ("internal/strconv.uint64pow10", Rows.laid_internal_strconv_uint64pow10)] W) : Tab W := by
 obtain ⟨_, ⟨_, _, _, _, _, _, _, _, _, _, ⟨_, _, _, _, _, _, _, _, _, _, ⟨g', t', cs, fuel, p, q, hg', ht', hvar, hd, _, _⟩, _⟩, _⟩, _⟩ := h
 obtain rfl := Option.some.inj (pow10_global.symm.trans hg')
 obtain rfl := Option.some.inj (pow10_type.symm.trans ht')
 unfold Tab Lib.TabIs
 rw [hvar]
 rw [pow10_data] at hd
 rw [<- Lib.cells_of_tab Tryz.underlying430 Tryz.underlying208 (by kernel_rfl) (by kernel_rfl) hd]
end Go.Proofs.YtdpjdifoonfcdaaGreatDoor

namespace Go.Proofs.YtdpjdifoonfcdaaGreatDoor
open Go.RowKit
set_option maxRecDepth 100000 in
theorem negative_any (v : Value) (s : Bool) (n d : Nat) (w : World) (hv : RatV w v s n d) :
 Calls Tryz.prog 163 #[v] w (RatRes (!s && decide (n ≠ 0)) n d w) := by
 obtain ⟨a, c, a2, c2, rfl, h1, h2⟩ := hv.slices
 have hb : Below w.heap.size w ((w.alloc (.cells #[.bool s, .slice a (dig n).length c, .slice a2 (dig d).length c2] 146)).alloc (.cells #[.bool (!s && decide (n ≠ 0)), .slice a (dig n).length c, .slice a2 (dig d).length c2] 146)) := ((Below.refl _ _).alloc (Nat.le_refl _) _).alloc (by simp) _
 have hfin : RatRes (!s && decide (n ≠ 0)) n d w (.returned (.agg #[.bool (!s && decide (n ≠ 0)), .slice a (dig n).length c, .slice a2 (dig d).length c2])) ((w.alloc (.cells #[.bool s, .slice a (dig n).length c, .slice a2 (dig d).length c2] 146)).alloc (.cells #[.bool (!s && decide (n ≠ 0)), .slice a (dig n).length c, .slice a2 (dig d).length c2] 146)) :=
  ⟨⟨_, rfl, _, _, rfl, h1.below hb (Nat.le_refl _), h2.below hb (Nat.le_refl _)⟩, hb⟩
 have hln := dig_len_pos (n := n)
 cases s
 · by_cases h0 : n = 0
   · have e : (!false && decide (n ≠ 0)) = false := by simp [h0]
     rw [e] at hfin ⊢
     have hl : (dig n).length = 0 := hln.2 h0
     have hl2 : decide (0 < (dig n).length) = false := by rw [hl]; rfl
     have HF := Lib.hid hfin
     clear hfin hv h1 h2 hb hln h0 hl e
     generalize (dig n).length = k at *
     go_enter Tryz.func163, Tryz.ntmps163
     go_wp2
     exact bodyPost_ret (v := .agg #[.bool false, .slice a k c, .slice a2 (dig d).length c2]) (by simp [results, Tryz.results163, go_sem]) rfl HF.out
   · have e : (!false && decide (n ≠ 0)) = true := by simp [h0]
     rw [e] at hfin ⊢
     have hl : decide (0 < (dig n).length) = true := by have := mt hln.1 h0; rw [decide_eq_true_iff]; omega
     have HF := Lib.hid hfin
     clear hfin hv h1 h2 hb hln h0 e
     generalize (dig n).length = k at *
     go_enter Tryz.func163, Tryz.ntmps163
     go_wp2
     exact bodyPost_ret (v := .agg #[.bool true, .slice a k c, .slice a2 (dig d).length c2]) (by simp [results, Tryz.results163, go_sem]) rfl HF.out
 · have e : (!true && decide (n ≠ 0)) = false := rfl
   rw [e] at hfin ⊢
   have HF := Lib.hid hfin
   clear hfin hv h1 h2 hb hln e
   go_enter Tryz.func163, Tryz.ntmps163
   go_wp2
   exact bodyPost_ret (v := .agg #[.bool false, .slice a (dig n).length c, .slice a2 (dig d).length c2]) (by simp [results, Tryz.results163, go_sem]) rfl HF.out
def cmpI (s1 : Bool) (n1 d1 : Nat) (s2 : Bool) (n2 d2 : Nat) : Int :=
 if sgI s1 n1 * d2 = sgI s2 n2 * d1 then 0 else if sgI s1 n1 * d2 < sgI s2 n2 * d1 then -1 else 1
theorem neg_sg (s : Bool) (n : Nat) : sgI (!s && decide (n ≠ 0)) n = -sgI s n := by
 unfold sgI
 cases s
 · by_cases h : n = 0 <;> simp [h]
 · simp
theorem cmp_zero {s1 : Bool} {n1 d1 : Nat} {s2 : Bool} {n2 d2 : Nat} (h1 : d1 ≠ 0) (h2 : d2 ≠ 0) :
 (rpN s1 n1 d1 (!s2 && decide (n2 ≠ 0)) n2 d2 = 0 ↔ sgI s1 n1 * d2 = sgI s2 n2 * d1) /\ (rpS s1 n1 d1 (!s2 && decide (n2 ≠ 0)) n2 d2 = true ↔ sgI s1 n1 * d2 < sgI s2 n2 * d1) := by
 have h := rp_red s1 n1 d1 (!s2 && decide (n2 ≠ 0)) n2 d2
 have hd : d1 * d2 ≠ 0 := Nat.mul_ne_zero h1 h2
 have e1 := congrArg (fun t => t.1) h
 have e2 := congrArg (fun t => t.2.1) h
 simp only at e1 e2
 rw [e1, e2, neg_sg, Int.neg_mul]
 obtain ⟨_, _, _, g1, _⟩ := redI_gcd (n := sgI s1 n1 * d2 + -(sgI s2 n2 * d1)) hd
 generalize sgI s1 n1 * (d2 : Int) = x at *
 generalize sgI s2 n2 * (d1 : Int) = y at *
 constructor
 · constructor
   · intro h0
     rw [h0] at g1
     have : sgI (redI (x + -y) (d1 * d2)).1 0 = 0 := by unfold sgI; split <;> rfl
     rw [this] at g1; omega
   · intro h0
     show (x + -y).natAbs / _ = 0
     rw [show x + -y = 0 by omega]; simp
 · show decide (x + -y < 0) = true ↔ _
   rw [decide_eq_true_iff]; omega
theorem three_box {w w0 : World} {B n x y : Nat} {z0 z1 z2 u0 u1 u2 : Value} {v1 v2 : Value} (q0 : w.cell? ⟨B, 0, none⟩ = some z0) (q1 : w.cell? ⟨B, 1, none⟩ = some z1) (q2 : w.cell? ⟨B, 2, none⟩ = some z2) (h0 : NoNum z0) (h1 : NoNum z1) (h2 : NoNum z2)
 (m1 : NatV w v1 x) (m2 : NatV w v2 y) (hb : Below n w0 w) (hB : n <= B) :
 (((w.setCell ⟨B, 0, none⟩ u0).setCell ⟨B, 1, none⟩ u1).setCell ⟨B, 2, none⟩ u2).cell? ⟨B, 0, none⟩ = some u0 /\ (((w.setCell ⟨B, 0, none⟩ u0).setCell ⟨B, 1, none⟩ u1).setCell ⟨B, 2, none⟩ u2).cell? ⟨B, 1, none⟩ = some u1 /\ (((w.setCell ⟨B, 0, none⟩ u0).setCell ⟨B, 1, none⟩ u1).setCell ⟨B, 2, none⟩ u2).cell? ⟨B, 2, none⟩ = some u2 /\
 NatV (((w.setCell ⟨B, 0, none⟩ u0).setCell ⟨B, 1, none⟩ u1).setCell ⟨B, 2, none⟩ u2) v1 x /\ NatV (((w.setCell ⟨B, 0, none⟩ u0).setCell ⟨B, 1, none⟩ u1).setCell ⟨B, 2, none⟩ u2) v2 y /\ Below n w0 (((w.setCell ⟨B, 0, none⟩ u0).setCell ⟨B, 1, none⟩ u1).setCell ⟨B, 2, none⟩ u2) := by
 refine ⟨?_, ?_, ?_, m1.box3 q0 q1 q2 h0 h1 h2, m2.box3 q0 q1 q2 h0 h1 h2, ((hb.setCell hB _).setCell hB _).setCell hB _⟩
 · rw [World.cell?_setCell_other _ _ _ _ (by simp), World.cell?_setCell_other _ _ _ _ (by simp)]; exact World.cell?_setCell_same' _ _ _ (by rw [q0]; rfl)
 · rw [World.cell?_setCell_other _ _ _ _ (by simp)]; exact World.cell?_setCell_same' _ _ _ (by rw [World.cell?_setCell_other _ _ _ _ (by simp), q1]; rfl)
 · exact World.cell?_setCell_same' _ _ _ (by rw [World.cell?_setCell_other _ _ _ _ (by simp), World.cell?_setCell_other _ _ _ _ (by simp), q2]; rfl)
theorem new_box {w w0 : World} {n x y : Nat} {u0 u1 u2 : Value} {v1 v2 : Value} {T : TypeId} (m1 : NatV w v1 x) (m2 : NatV w v2 y) (hb : Below n w0 w) (hB : n <= w.heap.size) :
 (w.alloc (.cells #[u0, u1, u2] T)).cell? ⟨w.heap.size, 0, none⟩ = some u0 /\ (w.alloc (.cells #[u0, u1, u2] T)).cell? ⟨w.heap.size, 1, none⟩ = some u1 /\ (w.alloc (.cells #[u0, u1, u2] T)).cell? ⟨w.heap.size, 2, none⟩ = some u2 /\
 NatV (w.alloc (.cells #[u0, u1, u2] T)) v1 x /\ NatV (w.alloc (.cells #[u0, u1, u2] T)) v2 y /\ Below n w0 (w.alloc (.cells #[u0, u1, u2] T)) := by
 have h := (Below.refl w.heap.size w).alloc (Nat.le_refl _) (.cells #[u0, u1, u2] T)
 exact ⟨(cell_of_row _ _ 0 _ _ _ (heap_alloc_new w _)).trans rfl, (cell_of_row _ _ 1 _ _ _ (heap_alloc_new w _)).trans rfl, (cell_of_row _ _ 2 _ _ _ (heap_alloc_new w _)).trans rfl, m1.below h (Nat.le_refl _), m2.below h (Nat.le_refl _), hb.alloc hB _⟩
set_option maxRecDepth 100000 in
set_option maxHeartbeats 2000000 in
theorem ratCompare_any (v1 v2 : Value) (s1 : Bool) (n1 d1 : Nat) (s2 : Bool) (n2 d2 : Nat) (w : World) (h1 : RatV w v1 s1 n1 d1) (h2 : RatV w v2 s2 n2 d2) (hd1 : d1 ≠ 0) (hd2 : d2 ≠ 0)
 (l1 : (dig n1).length <= 1000000000) (l2 : (dig d1).length <= 1000000000) (l3 : (dig n2).length <= 1000000000) (l4 : (dig d2).length <= 1000000000) :
 Calls Tryz.prog 92 #[v1, v2] w fun e w' => e = .returned (.int .i64 (cmpI s1 n1 d1 s2 n2 d2)) /\ Below w.heap.size w w' := by
 obtain ⟨a1, c1, a2, c2, rfl, k1, k2⟩ := h1.slices
 obtain ⟨b1, e1, b2, e2, rfl, j1, j2⟩ := h2.slices
 have hz := cmp_zero (s1 := s1) (n1 := n1) (s2 := s2) (n2 := n2) hd1 hd2
 obtain ⟨W2, hW2⟩ : ∃ W2, W2 = (w.alloc (.cells #[.bool s1, .slice a1 (dig n1).length c1, .slice a2 (dig d1).length c2] 146)).alloc (.cells #[.bool s2, .slice b1 (dig n2).length e1, .slice b2 (dig d2).length e2] 146) := ⟨_, rfl⟩
 have hal : Below w.heap.size w W2 := by rw [hW2]; exact ((Below.refl _ _).alloc (Nat.le_refl _) _).alloc (by simp) _
 have x0 : W2.cell? ⟨w.heap.size, 0, none⟩ = some (.bool s1) := by rw [hW2]; exact (cell_of_row _ _ 0 _ _ _ (heap_alloc2_old w _ _)).trans rfl
 have x1 : W2.cell? ⟨w.heap.size, 1, none⟩ = some (.slice a1 (dig n1).length c1) := by rw [hW2]; exact (cell_of_row _ _ 1 _ _ _ (heap_alloc2_old w _ _)).trans rfl
 have x2 : W2.cell? ⟨w.heap.size, 2, none⟩ = some (.slice a2 (dig d1).length c2) := by rw [hW2]; exact (cell_of_row _ _ 2 _ _ _ (heap_alloc2_old w _ _)).trans rfl
 have y0 : W2.cell? ⟨w.heap.size + 1, 0, none⟩ = some (.bool s2) := by rw [hW2]; exact (cell_of_row _ _ 0 _ _ _ (heap_alloc2_new w _ _)).trans rfl
 have y1 : W2.cell? ⟨w.heap.size + 1, 1, none⟩ = some (.slice b1 (dig n2).length e1) := by rw [hW2]; exact (cell_of_row _ _ 1 _ _ _ (heap_alloc2_new w _ _)).trans rfl
 have y2 : W2.cell? ⟨w.heap.size + 1, 2, none⟩ = some (.slice b2 (dig d2).length e2) := by rw [hW2]; exact (cell_of_row _ _ 2 _ _ _ (heap_alloc2_new w _ _)).trans rfl
 have HN : Hid (∀ W, Below W2.heap.size W2 W -> Calls Tryz.prog 163 #[.agg #[.bool s2, .slice b1 (dig n2).length e1, .slice b2 (dig d2).length e2]] W (RatRes (!s2 && decide (n2 ≠ 0)) n2 d2 W)) := fun W hb => negative_any _ s2 n2 d2 W ⟨_, _, rfl, (j1.below hal (Nat.le_refl _)).below hb (Nat.le_refl _), (j2.below hal (Nat.le_refl _)).below hb (Nat.le_refl _)⟩
 have HP : Hid (∀ W v, Below W2.heap.size W2 W -> RatV W v (!s2 && decide (n2 ≠ 0)) n2 d2 -> Calls Tryz.prog 162 #[.agg #[.bool s1, .slice a1 (dig n1).length c1, .slice a2 (dig d1).length c2], v] W (RatRes (rpS s1 n1 d1 (!s2 && decide (n2 ≠ 0)) n2 d2) (rpN s1 n1 d1 (!s2 && decide (n2 ≠ 0)) n2 d2) (rpD s1 n1 d1 (!s2 && decide (n2 ≠ 0)) n2 d2) W)) := fun W v hb hv => ratPlus_any _ _ s1 n1 d1 _ n2 d2 W ⟨_, _, rfl, (k1.below hal (Nat.le_refl _)).below hb (Nat.le_refl _), (k2.below hal (Nat.le_refl _)).below hb (Nat.le_refl _)⟩ hv hd1 hd2 l1 l2 l3 l4
 have hc : cmpI s1 n1 d1 s2 n2 d2 = if rpN s1 n1 d1 (!s2 && decide (n2 ≠ 0)) n2 d2 = 0 then 0 else if rpS s1 n1 d1 (!s2 && decide (n2 ≠ 0)) n2 d2 = true then -1 else 1 := by
  unfold cmpI
  simp only [hz.1, hz.2]
 generalize rpN s1 n1 d1 (!s2 && decide (n2 ≠ 0)) n2 d2 = pn at *
 generalize rpS s1 n1 d1 (!s2 && decide (n2 ≠ 0)) n2 d2 = ps at *
 generalize rpD s1 n1 d1 (!s2 && decide (n2 ≠ 0)) n2 d2 = pd at *
 generalize (!s2 && decide (n2 ≠ 0)) = t2 at *
 have HCM := Lib.hid hc
 have HAL := Lib.hid hal; have HW2 := Lib.hid hW2
 clear h1 h2 k1 k2 j1 j2 hd1 hd2 l1 l2 l3 l4 hz hc hal hW2
 go_enter Tryz.func92, Tryz.ntmps92
 go_wp2_with fail
 rw [<- HW2.out]
 have hs2 : W2.heap.size = w.heap.size + 2 := by rw [HW2.out]; simp
 replace hs2 : w.heap.size + 2 <= W2.heap.size := Nat.le_of_eq hs2.symm
 have xd0 : W2.drew.cell? ⟨w.heap.size, 0, none⟩ = some (.bool s1) := x0
 have xd1 : W2.drew.cell? ⟨w.heap.size, 1, none⟩ = some (.slice a1 (dig n1).length c1) := x1
 have xd2 : W2.drew.cell? ⟨w.heap.size, 2, none⟩ = some (.slice a2 (dig d1).length c2) := x2
 have yd0 : W2.drew.cell? ⟨w.heap.size + 1, 0, none⟩ = some (.bool s2) := y0
 have yd1 : W2.drew.cell? ⟨w.heap.size + 1, 1, none⟩ = some (.slice b1 (dig n2).length e1) := y1
 have yd2 : W2.drew.cell? ⟨w.heap.size + 1, 2, none⟩ = some (.slice b2 (dig d2).length e2) := y2
 go_region_held3 (fun w' => w'.cell? ⟨w.heap.size, 0, none⟩ = some (.bool s1) /\ w'.cell? ⟨w.heap.size, 1, none⟩ = some (.slice a1 (dig n1).length c1) /\ w'.cell? ⟨w.heap.size, 2, none⟩ = some (.slice a2 (dig d1).length c2) /\ w'.cell? ⟨w.heap.size + 1, 0, none⟩ = some (.bool s2) /\ w'.cell? ⟨w.heap.size + 1, 1, none⟩ = some (.slice b1 (dig n2).length e1) /\ w'.cell? ⟨w.heap.size + 1, 2, none⟩ = some (.slice b2 (dig d2).length e2))
  (first | with_reducible exact ⟨x0, x1, x2, y0, y1, y2⟩ | with_reducible exact ⟨xd0, xd1, xd2, yd0, yd1, yd2⟩ | with_reducible exact ⟨px0, px1, px2, py0, py1, py2⟩ | with_reducible exact ⟨rx0, rx1, rx2, ry0, ry1, ry2⟩ | (refine ⟨?_, ?_, ?_, ?_, ?_, ?_⟩ <;> (repeat rw [World.cell?_setCell_other _ _ _ _ (by simp <;> omega)]) <;> assumption) | go_keep)
  (first | (go_at_call 163; (with_reducible refine Calls.mono (HN.out W2.drew ((Below.refl W2.heap.size W2).drew)) ?_); rintro e w4 ⟨⟨v4, rfl, h4⟩, hb4⟩; have hbz : Below W2.heap.size W2 w4 := ((Below.refl W2.heap.size W2).drew).trans hb4; have HB4 := Lib.hid hbz; have HV4 := Lib.hid h4; have hs4 : w.heap.size + 2 <= w4.heap.size := Nat.le_trans hs2 hbz.size; have px0 := cell_keep x0 hbz (Nat.le_refl _); have px1 := cell_keep x1 hbz (Nat.le_refl _); have px2 := cell_keep x2 hbz (Nat.le_refl _); have py0 := cell_keep y0 hbz (Nat.le_refl _); have py1 := cell_keep y1 hbz (Nat.le_refl _); have py2 := cell_keep y2 hbz (Nat.le_refl _); clear h4 hb4 hbz) | (go_at_call 163; (with_reducible refine Calls.mono (HN.out ((W2.alloc (.cells #[.bool false, .slice none 0 0, .slice none 0 0] 146)).drew) (((Below.refl W2.heap.size W2).alloc (Nat.le_refl _) _).drew)) ?_); rintro e w4 ⟨⟨v4, rfl, h4⟩, hb4⟩; have hbz : Below W2.heap.size W2 w4 := (((Below.refl W2.heap.size W2).alloc (Nat.le_refl _) _).drew).trans (hb4.mono (by show W2.heap.size <= (W2.alloc _).heap.size; simp)); have HB4 := Lib.hid hbz; have HV4 := Lib.hid h4; have hs4 : w.heap.size + 2 <= w4.heap.size := Nat.le_trans hs2 hbz.size; have px0 := cell_keep x0 hbz (Nat.le_refl _); have px1 := cell_keep x1 hbz (Nat.le_refl _); have px2 := cell_keep x2 hbz (Nat.le_refl _); have py0 := cell_keep y0 hbz (Nat.le_refl _); have py1 := cell_keep y1 hbz (Nat.le_refl _); have py2 := cell_keep y2 hbz (Nat.le_refl _); have HBKA := Lib.hid ((hb4.block W2.heap.size (by show W2.heap.size < (W2.alloc _).heap.size; simp)).trans (heap_alloc_new W2 (.cells #[.bool false, .slice none 0 0, .slice none 0 0] 146))); clear h4 hb4 hbz) | (go_at_call 162; (with_reducible refine Calls.mono (HP.out w4 _ HB4.out HV4.out) ?_); rintro e w5 ⟨⟨v5, rfl, h5⟩, hb5⟩; have hbz : Below W2.heap.size W2 w5 := HB4.out.trans (hb5.mono HB4.out.size); have HB5 := Lib.hid hbz; have hs5 : w.heap.size + 2 <= w5.heap.size := Nat.le_trans hs2 hbz.size; obtain ⟨g1, i1, g2, i2, rfl, m1, m2⟩ := h5.slices; have M1 := Lib.hid m1; have M2 := Lib.hid m2; have rx0 := cell_keep x0 hbz (Nat.le_refl _); have rx1 := cell_keep x1 hbz (Nat.le_refl _); have rx2 := cell_keep x2 hbz (Nat.le_refl _); have ry0 := cell_keep y0 hbz (Nat.le_refl _); have ry1 := cell_keep y1 hbz (Nat.le_refl _); have ry2 := cell_keep y2 hbz (Nat.le_refl _); have hbk5 := (hb5.block W2.heap.size (Array.getElem?_eq_some_iff.1 HBKA.out).1).trans HBKA.out; have z0 := (cell_of_row w5 _ 0 _ _ _ hbk5).trans rfl; have z1 := (cell_of_row w5 _ 1 _ _ _ hbk5).trans rfl; have z2 := (cell_of_row w5 _ 2 _ _ _ hbk5).trans rfl; have zf0 := frozen_of_row w5 _ 0 _ _ hbk5; have zf1 := frozen_of_row w5 _ 1 _ _ hbk5; have zf2 := frozen_of_row w5 _ 2 _ _ hbk5; clear hbk5; clear h5 hb5 hbz m1 m2) | (go_at_call 162; (with_reducible refine Calls.mono (HP.out w4 _ HB4.out HV4.out) ?_); rintro e w5 ⟨⟨v5, rfl, h5⟩, hb5⟩; have hbz : Below W2.heap.size W2 w5 := HB4.out.trans (hb5.mono HB4.out.size); have HB5 := Lib.hid hbz; have hs5 : w.heap.size + 2 <= w5.heap.size := Nat.le_trans hs2 hbz.size; obtain ⟨g1, i1, g2, i2, rfl, m1, m2⟩ := h5.slices; have M1 := Lib.hid m1; have M2 := Lib.hid m2; have rx0 := cell_keep x0 hbz (Nat.le_refl _); have rx1 := cell_keep x1 hbz (Nat.le_refl _); have rx2 := cell_keep x2 hbz (Nat.le_refl _); have ry0 := cell_keep y0 hbz (Nat.le_refl _); have ry1 := cell_keep y1 hbz (Nat.le_refl _); have ry2 := cell_keep y2 hbz (Nat.le_refl _); clear h5 hb5 hbz m1 m2) | (go_at_call 162; (with_reducible refine Calls.mono (HP.out (w4.alloc (.cells #[.bool false, .slice none 0 0, .slice none 0 0] 146)) _ (HB4.out.alloc HB4.out.size _) (HV4.out.below ((Below.refl w4.heap.size w4).alloc (Nat.le_refl _) _) (Nat.le_refl _))) ?_); rintro e w5 ⟨⟨v5, rfl, h5⟩, hb5⟩; have hbz : Below W2.heap.size W2 w5 := (HB4.out.alloc HB4.out.size _).trans (hb5.mono (by have := HB4.out.size; simp; omega)); have HB5 := Lib.hid hbz; have hs5 : w.heap.size + 2 <= w5.heap.size := Nat.le_trans hs2 hbz.size; obtain ⟨g1, i1, g2, i2, rfl, m1, m2⟩ := h5.slices; have M1 := Lib.hid m1; have M2 := Lib.hid m2; have rx0 := cell_keep x0 hbz (Nat.le_refl _); have rx1 := cell_keep x1 hbz (Nat.le_refl _); have rx2 := cell_keep x2 hbz (Nat.le_refl _); have ry0 := cell_keep y0 hbz (Nat.le_refl _); have ry1 := cell_keep y1 hbz (Nat.le_refl _); have ry2 := cell_keep y2 hbz (Nat.le_refl _); have hbk5 := (hb5.block w4.heap.size (by simp)).trans (heap_alloc_new w4 (.cells #[.bool false, .slice none 0 0, .slice none 0 0] 146)); have z0 := (cell_of_row w5 _ 0 _ _ _ hbk5).trans rfl; have z1 := (cell_of_row w5 _ 1 _ _ _ hbk5).trans rfl; have z2 := (cell_of_row w5 _ 2 _ _ _ hbk5).trans rfl; have zf0 := frozen_of_row w5 _ 0 _ _ hbk5; have zf1 := frozen_of_row w5 _ 1 _ _ hbk5; have zf2 := frozen_of_row w5 _ 2 _ _ hbk5; clear hbk5; clear h5 hb5 hbz m1 m2))
 all_goals (have hbw := HAL.out.trans (HB5.out.mono (by omega)))
 all_goals (first
  | (revert z0; intro z0; obtain ⟨q0, q1, q2, n1', n2', hbF⟩ := three_box (u0 := .bool ps) (u1 := .slice g1 (dig pn).length i1) (u2 := .slice g2 (dig pd).length i2) z0 z1 z2 trivial trivial trivial M1.out M2.out hbw (by omega))
  | (obtain ⟨q0, q1, q2, n1', n2', hbF⟩ := new_box (T := 146) (u0 := .bool ps) (u1 := .slice g1 (dig pn).length i1) (u2 := .slice g2 (dig pd).length i2) M1.out M2.out hbw (by omega)))
 all_goals
  have NN1 := Lib.hid n1'; have NN2 := Lib.hid n2'
  clear n1' n2'
  go_wp2_with fail
  refine (zero_any _ ps pn pd _ ⟨_, _, rfl, NN1.out, NN2.out⟩).mono ?_
  rintro e w6 ⟨rfl, hb6⟩
  have q6 := cell_keep q0 hb6 (Nat.le_refl _)
  have hbz := hbF.trans (hb6.mono hbF.size)
  clear q0 q1 q2 hbF hb6
  by_cases hp : pn = 0
  · have hd : decide (pn = 0) = true := by simpa using hp
    have HH : Hid (cmpI s1 n1 d1 s2 n2 d2 = 0) := by rw [HCM.out, if_pos hp]; exact Lib.hid rfl
    rw [hd]
    clear hp hd
    go_wp2
    go_ret
    exact ⟨by rw [HH.out]; rfl, hbz⟩
  · have hd : decide (pn = 0) = false := by simpa using hp
    rw [hd]
    cases ps
    · have HH : Hid (cmpI s1 n1 d1 s2 n2 d2 = 1) := by rw [HCM.out, if_neg hp, if_neg (by simp)]; exact Lib.hid rfl
      clear hp hd
      go_wp2
      go_ret
      exact ⟨by rw [HH.out]; rfl, hbz⟩
    · have HH : Hid (cmpI s1 n1 d1 s2 n2 d2 = -1) := by rw [HCM.out, if_neg hp, if_pos rfl]; exact Lib.hid rfl
      clear hp hd
      go_wp2
      go_ret
      exact ⟨by rw [HH.out]; rfl, hbz⟩
end Go.Proofs.YtdpjdifoonfcdaaGreatDoor

namespace Go.Proofs.YtdpjdifoonfcdaaGreatDoor
open Go.RowKit
set_option maxRecDepth 100000 in
set_option maxHeartbeats 2000000 in
theorem reals1_any (s : Bool) (n d : Nat) (a1 a2 a3 a4 : Option Addr) (c1 c2 c3 c4 : Nat) (w : World) (hv : ValV w (.agg #[.bool s, .slice a1 (dig n).length c1, .slice a2 (dig d).length c2, .bool false, .slice a3 (dig 0).length c3, .slice a4 (dig 1).length c4]) s n d false 0 1) :
 Calls Tryz.prog 160 #[.agg #[.bool s, .slice a1 (dig n).length c1, .slice a2 (dig d).length c2, .bool false, .slice a3 (dig 0).length c3, .slice a4 (dig 1).length c4]] w fun e w' => e = .returned (.tuple #[.agg #[.bool s, .slice a1 (dig n).length c1, .slice a2 (dig d).length c2], .bool true]) /\ Below w.heap.size w w' := by
 obtain ⟨W2, hW2⟩ : ∃ W2, W2 = (w.alloc (.cells #[.bool s, .slice a1 (dig n).length c1, .slice a2 (dig d).length c2, .bool false, .slice a3 (dig 0).length c3, .slice a4 (dig 1).length c4] 148)).alloc (.cells #[.bool false, .slice none 0 0, .slice none 0 0] 146) := ⟨_, rfl⟩
 have hal : Below w.heap.size w W2 := by rw [hW2]; exact ((Below.refl _ _).alloc (Nat.le_refl _) _).alloc (by simp) _
 have hs2 : w.heap.size + 2 <= W2.heap.size := by rw [hW2]; simp
 have b1 : W2.heap[w.heap.size]? = some (.cells #[.bool s, .slice a1 (dig n).length c1, .slice a2 (dig d).length c2, .bool false, .slice a3 (dig 0).length c3, .slice a4 (dig 1).length c4] 148 (0, 0)) := by rw [hW2]; exact heap_alloc2_old w _ _
 have b2 : W2.heap[w.heap.size + 1]? = some (.cells #[.bool false, .slice none 0 0, .slice none 0 0] 146 (0, 0)) := by rw [hW2]; exact heap_alloc2_new w _ _
 have x0 := (cell_of_row W2 _ 0 _ _ _ b1).trans rfl
 have x1 := (cell_of_row W2 _ 1 _ _ _ b1).trans rfl
 have x2 := (cell_of_row W2 _ 2 _ _ _ b1).trans rfl
 have x3 := (cell_of_row W2 _ 3 _ _ _ b1).trans rfl
 have x4 := (cell_of_row W2 _ 4 _ _ _ b1).trans rfl
 have x5 := (cell_of_row W2 _ 5 _ _ _ b1).trans rfl
 have hi := isReal_any _ s false n d 0 1 W2.drew (hv.below (hal.drew) (Nat.le_refl _))
 rw [decide_eq_true (show (0 : Nat) = 0 from rfl)] at hi
 have HI := Lib.hid hi; have HAL := Lib.hid hal; have HW2 := Lib.hid hW2; have HB2 := Lib.hid b2
 clear hi hal hW2 hv b1 b2
 generalize (dig n).length = kn at *
 generalize (dig d).length = kd at *
 generalize (dig 0).length = k0 at *
 generalize (dig 1).length = k1 at *
 go_enter Tryz.func160, Tryz.ntmps160
 go_wp2_with fail
 rw [<- HW2.out]
 have xd0 : W2.drew.cell? ⟨w.heap.size, 0, none⟩ = some (.bool s) := x0
 have xd1 : W2.drew.cell? ⟨w.heap.size, 1, none⟩ = some (.slice a1 kn c1) := x1
 have xd2 : W2.drew.cell? ⟨w.heap.size, 2, none⟩ = some (.slice a2 kd c2) := x2
 have xd3 : W2.drew.cell? ⟨w.heap.size, 3, none⟩ = some (.bool false) := x3
 have xd4 : W2.drew.cell? ⟨w.heap.size, 4, none⟩ = some (.slice a3 k0 c3) := x4
 have xd5 : W2.drew.cell? ⟨w.heap.size, 5, none⟩ = some (.slice a4 k1 c4) := x5
 go_region_held3 (fun w' => w'.cell? ⟨w.heap.size, 0, none⟩ = some (.bool s) /\ w'.cell? ⟨w.heap.size, 1, none⟩ = some (.slice a1 kn c1) /\ w'.cell? ⟨w.heap.size, 2, none⟩ = some (.slice a2 kd c2) /\ w'.cell? ⟨w.heap.size, 3, none⟩ = some (.bool false) /\ w'.cell? ⟨w.heap.size, 4, none⟩ = some (.slice a3 k0 c3) /\ w'.cell? ⟨w.heap.size, 5, none⟩ = some (.slice a4 k1 c4))
  (first | with_reducible exact ⟨x0, x1, x2, x3, x4, x5⟩ | with_reducible exact ⟨xd0, xd1, xd2, xd3, xd4, xd5⟩ | with_reducible exact ⟨px0, px1, px2, px3, px4, px5⟩ | (refine ⟨?_, ?_, ?_, ?_, ?_, ?_⟩ <;> (repeat rw [World.cell?_setCell_other _ _ _ _ (by simp <;> omega)]) <;> assumption) | go_keep)
  (first | (go_at_call 161; (with_reducible refine Calls.mono HI.out ?_); rintro e w4 ⟨rfl, hb4⟩; have hbz : Below W2.heap.size W2 w4 := ((Below.refl W2.heap.size W2).drew).trans hb4; have HB4 := Lib.hid hbz; have px0 := cell_keep x0 hbz (Nat.le_refl _); have px1 := cell_keep x1 hbz (Nat.le_refl _); have px2 := cell_keep x2 hbz (Nat.le_refl _); have px3 := cell_keep x3 hbz (Nat.le_refl _); have px4 := cell_keep x4 hbz (Nat.le_refl _); have px5 := cell_keep x5 hbz (Nat.le_refl _); have hbk5 := (hbz.block (w.heap.size + 1) (by omega)).trans HB2.out; have z0 := (cell_of_row w4 _ 0 _ _ _ hbk5).trans rfl; have z1 := (cell_of_row w4 _ 1 _ _ _ hbk5).trans rfl; have z2 := (cell_of_row w4 _ 2 _ _ _ hbk5).trans rfl; have zf0 := frozen_of_row w4 _ 0 _ _ hbk5; have zf1 := frozen_of_row w4 _ 1 _ _ hbk5; have zf2 := frozen_of_row w4 _ 2 _ _ hbk5; clear hbk5 hb4 hbz))
 all_goals
  have hbw := HAL.out.trans (HB4.out.mono (by omega))
  have hle : w.heap.size <= w.heap.size + 1 := by omega
  go_wp2
  refine bodyPost_ret (v := .tuple #[.agg #[.bool s, .slice a1 kn c1, .slice a2 kd c2], .bool true]) (by simp [results, Tryz.results160, go_sem, z0, z1, z2]) rfl ?_
  exact ⟨rfl, ((hbw.setCell hle _).setCell hle _).setCell hle _⟩
end Go.Proofs.YtdpjdifoonfcdaaGreatDoor

namespace Go.Proofs.YtdpjdifoonfcdaaGreatDoor
open Go.RowKit
theorem Tryz.infoRat : (Tryz.prog.info? 146).map (fun i => (i.zero, i.size, i.bytes)) = some (some (.agg #[.bool false, .slice none 0 0, .slice none 0 0]), 3, 56) := by kernel_rfl
def row3 (cs : List (List Value)) : List Value := (cs.map (·.take 3)).flatten
theorem row3_snoc (cs : List (List Value)) (c : List Value) : row3 (cs ++ [c]) = row3 cs ++ c.take 3 := by simp [row3]
theorem row3_get {cs : List (List Value)} (h : ∀ c ∈ cs, c.length = 6) {k j : Nat} {c : List Value} {u : Value} (hk : cs[k]? = some c) (hj : c[j]? = some u) (h3 : j < 3) : (row3 cs)[k * 3 + j]? = some u := by
 unfold row3
 induction cs generalizing k with
 | nil => simp at hk
 | cons d r ih =>
   have hd : (d.take 3).length = 3 := by rw [List.length_take, h d (by simp)]; rfl
   cases k with
   | zero =>
     simp at hk; subst hk
     rw [Nat.zero_mul, Nat.zero_add, List.map_cons, List.flatten_cons, List.getElem?_append_left (by rw [hd]; exact h3), List.getElem?_take, if_pos h3]
     exact hj
   | succ k =>
     rw [List.map_cons, List.flatten_cons, List.getElem?_append_right (by rw [hd]; omega), hd, show (k + 1) * 3 + j - 3 = k * 3 + j by omega]
     exact ih (fun x hx => h x (by simp [hx])) (by simpa using hk)
set_option maxRecDepth 100000 in
set_option maxHeartbeats 2000000 in
theorem all_real (ao : Option Addr) (cs : List (List Value)) (l : List (Bool × Nat × Nat)) (cap : Nat) (w : World) (hc : Cells w ao cs.flatten) (hnr : NRow w cs l) (hl : l.length <= 4096) :
 Calls Tryz.prog 159 #[.slice ao l.length cap, .func (.func 160) #[] #[]] w fun e w' => (∃ a c, e = .returned (.tuple #[.slice a l.length c, .bool true]) /\ Cells w' a (row3 cs)) /\ Below w.heap.size w w' := by
 obtain ⟨i0, hi, hz0, hz1, hz2⟩ := info_parts Tryz.infoRat
 have h6 := hnr.six
 have HC := Lib.hid hc; have HNR := Lib.hid hnr; have H6 := Lib.hid h6
 clear hc hnr h6
 go_enter Tryz.func159, Tryz.ntmps159
 go_wp2_with fail
 go_loopw [6, 13] (fun ov iv wr => ∃ k : Nat, k <= l.length /\ iv = .int .i64 k /\ wr.ownsRow w.heap.size 146 3 ov k (row3 (cs.take k)) /\ Below w.heap.size w wr) (fun _ iv _ => l.length - (intOf iv).toNat)
 case atStart => exact ⟨0, Nat.zero_le _, rfl, World.ownsRow_nil _ _ _ _, Below.refl _ _⟩
 case round =>
  obtain ⟨k, hk, rfl, hown, hb⟩ := hrel
  have hsz := hb.size
  by_cases hlt : k < l.length
  · obtain ⟨t, ht⟩ := get_of_lt hlt
    obtain ⟨te, htc⟩ := get_of_lt (show k < cs.length by rw [HNR.out.1]; exact hlt)
    have hnce := (HNR.out.2 k te t htc ht).below hb (Nat.le_refl _)
    obtain ⟨se, ne, de⟩ := t
    have hev : ValV wr (.agg te.toArray) se ne de false 0 1 := by
     obtain ⟨b1, d1, b2, d2, b3, d3, b4, d4, rfl, j1, j2, j3, j4⟩ := hnce
     exact ⟨_, _, _, _, rfl, j1, j2, j3, j4⟩
    obtain ⟨a1, c1, a2, c2, a3, c3, a4, c4, rfl, j1, j2, j3, j4⟩ := hnce
    simp only at hev
    have hfl := HNR.out.flat_len
    obtain ⟨ba, offa, rfl⟩ := HC.out.addr (by intro h; rw [h] at hfl; simp at hfl; omega)
    have x0 : wr.cell? ⟨ba, offa + k * 6, none⟩ = some (.bool se) := by have := HC.out.at (flat_get H6.out htc (j := 0) rfl); have := cell_keep this hb (Nat.le_refl _); rwa [<- Nat.add_assoc] at this
    have x1 : wr.cell? ⟨ba, offa + k * 6 + 1, none⟩ = some (.slice a1 (dig ne).length c1) := by have := HC.out.at (flat_get H6.out htc (j := 1) rfl); have := cell_keep this hb (Nat.le_refl _); rwa [<- Nat.add_assoc] at this
    have x2 : wr.cell? ⟨ba, offa + k * 6 + 2, none⟩ = some (.slice a2 (dig de).length c2) := by have := HC.out.at (flat_get H6.out htc (j := 2) rfl); have := cell_keep this hb (Nat.le_refl _); rwa [<- Nat.add_assoc] at this
    have x3 : wr.cell? ⟨ba, offa + k * 6 + 3, none⟩ = some (.bool false) := by have := HC.out.at (flat_get H6.out htc (j := 3) rfl); have := cell_keep this hb (Nat.le_refl _); rwa [<- Nat.add_assoc] at this
    have x4 : wr.cell? ⟨ba, offa + k * 6 + 4, none⟩ = some (.slice a3 (dig 0).length c3) := by have := HC.out.at (flat_get H6.out htc (j := 4) rfl); have := cell_keep this hb (Nat.le_refl _); rwa [<- Nat.add_assoc] at this
    have x5 : wr.cell? ⟨ba, offa + k * 6 + 5, none⟩ = some (.slice a4 (dig 1).length c4) := by have := HC.out.at (flat_get H6.out htc (j := 5) rfl); have := cell_keep this hb (Nat.le_refl _); rwa [<- Nat.add_assoc] at this
    have hr := fun W (hbW : Below wr.heap.size wr W) => reals1_any se ne de a1 a2 a3 a4 c1 c2 c3 c4 W (hev.below hbW (Nat.le_refl _))
    have e1 : row3 (cs.take (k + 1)) = row3 (cs.take k) ++ [.bool se, .slice a1 (dig ne).length c1, .slice a2 (dig de).length c2] := by rw [take_get htc, row3_snoc]; rfl
    have HR := Lib.hid hr; have E1 := Lib.hid e1
    clear hr e1 ht htc hev j1 j2 j3 j4 hfl
    generalize (dig ne).length = kn at *
    generalize (dig de).length = kd at *
    generalize (dig 0).length = k0 at *
    generalize (dig 1).length = k1 at *
    have j0 : (k : Int) < l.length := by omega
    have HOB : Hid (∀ j, u6.ownBlock = some j -> w.heap.size <= j) := fun j e => (hown.lt j e).1
    go_wp2_with fail
    refine (HR.out _ ((Below.refl _ _).alloc (Nat.le_refl _) _)).mono ?_
    rintro e w5 ⟨rfl, hb5⟩
    have hbx : Below wr.heap.size wr w5 := ((Below.refl _ _).alloc (Nat.le_refl _) _).trans (hb5.mono (by simp))
    have hown5 := own_belowK hown hbx (Nat.le_refl _)
    have hs5 := hbx.size
    clear x0 x1 x2 x3 x4 x5 hb5
    go_wp2_with (at_builtin; refine wpList_append_own _ rfl _ _ 188 rfl w.heap.size 146 i0 (.agg #[.bool false, .slice none 0 0, .slice none 0 0]) 3 56 Tryz.underlying188 hi hz0 hz1 hz2 rfl (by decide) _ _ _ rfl ((hown5.alloc _).alloc _) ⟨w5.heap.size + 1, 0, none⟩ 1 1 [.bool se, .slice a1 kn c1, .slice a2 kd c2] rfl rfl (World.news_of_block (cs := #[Value.bool se, .slice a1 kn c1, .slice a2 kd c2]) (t := 146) (fr := (0, 0)) (heap_alloc2_new w5 _ _)) (by simp [Value.oneCell']) (by unfold maxLen; omega) (by omega) (by simp; omega) ?_; intro v1 wz hown1 hgrow _)
    have hbz := (((hb.trans (hbx.mono hsz)).alloc (by omega) (.cells #[Value.bool se, .slice a1 kn c1, .slice a2 kd c2] 146)).alloc (by simp; omega) (.cells #[Value.bool se, .slice a1 kn c1, .slice a2 kd c2] 146)).grown hgrow (by simp; omega) HOB.out
    rw [<- E1.out] at hown1
    have HFIN := Lib.hid hown1
    clear hown1 hgrow hown hown5
    obtain ⟨gg, cp, rfl⟩ := own_succ HFIN.out
    go_wp2
    go_roundw
    case rel => exact ⟨k + 1, by omega, by go_num, HFIN.out, hbz⟩
    case measure => simp [intOf]; omega
  · obtain rfl : k = l.length := by omega
    rw [List.take_of_length_le (by rw [HNR.out.1]; omega)] at hown
    obtain ⟨g, c, rfl, hcs⟩ := own_cells hown
    have HCS := Lib.hid hcs
    clear hcs hown
    go_wp2
    go_ret2
    exact ⟨⟨g, c, rfl, HCS.out⟩, hb⟩
def RealsRes (ss : List ByteArray) (w : World) (e : Ending) (w' : World) : Prop :=
 (match getL ss with
  | none => e = .returned (.tuple #[.slice none 0 0, .int .i64 10])
  | some l => ∃ a c cs, e = .returned (.tuple #[.slice a l.length c, .int .i64 0]) /\ Cells w' a (row3 cs) /\ NRow w' cs l) /\ Below w.heap.size w w'
theorem realsRes_none {ss : List ByteArray} {w w' : World} (h : getL ss = none) (hb : Below w.heap.size w w') : RealsRes ss w (.returned (.tuple #[.slice none 0 0, .int .i64 10])) w' := ⟨by rw [h], hb⟩
theorem realsRes_some {ss : List ByteArray} {w w' : World} {l : List (Bool × Nat × Nat)} {a : Option Addr} {c k : Nat} {cs : List (List Value)} (h : getL ss = some l) (hk : k = l.length) (h1 : Cells w' a (row3 cs)) (h2 : NRow w' cs l) (hb : Below w.heap.size w w') : RealsRes ss w (.returned (.tuple #[.slice a k c, .int .i64 0])) w' := ⟨by subst hk; rw [h]; exact ⟨a, c, cs, rfl, h1, h2⟩, hb⟩
set_option maxRecDepth 100000 in
theorem reals_any (ao : Option Addr) (ss : List ByteArray) (cap : Nat) (w : World) (ht : Tab w) (hc : Cells w ao (ss.map Value.string)) (hl : ss.length <= 4096) (hs : ∀ s ∈ ss, s.size <= 1099511627776 /\ Lib.hasSuffix s.data.toList [105] = false) :
 Calls Tryz.prog 91 #[.slice ao ss.length cap] w (RealsRes ss w) := by
 have hall := all_get ao ss cap w ht hc (by omega) hs
 have HALL := Lib.hid hall
 clear hall ht hc hs
 go_enter Tryz.func91, Tryz.ntmps91
 go_wp2_with fail
 refine HALL.out.mono ?_
 rintro e w1 ⟨hm, hb1⟩
 rcases hgl : getL ss with _ | l
 · rw [hgl] at hm
   subst hm
   have HGL := Lib.hid hgl
   clear hgl
   go_wp2
   go_ret2
   exact realsRes_none HGL.out hb1
 · rw [hgl] at hm
   obtain ⟨a, c, cs, rfl, hcc, hnr⟩ := hm
   have hlen := getL_len hgl
   have hr := all_real a cs l c w1 hcc hnr (by omega)
   have HR := Lib.hid hr; have HNR := Lib.hid hnr; have HGL := Lib.hid hgl
   clear hr hnr hcc hgl hlen
   go_wp2_with fail
   refine HR.out.mono ?_
   rintro e w2 ⟨⟨a2, c2, rfl, hc2⟩, hb2⟩
   have HC2 := Lib.hid hc2; have HN2 := Lib.hid (HNR.out.below hb2 (Nat.le_refl _))
   clear hc2
   go_wp2
   go_ret2
   exact realsRes_some HGL.out rfl HC2.out HN2.out (hb1.trans (hb2.mono hb1.size))
end Go.Proofs.YtdpjdifoonfcdaaGreatDoor

namespace Go.Proofs.YtdpjdifoonfcdaaGreatDoor
open Go.RowKit
def cmpE (a b : ByteArray) : Int := match getR a with | none => 10 | some _ => match getR b with | none => 10 | some _ => 0
def cmpV (a b : ByteArray) : Int := match getR a with | none => 0 | some x => match getR b with | none => 0 | some y => cmpI x.1 x.2.1 x.2.2 y.1 y.2.1 y.2.2
theorem cmp_none {a b : ByteArray} (h : getL [a, b] = none) : cmpE a b = 10 /\ cmpV a b = 0 := by
 simp only [getL] at h
 unfold cmpE cmpV
 cases ha : getR a with
 | none => exact ⟨rfl, rfl⟩
 | some x =>
   cases hb : getR b with
   | none => exact ⟨rfl, rfl⟩
   | some y => simp [ha, hb] at h
theorem cmp_some {a b : ByteArray} {l : List (Bool × Nat × Nat)} (h : getL [a, b] = some l) : ∃ x y, l = [x, y] /\ cmpE a b = 0 /\ cmpV a b = cmpI x.1 x.2.1 x.2.2 y.1 y.2.1 y.2.2 := by
 simp only [getL] at h
 unfold cmpE cmpV
 cases ha : getR a with
 | none => simp [ha] at h
 | some x =>
   cases hb : getR b with
   | none => simp [ha, hb] at h
   | some y =>
     simp only [ha, hb, Option.some.injEq] at h
     exact ⟨x, y, h.symm, rfl, rfl⟩
set_option maxRecDepth 100000 in
set_option maxHeartbeats 2000000 in
theorem cmp_any (a b : ByteArray) (w : World) (ht : Tab w) (ha : a.size <= 1099511627776 /\ Lib.hasSuffix a.data.toList [105] = false) (hb : b.size <= 1099511627776 /\ Lib.hasSuffix b.data.toList [105] = false) :
 Calls Tryz.prog 32 #[.string a, .string b] w fun e w' => e = .returned (.tuple #[.int .i64 (cmpV a b), .int .i64 (cmpE a b)]) /\ Below w.heap.size w w' := by
 have hB0 : Below w.heap.size w (w.alloc (.cells #[.string a, .string b] 34)) := (Below.refl _ _).alloc (Nat.le_refl _) _
 have hr := reals_any (some ⟨w.heap.size, 0, none⟩) [a, b] 2 (w.alloc (.cells #[.string a, .string b] 34)) (ht.below hB0 (Nat.le_refl _)) (.inr ⟨w.heap.size, 0, rfl, fun j u hu => by
  rw [cell_of_row _ _ _ _ _ _ (heap_alloc_new w _), Nat.zero_add]; simpa using hu⟩) (by simp) (by simp [ha, hb])
 have HR : Hid (Calls Tryz.prog 91 #[.slice (some ⟨w.heap.size, 0, none⟩) 2 2] (w.alloc (.cells #[.string a, .string b] 34)) (RealsRes [a, b] (w.alloc (.cells #[.string a, .string b] 34)))) := Lib.hid hr
 have HB0 := Lib.hid hB0
 clear hr ha hb ht hB0
 go_enter Tryz.func32, Tryz.ntmps32
 go_wp2_with fail
 refine HR.out.mono ?_
 rintro e w1 ⟨hm, hb1⟩
 have hbw := HB0.out.trans (hb1.mono HB0.out.size)
 clear hb1
 rcases hgl : getL [a, b] with _ | l
 · rw [hgl] at hm
   subst hm
   have HE := Lib.hid (cmp_none hgl)
   clear hgl
   go_wp2
   go_ret2
   exact ⟨by rw [HE.out.1, HE.out.2]; rfl, hbw⟩
 · rw [hgl] at hm
   obtain ⟨ar, cr, cs, rfl, hc, hnr⟩ := hm
   obtain ⟨x, y, rfl, he, hv⟩ := cmp_some hgl
   have hsh := getL_short hgl
   obtain ⟨s1, n1, d1⟩ := x
   obtain ⟨s2, n2, d2⟩ := y
   obtain ⟨l1, l2, z1⟩ := hsh (s1, n1, d1) (by simp)
   obtain ⟨l3, l4, z2⟩ := hsh (s2, n2, d2) (by simp)
   simp only at l1 l2 z1 l3 l4 z2 hv
   have h6 := hnr.six
   have hlen : cs.length = 2 := hnr.1
   obtain ⟨te, htc⟩ := get_of_lt (show 0 < cs.length by omega)
   obtain ⟨tf, htd⟩ := get_of_lt (show 1 < cs.length by omega)
   obtain ⟨p1, g1, p2, g2, p3, g3, p4, g4, rfl, j1, j2, _, _⟩ := hnr.2 0 te _ htc rfl
   obtain ⟨r1, i1, r2, i2, r3, i3, r4, i4, rfl, k1, k2, _, _⟩ := hnr.2 1 tf _ htd rfl
   simp only at htc htd j1 j2 k1 k2
   have hne : row3 cs ≠ [] := by intro h; have := row3_get h6 htc (j := 0) rfl (by omega); rw [h] at this; simp at this
   obtain ⟨bb, of, rfl⟩ := hc.addr hne
   have x0 : w1.cell? ⟨bb, of, none⟩ = some (.bool s1) := hc.at (row3_get h6 htc (j := 0) rfl (by omega))
   have x1 : w1.cell? ⟨bb, of + 1, none⟩ = some (.slice p1 (dig n1).length g1) := hc.at (row3_get h6 htc (j := 1) rfl (by omega))
   have x2 : w1.cell? ⟨bb, of + 2, none⟩ = some (.slice p2 (dig d1).length g2) := hc.at (row3_get h6 htc (j := 2) rfl (by omega))
   have y0 : w1.cell? ⟨bb, of + 3, none⟩ = some (.bool s2) := hc.at (row3_get h6 htd (j := 0) rfl (by omega))
   have y1 : w1.cell? ⟨bb, of + 3 + 1, none⟩ = some (.slice r1 (dig n2).length i1) := hc.at (row3_get h6 htd (j := 1) rfl (by omega))
   have y2 : w1.cell? ⟨bb, of + 3 + 2, none⟩ = some (.slice r2 (dig d2).length i2) := hc.at (row3_get h6 htd (j := 2) rfl (by omega))
   have hd0 : Below w1.heap.size w1 w1.drew := (Below.refl w1.heap.size w1).drew
   have hcm := ratCompare_any _ _ s1 n1 d1 s2 n2 d2 w1.drew ⟨_, _, rfl, j1.below hd0 (Nat.le_refl _), j2.below hd0 (Nat.le_refl _)⟩ ⟨_, _, rfl, k1.below hd0 (Nat.le_refl _), k2.below hd0 (Nat.le_refl _)⟩ z1 z2 (by omega) (by omega) (by omega) (by omega)
   rw [<- hv] at hcm
   have HCM := Lib.hid hcm; have HE := Lib.hid he
   clear hcm he hv hgl hc hnr h6 hlen htc htd j1 j2 k1 k2 hne l1 l2 l3 l4 z1 z2 hsh
   have xd0 : w1.drew.cell? ⟨bb, of, none⟩ = some (.bool s1) := x0
   have xd1 : w1.drew.cell? ⟨bb, of + 1, none⟩ = some (.slice p1 (dig n1).length g1) := x1
   have xd2 : w1.drew.cell? ⟨bb, of + 2, none⟩ = some (.slice p2 (dig d1).length g2) := x2
   have yd0 : w1.drew.cell? ⟨bb, of + 3, none⟩ = some (.bool s2) := y0
   have yd1 : w1.drew.cell? ⟨bb, of + 3 + 1, none⟩ = some (.slice r1 (dig n2).length i1) := y1
   have yd2 : w1.drew.cell? ⟨bb, of + 3 + 2, none⟩ = some (.slice r2 (dig d2).length i2) := y2
   generalize (dig n1).length = kn1 at *
   generalize (dig d1).length = kd1 at *
   generalize (dig n2).length = kn2 at *
   generalize (dig d2).length = kd2 at *
   go_wp2_with fail
   go_region_held3 (fun w' => w'.cell? ⟨bb, of, none⟩ = some (.bool s1) /\ w'.cell? ⟨bb, of + 1, none⟩ = some (.slice p1 kn1 g1) /\ w'.cell? ⟨bb, of + 2, none⟩ = some (.slice p2 kd1 g2) /\ w'.cell? ⟨bb, of + 3, none⟩ = some (.bool s2) /\ w'.cell? ⟨bb, of + 3 + 1, none⟩ = some (.slice r1 kn2 i1) /\ w'.cell? ⟨bb, of + 3 + 2, none⟩ = some (.slice r2 kd2 i2))
    (first | with_reducible exact ⟨x0, x1, x2, y0, y1, y2⟩ | with_reducible exact ⟨xd0, xd1, xd2, yd0, yd1, yd2⟩ | with_reducible exact ⟨px0, px1, px2, py0, py1, py2⟩ | go_keep)
    (first | (go_at_call 92; (with_reducible refine Calls.mono HCM.out ?_); rintro e w4 ⟨rfl, hb4⟩; have hbz : Below w1.heap.size w1 w4 := ((Below.refl w1.heap.size w1).drew).trans hb4; have HB4 := Lib.hid hbz; have px0 := cell_keep x0 hbz (Nat.le_refl _); have px1 := cell_keep x1 hbz (Nat.le_refl _); have px2 := cell_keep x2 hbz (Nat.le_refl _); have py0 := cell_keep y0 hbz (Nat.le_refl _); have py1 := cell_keep y1 hbz (Nat.le_refl _); have py2 := cell_keep y2 hbz (Nat.le_refl _); clear hb4 hbz))
   all_goals
    go_wp2
    go_ret2
    exact ⟨by rw [HE.out]; rfl, hbw.trans (HB4.out.mono hbw.size)⟩
end Go.Proofs.YtdpjdifoonfcdaaGreatDoor

namespace Go.Proofs.YtdpjdifoonfcdaaGreatDoor
open Go.RowKit
def sxy (f g : Nat -> Int) : Nat -> Int
 | 0 => 0
 | n + 1 => sxy f g n + f n * g n
theorem sxy_congr {f g f' g' : Nat -> Int} {n : Nat} (h1 : ∀ i, i < n -> f i = f' i) (h2 : ∀ i, i < n -> g i = g' i) : sxy f g n = sxy f' g' n := by
 induction n with
 | zero => rfl
 | succ n ih =>
   simp only [sxy]
   rw [ih (fun i hi => h1 i (by omega)) (fun i hi => h2 i (by omega)), h1 n (by omega), h2 n (by omega)]
theorem sxx_nn (f : Nat -> Int) (n : Nat) : 0 <= sxy f f n := by
 induction n with
 | zero => simp [sxy]
 | succ n ih =>
   have := mul_self_nn (f n)
   simp only [sxy]; omega
theorem sxy_lin (f g : Nat -> Int) (x y : Int) (n : Nat) : sxy (fun i => x * f i + y * g i) (fun i => x * f i + y * g i) n = x * x * sxy f f n + 2 * (x * y) * sxy f g n + y * y * sxy g g n := by
 induction n with
 | zero => simp [sxy]
 | succ n ih => simp only [sxy, ih]; grind
theorem sxx_zero (g : Nat -> Int) (n : Nat) (h : sxy g g n = 0) : ∀ i, i < n -> g i = 0 := by
 induction n with
 | zero => intro i hi; omega
 | succ n ih =>
   intro i hi
   have h1 := sxx_nn g n
   have h2 := mul_self_nn (g n)
   simp only [sxy] at h
   by_cases e : i = n
   · subst e
     rcases Int.mul_eq_zero.1 (show g i * g i = 0 by omega) with h | h <;> exact h
   · exact ih (by omega) i (by omega)
theorem sxy_zero (f g : Nat -> Int) (n : Nat) (h : ∀ i, i < n -> g i = 0) : sxy f g n = 0 := by
 induction n with
 | zero => rfl
 | succ n ih => simp only [sxy]; rw [ih (fun i hi => h i (by omega)), h n (by omega)]; simp
theorem cauchy (f g : Nat -> Int) (n : Nat) : sxy f g n * sxy f g n <= sxy f f n * sxy g g n := by
 have hB := sxx_nn g n
 by_cases h0 : sxy g g n = 0
 · rw [sxy_zero f g n (sxx_zero g n h0), h0]; simp
 · have h := sxx_nn (fun i => sxy g g n * f i + -(sxy f g n) * g i) n
   rw [sxy_lin] at h
   generalize sxy f f n = A at *
   generalize sxy g g n = B at *
   generalize sxy f g n = C at *
   have e : B * B * A + 2 * (B * -C) * C + -C * -C * B = B * (A * B - C * C) := by grind
   rw [e] at h
   by_cases hlt : A * B - C * C < 0
   · have : B * (A * B - C * C) < 0 := Int.mul_neg_of_pos_of_neg (by omega) hlt
     omega
   · omega
theorem sxx_add (f : Nat -> Int) (a n : Nat) : sxy f f (a + n) = sxy f f a + sxy (fun i => f (a + i)) (fun i => f (a + i)) n := by
 induction n with
 | zero => simp [sxy]
 | succ n ih =>
   rw [<- Nat.add_assoc]
   simp only [sxy, ih]
   omega
theorem sxx_mono (f : Nat -> Int) {n m : Nat} (h : n <= m) : sxy f f n <= sxy f f m := by
 obtain ⟨k, rfl⟩ := Nat.le.dest h
 rw [sxx_add]
 have := sxx_nn (fun i => f (n + i)) k
 omega
theorem sxx_sub (f : Nat -> Int) (a n m : Nat) (h : a + n <= m) : sxy (fun i => f (a + i)) (fun i => f (a + i)) n <= sxy f f m := by
 have h1 := sxx_add f a n
 have h2 := sxx_nn f a
 have h3 := sxx_mono f h
 omega
theorem ovTo_sxy (xs ys : List Int) (s a : Int) (n : Nat) : ovTo xs ys s a n = sxy (fun i => xs.getD (a + i).toNat 0) (fun i => ys.getD (a + i + s).toNat 0) n := by
 induction n with
 | zero => rfl
 | succ n ih => simp only [ovTo, sxy, ih]
theorem norm_sxy (xs : List Int) (L : Nat) : ovl xs xs L 0 = sxy (fun i => xs.getD i 0) (fun i => xs.getD i 0) L := by
 rw [ovl_self, ovTo_sxy]
 exact sxy_congr (fun i _ => by simp) (fun i _ => by simp)
theorem ovl_cauchy (xs ys : List Int) (L : Nat) (s : Int) (h1 : -(L : Int) <= s) (h2 : s <= L) : ovl xs ys L s * ovl xs ys L s <= ovl xs xs L 0 * ovl ys ys L 0 := by
 rw [norm_sxy, norm_sxy]
 simp only [ovl, ovTo_sxy]
 refine Int.le_trans (cauchy _ _ _) ?_
 have b1 : sxy (fun i : Nat => xs.getD (max 0 (-s) + i).toNat 0) (fun i : Nat => xs.getD (max 0 (-s) + i).toNat 0) (min (L : Int) (L - s) - max 0 (-s)).toNat <= sxy (fun i => xs.getD i 0) (fun i => xs.getD i 0) L := by
  refine Int.le_trans (Int.le_of_eq ?_) (sxx_sub (fun i => xs.getD i 0) (max 0 (-s)).toNat (min (L : Int) (L - s) - max 0 (-s)).toNat L (by omega))
  refine sxy_congr (fun i _ => ?_) (fun i _ => ?_) <;> (congr 1; omega)
 have b2 : sxy (fun i : Nat => ys.getD (max 0 (-s) + i + s).toNat 0) (fun i : Nat => ys.getD (max 0 (-s) + i + s).toNat 0) (min (L : Int) (L - s) - max 0 (-s)).toNat <= sxy (fun i => ys.getD i 0) (fun i => ys.getD i 0) L := by
  refine Int.le_trans (Int.le_of_eq ?_) (sxx_sub (fun i => ys.getD i 0) (max 0 (-s) + s).toNat (min (L : Int) (L - s) - max 0 (-s)).toNat L (by omega))
  refine sxy_congr (fun i _ => ?_) (fun i _ => ?_) <;> (congr 1; omega)
 exact Int.mul_le_mul b1 b2 (sxx_nn _ _) (sxx_nn _ _)
theorem bst_some (f : Int -> Int) (l : List Sh) : (l = [] /\ bst f l = none) ∨ ∃ y, bst f l = some y /\ y ∈ l /\ ∀ x ∈ l, f x.1 <= f y.1 := by
 suffices H : ∀ n, ∀ l : List Sh, l.length = n -> (l = [] /\ bst f l = none) ∨ ∃ y, bst f l = some y /\ y ∈ l /\ ∀ x ∈ l, f x.1 <= f y.1 from H _ l rfl
 intro n
 induction n with
 | zero => intro l hl; have : l = [] := List.eq_nil_of_length_eq_zero hl; subst this; exact .inl ⟨rfl, rfl⟩
 | succ n ih =>
   intro l hl
   have hne : l ≠ [] := by intro e; subst e; simp at hl
   obtain ⟨r, x, rfl⟩ : ∃ r x, l = r ++ [x] := ⟨l.dropLast, l.getLast hne, (List.dropLast_concat_getLast hne).symm⟩
   right
   rcases ih r (by simpa using hl) with ⟨rfl, hr⟩ | ⟨y, hy, hm, hall⟩
   · exact ⟨x, by rw [bst_snoc, hr], by simp, fun z hz => by simp at hz; subst hz; exact Int.le_refl _⟩
   · by_cases hgt : f y.1 < f x.1
     · refine ⟨x, by rw [bst_snoc, hy]; simp [hgt], by simp, fun z hz => ?_⟩
       rcases List.mem_append.1 hz with hz | hz
       · have := hall z hz; omega
       · simp at hz; subst hz; exact Int.le_refl _
     · refine ⟨y, by rw [bst_snoc, hy]; simp [hgt], by simp [hm], fun z hz => ?_⟩
       rcases List.mem_append.1 hz with hz | hz
       · exact hall z hz
       · simp at hz; subst hz; omega
theorem shl_mem {L : Nat} (hL : L <= 64) {x : Sh} : x ∈ shl L (2 * L - 1) ↔ 1 - (L : Int) <= x.1 /\ x.1 <= (L : Int) - 1 := by
 simp only [shl, List.mem_map, List.mem_range]
 constructor
 · rintro ⟨i, hi, rfl⟩
   rw [mkS_val (by omega) (by omega)]; omega
 · intro h
   refine ⟨(x.1 - (1 - (L : Int))).toNat, by omega, ?_⟩
   apply Subtype.ext
   rw [mkS_val (by omega) (by omega)]; omega
theorem bestN_ge (xs ys : List Int) (L : Nat) (hL : L <= 64) (s : Int) (h1 : 1 - (L : Int) <= s) (h2 : s <= (L : Int) - 1) : ovl xs ys L s <= bestN xs ys L := by
 have hm : mkS s ∈ shl L (2 * L - 1) := (shl_mem hL).2 (by rw [mkS_val (by omega) (by omega)]; omega)
 rcases bst_some (ovl xs ys L) (shl L (2 * L - 1)) with ⟨e, _⟩ | ⟨y, hy, _, hall⟩
 · rw [e] at hm; simp at hm
 · have := hall _ hm
   rw [mkS_val (by omega) (by omega)] at this
   have hv : bstV (ovl xs ys L) (shl L (2 * L - 1)) = y.1 := by simp [bstV, hy]
   unfold bestN
   rw [hv]; omega
theorem bestN_is (xs ys : List Int) (L : Nat) (h0 : 1 <= L) (hL : L <= 64) : bestN xs ys L = 0 ∨ ∃ s : Int, 1 - (L : Int) <= s /\ s <= (L : Int) - 1 /\ bestN xs ys L = ovl xs ys L s := by
 rcases bst_some (ovl xs ys L) (shl L (2 * L - 1)) with ⟨e, _⟩ | ⟨y, hy, hm, _⟩
 · have := congrArg List.length e
   rw [shl_length] at this; simp at this; omega
 · have hv : bstV (ovl xs ys L) (shl L (2 * L - 1)) = y.1 := by simp [bstV, hy]
   have := (shl_mem hL).1 hm
   unfold bestN
   rw [hv]
   by_cases h : 0 <= ovl xs ys L y.1
   · exact .inr ⟨y.1, this.1, this.2, by omega⟩
   · exact .inl (by omega)
theorem bestN_sq (xs ys : List Int) (L : Nat) (h0 : 1 <= L) (hL : L <= 64) : bestN xs ys L * bestN xs ys L <= ovl xs xs L 0 * ovl ys ys L 0 := by
 rcases bestN_is xs ys L h0 hL with h | ⟨s, h1, h2, h⟩
 · rw [h]; exact Int.mul_nonneg (norm_nn _ _) (norm_nn _ _)
 · rw [h]; exact ovl_cauchy xs ys L s (by omega) (by omega)
end Go.Proofs.YtdpjdifoonfcdaaGreatDoor

namespace Go.Proofs.YtdpjdifoonfcdaaGreatDoor
open Go.RowKit Go.WideShapes Go.ChangeShapes Go.Deep Go.Joins
section
variable {H : Type} {enc : TypeId × Value -> H} {P : Program} {w : World} {base : Nat} {spare : Nat -> Bool} {held : Bool}
theorem array5 {α : Type} {cs : Array α} (h : cs.size = 5) : ∃ c0 c1 c2 c3 c4, cs = #[c0, c1, c2, c3, c4] := by
 obtain ⟨l⟩ := cs
 match l, h with
 | [c0, c1, c2, c3, c4], _ => exact ⟨c0, c1, c2, c3, c4, rfl⟩
end
end Go.Proofs.YtdpjdifoonfcdaaGreatDoor

namespace Go.Proofs.YtdpjdifoonfcdaaGreatDoor
open Go.RowKit
theorem bytes_ne {a b : ByteArray} (h : a ≠ b) : (a.toList == b.toList) = false /\ (a.toList != b.toList) = true := by
 have e : (a.toList != b.toList) = true := by
  rw [bne_iff_ne]
  intro h2
  refine h ?_
  rw [Lib.toList_data, Lib.toList_data] at h2
  cases a; cases b
  simpa using h2
 exact ⟨by rw [beq_eq_false_iff_ne]; exact bne_iff_ne.1 e, e⟩
set_option maxRecDepth 100000 in
set_option maxHeartbeats 4000000 in
theorem valText_cx (v : Value) (s : Bool) (n d : Nat) (s2 : Bool) (n2 d2 : Nat) (w : World) (hv : ValV w v s n d s2 n2 d2) (ht : Tab w) (h : Lib.nDigits n <= 8500) (h2 : Lib.nDigits d <= 8500) (h3 : d ≠ 0) (g : Lib.nDigits n2 <= 8500) (g2 : Lib.nDigits d2 <= 8500) (g3 : d2 ≠ 0) (hn2 : n2 ≠ 0) :
 Calls Tryz.prog 151 #[v] w fun e w' => (∃ T : ByteArray, e = .returned (.string T)) /\ Below w.heap.size w w' := by
 have HV := Lib.hid hv
 obtain ⟨va, vb, vc, vd, rfl, ha, hb, hc, hd⟩ := hv
 have HA := Lib.hid ha; have HB := Lib.hid hb; have HC := Lib.hid hc; have HD := Lib.hid hd
 obtain ⟨aa, ca, rfl⟩ := ha.cases
 obtain ⟨ab, cb, rfl⟩ := hb.cases
 obtain ⟨ac, cc, rfl⟩ := hc.cases
 obtain ⟨ad, cd, rfl⟩ := hd.cases
 have hir := fun wx (hb : Below w.heap.size w wx) => isReal_any _ s s2 n d n2 d2 wx (HV.out.below hb (Nat.le_refl _))
 have hze := fun wx (hb : Below w.heap.size w wx) => zero_any _ s n d wx ⟨_, _, rfl, HA.out.below hb (Nat.le_refl _), HB.out.below hb (Nat.le_refl _)⟩
 have hx := fun wx (hb : Below w.heap.size w wx) => ratText_any _ s n d wx ⟨_, _, rfl, HA.out.below hb (Nat.le_refl _), HB.out.below hb (Nat.le_refl _)⟩ (ht.below hb (Nat.le_refl _)) (by omega) (by omega) h3
 have hy := fun wx (hb : Below w.heap.size w wx) => ratText_any _ s2 n2 d2 wx ⟨_, _, rfl, HC.out.below hb (Nat.le_refl _), HD.out.below hb (Nat.le_refl _)⟩ (ht.below hb (Nat.le_refl _)) (by omega) (by omega) g3
 have sx := ratT_size s n d
 have sy := ratT_size s2 n2 d2
 rw [decide_eq_false hn2] at hir
 have hxs : (ratT s n d).size <= 20000 := by omega
 have hys : (ratT s2 n2 d2).size <= 20000 := by omega
 generalize ratT s n d = X at *
 generalize ratT s2 n2 d2 = Y at *
 generalize (dig n).length = l1 at *
 generalize (dig d).length = l2 at *
 generalize (dig n2).length = l3 at *
 generalize (dig d2).length = l4 at *
 have HIR := Lib.hid hir; have HZE := Lib.hid hze; have HX := Lib.hid hx; have HY := Lib.hid hy
 clear hir hze hx hy ha hb hc hd HV HA HB HC HD ht h h2 g g2 h3 g3 hn2 sx sy
 obtain ⟨W0, hW0⟩ : ∃ W0, w.alloc (.cells #[.bool s, .slice aa l1 ca, .slice ab l2 cb, .bool s2, .slice ac l3 cc, .slice ad l4 cd] 148) = W0 := ⟨_, rfl⟩
 have hB0 : Below w.heap.size w W0 := by rw [<- hW0]; exact (Below.refl _ w).alloc (Nat.le_refl _) _
 have r0 : W0.heap[w.heap.size]? = some (.cells #[.bool s, .slice aa l1 ca, .slice ab l2 cb, .bool s2, .slice ac l3 cc, .slice ad l4 cd] 148 (0, 0)) := by rw [<- hW0]; exact heap_alloc_new w _
 have hs0 : W0.heap.size = w.heap.size + 1 := by rw [<- hW0]; simp
 have FK : ∀ wx, Below W0.heap.size W0 wx -> (wx.cell? ⟨w.heap.size, 0, none⟩ = some (.bool s) /\ wx.cell? ⟨w.heap.size, 1, none⟩ = some (.slice aa l1 ca) /\ wx.cell? ⟨w.heap.size, 2, none⟩ = some (.slice ab l2 cb)) /\ (wx.cell? ⟨w.heap.size, 3, none⟩ = some (.bool s2) /\ wx.cell? ⟨w.heap.size, 4, none⟩ = some (.slice ac l3 cc) /\ wx.cell? ⟨w.heap.size, 5, none⟩ = some (.slice ad l4 cd)) /\ Below w.heap.size w wx := by
  intro wx hb
  have e0 := (hb.block _ (by omega)).trans r0
  exact ⟨⟨(cell_of_row wx _ 0 _ _ _ e0).trans rfl, (cell_of_row wx _ 1 _ _ _ e0).trans rfl, (cell_of_row wx _ 2 _ _ _ e0).trans rfl⟩, ⟨(cell_of_row wx _ 3 _ _ _ e0).trans rfl, (cell_of_row wx _ 4 _ _ _ e0).trans rfl, (cell_of_row wx _ 5 _ _ _ e0).trans rfl⟩, hB0.trans (hb.mono (by omega))⟩
 have HFK := Lib.hid FK; have HW0 := Lib.hid hW0
 clear FK hW0 r0 hs0
 go_enter Tryz.func151, Tryz.ntmps151
 go_wp2_with fail
 rw [HW0.out]
 refine (HIR.out _ hB0).mono ?_
 rintro e w1 ⟨rfl, hb1⟩
 have hb1 : Below W0.heap.size W0 w1 := hb1
 obtain ⟨⟨y0, y1, y2⟩, ⟨y3, y4, y5⟩, g1⟩ := HFK.out w1 hb1
 go_wp2_with fail
 refine (HZE.out _ g1).mono ?_
 rintro e w2 ⟨rfl, hb2⟩
 have hb2 := hb1.trans (hb2.mono hb1.size)
 clear y0 y1 y2 y3 y4 y5 g1 hb1
 obtain ⟨⟨y0, y1, y2⟩, ⟨y3, y4, y5⟩, g2⟩ := HFK.out w2 hb2
 have hcase : Y = ⟨#[49]⟩ ∨ (Y ≠ ⟨#[49]⟩ /\ Y = ⟨#[45, 49]⟩) ∨ (Y ≠ ⟨#[49]⟩ /\ Y ≠ ⟨#[45, 49]⟩) := by
  by_cases e1 : Y = ⟨#[49]⟩
  · exact .inl e1
  · by_cases e2 : Y = ⟨#[45, 49]⟩
    · exact .inr (.inl ⟨e1, e2⟩)
    · exact .inr (.inr ⟨e1, e2⟩)
 by_cases hn : n = 0
 · have d1 : decide (n = 0) = true := decide_eq_true hn
   rw [d1]
   clear d1 hn
   rcases hcase with rfl | ⟨-, rfl⟩ | ⟨e1, e2⟩
   · go_wp2_with (go_at_call 219; (with_reducible refine Calls.mono (HY.out _ g2) ?_); rintro e w4 ⟨rfl, hb4⟩)
     go_ret
     exact ⟨⟨_, rfl⟩, g2.trans (hb4.mono g2.size)⟩
   · go_wp2_with (go_at_call 219; (with_reducible refine Calls.mono (HY.out _ g2) ?_); rintro e w4 ⟨rfl, hb4⟩)
     go_ret
     exact ⟨⟨_, rfl⟩, g2.trans (hb4.mono g2.size)⟩
   · obtain ⟨b1, b2⟩ := bytes_ne e1
     obtain ⟨b3, b4⟩ := bytes_ne e2
     have k1 : ¬ Y.toList = [49] := by simpa [Lib.toList_data] using b1
     have k2 : ¬ Y.toList = [45, 49] := by simpa [Lib.toList_data] using b3
     have k3 : (Y.toList == [49]) = false := by rw [beq_eq_false_iff_ne]; exact k1
     have k4 : (Y.toList == [45, 49]) = false := by rw [beq_eq_false_iff_ne]; exact k2
     clear e1 e2 b1 b2 b3 b4
     go_wp2_with (go_at_call 219; (with_reducible refine Calls.mono (HY.out _ g2) ?_); rintro e w4 ⟨rfl, hb4⟩)
     go_ret
     exact ⟨⟨_, rfl⟩, g2.trans (hb4.mono g2.size)⟩
 · have d1 : decide (n = 0) = false := decide_eq_false hn
   rw [d1]
   clear d1 hn
   rcases hcase with rfl | ⟨-, rfl⟩ | ⟨e1, e2⟩
   · cases s2
     all_goals
      go_wp2_with (first
       | (go_at_call 219; (with_reducible refine Calls.mono (HX.out _ g2) ?_); rintro e w3 ⟨rfl, hb3⟩; have hb3 := hb2.trans (hb3.mono hb2.size); obtain ⟨-, ⟨x3, x4, x5⟩, g3⟩ := HFK.out w3 hb3)
       | (go_at_call 219; (with_reducible refine Calls.mono (HY.out _ g3) ?_); rintro e w4 ⟨rfl, hb4⟩))
      go_ret
      exact ⟨⟨_, rfl⟩, g3.trans (hb4.mono g3.size)⟩
   · cases s2
     all_goals
      go_wp2_with (first
       | (go_at_call 219; (with_reducible refine Calls.mono (HX.out _ g2) ?_); rintro e w3 ⟨rfl, hb3⟩; have hb3 := hb2.trans (hb3.mono hb2.size); obtain ⟨-, ⟨x3, x4, x5⟩, g3⟩ := HFK.out w3 hb3)
       | (go_at_call 219; (with_reducible refine Calls.mono (HY.out _ g3) ?_); rintro e w4 ⟨rfl, hb4⟩))
      go_ret
      exact ⟨⟨_, rfl⟩, g3.trans (hb4.mono g3.size)⟩
   · obtain ⟨b1, b2⟩ := bytes_ne e1
     obtain ⟨b3, b4⟩ := bytes_ne e2
     have k1 : ¬ Y.toList = [49] := by simpa [Lib.toList_data] using b1
     have k2 : ¬ Y.toList = [45, 49] := by simpa [Lib.toList_data] using b3
     have k3 : (Y.toList == [49]) = false := by rw [beq_eq_false_iff_ne]; exact k1
     have k4 : (Y.toList == [45, 49]) = false := by rw [beq_eq_false_iff_ne]; exact k2
     clear e1 e2 b1 b2 b3 b4
     cases s2
     all_goals
      go_wp2_with (first
       | (go_at_call 219; (with_reducible refine Calls.mono (HX.out _ g2) ?_); rintro e w3 ⟨rfl, hb3⟩; have hb3 := hb2.trans (hb3.mono hb2.size); obtain ⟨-, ⟨x3, x4, x5⟩, g3⟩ := HFK.out w3 hb3)
       | (go_at_call 219; (with_reducible refine Calls.mono (HY.out _ g3) ?_); rintro e w4 ⟨rfl, hb4⟩))
      go_ret
      exact ⟨⟨_, rfl⟩, g3.trans (hb4.mono g3.size)⟩
end Go.Proofs.YtdpjdifoonfcdaaGreatDoor
