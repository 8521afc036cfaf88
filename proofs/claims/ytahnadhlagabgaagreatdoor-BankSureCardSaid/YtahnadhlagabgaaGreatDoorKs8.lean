/- Parts of a proof, in build order: Si, Ct, V1, V4, V6. -/
import Derived.Test.YtahnadhlagabgaaGreatDoorKs7
import Derived.ProofKit
import Derived.OpenShut
import Derived.ReadAgain
import Derived.Deep.Slices
import Derived.Deep.SlicePairs
import Derived.Lib.SmallJoins
import Derived.Below
import Derived.ChangeSame
import Derived.Test.YtahnadhlagabgaaGreatDoorRows
import Derived.SizedLaws
import Derived.Lib.LaidTab
import Derived.Laws.ResultCell
import Derived.Deep.CutBlock
import Derived.Deep.RegionWith

namespace Go.Proofs.YtahnadhlagabgaaGreatDoor
open Go.RowKit
theorem sameInts_any (aa ab : Option Addr) (xs ys : List Int) (ca cb : Nat) (w : World) (ha : Cells w aa (xs.map (Value.int .i64))) (hb : Cells w ab (ys.map (Value.int .i64))) (hl : xs.length <= 9223372036854775807) (hl' : ys.length <= 9223372036854775807) :
 Calls Tryz.prog 26 #[.slice aa xs.length ca, .slice ab ys.length cb] w fun e w' => e = .returned (.bool (decide (xs = ys))) /\ Below w.heap.size w w' := by
 by_cases hlen : xs.length = ys.length
 · have h1 : ((xs.length : Int) != ys.length) = false := by simp [hlen]
   have hlt : (ys.length : Int) <= xs.length := by omega
   have HL := Lib.hid hlen; clear hlen
   have HA := Lib.hid ha; have HB := Lib.hid hb; clear ha hb
   go_enter Tryz.func26, Tryz.ntmps26
   go_wp2
   go_loopw [5] (fun i wr => ∃ k : Nat, k <= xs.length /\ i = .int .i64 k /\ xs.take k = ys.take k /\ Below w.heap.size w wr) (fun i _ => xs.length - (intOf i).toNat)
   case atStart => exact ⟨0, Nat.zero_le _, rfl, rfl, Below.refl _ _⟩
   case round =>
    obtain ⟨k, hk, rfl, heq, hbe⟩ := hrel
    have HQ := Lib.hid heq; clear heq
    by_cases hlt : k < xs.length
    · have hlt2 : k < ys.length := by have := HL.out; omega
      obtain ⟨x, hx⟩ := get_of_lt hlt
      obtain ⟨y, hy⟩ := get_of_lt hlt2
      obtain ⟨b, off, rfl⟩ := HA.out.addr (by simpa using List.ne_nil_of_length_pos (by omega))
      obtain ⟨b2, off2, rfl⟩ := HB.out.addr (by simpa using List.ne_nil_of_length_pos (by omega))
      have c1 := cell_keep (HA.out.int hx) hbe (Nat.le_refl _)
      have c2 := cell_keep (HB.out.int hy) hbe (Nat.le_refl _)
      have i1 : (k : Int) < xs.length := by omega
      have i2 : (k : Int) < ys.length := by omega
      have i3 : (0 : Int) <= k := by omega
      by_cases hxy : x = y
      · obtain rfl := hxy
        have ht : xs.take (k + 1) = ys.take (k + 1) := by rw [take_get hx, take_get hy, HQ.out]
        have HT := Lib.hid ht; clear ht hx hy
        go_wp2
        go_quiet (fail)
        go_wp2
        go_roundw
        case rel => exact ⟨k + 1, by omega, by go_num, HT.out, bel_drewN hbe _⟩
        case measure => simp [intOf]; omega
      · have hne : decide (xs = ys) = false := by
         rw [decide_eq_false_iff_not]; rintro rfl
         rw [hx] at hy; simp at hy; exact hxy hy
        have HNE := Lib.hid hne; clear hne hx hy
        have hb1 : (x == y) = false := by simpa using hxy
        have hb2 : (x != y) = true := by simpa using hxy
        go_wp2
        go_quiet (fail)
        go_wp2
        go_ret
        exact ⟨ret_bool HNE.out.symm, bel_drewN hbe _⟩
    · obtain rfl : k = xs.length := by omega
      have he : decide (xs = ys) = true := by
       rw [decide_eq_true_iff]
       have := HQ.out
       rw [List.take_length, HL.out, List.take_length] at this; exact this
      have HE := Lib.hid he; clear he
      go_wp2
      go_ret
      exact ⟨ret_bool HE.out.symm, hbe⟩
 · have h1 : ((xs.length : Int) != ys.length) = true := by simp; omega
   have he : decide (xs = ys) = false := by
    rw [decide_eq_false_iff_not]; rintro rfl; exact hlen rfl
   have HE := Lib.hid he; clear he
   go_enter Tryz.func26, Tryz.ntmps26
   go_wp2
   go_ret
   exact ⟨ret_bool HE.out.symm, Below.refl _ _⟩
theorem same_ints_eq (aa ab : Option Addr) (ca cb : Nat) (w : World) (xs : List Int) (n : Nat) (hn : n = xs.length) (hl : xs.length <= 9223372036854775807) (ha : Cells w aa (xs.map (Value.int .i64))) (hb : Cells w ab (xs.map (Value.int .i64))) :
 Calls Tryz.prog 26 #[.slice aa n ca, .slice ab n cb] w fun e w' => e = .returned (.bool true) /\ Below w.heap.size w w' := by
 subst hn
 have h := sameInts_any aa ab xs xs ca cb w ha hb hl hl
 simpa using h
end Go.Proofs.YtahnadhlagabgaaGreatDoor

namespace Go.Proofs.YtahnadhlagabgaaGreatDoor
open Go.RowKit
theorem cells_lit (w : World) (cs : List Value) (T : TypeId) : Cells (w.alloc (.cells cs.toArray T)) (some ⟨w.heap.size, 0, none⟩) cs :=
 .inr ⟨w.heap.size, 0, rfl, fun j u hu => by
  rw [cell_of_row _ _ _ _ _ _ (heap_alloc_new _ _), Nat.zero_add]; simpa using hu⟩
set_option maxRecDepth 100000 in
set_option maxHeartbeats 4000000 in
theorem bworks_any (w : World) (ht : Tab w) :
 Calls Tryz.prog 16 #[] w fun e w' => e = .returned (.bool true) /\ Below w.heap.size w w' := by
 have hw := fun w => Wave_any 4 8 0 w
 have hm := fun w ht => match_any 4 16 0 48 0 w ht
 have hp := fun w => Points_any 4 31 33 0 0 w
 have hf := fun ao cap w hc => filter_any 4 16 0 ao [0, 127, 0, -127, 0] cap w hc (by decide)
 have hs := fun ao cap w ht hc => misfit_any 4 16 0 ao [0, 127, 0, 127] cap 0 2 w ht hc (by decide)
 rw [ex_wave.1, ex_wave.2] at hw
 rw [ex_match.1, ex_match.2] at hm
 rw [ex_points.1, ex_points.2] at hp
 rw [ex_filter.1, ex_filter.2] at hf
 rw [ex_misfit.1, ex_misfit.2] at hs
 simp only [List.length_cons, List.length_nil, Nat.reduceAdd] at hw hp hf hs
 have HW := Lib.hid hw; have HM := Lib.hid hm; have HP := Lib.hid hp; have HF := Lib.hid hf; have HS := Lib.hid hs; have HT := Lib.hid ht
 clear hw hm hp hf hs ht
 go_enter Tryz.func16, Tryz.ntmps16
 go_wp2_with fail
 refine (HW.out _).mono ?_
 rintro e w1 ⟨⟨b1, c1, rfl, hc1⟩, g1⟩
 have HC1 := Lib.hid hc1; clear hc1
 go_wp2_with fail
 refine (tone_any _).mono ?_
 rintro e w2 ⟨rfl, hb2⟩
 have g2 := g1.trans (hb2.mono g1.size)
 go_wp2_with fail
 refine (HM.out _ (HT.out.below g2 (Nat.le_refl _))).mono ?_
 rintro e w3 ⟨rfl, hb3⟩
 have g3 := g2.trans (hb3.mono g2.size)
 have HC3 := Lib.hid ((HC1.out.below hb2 (Nat.le_refl _)).below hb3 (Nat.le_refl _)); clear HC1 hb2 hb3
 go_wp2_with fail
 refine (HP.out _).mono ?_
 rintro e w4 ⟨⟨b4, c4, rfl, hc4⟩, hb4⟩
 have g4 := g3.trans (hb4.mono g3.size)
 have HC4 := Lib.hid (HC3.out.below hb4 (Nat.le_refl _))
 have HP4 := Lib.hid hc4; clear hc4 HC3 hb4
 go_wp2_with fail
 refine (tone_any _).mono ?_
 rintro e w5 ⟨rfl, hb5⟩
 have g5 := g4.trans (hb5.mono g4.size)
 have HC5 := Lib.hid (HC4.out.below hb5 (Nat.le_refl _))
 have HP5 := Lib.hid (HP4.out.below hb5 (Nat.le_refl _))
 clear HC4 HP4 hb5
 go_wp2_with fail
 have l6 := cells_lit w5 ([0, 127, 0, -127, 0].map (Value.int .i64)) 3
 have B6 := (Below.refl w5.heap.size w5).alloc (Nat.le_refl _) (.cells ([0, 127, 0, -127, 0].map (Value.int .i64)).toArray 3)
 have HC6 := Lib.hid (HC5.out.below B6 (Nat.le_refl _))
 have HP6 := Lib.hid (HP5.out.below B6 (Nat.le_refl _))
 have g6 := g5.trans (B6.mono g5.size)
 clear HC5 HP5 B6
 refine (show _ from HF.out _ 5 _ l6).mono ?_
 rintro e w7 ⟨⟨b7, c7, rfl, hc7⟩, hb7⟩
 have g7 := g6.trans (hb7.mono g6.size)
 have HC7 := Lib.hid (HC6.out.below hb7 (Nat.le_refl _))
 have HP7 := Lib.hid (HP6.out.below hb7 (Nat.le_refl _))
 have HF7 := Lib.hid hc7
 clear HC6 HP6 hb7 hc7 l6
 go_wp2_with fail
 refine (tone_any _).mono ?_
 rintro e w8 ⟨rfl, hb8⟩
 have g8 := g7.trans (hb8.mono g7.size)
 have HC8 := Lib.hid (HC7.out.below hb8 (Nat.le_refl _))
 have HP8 := Lib.hid (HP7.out.below hb8 (Nat.le_refl _))
 have HF8 := Lib.hid (HF7.out.below hb8 (Nat.le_refl _))
 clear HC7 HP7 HF7 hb8
 go_wp2_with fail
 have l9 := cells_lit w8 ([0, 127, 0, 127].map (Value.int .i64)) 3
 have B9 := (Below.refl w8.heap.size w8).alloc (Nat.le_refl _) (.cells ([0, 127, 0, 127].map (Value.int .i64)).toArray 3)
 have HC9 := Lib.hid (HC8.out.below B9 (Nat.le_refl _))
 have HP9 := Lib.hid (HP8.out.below B9 (Nat.le_refl _))
 have HF9 := Lib.hid (HF8.out.below B9 (Nat.le_refl _))
 have g9 := g8.trans (B9.mono g8.size)
 clear HC8 HP8 HF8 B9
 refine (show _ from HS.out _ 4 _ (HT.out.below g9 (Nat.le_refl _)) l9).mono ?_
 rintro e wa ⟨rfl, hba⟩
 have ga := g9.trans (hba.mono g9.size)
 have HCa := Lib.hid (HC9.out.below hba (Nat.le_refl _))
 have HPa := Lib.hid (HP9.out.below hba (Nat.le_refl _))
 have HFa := Lib.hid (HF9.out.below hba (Nat.le_refl _))
 clear HC9 HP9 HF9 hba l9
 go_wp2_with fail
 have lb := cells_lit wa ([0, 90, 127, 90].map (Value.int .i64)) 3
 have Bb := (Below.refl wa.heap.size wa).alloc (Nat.le_refl _) (.cells ([0, 90, 127, 90].map (Value.int .i64)).toArray 3)
 have HCb := Lib.hid (HCa.out.below Bb (Nat.le_refl _))
 have HPb := Lib.hid (HPa.out.below Bb (Nat.le_refl _))
 have HFb := Lib.hid (HFa.out.below Bb (Nat.le_refl _))
 have gb := ga.trans (Bb.mono ga.size)
 clear HCa HPa HFa Bb
 refine (show _ from same_ints_eq b1 _ c1 4 _ [0, 90, 127, 90] 4 rfl (by decide) HCb.out lb).mono ?_
 rintro e wc ⟨rfl, hbc⟩
 have gc := gb.trans (hbc.mono gb.size)
 have HPc := Lib.hid (HPb.out.below hbc (Nat.le_refl _))
 have HFc := Lib.hid (HFb.out.below hbc (Nat.le_refl _))
 clear HCb HPb HFb hbc lb
 go_wp2_with fail
 have ld := cells_lit wc (prs [(31, 0), (33, 0)]) 54
 have Bd := (Below.refl wc.heap.size wc).alloc (Nat.le_refl _) (.cells (prs [(31, 0), (33, 0)]).toArray 54)
 have HPd := Lib.hid (HPc.out.below Bd (Nat.le_refl _))
 have HFd := Lib.hid (HFc.out.below Bd (Nat.le_refl _))
 have gd := gc.trans (Bd.mono gc.size)
 clear HPc HFc Bd
 refine (show _ from sameChirps_any b4 _ [(31, 0), (33, 0)] [(31, 0), (33, 0)] c4 2 _ HPd.out ld (by decide) (by decide)).mono ?_
 rintro e we ⟨rfl, hbe⟩
 have ge := gd.trans (hbe.mono gd.size)
 have HFe := Lib.hid (HFd.out.below hbe (Nat.le_refl _))
 clear HPd HFd hbe ld
 rw [decide_eq_true (show [((31 : Int), (0 : Int)), (33, 0)] = [(31, 0), (33, 0)] from rfl)]
 go_wp2_with fail
 have lf := cells_lit we ([32258, 0].map (Value.int .i64)) 3
 have Bf := (Below.refl we.heap.size we).alloc (Nat.le_refl _) (.cells ([32258, 0].map (Value.int .i64)).toArray 3)
 have HFf := Lib.hid (HFe.out.below Bf (Nat.le_refl _))
 have gf := ge.trans (Bf.mono ge.size)
 clear HFe Bf
 refine (show _ from same_ints_eq b7 _ c7 2 _ [32258, 0] 2 rfl (by decide) HFf.out lf).mono ?_
 rintro e wg ⟨rfl, hbg⟩
 have gg := gf.trans (hbg.mono gf.size)
 clear HFf hbg lf
 go_wp2
 go_ret
 exact ⟨rfl, gg⟩
end Go.Proofs.YtahnadhlagabgaaGreatDoor

namespace Go.Proofs.YtahnadhlagabgaaGreatDoor
open Go.RowKit Go.WideShapes Go.ChangeShapes Go.Deep Go.Joins
section
variable {H : Type} {enc : TypeId × Value -> H} {P : Program}
theorem sameAt_below {W W' : World} (hb : Below W.heap.size W W') {p : MemPlace} (hp : p.block < W.heap.size) : W.sameAt W' p := by
 cases p with
 | cell b off => exact hb.cell (p := ⟨b, off, none⟩) hp
 | map b => exact hb.block b hp
theorem trodAll_carry {W W' : World} {base : Nat} {sp : Nat -> Bool} {held : Bool} : ∀ {ts : List TypeId} {vs : List Value} {ds : List (DataW H)} {ps : List MemPlace}, DataW.TrodAll enc P W base sp held ts vs ds ps -> (∀ p ∈ ps, W.sameAt W' p) -> DataW.TrodAll enc P W' base sp held ts vs ds ps
 | [], [], [], _, h, _ => h
 | _ :: _, _ :: _, _ :: _, _, ⟨p, q, ⟨n, h1⟩, h2, e⟩, hs => ⟨p, q, ⟨n, DataW.trod_carry n _ _ _ h1 fun x hx => hs x (by rw [e]; exact List.mem_append_left _ hx)⟩, trodAll_carry h2 fun x hx => hs x (by rw [e]; exact List.mem_append_right _ hx), e⟩
theorem law_post {f : Func} {s : ChangeSpec} {W W' : World} {args : Array Value} {ds : List (DataW H)} {before : List MemPlace} (K : Kids P (· < P.types.size))
 (full : ∀ t e, t < P.types.size -> P.underlying t = some (.slice e) -> 0 < P.cellsOf e) (hT : ∀ t ∈ f.params.toList, t < P.types.size) (hv : s.vars = [])
 (hW : DataW.Whole enc P f.params.toList s.vars false W args.toList ds [] before) (hA : DataW.TrodAll enc P W 0 (fun _ => true) true f.params.toList args.toList ds before)
 (hfn : s.fn H (ds ++ []) = { results := [.lit (.bool true)], args := ds }) (hr : f.resultTypes = #[4]) (hu : P.underlying 4 = some .bool) (hb : Below W.heap.size W W') :
 s.post enc P f false true false false W args (.bool true) W' := by
 have hlt : ∀ p ∈ before, p.block < W.heap.size := fun p hp => hW.lt p hp
 have hold : ∀ p ∈ before, (fun b => decide (b < W.heap.size)) p.block = true := fun p hp => by simpa using hlt p hp
 have hargs : ∀ sp : Nat -> Bool, (∀ p ∈ before, sp p.block = true) -> DataW.TrodAll enc P W' 0 sp true f.params.toList args.toList (s.fn H (ds ++ [])).args before := by
  intro sp hsp
  rw [hfn]
  exact trodAll_carry (DataW.TrodAll.respare K full hT hA hsp) fun p hp => sameAt_below hb (hlt p hp)
 have hres : ∀ (b : Nat) (sp : Nat -> Bool) (hd : Bool), DataW.TrodAll enc P W' b sp hd f.resultTypes.toList ((Value.bool true).resultList f.resultTypes.size) (s.fn H (ds ++ [])).results [] := by
  intro b sp hd
  rw [hfn, hr]
  exact trodAll_cons_mk (shut_bool hu _) trodAll_mk0
 have hvars : ∀ sp : Nat -> Bool, DataW.TrodVars enc P W' sp s.vars (s.fn H (ds ++ [])).vars [] := by
  intro sp
  rw [hfn, hv]
  rfl
 refine ⟨ds, [], before, [], before, [], hW, hres _ _ _, hargs _ hold, hvars _, World.keptBut_mono (fun p hp => ⟨hp, Or.inr (Or.inl hp)⟩) (hb.frame (· ∈ before)), fun _ => ?_⟩
 obtain ⟨_, _, _, _, _, hz, hn⟩ := hW
 refine ⟨?_, _, _, ([] ++ before) ++ [], ⟨[] ++ before, [], trodAll_append (hargs _ (fun _ _ => rfl)) (hres _ _ _), hvars _, rfl, ?_, ?_⟩, ?_⟩
 · exact ok_one hr rfl (okWide_bool_mk hu _)
 · intro b off hp
   have hin : MemPlace.cell b off ∈ before := by simpa using hp
   rw [hb.frozen (hlt _ hin)]
   exact hz b off hin
 · intro ha
   have := hn ha
   simpa using this
 · intro p hp _
   simpa using hp
theorem rd_ints {W : World} {base : Nat} {sp : Nat -> Bool} {held : Bool} {t e : TypeId} {fuel : Nat} {cs : List Value} {x : DataW H × List MemPlace} (ht : P.underlying t = some (.slice e)) (he : P.underlying e = some (.int .i64)) (hc : P.cellsOf e = 1)
 (h : DataW.trod enc P W base sp held fuel t cs = some x) :
 ∃ (ao : Option Addr) (xs : List Int) (cap : Nat), cs = [.slice ao xs.length cap] /\ Cells W ao (xs.map (Value.int .i64)) /\ xs.length <= cap /\ cap <= 9223372036854775807 /\ ∀ x ∈ xs, (Lit.int .i64 x).wf = true := by
 rcases open_ints ht he hc h with ⟨rfl, _⟩ | ⟨a, len, cap, zs, rfl, _, hl, hm, hz, _, hcell, hwf⟩
 · exact ⟨none, [], 0, rfl, .inl rfl, Nat.le_refl _, by decide, by simp⟩
 · have hzl : len <= zs.length := by rw [hz]; split <;> omega
   have htl : (zs.take len).length = len := by simp; omega
   refine ⟨some a, zs.take len, cap, by rw [htl], ?_, by omega, by unfold maxLen at hm; omega, fun x hx => hwf x (List.mem_of_mem_take hx)⟩
   rcases Nat.eq_zero_or_pos len with h0 | h0
   · subst h0; exact .inl (by simp)
   · have hsp := World.cell?_spot (hcell 0 (by omega))
     simp only [Addr.add] at hsp
     obtain ⟨b, off, spot⟩ := a
     simp at hsp
     subst hsp
     refine .inr ⟨b, off, rfl, fun j u hu => ?_⟩
     rw [List.getElem?_map] at hu
     obtain ⟨y, hy, rfl⟩ := Option.map_eq_some_iff.1 hu
     have hj : j < len := by have := (List.getElem?_eq_some_iff.1 hy).1; omega
     have := hcell j (by omega)
     rw [Addr.add_lit] at this
     rw [this]
     have hg : zs.getD j 0 = y := by
      rw [List.getElem?_take] at hy
      rw [if_pos hj] at hy
      rw [List.getD_eq_getElem?_getD, hy]; rfl
     rw [hg]
theorem rd_pairs {W : World} {base : Nat} {sp : Nat -> Bool} {held : Bool} {t e : TypeId} {f0 f1 : Field} {fuel : Nat} {cs : List Value} {x : DataW H × List MemPlace} (ht : P.underlying t = some (.slice e)) (he : P.underlying e = some (.struct #[f0, f1]))
 (ce : P.cellsOf e = 2) (o0 : f0.offset = 0) (o1 : f1.offset = 1) (c0 : P.cellsOf f0.type = 1) (c1 : P.cellsOf f1.type = 1) (k0 : P.underlying f0.type = some (.int .i64)) (k1 : P.underlying f1.type = some (.int .i64))
 (h : DataW.trod enc P W base sp held fuel t cs = some x) :
 ∃ (ao : Option Addr) (xs : List (Int × Int)) (cap : Nat), cs = [.slice ao xs.length cap] /\ Cells W ao (prs xs) /\ xs.length <= cap /\ cap <= 9223372036854775807 /\ ∀ t ∈ xs, (Lit.int .i64 t.1).wf = true /\ (Lit.int .i64 t.2).wf = true := by
 rcases open_slice_pairs ht he ce o0 o1 c0 c1 h with ⟨rfl, _⟩ | ⟨a, len, cap, m, n, V0, V1, D0, D1, P0, P1, rfl, _, hl, hm, hmm, _, hcell⟩
 · exact ⟨none, [], 0, rfl, .inl rfl, Nat.le_refl _, by decide, by simp⟩
 · have hlm : len <= m := by rw [hmm]; split <;> omega
   have each : ∀ i, i < len -> ∃ q : Int × Int, W.cell? (a.add (i * 2)) = some (.int .i64 q.1) /\ W.cell? (a.add (i * 2 + 1)) = some (.int .i64 q.2) /\ (Lit.int .i64 q.1).wf = true /\ (Lit.int .i64 q.2).wf = true := by
    intro i hi
    obtain ⟨h1, h2, h3, h4⟩ := hcell i (by omega)
    obtain ⟨z0, e0, _, w0⟩ := DataW.trod_int k0 h3
    obtain ⟨z1, e1, _, w1⟩ := DataW.trod_int k1 h4
    simp only [List.cons.injEq, and_true] at e0 e1
    rw [e0] at h1; rw [e1] at h2
    exact ⟨(z0, z1), h1, h2, w0, w1⟩
   let F : Nat -> Int × Int := fun i => if hi : i < len then (each i hi).choose else (0, 0)
   have hF : ∀ i, i < len -> W.cell? (a.add (i * 2)) = some (.int .i64 (F i).1) /\ W.cell? (a.add (i * 2 + 1)) = some (.int .i64 (F i).2) /\ (Lit.int .i64 (F i).1).wf = true /\ (Lit.int .i64 (F i).2).wf = true := by
    intro i hi
    have := (each i hi).choose_spec
    simp only [F, dif_pos hi]
    exact this
   have htl : ((List.range len).map F).length = len := by simp
   refine ⟨some a, (List.range len).map F, cap, by rw [htl], ?_, by omega, by unfold maxLen at hm; omega, ?_⟩
   · rcases Nat.eq_zero_or_pos len with h0 | h0
     · subst h0; exact .inl (by simp [prs])
     · have hsp := World.cell?_spot (hF 0 h0).1
       simp only [Addr.add] at hsp
       obtain ⟨b, off, spot⟩ := a
       simp at hsp
       subst hsp
       refine .inr ⟨b, off, rfl, fun j u hu => ?_⟩
       have hj : j < len * 2 := by
        have := (List.getElem?_eq_some_iff.1 hu).1
        rw [prs_length, htl] at this; exact this
       have hg : ((List.range len).map F)[j / 2]? = some (F (j / 2)) := by
        rw [List.getElem?_map, List.getElem?_range (by omega)]; rfl
       have h1 := prs_fst hg
       have h2 := prs_snd hg
       obtain ⟨g1, g2, _⟩ := hF (j / 2) (by omega)
       rw [Addr.add_lit] at g1 g2
       rcases Nat.mod_two_eq_zero_or_one j with hm | hm
       · have e : j / 2 * 2 = j := by omega
         rw [e] at h1 g1
         rw [h1] at hu; rw [g1]; exact hu
       · have e : j / 2 * 2 + 1 = j := by omega
         rw [e] at h2 g2
         rw [h2] at hu; rw [g2]; exact hu
   · intro t ht2
     obtain ⟨i, hi, rfl⟩ := List.mem_map.1 ht2
     have := hF i (List.mem_range.1 hi)
     exact ⟨this.2.2.1, this.2.2.2⟩
end
end Go.Proofs.YtahnadhlagabgaaGreatDoor

namespace Go.Proofs.YtahnadhlagabgaaGreatDoor
open Go.RowKit Go.WideShapes Go.ChangeShapes Go.Deep Go.Joins
section
variable {H : Type} {enc : TypeId × Value -> H} {P : Program}
def dlen : DataW H -> Nat
 | .slice elems _ => elems.length
 | _ => 0
end
end Go.Proofs.YtahnadhlagabgaaGreatDoor

namespace Go.Proofs.YtahnadhlagabgaaGreatDoor
open Go.RowKit Go.WideShapes Go.ChangeShapes Go.Deep Go.Joins
section
variable {H : Type} {enc : TypeId × Value -> H} {P : Program}
theorem rd_ints2 {W : World} {base : Nat} {sp : Nat -> Bool} {held : Bool} {t e : TypeId} {fuel : Nat} {cs : List Value} {x : DataW H × List MemPlace} (ht : P.underlying t = some (.slice e)) (he : P.underlying e = some (.int .i64)) (hc : P.cellsOf e = 1)
 (h : DataW.trod enc P W base sp held fuel t cs = some x) :
 ∃ (ao : Option Addr) (xs : List Int) (cap : Nat), cs = [.slice ao xs.length cap] /\ Cells W ao (xs.map (Value.int .i64)) /\ xs.length <= cap /\ cap <= 9223372036854775807 /\ (∀ x ∈ xs, (Lit.int .i64 x).wf = true) /\ xs.length <= dlen x.1 /\ (ao = none -> cap = 0) := by
 obtain ⟨a0, xs0, c0, h1, h2, h3, h4, h5⟩ := rd_ints ht he hc h
 refine ⟨a0, xs0, c0, h1, h2, h3, h4, h5, ?_⟩
 rcases open_ints ht he hc h with ⟨rfl, _⟩ | ⟨a, len, cap, zs, rfl, _, hl, hm, hz, hx, hcell, hwf⟩
 · simp only [List.cons.injEq, Value.slice.injEq, and_true] at h1
   obtain ⟨rfl, h6, rfl⟩ := h1
   exact ⟨by omega, fun _ => rfl⟩
 · simp only [List.cons.injEq, Value.slice.injEq, and_true] at h1
   obtain ⟨rfl, h6, rfl⟩ := h1
   have hzl : len <= zs.length := by rw [hz]; split <;> omega
   refine ⟨?_, fun h => by cases h⟩
   rw [hx]
   simp [dlen, lits]
   omega
theorem reach_all {ts : List TypeId} {ds : List (DataW H)} (h : (DataW.weightsEach P ts ds).all (· <= reachBytes) = true) {j : Nat} {t : TypeId} {d : DataW H} (ht : ts[j]? = some t) (hd : ds[j]? = some d) : ∀ n ∈ d.weights P t, n <= reachBytes := fun n hn => by
 have := List.all_eq_true.1 h _ (DataW.weights_mem_each ht hd n hn)
 simpa using this
theorem reach_dlen {d : DataW H} {t e : TypeId} (hu : P.underlying t = some (.slice e)) (hb : P.bytesOf e = 8) (h : ∀ n ∈ d.weights P t, n <= reachBytes) : dlen d <= 17592186044415 := by
 cases d with
 | slice elems spare =>
   have h1 := h ((elems.length + spare.length) * P.bytesOf e) (by simp [DataW.weights, hu])
   rw [hb] at h1
   have h2 : reachBytes = 140737488351232 := rfl
   simp only [dlen]
   omega
 | _ => simp [dlen]
end
theorem pow10_data : (Rows.laid_internal_strconv_uint64pow10 : DataW Unit) = Lib.tabData .u64 Lib.pow10Tab := rfl
theorem pow10_global : Tryz.prog.globalNamed "internal/strconv.uint64pow10" = some 1 := by kernel_rfl
theorem pow10_type : (Tryz.prog.globals[1]?).map (·.type) = some 323 := by kernel_rfl
theorem tab_of_laid {W : World} (h : laidMet Tryz.prog [("math/bits.deBruijn32tab", Rows.laid_math_bits_deBruijn32tab), ("math/bits.deBruijn64tab", Rows.laid_math_bits_deBruijn64tab), ("internal/strconv.uint64pow10", Rows.laid_internal_strconv_uint64pow10)] W) : Tab W := by
 obtain ⟨_, ⟨_, _, _, _, _, _, _, _, _, _, ⟨_, _, _, _, _, _, _, _, _, _, ⟨g', t', cs, fuel, p, q, hg', ht', hvar, hd, _, _⟩, _⟩, _⟩, _⟩ := h
 obtain rfl := Option.some.inj (pow10_global.symm.trans hg')
 obtain rfl := Option.some.inj (pow10_type.symm.trans ht')
 unfold Tab Lib.TabIs
 rw [hvar]
 rw [pow10_data] at hd
 rw [<- Lib.cells_of_tab Tryz.underlying323 Tryz.underlying252 (by kernel_rfl) (by kernel_rfl) hd]
end Go.Proofs.YtahnadhlagabgaaGreatDoor
