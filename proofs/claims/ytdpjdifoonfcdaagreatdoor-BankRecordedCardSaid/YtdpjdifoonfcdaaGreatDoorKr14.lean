/- Parts of a proof, in build order: JC, JE, JF, H4, P2, JK. -/
import Derived.Test.YtdpjdifoonfcdaaGreatDoorKr13
import Derived.Shelf.SlSortCmp.NoneTotal

namespace Go.Proofs.YtdpjdifoonfcdaaGreatDoor
open Go.RowKit Go.Shelf
theorem Tryz.infoHit : (Tryz.prog.info? 120).map (fun i => (i.zero, i.size, i.bytes)) = some (some (.agg #[.int .i64 0, .int .i64 0, .int .i64 0]), 3, 24) := by kernel_rfl
theorem own_ne_own {w : World} {B B' : Nat} {e e' : TypeId} {k k' n n' : Nat} {v v' : Value} {xs xs' : List Value} (h : w.ownsRow B e k v n xs) (h' : w.ownsRow B' e' k' v' n' xs') (hne : e ≠ e') : v.ownBlock = none ∨ v.ownBlock ≠ v'.ownBlock := by
 rcases h.2 with ⟨rfl, _⟩ | ⟨g, cap, cur, rfl, _, hg, _⟩
 · exact .inl rfl
 · refine .inr (fun he => ?_)
   rcases h'.2 with ⟨rfl, _⟩ | ⟨g', cap', cur', rfl, _, hg', _⟩
   · cases he
   · simp only [Value.ownBlock, Option.some.injEq] at he
     subst he
     rw [hg] at hg'
     cases hg'
     exact hne rfl
theorem own_ne_blk {w : World} {B b : Nat} {e t : TypeId} {k n : Nat} {v : Value} {xs : List Value} {cs : Array Value} (h : w.ownsRow B e k v n xs) (h' : Blk w b t cs) (hne : e ≠ t) : some b ≠ v.ownBlock := by
 intro he
 rcases h.2 with ⟨rfl, _⟩ | ⟨g, cap, cur, rfl, _, hg, _⟩
 · cases he
 · simp only [Value.ownBlock, Option.some.injEq] at he
   subst he
   rw [show w.heap[b]? = _ from h'] at hg
   cases hg
   exact hne rfl
def HitRow (B : Nat) (w : World) (v : Value) (l : List Ht) : Prop := (v = .slice none 0 0 /\ l = []) ∨ ∃ b c, v = .slice (some ⟨b, 0, none⟩) l.length c /\ B <= b /\ b < w.heap.size /\ RowH w b 0 l
theorem HitRow.cells {B : Nat} {w : World} {v : Value} {l : List Ht} (h : HitRow B w v l) : ∃ a c, v = .slice a l.length c /\ Cells w a (hts l) := by
 rcases h with ⟨rfl, rfl⟩ | ⟨b, c, rfl, _, _, h⟩
 · exact ⟨none, 0, rfl, Cells.nil _ _⟩
 · exact ⟨_, c, rfl, h.cells⟩
set_option maxRecDepth 1000000 in
set_option maxHeartbeats 4000000 in
theorem hits_any (L : Nat) (ws : List (List Int)) (bo : Option Addr) (cb C : Nat) (va fl : Int) (ds : List Int) (da : Option Addr) (dc : Nat) (w : World)
 (hC : Blk w C 297 #[.slice bo ws.length cb, .int .i64 va, .int .i64 fl]) (hc : Cells w bo (shpL L ws)) (hws : ∀ y ∈ ws, y.length = 64 /\ ∀ x ∈ y, -127 <= x /\ x <= 127) (hlen : ws.length <= 64) (hL1 : 1 <= L) (hL : L <= 64) (hd : Cells w da (ds.map (Value.int .i64))) (hdl : ds.length <= 512) (hdb : ∀ x ∈ ds, -32768 <= x /\ x <= 32768)
 (a1 : 1 <= va) (a2 : va <= 1048576) (f1 : 0 <= fl) (f2 : fl <= 65536) :
 Calls Tryz.prog 124 #[.pointer (some ⟨C, 0, none⟩), .slice da ds.length dc] w fun e w' => (∃ v, e = .returned v /\ HitRow w.heap.size w' v (hitS (hitW ws ds L va fl ws.length))) /\ Below w.heap.size w w' := by
 have hpt := hitW_parted (ws := ws) (va := va) (fl := fl) hL (fun y hy => (hws y hy).2) hdb hlen hdl
 have hlW := fun k => hitW_len ws ds L va fl k (by unfold nOut; omega)
 have hok := fun (c t : Nat) h1 h2 h3 => hit_ok (ws := ws) (ds := ds) (L := L) (c := c) (t := t) (va := va) (fl := fl) hL (fun y hy => (hws y hy).2) hdb h1 hlen h2 hdl h3
 have hFK : ∀ wx, Below w.heap.size w wx -> (wx.cell? ⟨C, 0, none⟩ = some (.slice bo ws.length cb) /\ wx.cell? ⟨C, 1, none⟩ = some (.int .i64 va) /\ wx.cell? ⟨C, 2, none⟩ = some (.int .i64 fl)) /\ Cells wx bo (shpL L ws) := fun wx hb => by
  have hq := hC.below hb hC.lt
  exact ⟨⟨hq.cell 0, hq.cell 1, hq.cell 2⟩, hc.below hb (Nat.le_refl _)⟩
 have hou := fun (y : List Int) (hy : y ∈ ws) (wx : World) (hb : Below w.heap.size w wx) => outputs_own L y ds da dc wx (hws y hy).1 (hd.below hb (Nat.le_refl _)) hL1 hL hdl (hws y hy).2 hdb
 have hnm := fun (y : List Int) (hy : y ∈ ws) (wx : World) => norm_any L y wx (hws y hy).1 (by omega) (by omega) (hws y hy).2
 have hnb := fun (y : List Int) (hy : y ∈ ws) => ovl_bd (hws y hy).2 (hws y hy).2 (L : Int) 0 (by omega)
 have hnn := fun (y : List Int) => (show 0 <= ovl y y (L : Int) 0 by rw [ovl_self]; exact ovTo_sq_nn _ _ _)
 have hdt := fun (y : List Int) (hy : y ∈ ws) (t : Nat) => dotTo_bd (hws y hy).2 hdb t 0 L
 have hget := fun (i : Nat) (y : List Int) (hy : ws[i]? = some y) (j : Nat) (v : Value) (hv : (shp (L : Int) y)[j]? = some v) => shpL_get (L := (L : Int)) (fun z hz => (hws z hz).1) hy (j := j) (v := v) hv
 obtain ⟨Z, hZ⟩ : ∃ Z, Z = shp 0 (smp 0 0 0) := ⟨_, rfl⟩
 have z : Tryz.zeroCells129 = Z := by rw [hZ]; exact zero101
 have hZs : Z.size = 65 := by rw [hZ, shp_size, smp_length]
 have hst := fun y (hy : y ∈ ws) => store_shape (shp L y) Z (by rw [shp_size, (hws y hy).1]) hZs shp_mem
 have hVs := fun y (hy : y ∈ ws) => (show (shp L y).size = 65 by rw [shp_size, (hws y hy).1])
 obtain ⟨i0, hi, hz0, hz1, hz2⟩ := info_parts Tryz.infoHit
 obtain ⟨⟨y0, -, -⟩, -⟩ := hFK w (Below.refl _ _)
 have hfv : 0 <= fl * va /\ fl * va <= 68719476736 := ⟨Int.mul_nonneg f1 (by omega), Int.le_trans (Int.mul_le_mul f2 a2 (by omega) (by omega)) (by decide)⟩
 have HPT := Lib.hid hpt; have HLW := Lib.hid hlW; have HOK := Lib.hid hok; have HFK := Lib.hid hFK; have HOU := Lib.hid hou; have HNM := Lib.hid hnm; have HNB := Lib.hid hnb; have HNN := Lib.hid hnn; have HDT := Lib.hid hdt; have HG := Lib.hid hget; have HST := Lib.hid hst; have HVS := Lib.hid hVs; have HI0 := Lib.hid hi
 clear hpt hlW hok hFK hou hnm hnb hnn hdt hget hst hVs hZ hws hdb hd hc hC
 have hnO : nOut L ds.length <= 512 := by unfold nOut; omega
 go_enter Tryz.func124, Tryz.ntmps124
 go_wp2_with fail
 clear y0
 go_loopw [5, 15] (fun v i wr => ∃ k : Nat, k <= ws.length /\ i = .int .i64 k /\ wr.ownsRow w.heap.size 120 3 v (hitW ws ds L va fl k).length (hts (hitW ws ds L va fl k)) /\ Below w.heap.size w wr) (fun _ i _ => ws.length - (intOf i).toNat)
 case atStart => exact ⟨0, Nat.zero_le _, rfl, World.ownsRow_nil _ _ _ _, Below.refl _ _⟩
 case round =>
  obtain ⟨k, hk, rfl, hown, hbe⟩ := hrel
  have HOWN := Lib.hid hown
  clear hown
  obtain ⟨⟨y0, y1, y2⟩, hcb⟩ := HFK.out wr hbe
  have hsr := hbe.size
  by_cases hlt : k < ws.length
  · obtain ⟨y, hy⟩ := get_of_lt hlt
    have hym := List.mem_of_getElem? hy
    have hgd : ws.getD k [] = y := by rw [List.getD_eq_getElem?_getD, hy]; rfl
    have hv65 := HVS.out y hym
    obtain ⟨bb, ob, rfl⟩ := hcb.addr (by
     intro h
     have h2 := HG.out k y hy 0 (.int .i64 L) rfl
     rw [h] at h2; simp at h2)
    have hcell : ∀ j v, (shp (L : Int) y)[j]? = some v -> wr.cell? ((⟨bb, ob + k * 65, none⟩ : Addr).add j) = some v := by
     intro j v hv
     rw [Addr.add_lit, Nat.add_assoc]
     exact hcb.at (HG.out k y hy j v hv)
    have hst := HST.out y hym
    have hou := HOU.out y hym
    have hnm := HNM.out y hym
    have hnb := HNB.out y hym
    have hnn := HNN.out y
    have hdt := HDT.out y hym
    have hhk := fun (t : Nat) h2 h3 => HOK.out k t hlt h2 (by rw [hgd]; exact h3)
    rw [hgd] at hhk
    have hW1 : hitW ws ds L va fl (k + 1) = hitW ws ds L va fl k ++ hitC y ds L va fl k (nOut L ds.length) := by rw [hitW, hgd]
    have hC0 : hitC y ds L va fl k 0 = [] := rfl
    have hC1 := fun j => (show hitC y ds L va fl k (j + 1) = hitC y ds L va fl k j ++ (if hitB y ds L va fl j = true then [mkH j k (dotTo y ds j 0 L)] else []) from rfl)
    have hB := fun j => (show hitB y ds L va fl j = (decide (0 < dotTo y ds j 0 L) && decide (fl * va * ovl y y L 0 <= dotTo y ds j 0 L * dotTo y ds j 0 L)) from rfl)
    have hCl := fun j => hitC_len y ds L va fl k j
    have hinf : (Tryz.prog.info? 129).map (·.size) = some (shp (L : Int) y).size := by rw [hv65]; kernel_rfl
    have hlk := HLW.out k
    generalize ovl y y (L : Int) 0 = nm at *
    generalize hitC y ds L va fl k = hc at *
    generalize hitB y ds L va fl = hb1 at *
    generalize hitW ws ds L va fl k = l0 at *
    have HCE := Lib.hid hcell; have HOX := Lib.hid hou; have HNX := Lib.hid hnm; have HIY := Lib.hid hinf; have HDX := Lib.hid hdt; have HHK := Lib.hid hhk; have HW1 := Lib.hid hW1; have HC1 := Lib.hid hC1; have HB1 := Lib.hid hB; have HCL := Lib.hid hCl
    clear hcell hou hnm hinf hdt hhk hW1 hC1 hB hCl hym hcb hgd hy
    generalize shp (L : Int) y = V at *
    have hne : ¬ V = #[] := by intro h; rw [h] at hv65; simp at hv65
    have k1 : (k : Int) < ws.length := by omega
    have k2 : (0 : Int) <= k := by omega
    have hal := hbe.alloc hbe.size (.cells V 129)
    have HAL := Lib.hid hal
    clear hal
    go_wp2_with (first
     | (refine wpList_load_arr (by rfl) 129 _ (by rfl) ⟨bb, ob + k * 65, none⟩ (by rfl) V _ HCE.out Tryz.underlying129 (by rfl) HIY.out ?_)
     | (refine wpList_load_row (by rfl) 129 _ (by rfl) wr.heap.size (by rfl) _ V _ _ (heap_alloc_new wr _) Tryz.underlying129 (by rfl) HIY.out ?_)
     | (go_at_call 80; refine (HOX.out _ HAL.out).mono ?_; rintro e w2 ⟨⟨v2, rfl, hown2⟩, hb2⟩; obtain ⟨g2, c2, rfl, hcs2⟩ := own_cells hown2; have HO2 := Lib.hid hown2; clear hown2 hcs2))
    have hb02 := HAL.out.trans (hb2.mono HAL.out.size)
    have hbk := (Blk.new wr 129 V).below hb2 (by simp)
    have ho2 := own_belowK (HOWN.out.alloc (.cells V 129)) hb2 (Nat.le_refl _)
    obtain ⟨B7, hB7⟩ : ∃ B7, B7 = wr.heap.size := ⟨_, rfl⟩
    rw [<- hB7] at hbk
    have HB02 := Lib.hid hb02; have HBK := Lib.hid hbk; have HR2 := Lib.hid ho2
    clear hb02 hbk ho2 hb2 HAL HCE HOWN hbe y0 y1 y2 hsr
    go_wp2_with fail
    rw [<- hB7]
    clear hB7
    generalize wr = wA at *
    go_loopw [5, 24] (fun v i wr => ∃ j : Nat, j <= nOut L ds.length /\ i = .int .i64 j /\ wr.ownsRow w.heap.size 120 3 v (l0 ++ hc j).length (hts (l0 ++ hc j)) /\ wr.ownsRow ((wA.alloc (.cells V 129)).heap.size + 1) 3 1 (.slice g2 (nOut L ds.length) c2) (nOut L ds.length) ((outs y ds L (nOut L ds.length)).map (Value.int .i64)) /\ Blk wr B7 129 V /\ Below w.heap.size w wr) (fun _ i _ => nOut L ds.length - (intOf i).toNat)
    case atStart => exact ⟨0, Nat.zero_le _, rfl, by rw [hC0, List.append_nil]; exact HR2.out, HO2.out, HBK.out, HB02.out⟩
    case round =>
     obtain ⟨j, hj, rfl, hown, hio, hbk, hbe⟩ := hrel
     have hsr := hbe.size
     by_cases hjl : j < nOut L ds.length
     · have hjj : (outs y ds L (nOut L ds.length))[j]? = some (dotTo y ds j 0 L) := by simp [outs, hjl]
       have hdj := HDX.out j
       have hcj := HC1.out j
       have hbj := HB1.out j
       have hhj := HHK.out j hjl
       have hoh := hio.2
       rcases hoh with ⟨h1, h2⟩ | ⟨g, cap, cur, h1, -⟩
       · exact absurd h2 (by omega)
       simp only [Value.slice.injEq, true_and] at h1
       obtain ⟨rfl, rfl⟩ := h1
       have x0 : wr.cell? ⟨g, j, none⟩ = some (.int .i64 (dotTo y ds j 0 L)) := by
        have := hio.cells (g := g) rfl j _ (by rw [List.getElem?_map, hjj]; rfl)
        rwa [Addr.add_lit, Nat.zero_add] at this
       generalize dotTo y ds j 0 L = o at *
       obtain ⟨⟨y0, y1, y2⟩, -⟩ := HFK.out wr hbe
       have j1 : (j : Int) < (nOut L ds.length : Nat) := by omega
       have j2 : (0 : Int) <= j := by omega
       have HOWN := Lib.hid hown; have HIO := Lib.hid hio; have HBK2 := Lib.hid hbk; have HHJ := Lib.hid hhj; have HBE := Lib.hid hbe
       clear hown hio hhj hjj hbe
       by_cases hpos : 0 < o
       · have hoo : 0 <= o * o /\ o * o <= 288230376151711744 := by
          have h5 : o <= 536870912 := by omega
          exact ⟨Int.mul_nonneg (by omega) (by omega), Int.le_trans (Int.mul_le_mul h5 h5 (by omega) (by omega)) (by decide)⟩
         have hfn : 0 <= fl * va * nm /\ fl * va * nm <= 288230376151711744 := by
          have h5 : nm <= 4194304 := by omega
          exact ⟨Int.mul_nonneg hfv.1 hnn, Int.le_trans (Int.mul_le_mul hfv.2 h5 hnn (by omega)) (by decide)⟩
         have e1 : decide (0 < o) = true := by simp [hpos]
         rw [e1, Bool.true_and] at hbj
         have s2 : wr.drew.cell? ⟨C, 2, none⟩ = some (.int .i64 fl) := y2
         have s1 : wr.drew.cell? ⟨C, 1, none⟩ = some (.int .i64 va) := y1
         have s7 : wr.drew.heap[B7]? = some (.cells V 129 (0, 0)) := hbk
         go_wp2_with fail
         refine wp_region_held_drew (S := fun w' => w'.cell? ⟨C, 2, none⟩ = some (.int .i64 fl) /\ w'.cell? ⟨C, 1, none⟩ = some (.int .i64 va) /\ w'.heap[B7]? = some (.cells V 129 (0, 0))) (by kernel_rfl) ⟨s2, s1, s7⟩ (fun h9 => ?_)
         refine tkV 0 (.int .i64 o) h9 ?_
         refine tkV 1 (.bool true) h9 ?_
         refine tkV 2 (.bool true) h9 ?_
         refine tkV 3 (.int .i64 o) h9 ?_
         refine tkV 4 (.int .i64 o) h9 ?_
         refine tkV 5 (.int .i64 (o * o)) h9 ?_
         refine tkV 6 (.pointer (some ⟨C, 0, none⟩)) h9 ?_
         refine tkV 7 (.pointer (some ⟨C, 0, none⟩)) h9 ?_
         refine tkV 8 (.pointer (some ⟨C, 2, none⟩)) h9 ?_
         refine tkV 9 (.int .i64 fl) h9 ?_
         refine tkV 10 (.pointer (some ⟨C, 0, none⟩)) h9 ?_
         refine tkV 11 (.pointer (some ⟨C, 0, none⟩)) h9 ?_
         refine tkV 12 (.pointer (some ⟨C, 1, none⟩)) h9 ?_
         refine tkV 13 (.int .i64 va) h9 ?_
         refine tkV 14 (.int .i64 (fl * va)) h9 ?_
         refine tkV 15 (.agg V) h9 ?_ (hy := by intro w9 h; exact exec_load_row 129 _ rfl B7 rfl 129 V (0, 0) _ h.2.2 Tryz.underlying129 (by rfl) HIY.out)
         refine tkC 16 (fun K hK => ?_)
         go_simp
         refine (HNX.out _).mono ?_
         rintro e wz ⟨rfl, hbz⟩
         have hwd : wr.drew.heap.size = wr.heap.size := rfl
         have hbz1 := ((Below.refl wr.heap.size wr).drew).trans hbz
         have t2 := cell_keep s2 hbz (Nat.le_refl _)
         have t1 := cell_keep s1 hbz (Nat.le_refl _)
         have t7 := (hbz.block B7 (Blk.lt (W := wr) HBK2.out)).trans s7
         have hrz := own_belowK HOWN.out hbz1 (Nat.le_refl _)
         have hiz := own_belowK HIO.out hbz1 (Nat.le_refl _)
         have hbw := HBE.out.trans (hbz1.mono hsr)
         have hszz := hbw.size
         have HRZ := Lib.hid hrz; have HIZ := Lib.hid hiz; have HBW := Lib.hid hbw; have HT7 : Hid (Blk wz B7 129 V) := Lib.hid t7
         refine hK.out _ _ ⟨t2, t1, t7⟩ (fun hA => ?_)
         clear hK K
         try simp only [Act.put, List.setIfInBounds_toArray, List.set_cons_zero, List.set_cons_succ]
         refine tkV 17 (.int .i64 (fl * va * nm)) hA ?_
         refine tkV 18 (.bool (decide (fl * va * nm <= o * o))) hA ?_
         refine tkV 19 (.bool (decide (fl * va * nm <= o * o))) hA ?_
         refine wpAnyH_done (by kernel_rfl) ?_ _
         clear hA h9 s1 s2 s7 t1 t2 t7 hrz hiz hbw hbz hbz1 hbk y0 y1 y2 x0 hwd HOWN HIO HBE HBK2
         cases hD : decide (fl * va * nm <= o * o) with
         | false =>
           rw [hD] at hbj
           rw [hbj, if_neg (by decide), List.append_nil] at hcj
           have HCJ := Lib.hid hcj
           clear hcj hbj hD hoo hfn
           go_wp2
           go_roundw
           case rel => exact ⟨j + 1, by omega, by go_num, by rw [HCJ.out]; exact HRZ.out, HIZ.out, HT7.out, HBW.out⟩
           case measure => simp [intOf]; omega
         | true =>
           rw [hD] at hbj
           rw [hbj, if_pos rfl] at hcj
           have hval := mkH_val (HHJ.out hbj)
           have hen : encH (mkH j k o) = [.int .i64 j, .int .i64 k, .int .i64 o] := by unfold encH; rw [hval]
           have happ : hts (l0 ++ hc (j + 1)) = hts (l0 ++ hc j) ++ [.int .i64 j, .int .i64 k, .int .i64 o] := by rw [hcj, <- List.append_assoc, hts_append (l0 ++ hc j), hts_one, hen]
           have hlen2 : (l0 ++ hc (j + 1)).length = (l0 ++ hc j).length + 1 := by rw [hcj]; simp only [List.length_append, List.length_cons, List.length_nil]; omega
           have hlim : (l0 ++ hc j).length <= 33000 := by
            have := HCL.out j
            rw [List.length_append]; omega
           have HAPP := Lib.hid happ; have HLEN := Lib.hid hlen2; have HLIM := Lib.hid hlim
           have HOB : Hid (∀ i, u5.ownBlock = some i -> w.heap.size <= i) := Lib.hid (fun i e => (HRZ.out.lt i e).1)
           clear hcj hbj hD hoo hfn hval hen happ hlen2 hlim
           go_wp2_with (at_builtin; refine wpList_append_own _ rfl _ _ 116 rfl w.heap.size 120 i0 (.agg #[.int .i64 0, .int .i64 0, .int .i64 0]) 3 24 Tryz.underlying116 HI0.out hz0 hz1 hz2 rfl (by decide) _ _ _ rfl (HRZ.out.alloc _) ⟨wz.heap.size, 0, none⟩ 1 1 [.int .i64 j, .int .i64 k, .int .i64 o] rfl rfl (World.news_of_block (cs := #[.int .i64 j, .int .i64 k, .int .i64 o]) (t := 120) (fr := (0, 0)) (heap_alloc_new wz _)) (by simp [Value.oneCell']) (by have := HLIM.out; unfold maxLen; omega) (by have := HLIM.out; omega) (by simp; omega) ?_; intro v9 w9 hown9 hgrow _)
           rw [<- HAPP.out, <- HLEN.out] at hown9
           have hio9 := (HIZ.out.alloc (.cells #[.int .i64 j, .int .i64 k, .int .i64 o] 120)).kept hgrow (own_ne_own HIZ.out HRZ.out (by decide))
           have hbk9 := (HT7.out.alloc (.cells #[.int .i64 j, .int .i64 k, .int .i64 o] 120)).kept hgrow (own_ne_blk HRZ.out HT7.out (by decide))
           have hbe9 := (HBW.out.alloc hszz (.cells #[.int .i64 j, .int .i64 k, .int .i64 o] 120)).grown hgrow (by simp; omega) HOB.out
           have H9 := Lib.hid hown9; have HI9 := Lib.hid hio9; have HK9 := Lib.hid hbk9; have HE9 := Lib.hid hbe9
           clear hown9 hio9 hbk9 hbe9 hgrow
           go_wp2
           go_roundw
           case rel => exact ⟨j + 1, by omega, by go_num, H9.out, HI9.out, HK9.out, HE9.out⟩
           case measure => simp [intOf]; omega
       · have e1 : decide (0 < o) = false := by simp; omega
         rw [e1, Bool.false_and] at hbj
         rw [hbj, if_neg (by decide), List.append_nil] at hcj
         have HCJ := Lib.hid hcj
         clear hcj hbj y0 y1 y2 hbk
         go_wp2_with fail
         refine wp_region_held_drew (S := fun _ => True) (by kernel_rfl) trivial (fun h9 => ?_)
         refine tkV 0 (.int .i64 o) h9 ?_
         refine tkV 1 (.bool false) h9 ?_
         refine tkV 2 (.bool false) h9 ?_
         refine tkS 3 h9 ?_
         refine tkS 4 h9 ?_
         refine tkS 5 h9 ?_
         refine tkS 6 h9 ?_
         refine tkS 7 h9 ?_
         refine tkS 8 h9 ?_
         refine tkS 9 h9 ?_
         refine tkS 10 h9 ?_
         refine tkS 11 h9 ?_
         refine tkS 12 h9 ?_
         refine tkS 13 h9 ?_
         refine tkS 14 h9 ?_
         refine tkS 15 h9 ?_
         refine tkS 16 h9 ?_
         refine tkS 17 h9 ?_
         refine tkS 18 h9 ?_
         refine tkV 19 (.bool false) h9 ?_
         refine wpAnyH_done (by kernel_rfl) ?_ _
         clear h9
         have hbz1 := (Below.refl wr.heap.size wr).drew
         have hrz := own_belowK HOWN.out hbz1 (Nat.le_refl _)
         have hiz := own_belowK HIO.out hbz1 (Nat.le_refl _)
         have hbw := HBE.out.trans (hbz1.mono hsr)
         have hkz := HBK2.out.below hbz1 HBK2.out.lt
         have HRZ := Lib.hid hrz; have HIZ := Lib.hid hiz; have HBW := Lib.hid hbw; have HT7 := Lib.hid hkz
         clear hbz1 hrz hiz hbw hkz HOWN HIO HBE HBK2 x0
         go_wp2
         go_roundw
         case rel => exact ⟨j + 1, by omega, by go_num, by rw [HCJ.out]; exact HRZ.out, HIZ.out, HT7.out, HBW.out⟩
         case measure => simp [intOf]; omega
     · obtain rfl : j = nOut L ds.length := by omega
       rw [<- HW1.out] at hown
       have H9 := Lib.hid hown; have HE9 := Lib.hid hbe
       clear hown hio hbk hbe
       go_wp2
       go_roundw
       case rel => exact ⟨k + 1, by omega, by go_num, H9.out, HE9.out⟩
       case measure => simp [intOf]; omega
  · obtain rfl : k = ws.length := by omega
    have hlk := HLW.out ws.length
    have hr := rowH_own HOWN.out rfl
    obtain ⟨l, hlq⟩ : ∃ l, hitW ws ds L va fl ws.length = l := ⟨_, rfl⟩
    have hpt := HPT.out
    rw [hlq] at hr hlk hpt
    have HL := Lib.hid hlk; have HLQ := Lib.hid hlq; have HP2 := Lib.hid hpt
    clear hlk hlq hpt HPT HOWN y0 y1 y2 hcb hlt
    rcases hr with ⟨rfl, rfl⟩ | ⟨b, c, rfl, hb1, hb2, hrow⟩
    · have hnone := fun (W : World) => AnyF.slices_SortFunc_none (P := Tryz.prog) Tryz.sortHit none 0 (.func (.func 193) #[] #[]) W
      change ∀ W, Calls Tryz.prog 192 _ _ _ at hnone
      have HNO := Lib.hid hnone
      clear hnone
      go_wp2_with (go_at_call 192; refine (HNO.out _).mono ?_; rintro e w9 ⟨rfl, rfl⟩)
      go_ret
      exact ⟨⟨_, rfl, .inl ⟨rfl, by rw [HLQ.out]; simp [hitS]⟩⟩, hbe⟩
    · have hso := fun W h1 h2 => sort_hits b 0 c l W h1 h2 (by have := HL.out; omega) HP2.out
      have HSO := Lib.hid hso; have HROW := Lib.hid hrow
      have hlS : (hitS l).length = l.length := (hitS_perm l).length_eq
      have HLS := Lib.hid hlS
      clear hso hrow hlS
      go_wp2_with (go_at_call 192; refine (HSO.out _ HROW.out hb2).mono ?_; rintro e w9 ⟨rfl, hrw9, hb9, hsz9⟩; have HR9 := Lib.hid hrw9; clear hrw9)
      go_ret
      exact ⟨⟨_, rfl, .inr ⟨b, c, by rw [HLQ.out, HLS.out]; rfl, hb1, by omega, by rw [HLQ.out]; exact HR9.out⟩⟩, hbe.trans (hb9.mono hb1)⟩
end Go.Proofs.YtdpjdifoonfcdaaGreatDoor

namespace Go.Proofs.YtdpjdifoonfcdaaGreatDoor
open Go.RowKit
def hitR (L : Int) (cs : List (Int × Int)) (ds : List Int) (va fl : Int) : List Ht := if hitE L cs ds va fl = 0 then hitS (hitW (wvs L cs) ds L.toNat va fl (wvs L cs).length) else []
theorem wvs_len (L : Int) (cs : List (Int × Int)) : (wvs L cs).length = cs.length := by simp [wvs]
theorem wvs_mem {L : Int} {cs : List (Int × Int)} : ∀ y ∈ wvs L cs, y.length = 64 /\ ∀ x ∈ y, -127 <= x /\ x <= 127 := by
 intro y hy
 simp only [wvs, List.mem_map] at hy
 obtain ⟨c, _, rfl⟩ := hy
 exact ⟨wav_length _ _ _, wav_bd _ _ _⟩
theorem bankOK_len {L : Int} {cs : List (Int × Int)} (h : bankOK L cs = true) : cs.length <= 64 := by
 simp only [bankOK, Bool.and_eq_true, decide_eq_true_eq] at h
 exact h.1.1
theorem hitR_len (L : Int) (cs : List (Int × Int)) (ds : List Int) (va fl : Int) : (hitR L cs ds va fl).length <= 32832 := by
 unfold hitR
 split
 · rename_i h
   obtain ⟨hk, hda, -, -⟩ := hitE_0 h
   have hl := bankOK_len (chkB_0 hk).2
   have hd := (dataOK_true hda).1
   rw [(hitS_perm _).length_eq, wvs_len]
   have := hitW_len (wvs L cs) ds L.toNat va fl cs.length (by unfold nOut; omega)
   omega
 · simp
theorem hits_of (L : Int) (cs : List (Int × Int)) (ds : List Int) (da : Option Addr) (dc : Nat) (va fl : Int) (bo : Option Addr) (cb C : Nat) (w : World) (h0 : hitE L cs ds va fl = 0)
 (hC : Blk w C 297 #[.slice bo cs.length cb, .int .i64 va, .int .i64 fl]) (hc : Cells w bo (shpL L (wvs L cs))) (hd : Cells w da (ds.map (Value.int .i64))) :
 Calls Tryz.prog 124 #[.pointer (some ⟨C, 0, none⟩), .slice da ds.length dc] w fun e w' => (∃ v, e = .returned v /\ HitRow w.heap.size w' v (hitR L cs ds va fl)) /\ Below w.heap.size w w' := by
 obtain ⟨hk, hda, hv, hf⟩ := hitE_0 h0
 obtain ⟨hL, hbk⟩ := chkB_0 hk
 obtain ⟨d1, d2⟩ := dataOK_true hda
 simp only [inB, decide_eq_true_eq] at hL hv hf
 have hl := bankOK_len hbk
 have e1 : ((L.toNat : Nat) : Int) = L := by omega
 have h := hits_any L.toNat (wvs L cs) bo cb C va fl ds da dc w (by rw [wvs_len]; exact hC) (by rw [e1]; exact hc) wvs_mem (by rw [wvs_len]; exact hl) (by omega) (by omega) hd d1 d2 hv.1 hv.2 hf.1 hf.2
 rw [show hitR L cs ds va fl = hitS (hitW (wvs L cs) ds L.toNat va fl (wvs L cs).length) by rw [hitR, if_pos h0]]
 exact h
set_option maxRecDepth 100000 in
set_option maxHeartbeats 2000000 in
theorem Hits_any (L : Int) (cs : List (Int × Int)) (ao : Option Addr) (cap : Nat) (ds : List Int) (da : Option Addr) (dc : Nat) (va fl : Int) (w : World) (hc : Cells w ao (prs cs)) (hl : cs.length <= 9223372036854775807) (hcap : cs.length <= cap) (hcap2 : cap <= 9223372036854775807) (hd : Cells w da (ds.map (Value.int .i64))) (hld : ds.length <= 9223372036854775807) :
 Calls Tryz.prog 58 #[.int .i64 L, .slice ao cs.length cap, .slice da ds.length dc, .int .i64 va, .int .i64 fl] w fun e w' => (∃ v, e = .returned (.tuple #[v, .int .i64 (hitE L cs ds va fl)]) /\ HitRow w.heap.size w' v (hitR L cs ds va fl)) /\ Below w.heap.size w w' := by
 have hli := listening_any L cs ao cap ds da dc va fl w hc hl hcap hcap2 hd hld
 have hho := fun bo cb C W (h0 : hitE L cs ds va fl = 0) h1 h2 (hb : Below w.heap.size w W) => hits_of L cs ds da dc va fl bo cb C W h0 h1 h2 (hd.below hb (Nat.le_refl _))
 have hR : hitE L cs ds va fl ≠ 0 -> hitR L cs ds va fl = [] := fun h => by rw [hitR, if_neg h]
 obtain ⟨E, hE⟩ : ∃ E, E = hitE L cs ds va fl := ⟨_, rfl⟩
 have HLI := Lib.hid hli; have HHO := Lib.hid hho; have HR := Lib.hid hR; have HE := Lib.hid hE
 clear hli hho hR hc hd hE
 go_enter Tryz.func58, Tryz.ntmps58
 go_wp2_with fail
 refine HLI.out.mono ?_
 rintro e w1 ⟨⟨h0, C, bo, cb, rfl, hq, hCs, hcs⟩ | ⟨h0, rfl⟩, hb1⟩
 · have hho := HHO.out bo cb C w1 h0 hq hcs hb1
   have HO := Lib.hid hho; have H0 := Lib.hid h0
   clear hho hq hcs h0
   go_wp2_with fail
   refine HO.out.mono ?_
   rintro e w2 ⟨⟨v, rfl, hrow⟩, hb2⟩
   have HROW := Lib.hid hrow
   clear hrow
   go_wp2_with fail
   go_ret2
   refine ⟨⟨v, by rw [H0.out]; rfl, ?_⟩, hb1.trans (hb2.mono hb1.size)⟩
   rcases HROW.out with h | ⟨b, c, h1, h2, h3⟩
   · exact .inl h
   · exact .inr ⟨b, c, h1, Nat.le_trans hb1.size h2, h3⟩
 · rw [<- HE.out] at h0
   rw [<- HE.out]
   go_wp2_with fail
   go_ret2
   exact ⟨⟨_, by rw [<- HE.out]; rfl, .inl ⟨rfl, HR.out (by rw [<- HE.out]; exact h0)⟩⟩, hb1⟩
end Go.Proofs.YtdpjdifoonfcdaaGreatDoor

namespace Go.Proofs.YtdpjdifoonfcdaaGreatDoor
open Go.RowKit
theorem clampz_any (n lo hi : Int) (w : World) :
 Calls Tryz.prog 40 #[.int .i64 n, .int .i64 lo, .int .i64 hi] w fun e w' => e = .returned (.int .i64 (max lo (min n hi))) /\ w = w' := by
 go_enter Tryz.func40, Tryz.ntmps40
 go_wp2
 all_goals
  go_ret
  refine ⟨ret_int ?_, rfl⟩
  first
   | omega
   | (split at * <;> omega)
   | (simp only [Int.max_def, Int.min_def] at *; (repeat' split at *) <;> omega)
def sigV (L : Int) (al : Option Addr) (nl cl : Nat) (wh mo ti : Int) (na : Option Addr) (nn nc : Nat) (B va fl : Int) : Array Value := #[.int .i64 L, .slice al nl cl, .int .i64 wh, .int .i64 mo, .int .i64 ti, .slice na nn nc, .int .i64 B, .int .i64 va, .int .i64 fl]
def burV (ns hs : List Int) (B A : Int) (t0 k : Nat) : Int := max (-B) (min (ns.getD k 0) B) + (if t0 <= k /\ k - t0 < hs.length then A * hs.getD (k - t0) 0 else 0)
def burN (ns hs : List Int) (B A : Int) (t0 : Nat) : Nat -> List Int
 | 0 => []
 | k + 1 => burN ns hs B A t0 k ++ [burV ns hs B A t0 k]
theorem burN_len (ns hs : List Int) (B A : Int) (t0 k : Nat) : (burN ns hs B A t0 k).length = k := by
 induction k with
 | zero => rfl
 | succ k ih => simp [burN, ih]
theorem burN_get (ns hs : List Int) (B A : Int) (t0 : Nat) {i : Nat} : ∀ {k : Nat}, i < k -> (burN ns hs B A t0 k)[i]? = some (burV ns hs B A t0 i) := by
 intro k
 induction k with
 | zero => intro h; omega
 | succ k ih =>
   intro h
   simp only [burN]
   by_cases hi : i = k
   · subst hi
     rw [List.getElem?_append_right (by rw [burN_len]; omega), burN_len]; simp
   · rw [List.getElem?_append_left (by rw [burN_len]; omega)]
     exact ih (by omega)
set_option maxRecDepth 1000000 in
set_option maxHeartbeats 4000000 in
theorem buriedC_any (L wh mo ti B va fl A : Int) (al : Option Addr) (nl cl : Nat) (na : Option Addr) (ns : List Int) (nc : Nat) (ha : Option Addr) (hs : List Int) (hcap t0 : Nat) (w : World)
 (hn : Cells w na (ns.map (Value.int .i64))) (hnl : ns.length <= 512) (hh : Cells w ha (hs.map (Value.int .i64))) (hhl : hs.length <= 64) (B1 : 0 <= B) (B2 : B <= 32768) (A1 : 0 <= A) (A2 : A <= 2097152) (hb : ∀ x ∈ hs, -127 <= x /\ x <= 127) (ht : t0 <= 512) :
 Calls Tryz.prog 54 #[.agg (sigV L al nl cl wh mo ti na ns.length nc B va fl), .slice ha hs.length hcap, .int .i64 A, .int .i64 t0] w fun e w' => (∃ b c, e = .returned (.slice b ns.length c) /\ Cells w' b ((burN ns hs B A t0 ns.length).map (Value.int .i64)) /\ ns.length <= c /\ c <= 9223372036854775807) /\ Below w.heap.size w w' := by
 have hbV := fun k => (show burV ns hs B A t0 k = max (-B) (min (ns.getD k 0) B) + (if t0 <= k /\ k - t0 < hs.length then A * hs.getD (k - t0) 0 else 0) from rfl)
 have hbN := fun k => (show burN ns hs B A t0 (k + 1) = burN ns hs B A t0 k ++ [burV ns hs B A t0 k] from rfl)
 have hbl := burN_len ns hs B A t0
 have hb0 : burN ns hs B A t0 0 = [] := rfl
 generalize burV ns hs B A t0 = bv at *
 generalize burN ns hs B A t0 = bn at *
 obtain ⟨W0, hW0⟩ : ∃ W0, w.alloc (.cells (sigV L al nl cl wh mo ti na ns.length nc B va fl) 101) = W0 := ⟨_, rfl⟩
 have hB0 : Below w.heap.size w W0 := by rw [<- hW0]; exact (Below.refl _ w).alloc (Nat.le_refl _) _
 have hs0 : W0.heap.size = w.heap.size + 1 := by rw [<- hW0]; simp
 have r0 : Blk W0 w.heap.size 101 (sigV L al nl cl wh mo ti na ns.length nc B va fl) := by rw [<- hW0]; exact heap_alloc_new w _
 have hFK : ∀ wx, Below W0.heap.size W0 wx -> (wx.cell? ⟨w.heap.size, 5, none⟩ = some (.slice na ns.length nc) /\ wx.cell? ⟨w.heap.size, 6, none⟩ = some (.int .i64 B)) /\ Cells wx na (ns.map (Value.int .i64)) /\ Cells wx ha (hs.map (Value.int .i64)) /\ Below w.heap.size w wx := fun wx hb => by
  have h2 := hB0.trans (hb.mono (by omega))
  have hq := r0.below hb (by omega)
  exact ⟨⟨hq.cell 5, hq.cell 6⟩, hn.below h2 (Nat.le_refl _), hh.below h2 (Nat.le_refl _), h2⟩
 obtain ⟨⟨y5, y6⟩, -, -, -⟩ := hFK W0 (Below.refl _ _)
 have hsv : sigV L al nl cl wh mo ti na ns.length nc B va fl = #[.int .i64 L, .slice al nl cl, .int .i64 wh, .int .i64 mo, .int .i64 ti, .slice na ns.length nc, .int .i64 B, .int .i64 va, .int .i64 fl] := rfl
 rw [hsv] at hW0 ⊢
 obtain ⟨i0, hi, hz0, hz1, hz2⟩ := info_parts Tryz.infoInt
 have hcl := fun n W => clampz_any n (-B) B W
 have HFK := Lib.hid hFK; have HW0 := Lib.hid hW0; have HBV := Lib.hid hbV; have HBN := Lib.hid hbN; have HBL := Lib.hid hbl; have HCL := Lib.hid hcl; have HHB := Lib.hid hb; have HB0 := Lib.hid hB0; have HI0 := Lib.hid hi
 clear hFK hW0 hbV hbN hbl hcl hb hB0 hn hh r0 hsv
 go_enter Tryz.func54, Tryz.ntmps54
 go_wp2_with fail
 rw [HW0.out]
 go_loopw [9, 10] (fun v i wr => ∃ k : Nat, k <= ns.length /\ i = .int .i64 k /\ wr.ownsRow (w.heap.size + 1) 3 1 v k ((bn k).map (Value.int .i64)) /\ Below W0.heap.size W0 wr) (fun _ i _ => ns.length - (intOf i).toNat)
 case atStart => exact ⟨0, Nat.zero_le _, rfl, by rw [hb0]; exact World.ownsRow_nil _ _ _ _, Below.refl _ _⟩
 case round =>
  obtain ⟨k, hk, rfl, hown, hbe⟩ := hrel
  obtain ⟨⟨y5, y6⟩, hcn, hch, hbw⟩ := HFK.out wr hbe
  have hsr := hbe.size
  by_cases hlt : k < ns.length
  · obtain ⟨x, hx⟩ := get_of_lt hlt
    obtain ⟨nb, no, rfl⟩ := hcn.addr (by intro h; rw [List.map_eq_nil_iff] at h; rw [h] at hlt; simp at hlt)
    have xc := hcn.int hx
    have hgd : ns.getD k 0 = x := by rw [List.getD_eq_getElem?_getD, hx]; rfl
    have hbv := HBV.out k
    rw [hgd] at hbv
    have hbn := HBN.out k
    have hbk := HBL.out k
    have k1 : (k : Int) < ns.length := by omega
    have k2 : (0 : Int) <= k := by omega
    obtain ⟨cc, hcc⟩ : ∃ cc, cc = max (-B) (min x B) := ⟨_, rfl⟩
    have hcl := HCL.out x
    rw [<- hcc] at hcl hbv
    have hc1 : -B <= cc /\ cc <= B := by omega
    have HOWN := Lib.hid hown; have HBN2 := Lib.hid hbn; have HCX := Lib.hid hcl; have HBE := Lib.hid hbe; have HCH := Lib.hid hch
    clear hown hbn hcl hbe hch hcn hcc hgd hx HBV HBN
    go_wp2_with fail
    refine wp_region_held_drew (S := fun w' => w'.cell? ⟨w.heap.size, 5, none⟩ = some (.slice (some ⟨nb, no, none⟩) ns.length nc) /\ w'.cell? ⟨w.heap.size, 6, none⟩ = some (.int .i64 B) /\ w'.cell? ⟨nb, no + k, none⟩ = some (.int .i64 x)) (by kernel_rfl) ⟨y5, y6, xc⟩ (fun h9 => ?_)
    refine tkV 0 (.pointer (some ⟨w.heap.size, 5, none⟩)) h9 ?_
    refine tkV 1 (.slice (some ⟨nb, no, none⟩) ns.length nc) h9 ?_
    refine tkV 2 (.int .i64 k) h9 ?_
    refine tkV 3 (.pointer (some ⟨nb, no + k, none⟩)) h9 ?_
    refine tkV 4 (.int .i64 x) h9 ?_
    refine tkV 5 (.pointer (some ⟨w.heap.size, 6, none⟩)) h9 ?_
    refine tkV 6 (.int .i64 B) h9 ?_
    refine tkV 7 (.int .i64 (-B)) h9 ?_
    refine tkV 8 (.pointer (some ⟨w.heap.size, 6, none⟩)) h9 ?_
    refine tkV 9 (.int .i64 B) h9 ?_
    refine tkC 10 (fun K hK => ?_)
    go_simp
    refine (HCX.out _).mono ?_
    rintro e wz ⟨rfl, rfl⟩
    refine hK.out _ _ h9 (fun hA => ?_)
    clear hK K
    try simp only [Act.put, List.setIfInBounds_toArray, List.set_cons_zero, List.set_cons_succ]
    refine tkV 11 (.int .i64 cc) hA ?_
    refine wpAnyH_done (by kernel_rfl) ?_ _
    have hbd := (Below.refl wr.heap.size wr).drew
    have hown := own_belowK HOWN.out hbd (Nat.le_refl _)
    have hbe := HBE.out.trans (hbd.mono hsr)
    have hch := HCH.out.below hbd (Nat.le_refl _)
    have hsz2 := hbe.size
    have hob : ∀ j, u9.ownBlock = some j -> W0.heap.size <= j := fun j e => by have := (hown.lt j e).1; omega
    generalize wr.drew = wz at *
    have HOW2 := Lib.hid hown; have HBE2 := Lib.hid hbe; have HOB := Lib.hid hob
    clear hA h9 hbd hown hbe xc y5 y6 HOWN HBE HCH HCX hob
    by_cases g1 : t0 <= k
    · have g1i : (t0 : Int) <= k := by omega
      have e2 : ((k : Int) - t0).toNat = k - t0 := by omega
      have e3 : -9223372036854775808 <= (k : Int) - t0 := by omega
      by_cases g2 : k - t0 < hs.length
      · have g2i : (k : Int) - t0 < hs.length := by omega
        have g3i : (0 : Int) <= (k : Int) - t0 := by omega
        rw [if_pos ⟨g1, g2⟩] at hbv
        obtain ⟨y, hy⟩ := get_of_lt g2
        have hgy : hs.getD (k - t0) 0 = y := by rw [List.getD_eq_getElem?_getD, hy]; rfl
        rw [hgy] at hbv
        have hyb := HHB.out y (List.mem_of_getElem? hy)
        obtain ⟨hb, ho, rfl⟩ := hch.addr (by intro h; rw [List.map_eq_nil_iff] at h; rw [h] at g2; simp at g2)
        have yc := hch.int hy
        have hAy : -268435456 <= A * y /\ A * y <= 268435456 := by
         have h3 : 0 <= A * (y + 127) := Int.mul_nonneg A1 (by omega)
         have h4 : 0 <= A * (127 - y) := Int.mul_nonneg A1 (by omega)
         rw [Int.mul_add] at h3
         rw [Int.mul_sub] at h4
         omega
        have hfin : (bn (k + 1)).map (Value.int .i64) = (bn k).map (Value.int .i64) ++ [.int .i64 (cc + A * y)] := by rw [HBN2.out, hbv, List.map_append]; rfl
        have HFIN := Lib.hid hfin
        clear hfin hbv hy hgy hch
        go_wp2_with (at_builtin; refine wpList_append_own _ rfl _ _ 24 rfl (w.heap.size + 1) 3 i0 (.int .i64 0) 1 8 Tryz.underlying24 HI0.out hz0 hz1 hz2 rfl (by decide) _ _ _ rfl (HOW2.out.alloc _) ⟨wz.heap.size, 0, none⟩ 1 1 [.int .i64 (cc + A * y)] rfl rfl (news1 _ _ _) (by simp [Value.oneCell']) (by unfold maxLen; omega) (by omega) (by simp; omega) ?_; intro v9 w9 hown9 hgrow _)
        rw [<- HFIN.out] at hown9
        have hbe9 := (HBE2.out.alloc hsz2 (.cells #[.int .i64 (cc + A * y)] 3)).grown hgrow (by simp; omega) HOB.out
        have H9 := Lib.hid hown9; have HE9 := Lib.hid hbe9
        clear hown9 hbe9 hgrow
        go_wp2
        go_roundw
        case rel => exact ⟨k + 1, by omega, by go_num, H9.out, HE9.out⟩
        case measure => simp [intOf]; omega
      · have g2i : ¬ (k : Int) - t0 < hs.length := by omega
        rw [if_neg (fun h => g2 h.2), Int.add_zero] at hbv
        have hfin : (bn (k + 1)).map (Value.int .i64) = (bn k).map (Value.int .i64) ++ [.int .i64 cc] := by rw [HBN2.out, hbv, List.map_append]; rfl
        have HFIN := Lib.hid hfin
        clear hfin hbv hch e2
        go_wp2_with (at_builtin; refine wpList_append_own _ rfl _ _ 24 rfl (w.heap.size + 1) 3 i0 (.int .i64 0) 1 8 Tryz.underlying24 HI0.out hz0 hz1 hz2 rfl (by decide) _ _ _ rfl (HOW2.out.alloc _) ⟨wz.heap.size, 0, none⟩ 1 1 [.int .i64 cc] rfl rfl (news1 _ _ _) (by simp [Value.oneCell']) (by unfold maxLen; omega) (by omega) (by simp; omega) ?_; intro v9 w9 hown9 hgrow _)
        rw [<- HFIN.out] at hown9
        have hbe9 := (HBE2.out.alloc hsz2 (.cells #[.int .i64 cc] 3)).grown hgrow (by simp; omega) HOB.out
        have H9 := Lib.hid hown9; have HE9 := Lib.hid hbe9
        clear hown9 hbe9 hgrow
        go_wp2
        go_roundw
        case rel => exact ⟨k + 1, by omega, by go_num, H9.out, HE9.out⟩
        case measure => simp [intOf]; omega
    · have g1i : ¬ (t0 : Int) <= k := by omega
      rw [if_neg (fun h => g1 h.1), Int.add_zero] at hbv
      have hfin : (bn (k + 1)).map (Value.int .i64) = (bn k).map (Value.int .i64) ++ [.int .i64 cc] := by rw [HBN2.out, hbv, List.map_append]; rfl
      have HFIN := Lib.hid hfin
      clear hfin hbv hch
      go_wp2_with (at_builtin; refine wpList_append_own _ rfl _ _ 24 rfl (w.heap.size + 1) 3 i0 (.int .i64 0) 1 8 Tryz.underlying24 HI0.out hz0 hz1 hz2 rfl (by decide) _ _ _ rfl (HOW2.out.alloc _) ⟨wz.heap.size, 0, none⟩ 1 1 [.int .i64 cc] rfl rfl (news1 _ _ _) (by simp [Value.oneCell']) (by unfold maxLen; omega) (by omega) (by simp; omega) ?_; intro v9 w9 hown9 hgrow _)
      rw [<- HFIN.out] at hown9
      have hbe9 := (HBE2.out.alloc hsz2 (.cells #[.int .i64 cc] 3)).grown hgrow (by simp; omega) HOB.out
      have H9 := Lib.hid hown9; have HE9 := Lib.hid hbe9
      clear hown9 hbe9 hgrow
      go_wp2
      go_roundw
      case rel => exact ⟨k + 1, by omega, by go_num, H9.out, HE9.out⟩
      case measure => simp [intOf]; omega
  · obtain rfl : k = ns.length := by omega
    obtain ⟨g, c, rfl, hcs, hcn9, hcm9⟩ := own_cap hown
    have hmx : maxLen = 9223372036854775807 := rfl
    rw [hmx] at hcm9
    have HCS := Lib.hid hcs; have HBW := Lib.hid hbw
    clear hcs hown hbw hcn hch hmx
    go_wp2
    go_ret
    exact ⟨⟨g, c, rfl, HCS.out, hcn9, hcm9⟩, HBW.out⟩
end Go.Proofs.YtdpjdifoonfcdaaGreatDoor

namespace Go.Proofs.YtdpjdifoonfcdaaGreatDoor
open Go.RowKit
theorem ovl_sqTo (xs : List Int) (L : Nat) : ovl xs xs L 0 = sqTo xs 0 L := by
 rw [ovl_self, Int.toNat_natCast]
 induction L with
 | zero => rfl
 | succ n ih =>
   simp only [ovTo, sqTo, ih, Int.add_zero, Int.zero_add, Int.toNat_natCast, Nat.zero_add]
end Go.Proofs.YtdpjdifoonfcdaaGreatDoor

namespace Go.Proofs.YtdpjdifoonfcdaaGreatDoor
open Go.RowKit
theorem enoB_mono {us : List Int} {L : Nat} {a b ns bd : Int} (h : enoB us L a ns bd = true) (hab : a <= b) : enoB us L b ns bd = true := by
 unfold enoB at *
 rw [Bool.and_eq_true, decide_eq_true_iff, decide_eq_true_iff] at *
 obtain ⟨h1, h2⟩ := h
 have hs := sqTo_nn us 0 L
 have hm := Int.mul_le_mul_of_nonneg_right hab hs
 have hN : a * sqTo us 0 L - ns * abS us L <= b * sqTo us 0 L - ns * abS us L := by omega
 generalize a * sqTo us 0 L - ns * abS us L = N at *
 generalize b * sqTo us 0 L - ns * abS us L = N' at *
 refine ⟨by omega, Int.le_trans h2 (Int.mul_le_mul hN hN (by omega) (by omega))⟩
theorem enoB_zero {us : List Int} (h1 : ∀ x ∈ us, -127 <= x /\ x <= 127) (L : Nat) {ns bd : Int} (hn : 0 <= ns) : enoB us L 0 ns bd = false := by
 unfold enoB
 rw [Bool.and_eq_false_iff]; left
 rw [decide_eq_false_iff_not]
 have := Int.mul_nonneg hn (abS_bd h1 L).1
 omega
def Sur (f : Int -> Bool) (v e : Int) : Prop := (e = 0 /\ 1 <= v /\ v <= 1048576 /\ f v = true /\ ∀ a, 0 <= a -> a < v -> f a = false) ∨ (e = 4 /\ v = 0 /\ ∀ a, 0 <= a -> a <= 1048576 -> f a = false)
def SurT (L p q ns va fl v e : Int) : Prop :=
 if waveOK L p q = false then v = 0 /\ e = 70 else if silentB (wav L p q) = true then v = 0 /\ e = 4 else if (inB 0 ns 32768 && inB 1 va 1048576 && inB 0 fl 65536) = false then v = 0 /\ e = 8 else Sur (fun a => enoB (wav L p q) L.toNat a ns (fl * va * sqTo (wav L p q) 0 L.toNat)) v e
end Go.Proofs.YtdpjdifoonfcdaaGreatDoor

namespace Go.Proofs.YtdpjdifoonfcdaaGreatDoor
open Go.RowKit
theorem take_getD (xs : List Int) {n i : Nat} (h : i < n) : (xs.take n).getD i 0 = xs.getD i 0 := by
 rw [List.getD_eq_getElem?_getD, List.getD_eq_getElem?_getD, List.getElem?_take, if_pos h]
theorem hts_at {l : List Ht} {k : Nat} {x : Ht} (h : l[k]? = some x) : (hts l)[k * 3]? = some (.int .i64 x.1.1) /\ (hts l)[k * 3 + 1]? = some (.int .i64 x.1.2.1) /\ (hts l)[k * 3 + 2]? = some (.int .i64 x.1.2.2) := by
 have hk := (List.getElem?_eq_some_iff.1 h).1
 have e := get_list! h
 have e0 := hts_get l (k * 3) (by omega)
 have e1 := hts_get l (k * 3 + 1) (by omega)
 have e2 := hts_get l (k * 3 + 2) (by omega)
 rw [show k * 3 / 3 = k by omega, show k * 3 % 3 = 0 by omega, e] at e0
 rw [show (k * 3 + 1) / 3 = k by omega, show (k * 3 + 1) % 3 = 1 by omega, e] at e1
 rw [show (k * 3 + 2) / 3 = k by omega, show (k * 3 + 2) % 3 = 2 by omega, e] at e2
 exact ⟨e0, e1, e2⟩
def atB (t c : Int) (h : Ht) : Bool := decide (h.1.1 = t) && decide (h.1.2.1 = c)
theorem sure_mem {L : Int} {cs : List (Int × Int)} {ns : List Int} {va fl B v mo : Int} {wn tn : Nat} {p q : Int} (hw : cs[wn]? = some (p, q)) (hE : hitE L cs (burN ns ((wav L p q).take L.toNat) B (v + mo) tn ns.length) va fl = 0)
 (hS : SurT L p q B va fl v 0) (hm : 0 <= mo) (hB : 0 <= B) (ht : tn + L.toNat <= ns.length) :
 (hitR L cs (burN ns ((wav L p q).take L.toNat) B (v + mo) tn ns.length) va fl).any (atB tn wn) = true := by
 obtain ⟨hk, hda, hv, hf⟩ := hitE_0 hE
 obtain ⟨hL, hbk⟩ := chkB_0 hk
 obtain ⟨d1, d2⟩ := dataOK_true hda
 simp only [inB, decide_eq_true_eq] at hL
 have hl := bankOK_len hbk
 have hwn : wn < cs.length := (List.getElem?_eq_some_iff.1 hw).1
 have hgw : (wvs L cs).getD wn [] = wav L p q := by
  rw [List.getD_eq_getElem?_getD, wvs, List.getElem?_map, hw]; rfl
 have hlen : ((wav L p q).take L.toNat).length = L.toNat := by rw [List.length_take, wav_length]; omega
 have hen : enoB (wav L p q) L.toNat v B (fl * va * sqTo (wav L p q) 0 L.toNat) = true := by
  unfold SurT at hS
  split at hS
  · omega
  · split at hS
    · omega
    · split at hS
      · omega
      · rcases hS with ⟨_, _, _, h, _⟩ | ⟨h, _⟩
        · exact h
        · omega
 have hh := sure_hit (xs := wav L p q) (ds := burN ns ((wav L p q).take L.toNat) B (v + mo) tn ns.length) (t := tn) (A := v + mo) hen (by omega) (fun i => max (-B) (min (ns.getD (tn + i) 0) B)) (fun i _ => by omega) (fun i hi => by
  rw [List.getD_eq_getElem?_getD, burN_get ns _ B _ tn (show tn + i < ns.length by omega), Option.getD_some, burV, if_pos ⟨by omega, by rw [hlen]; omega⟩, show tn + i - tn = i by omega, take_getD _ hi])
 have hl2 : (burN ns ((wav L p q).take L.toNat) B (v + mo) tn ns.length).length = ns.length := burN_len _ _ _ _ _ _
 have hO : tn < nOut L.toNat (burN ns ((wav L p q).take L.toNat) B (v + mo) tn ns.length).length := by rw [hl2]; unfold nOut; omega
 have hB1 : hitB ((wvs L cs).getD wn []) (burN ns ((wav L p q).take L.toNat) B (v + mo) tn ns.length) L.toNat va fl tn = true := by
  rw [hgw, hitB, Bool.and_eq_true, decide_eq_true_eq, decide_eq_true_eq, ovl_sqTo]
  exact hh
 have hok := hit_ok (ws := wvs L cs) (by omega) (fun y hy => (wvs_mem y hy).2) d2 (by rw [wvs_len]; exact hwn) (by rw [wvs_len]; exact hl) hO d1 hB1
 have hmem : mkH tn wn (dotTo ((wvs L cs).getD wn []) (burN ns ((wav L p q).take L.toNat) B (v + mo) tn ns.length) tn 0 L.toNat) ∈ hitR L cs (burN ns ((wav L p q).take L.toNat) B (v + mo) tn ns.length) va fl := by
  rw [hitR, if_pos hE]
  exact (hitS_perm _).mem_iff.2 (hitW_mem.2 ⟨wn, tn, by rw [wvs_len]; exact hwn, hO, hB1, rfl⟩)
 refine List.any_eq_true.2 ⟨_, hmem, ?_⟩
 rw [atB, mkH_val hok]; simp
end Go.Proofs.YtdpjdifoonfcdaaGreatDoor
