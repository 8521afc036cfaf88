/- Parts of a proof, in build order: GD, VC. -/
import Derived.Test.YtdpjdifoonfcdaaGreatDoorKh14
import Derived.Deep.Slices
import Derived.Lib.SmallJoins

namespace Go.Proofs.YtdpjdifoonfcdaaGreatDoor
open Go.RowKit
theorem dotTo_prI (xs ds : List Int) : ∀ k, k <= xs.length -> k <= ds.length -> dotTo xs ds 0 0 k = prI (xs.take k) (ds.take k)
 | 0, _, _ => by simp [dotTo, prI]
 | k + 1, h1, h2 => by
   obtain ⟨x, hx⟩ := get_of_lt (show k < xs.length by omega)
   obtain ⟨y, hy⟩ := get_of_lt (show k < ds.length by omega)
   rw [prI_take hx hy, <- dotTo_prI xs ds k (by omega) (by omega)]
   simp [dotTo, hx, hy]
theorem ovTo_prI (xs : List Int) : ∀ k : Nat, k <= xs.length -> ovTo xs xs 0 0 k = prI (xs.take k) (xs.take k)
 | 0, _ => by simp [ovTo, prI]
 | k + 1, h1 => by
   obtain ⟨x, hx⟩ := get_of_lt (show k < xs.length by omega)
   rw [prI_take hx hx, <- ovTo_prI xs k (by omega)]
   simp [ovTo, hx]
theorem prI_bd2 {M K : Nat} : ∀ (xs ys : List Int), (∀ x ∈ xs, x.natAbs <= M) -> (∀ y ∈ ys, y.natAbs <= K) -> (prI xs ys).natAbs <= xs.length * (M * K)
 | [], _, _, _ => by simp [prI]
 | _ :: _, [], _, _ => by simp [prI]
 | x :: xs, y :: ys, h1, h2 => by
   have ih := prI_bd2 xs ys (fun u hu => h1 u (by simp [hu])) (fun u hu => h2 u (by simp [hu]))
   have e1 := Nat.mul_le_mul (h1 x (by simp)) (h2 y (by simp))
   rw [<- Int.natAbs_mul] at e1
   have e3 : (xs.length + 1) * (M * K) = xs.length * (M * K) + M * K := Nat.succ_mul _ _
   simp only [prI, List.length_cons]
   rw [e3]
   have := Int.natAbs_add_le (x * y) (prI xs ys)
   omega
structure Win (L p q : Int) (ds : List Int) : Prop where
 one : OneW (wavR L p q) (winD L ds)
 norm : nrmV L p q = prI (wavR L p q) (wavR L p q)
 filE : filE L p q (winD L ds) = 0
 filR : filR L p q (winD L ds) = [prI (wavR L p q) (winD L ds)]
 waveE : wavE L p q = 0
 L0 : 4 <= L /\ L <= 64
 bd : (prI (wavR L p q) (winD L ds)).natAbs <= 133169152
theorem win_of {L p q : Int} {ds : List Int} (h : topW L p q = true) : Win L p q ds := by
 unfold topW at h
 rw [Bool.and_eq_true, decide_eq_true_iff] at h
 obtain ⟨hw, hn⟩ := h
 have hL := waveOK_true hw
 have hwr : wavR L p q = (wav L p q).take L.toNat := by unfold wavR; rw [if_pos hw]
 have hlw : (wavR L p q).length = L.toNat := by rw [wavR_length, if_pos hw]
 have hld := winD_len L ds
 have hsw : ∀ x ∈ wavR L p q, -1048576 <= x /\ x <= 1048576 := fun x hx => by
  rw [hwr] at hx
  have := wav_bd L p q x (List.mem_of_mem_take hx); omega
 have hsy : ∀ x ∈ winD L ds, -1048576 <= x /\ x <= 1048576 := fun x hx => by have := winD_bd L ds x hx; omega
 have hnorm : nrmV L p q = prI (wavR L p q) (wavR L p q) := by
  unfold nrmV
  rw [if_pos hw, ovl_self, ovTo_prI _ _ (by rw [wav_length]; omega), <- hwr]
 have hdo : dataOK (winD L ds) = true := by
  unfold dataOK
  rw [Bool.and_eq_true, decide_eq_true_iff]
  refine ⟨by rw [hld]; omega, List.all_eq_true.2 fun x hx => ?_⟩
  have := winD_bd L ds x hx
  unfold inB
  exact decide_eq_true (by omega)
 have hfe : _root_.Go.Proofs.YtdpjdifoonfcdaaGreatDoor.filE L p q (winD L ds) = 0 := by unfold _root_.Go.Proofs.YtdpjdifoonfcdaaGreatDoor.filE; rw [if_pos hw, if_pos hdo]
 have hone : OneW (wavR L p q) (winD L ds) := ⟨by rw [hlw, hld], by rw [hld]; omega, by rw [hld]; omega, hsy, hsw, by rw [<- hnorm]; omega⟩
 refine ⟨hone, hnorm, hfe, ?_, by unfold wavE; rw [if_pos hw], ⟨hL.1, hL.2.1⟩, ?_⟩
 rotate_left
 · have h3 := prI_bd2 (M := 127) (K := 16384) (wavR L p q) (winD L ds) (fun x hx => by
    rw [hwr] at hx
    have := wav_bd L p q x (List.mem_of_mem_take hx); omega) (fun x hx => by have := winD_bd L ds x hx; omega)
   have h5 : (wavR L p q).length * (127 * 16384) <= 64 * (127 * 16384) := Nat.mul_le_mul_right _ (by rw [hlw]; omega)
   omega
 unfold _root_.Go.Proofs.YtdpjdifoonfcdaaGreatDoor.filR
 rw [if_pos hfe]
 unfold outs nOut
 rw [hld, show L.toNat + 1 - L.toNat = 1 by omega]
 show [dotTo (wav L p q) (winD L ds) 0 0 L.toNat] = _
 rw [dotTo_prI _ _ _ (by rw [wav_length]; omega) (by rw [hld]; exact Nat.le_refl _), <- hwr, List.take_of_length_le (by rw [hld]; exact Nat.le_refl _)]
set_option maxRecDepth 100000 in
set_option maxHeartbeats 4000000 in
theorem best_law (L p q : Int) (ao : Option Addr) (ds : List Int) (cap : Nat) (w : World) (ht : Tab w) (hc : Cells w ao (ds.map (Value.int .i64))) :
 Calls Tryz.prog 5 #[.agg #[.int .i64 L, .int .i64 p, .int .i64 q, .slice ao ds.length cap]] w fun e w' => e = .returned (.bool true) /\ Below w.heap.size w w' := by
 have hwv := fun W => topWave_any L p q (.slice ao ds.length cap) W
 have HWV := Lib.hid hwv; have HT := Lib.hid ht; have HC := Lib.hid hc
 obtain ⟨W0, hW0⟩ : ∃ W0, W0 = w.alloc (.cells #[.int .i64 L, .int .i64 p, .int .i64 q, .slice ao ds.length cap] 26) := ⟨_, rfl⟩
 have hb0 : Below w.heap.size w W0 := by rw [hW0]; exact (Below.refl _ _).alloc (Nat.le_refl _) _
 have hz0 : W0.heap.size = w.heap.size + 1 := by rw [hW0]; simp
 have x0 : W0.cell? ⟨w.heap.size, 0, none⟩ = some (.int .i64 L) := by rw [hW0]; simp
 have x1 : W0.cell? ⟨w.heap.size, 1, none⟩ = some (.int .i64 p) := by rw [hW0]; simp
 have x2 : W0.cell? ⟨w.heap.size, 2, none⟩ = some (.int .i64 q) := by rw [hW0]; simp
 have x3 : W0.cell? ⟨w.heap.size, 3, none⟩ = some (.slice ao ds.length cap) := by rw [hW0]; simp
 have HB0 := Lib.hid hb0
 clear hwv ht hc hb0
 cases htw : topW L p q
 · rw [htw] at HWV
   clear htw
   go_enter Tryz.func5, Tryz.ntmps5
   go_wp2_with fail
   rw [<- hW0]
   clear hW0
   refine (HWV.out _).mono ?_
   rintro e w1 ⟨⟨b, c, rfl, -⟩, hb1⟩
   have HB1 := Lib.hid (HB0.out.trans (hb1.mono HB0.out.size))
   clear hb1 x0 x1 x2 x3
   go_wp2_with fail
   refine (fitted_any _ (HT.out.below HB1.out (Nat.le_refl _))).mono ?_
   rintro e w2 ⟨rfl, hb2⟩
   have hbf := HB1.out.trans (hb2.mono HB1.out.size)
   go_wp2_with fail
   go_ret
   exact ⟨rfl, hbf⟩
 · have hwin := win_of (ds := ds) htw
   rw [htw] at HWV
   have hfl := fun b c W hcb => filter_any L p q b (winD L ds) c W hcb (by rw [winD_len]; have := hwin.L0; omega)
   have hnm := fun W => Norm_any L p q W
   have hdt := fun W hcd => topData_any L p q ao ds cap W hcd (by have := hwin.L0; omega) hwin.L0.2
   have hsq := fun b c W ht hcb => topSquares_any b (winD L ds) L.toNat c W ht hcb (winD_len L ds) (by have := hwin.L0; omega) hwin.one.ysm
   have hgf := fun a1 a2 a3 c1 c2 c3 W ht h1 h2 h3 => gfit_one a1 a2 a3 (wavR L p q) (winD L ds) hwin.one c1 c2 c3 L.toNat W ht h1 h2 h3 (winD_len L ds).symm
   rw [hwin.filR, hwin.filE, winD_len] at hfl
   rw [hwin.waveE, hwin.norm] at hnm
   have hwl : (wavR L p q).length = L.toNat := by rw [hwin.one.len, winD_len]
   rw [hwl] at HWV
   obtain ⟨h, hh⟩ : ∃ h, wavR L p q = h := ⟨_, rfl⟩
   rw [hh] at hfl hnm hgf HWV
   have hone := hwin.one
   rw [hh] at hone
   have hbd := hwin.bd
   rw [hh] at hbd
   obtain ⟨y, hy⟩ : ∃ y, winD L ds = y := ⟨_, rfl⟩
   rw [hy] at hfl hsq hgf hone hbd
   have hL := hwin.L0
   obtain ⟨N, hN⟩ : ∃ N, L.toNat = N := ⟨_, rfl⟩
   have hdt2 : ∀ W, Cells W ao (ds.map (Value.int .i64)) -> Calls Tryz.prog 15 #[.agg #[.int .i64 L, .int .i64 p, .int .i64 q, .slice ao ds.length cap]] W fun e w' => (∃ b c, e = .returned (.slice b N c) /\ Cells w' b (y.map (Value.int .i64))) /\ Below W.heap.size W w' := fun W hcd => by
    have := hdt W hcd
    unfold DataRes at this
    rw [hy, hN] at this
    exact this
   rw [hN] at hfl hsq hgf HWV
   obtain ⟨n, hn⟩ : ∃ n, prI h h = n := ⟨_, rfl⟩
   obtain ⟨o, ho⟩ : ∃ o, prI h y = o := ⟨_, rfl⟩
   have hn2 := prI_sm hone.hsm hone.hsm (by have := hone.len; have := hone.hi; omega)
   have hn0 : 0 < n := by
    unfold topW at htw
    rw [Bool.and_eq_true, decide_eq_true_iff, hwin.norm, hh, hn] at htw
    exact htw.2
   rw [hn] at hn2
   rw [ho] at hbd
   have hoo : (o * o).natAbs <= 17734023044399104 := by
    rw [Int.natAbs_mul]
    exact Nat.le_trans (Nat.mul_le_mul hbd hbd) (by decide)
   have hyb := prI_sm hone.ysm hone.ysm hone.hi
   have hof1 := fun W ht => of_any o n W ht (by omega) (by omega) (by omega) (by omega) (by omega)
   have hof2 := fun W ht => of_any (o * o) n W ht (by omega) (by omega) (by omega) (by omega) (by omega)
   rw [of_tx o hn0] at hof1
   rw [of_tx (o * o) hn0] at hof2
   have hor : ((prI y y : Int) : Rat) - ((o * o : Int) : Rat) / (n : Rat) = oneR h y := by unfold oneR; rw [ho, hn]
   have hsb := fun W ht => subQ_own ((prI y y : Int) : Rat) (((o * o : Int) : Rat) / (n : Rat)) W ht (small_okQ (by omega)) (ok_small (Nat.le_trans (hgt_div (by omega) (by omega) (by omega)) (by decide)))
   rw [hor, (ptQ_ok (oneR_ok hone)).1, (ptQ_ok (oneR_ok hone)).2] at hsb
   rw [ho] at hfl
   simp only [ho, hn] at hgf
   rw [hn] at hnm
   simp only [List.length_cons, List.length_nil, Nat.zero_add] at hfl
   obtain ⟨ta, hta⟩ : ∃ ta, txQ ((o : Rat) / (n : Rat)) = ta := ⟨_, rfl⟩
   obtain ⟨tr, htr⟩ : ∃ tr, txQ (oneR h y) = tr := ⟨_, rfl⟩
   obtain ⟨tb, htb⟩ : ∃ tb, txQ (((o * o : Int) : Rat) / (n : Rat)) = tb := ⟨_, rfl⟩
   obtain ⟨ts, hts⟩ : ∃ ts, txQ ((prI y y : Int) : Rat) = ts := ⟨_, rfl⟩
   simp only [hta, htr] at hgf
   rw [hta] at hof1
   rw [htb] at hof2
   rw [hts] at hsq
   simp only [htb, htr, hts] at hsb
   have q1 : IntKind.i64.wrap (o * o) = o * o := IntWalk.i64_in _ (by omega)
   have n0 : ¬ n < 1 := by omega
   have HDT := Lib.hid hdt2; have HFL := Lib.hid hfl; have HNM := Lib.hid hnm; have HSQ := Lib.hid hsq; have HGF := Lib.hid hgf; have HO1 := Lib.hid hof1; have HO2 := Lib.hid hof2; have HSB := Lib.hid hsb
   clear htw hwin hdt hwl hnm hh hone hy hL hgf hsq hfl hN hdt2 hn ho hn2 hbd hoo hyb hof1 hof2 hor hsb hta htr htb hts hn0
   go_enter Tryz.func5, Tryz.ntmps5
   go_wp2_with fail
   rw [<- hW0]
   clear hW0
   refine (HWV.out _).mono ?_
   rintro e w1 ⟨⟨b, c, rfl, hcb⟩, hb1⟩
   have HB1 := Lib.hid (HB0.out.trans (hb1.mono HB0.out.size))
   have HCB := Lib.hid hcb
   have y0 := cell_keep x0 hb1 (by omega)
   have y1 := cell_keep x1 hb1 (by omega)
   have y2 := cell_keep x2 hb1 (by omega)
   have y3 := cell_keep x3 hb1 (by omega)
   have hz1 : w.heap.size < w1.heap.size := by have := hb1.size; omega
   clear hb1 hcb x0 x1 x2 x3 HWV
   go_wp2_with fail
   refine (HDT.out _ (HC.out.below HB1.out (Nat.le_refl _))).mono ?_
   rintro e w2 ⟨⟨yb, yc, rfl, hcy⟩, hb2⟩
   have HB2 := Lib.hid (HB1.out.trans (hb2.mono HB1.out.size))
   have HCB2 := Lib.hid (HCB.out.below hb2 (Nat.le_refl _))
   have HCY := Lib.hid hcy
   have z0 := cell_keep y0 hb2 (by omega)
   have z1 := cell_keep y1 hb2 (by omega)
   have z2 := cell_keep y2 hb2 (by omega)
   have hz2 : w.heap.size < w2.heap.size := by have := hb2.size; omega
   clear hb2 hcy y0 y1 y2 y3 HDT HCB
   obtain ⟨W3, hW3⟩ : ∃ W3, W3 = w2.alloc (.cells #[.slice b N c] 24) := ⟨_, rfl⟩
   have l3 : Cells W3 (some ⟨w2.heap.size, 0, none⟩) [.slice b N c] := by rw [hW3]; exact cells_lit w2 [.slice b N c] 24
   have B3 : Below w2.heap.size w2 W3 := by rw [hW3]; exact (Below.refl _ _).alloc (Nat.le_refl _) _
   have hz3 : w.heap.size < W3.heap.size := by rw [hW3]; simp; omega
   have HB3 := Lib.hid (HB2.out.trans (B3.mono HB2.out.size))
   have HCY3 := Lib.hid (HCY.out.below B3 (Nat.le_refl _))
   have hg3 := HGF.out _ _ _ yc c 1 W3 (HT.out.below HB3.out (Nat.le_refl _)) HCY3.out (HCB2.out.below B3 (Nat.le_refl _)) l3
   have HG3 := Lib.hid hg3
   have a0 := cell_keep z0 B3 (by omega)
   have a1 := cell_keep z1 B3 (by omega)
   have a2 := cell_keep z2 B3 (by omega)
   clear l3 B3 hg3 z0 z1 z2 HGF HCB2 HCY
   go_wp2_with fail
   rw [<- hW3]
   clear hW3
   refine HG3.out.mono ?_
   rintro e w4 ⟨⟨fa, fc, rfl, hcf⟩, hb4⟩
   have HB4 := Lib.hid (HB3.out.trans (hb4.mono HB3.out.size))
   have HCY4 := Lib.hid (HCY3.out.below hb4 (Nat.le_refl _))
   have HCF := Lib.hid hcf
   have b0 := cell_keep a0 hb4 (by omega)
   have b1 := cell_keep a1 hb4 (by omega)
   have b2 := cell_keep a2 hb4 (by omega)
   have hz4 : w.heap.size < w4.heap.size := by have := hb4.size; omega
   clear hb4 hcf a0 a1 a2 HG3 HCY3
   go_wp2_with fail
   refine (HFL.out _ _ _ HCY4.out).mono ?_
   rintro e w5 ⟨⟨ob, oc, rfl, hco⟩, hb5⟩
   have HB5 := Lib.hid (HB4.out.trans (hb5.mono HB4.out.size))
   have HCY5 := Lib.hid (HCY4.out.below hb5 (Nat.le_refl _))
   have HCF5 := Lib.hid (HCF.out.below hb5 (Nat.le_refl _))
   have HCO := Lib.hid hco
   have c0 := cell_keep b0 hb5 (by omega)
   have c1 := cell_keep b1 hb5 (by omega)
   have c2 := cell_keep b2 hb5 (by omega)
   clear hb5 hco b0 b1 b2 HFL HCY4 HCF
   go_wp2_with fail
   refine (HNM.out _).mono ?_
   rintro e w6 ⟨rfl, hb6⟩
   have HB6 := Lib.hid (HB5.out.trans (hb6.mono HB5.out.size))
   have HCY6 := Lib.hid (HCY5.out.below hb6 (Nat.le_refl _))
   have HCF6 := Lib.hid (HCF5.out.below hb6 (Nat.le_refl _))
   have HCO6 := Lib.hid (HCO.out.below hb6 (Nat.le_refl _))
   obtain ⟨obb, oo, rfl⟩ := HCO6.out.addr (by simp)
   have d0 := HCO6.out.at (j := 0) rfl
   rw [Nat.add_zero] at d0
   clear hb6 c0 c1 c2 HNM HCY5 HCF5 HCO
   go_wp2_with fail
   refine (HO1.out _ (HT.out.below HB6.out (Nat.le_refl _))).mono ?_
   rintro e w7 ⟨rfl, hb7⟩
   have HB7 := Lib.hid (HB6.out.trans (hb7.mono HB6.out.size))
   have HCY7 := Lib.hid (HCY6.out.below hb7 (Nat.le_refl _))
   have HCF7 := Lib.hid (HCF6.out.below hb7 (Nat.le_refl _))
   have e0 := cell_keep d0 hb7 (Nat.le_refl _)
   clear hb7 d0 HO1 HCY6 HCF6 HCO6
   go_wp2_with fail
   have HO2D := Lib.hid (HO2.out w7.drew (HT.out.below (HB7.out.drew) (Nat.le_refl _)))
   go_region_with (go_at_call 25; refine HO2D.out.mono ?_; rintro e w8 ⟨rfl, hb8⟩)
   all_goals
    have hd8 : Below w7.heap.size w7 w8 := ((Below.refl _ w7).drew).trans hb8
    have HB8 := Lib.hid (HB7.out.trans (hd8.mono HB7.out.size))
    have HCY8 := Lib.hid (HCY7.out.below hd8 (Nat.le_refl _))
    have hcf8 := HCF7.out.below hd8 (Nat.le_refl _)
    have HSQ8 := Lib.hid (HSQ.out yb yc w8 (HT.out.below HB8.out (Nat.le_refl _)) HCY8.out)
    obtain ⟨fab, fao, rfl⟩ := hcf8.addr (by simp)
    have f0 := hcf8.at (j := 0) rfl
    rw [Nat.add_zero] at f0
    clear hd8 hb8 HCY7 HCF7 HSQ hcf8
    go_wp2_with fail
    refine HSQ8.out.mono ?_
    rintro e w9 ⟨rfl, hb9⟩
    have HB9 := Lib.hid (HB8.out.trans (hb9.mono HB8.out.size))
    have f1 := cell_keep f0 hb9 (Nat.le_refl _)
    clear hb9 f0 HCY8 HSQ8
    go_wp2_with fail
    refine (HSB.out _ (HT.out.below HB9.out (Nat.le_refl _))).mono ?_
    rintro e wa ⟨rfl, hba⟩
    have HBA := Lib.hid (HB9.out.trans (hba.mono HB9.out.size))
    have f2 := cell_keep f1 hba (Nat.le_refl _)
    clear hba f1 HSB
    go_wp2_with fail
    refine (fitted_any _ (HT.out.below HBA.out (Nat.le_refl _))).mono ?_
    rintro e wb ⟨rfl, hbb⟩
    have hbf := HBA.out.trans (hbb.mono HBA.out.size)
    go_wp2_with fail
    go_ret
    exact ⟨rfl, hbf⟩
end Go.Proofs.YtdpjdifoonfcdaaGreatDoor

namespace Go.Proofs.YtdpjdifoonfcdaaGreatDoor
open Go.RowKit Go.WideShapes Go.ChangeShapes Go.Deep Go.Joins
section
variable {H : Type} {enc : TypeId × Value -> H} {P : Program} {w : World} {base : Nat} {spare : Nat -> Bool} {held : Bool}
theorem array4 {α : Type} {cs : Array α} (h : cs.size = 4) : ∃ c0 c1 c2 c3, cs = #[c0, c1, c2, c3] := by
 obtain ⟨l⟩ := cs
 match l, h with
 | [c0, c1, c2, c3], _ => exact ⟨c0, c1, c2, c3, rfl⟩
theorem open_win {r : Reach} {b0 : Nat} {t c i si : TypeId} {f0 f1 f2 g0 g1 : Field} {v : Value} {d : DataW H} {p : List MemPlace} (hs : P.underlying t = some (.struct #[f0, f1, f2])) (h0 : f0.type = i /\ f0.offset = 0) (h1 : f1.type = c /\ f1.offset = 1) (h2 : f2.type = si /\ f2.offset = 3)
 (hc : P.underlying c = some (.struct #[g0, g1])) (k0 : g0.type = i /\ g0.offset = 0) (k1 : g1.type = i /\ g1.offset = 1) (hsi : P.underlying si = some (.slice i)) (ci : P.cellsOf i = 1) (cc : P.cellsOf c = 2) (csi : P.cellsOf si = 1) (ct : P.cellsOf t = 4) (hi : P.underlying i = some (.int .i64))
 (hv : Value.okWide P w r b0 t v) (h : DataW.Trod enc P w base spare held t v d p) :
 ∃ (L p q : Int) (ao : Option Addr) (xs : List Int) (cap : Nat) (dd : DataW H), v = .agg #[.int .i64 L, .int .i64 p, .int .i64 q, .slice ao xs.length cap] /\ Cells w ao (xs.map (Value.int .i64)) /\ xs.length <= cap /\
   xs.length <= dlen dd /\ (ao = none -> cap = 0) /\ (∀ n ∈ dd.weights P si, n ∈ d.weights P t) := by
 obtain ⟨cs, rfl, hsz⟩ := okWide_struct hs hv
 obtain ⟨c0, c1, c2, c3, rfl⟩ := array4 (hsz.trans ct)
 obtain ⟨fuel, hf⟩ := h
 obtain ⟨xs, n, _, hx, _, hlen, hfs⟩ := DataW.trod_struct hs hf
 match xs, hlen with
 | [y0, y1, y2], _ =>
   have t0 := hfs 0 f0 rfl
   have t1 := hfs 1 f1 rfl
   have t2 := hfs 2 f2 rfl
   rw [h0.1, h0.2, ci] at t0
   rw [h1.1, h1.2, cc] at t1
   rw [h2.1, h2.2, csi] at t2
   obtain ⟨L, e0, _, _⟩ := DataW.trod_int hi (show DataW.trod enc P w base spare held n i [c0] = some y0 from t0)
   obtain ⟨p, q, rfl, rfl⟩ := trod_pair hc k0 k1 ci hi (show DataW.trod enc P w base spare held n c [c1, c2] = some y1 from t1)
   obtain ⟨ao, zs, cap, e2, hc, hl, _, _, hdl, hnn⟩ := rd_ints2 hsi hi ci (show DataW.trod enc P w base spare held n si [c3] = some y2 from t2)
   simp only [List.cons.injEq, and_true] at e0 e2
   refine ⟨L, p, q, ao, zs, cap, y2.1, by rw [e0, e2], hc, hl, hdl, hnn, fun m hm => ?_⟩
   simp only [Prod.mk.injEq] at hx
   rw [hx.1]
   have e : (DataW.agg ([y0, y1, y2].map (·.1))).weights P t = DataW.weightsEach P ((#[f0, f1, f2] : Array Field).toList.map (·.type)) ([y0, y1, y2].map (·.1)) := by simp [DataW.weights, hs]
   rw [e]
   exact DataW.weights_mem_each (j := 2) (t := si) (d := y2.1) (by show some f2.type = some si; rw [h2.1]) rfl m hm
end
end Go.Proofs.YtdpjdifoonfcdaaGreatDoor
