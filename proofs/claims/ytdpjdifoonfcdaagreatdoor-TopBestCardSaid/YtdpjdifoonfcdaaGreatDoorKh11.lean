/- Parts of a proof, in build order: NW, NH, NI, NF, Tj. -/
import Derived.Test.YtdpjdifoonfcdaaGreatDoorKh10

namespace Go.Proofs.YtdpjdifoonfcdaaGreatDoor
open Go.RowKit
def smB (xs : List Int) : Bool := xs.all (fun n => inB (-1048576) n 1048576)
theorem smB_mem {xs : List Int} (h : smB xs = true) : ∀ x ∈ xs, -1048576 <= x /\ x <= 1048576 := fun x hx => by
 have := List.all_eq_true.1 h x hx
 unfold inB at this
 exact of_decide_eq_true this
theorem small1_any (n : Int) (w : World) :
 Calls Tryz.prog 194 #[.int .i64 n] w fun e w' => e = .returned (.bool (!inB (-1048576) n 1048576)) /\ w' = w := by
 by_cases h1 : n < -1048576
 · have hb : (!inB (-1048576) n 1048576) = true := by unfold inB; rw [decide_eq_false (by omega)]; rfl
   rw [hb]
   clear hb
   go_enter Tryz.func194, Tryz.ntmps194
   go_wp2
   go_ret
   exact ⟨rfl, rfl⟩
 · by_cases h2 : 1048576 < n
   · have hb : (!inB (-1048576) n 1048576) = true := by unfold inB; rw [decide_eq_false (by omega)]; rfl
     rw [hb]
     clear hb
     go_enter Tryz.func194, Tryz.ntmps194
     go_wp2
     go_ret
     exact ⟨ret_bool (by simp), rfl⟩
   · have hb : (!inB (-1048576) n 1048576) = false := by unfold inB; rw [decide_eq_true (by omega)]; rfl
     rw [hb]
     clear hb
     go_enter Tryz.func194, Tryz.ntmps194
     go_wp2
     go_ret
     exact ⟨ret_bool (by simp), rfl⟩
set_option maxRecDepth 100000 in
theorem small_any (ao : Option Addr) (xs : List Int) (cap : Nat) (w : World) (hc : Cells w ao (xs.map (Value.int .i64))) (hl : xs.length <= 9223372036854775807) :
 Calls Tryz.prog 125 #[.slice ao xs.length cap] w fun e w' => e = .returned (.bool (smB xs)) /\ Below w.heap.size w w' := by
 have HC := Lib.hid hc; clear hc
 go_enter Tryz.func125, Tryz.ntmps125
 go_wp2_with fail
 refine (containsFunc_ints 194 #[] (fun n => !inB (-1048576) n 1048576) ao xs cap w HC.out hl (fun _ _ => by kernel_rfl) (fun x wx _ _ => (small1_any x wx).mono fun e w' h => ⟨h.1, h.2 ▸ Below.refl _ _⟩)).mono ?_
 rintro e w1 ⟨rfl, hb⟩
 go_wp2
 go_ret
 exact ⟨ret_bool (by simp [smB, List.all_eq_not_any_not]), hb⟩
set_option maxRecDepth 100000 in
theorem gwhole_any (n : Int) (w : World) (ht : Tab w) (h : -9223372036854775808 <= n) (h2 : n <= 9223372036854775807) :
 Calls Tryz.prog 126 #[.int .i64 n] w fun e w' => e = .returned (.string (txQ (n : Rat))) /\ Below w.heap.size w w' := by
 have ho := of_any n 1 w ht h h2 (by omega) (by omega) (by omega)
 rw [of_one] at ho
 have HO := Lib.hid ho
 clear ho ht
 generalize txQ (n : Rat) = t at *
 go_enter Tryz.func126, Tryz.ntmps126
 go_wp2_with fail
 refine HO.out.mono ?_
 rintro e w1 ⟨rfl, hb⟩
 go_wp2_with fail
 go_ret
 exact ⟨rfl, hb⟩
theorem prI_bd {M : Nat} : ∀ (xs ys : List Int), (∀ x ∈ xs, x.natAbs <= M) -> (∀ y ∈ ys, y.natAbs <= M) -> (prI xs ys).natAbs <= xs.length * (M * M)
 | [], _, _, _ => by simp [prI]
 | _ :: _, [], _, _ => by simp [prI]
 | x :: xs, y :: ys, h1, h2 => by
   have ih := prI_bd xs ys (fun u hu => h1 u (by simp [hu])) (fun u hu => h2 u (by simp [hu]))
   have e1 := Nat.mul_le_mul (h1 x (by simp)) (h2 y (by simp))
   rw [<- Int.natAbs_mul] at e1
   have e3 : (xs.length + 1) * (M * M) = xs.length * (M * M) + M * M := Nat.succ_mul _ _
   simp only [prI, List.length_cons]
   rw [e3]
   have := Int.natAbs_add_le (x * y) (prI xs ys)
   omega
theorem prI_take {xs ys : List Int} {k : Nat} {x y : Int} (hx : xs[k]? = some x) (hy : ys[k]? = some y) : prI (xs.take (k + 1)) (ys.take (k + 1)) = prI (xs.take k) (ys.take k) + x * y := by
 have h1 := (List.getElem?_eq_some_iff.1 hx).1
 have h2 := (List.getElem?_eq_some_iff.1 hy).1
 rw [List.take_add_one, List.take_add_one, hx, hy]
 exact prI_snoc _ _ _ _ (by rw [List.length_take, List.length_take]; omega)
theorem sm_abs {xs : List Int} (h : ∀ x ∈ xs, -1048576 <= x /\ x <= 1048576) : ∀ x ∈ xs, x.natAbs <= 1048576 := fun x hx => by have := h x hx; omega
set_option maxRecDepth 100000 in
set_option maxHeartbeats 2000000 in
theorem product_g (ao bo : Option Addr) (xs ys : List Int) (n ca cb : Nat) (w : World) (ht : Tab w) (hc : Cells w ao (xs.map (Value.int .i64))) (hd : Cells w bo (ys.map (Value.int .i64))) (hx : xs.length = n) (hy : ys.length = n) (hn : n <= 64) (h1 : ∀ x ∈ xs, -1048576 <= x /\ x <= 1048576) (h2 : ∀ y ∈ ys, -1048576 <= y /\ y <= 1048576) :
 Calls Tryz.prog 60 #[.slice ao n ca, .slice bo n cb] w fun e w' => e = .returned (.string (txQ ((prI xs ys : Int) : Rat))) /\ Below w.heap.size w w' := by
 have HC := Lib.hid hc; have HD := Lib.hid hd; have HX := Lib.hid hx; have HY := Lib.hid hy; have H1 := Lib.hid h1; have H2 := Lib.hid h2; have HT := Lib.hid ht
 have hbd : ∀ k, (prI (xs.take k) (ys.take k)).natAbs <= 70368744177664 := fun k => by
  have h3 := prI_bd (M := 1048576) (xs.take k) (ys.take k) (fun x h => sm_abs h1 x (List.mem_of_mem_take h)) (fun x h => sm_abs h2 x (List.mem_of_mem_take h))
  have h4 : (xs.take k).length <= 64 := by rw [List.length_take]; omega
  have h5 : (xs.take k).length * (1048576 * 1048576) <= 64 * (1048576 * 1048576) := Nat.mul_le_mul_right _ h4
  omega
 have HBD := Lib.hid hbd
 clear hc hd hx hy h1 h2 ht hbd
 go_enter Tryz.func60, Tryz.ntmps60
 go_wp2_with fail
 go_loopw [5, 9] (fun s i wr => ∃ k : Nat, k <= n /\ i = .int .i64 k /\ s = .int .i64 (prI (xs.take k) (ys.take k)) /\ Below w.heap.size w wr) (fun _ i _ => n - (intOf i).toNat)
 case atStart => exact ⟨0, Nat.zero_le _, rfl, rfl, Below.refl _ _⟩
 case round =>
  obtain ⟨k, hk, rfl, rfl, hbw⟩ := hrel
  by_cases hlt : k < n
  · obtain ⟨x, hxk⟩ := get_of_lt (show k < xs.length by rw [HX.out]; exact hlt)
    obtain ⟨y, hyk⟩ := get_of_lt (show k < ys.length by rw [HY.out]; exact hlt)
    obtain ⟨ba, offa, rfl⟩ := HC.out.addr (by simpa using List.ne_nil_of_length_pos (show 0 < xs.length by rw [HX.out]; omega))
    obtain ⟨bb, offb, rfl⟩ := HD.out.addr (by simpa using List.ne_nil_of_length_pos (show 0 < ys.length by rw [HY.out]; omega))
    have c1 := cell_keep (HC.out.int hxk) hbw (Nat.le_refl _)
    have c2 := cell_keep (HD.out.int hyk) hbw (Nat.le_refl _)
    have m1 := H1.out x (List.mem_of_getElem? hxk)
    have m2 := H2.out y (List.mem_of_getElem? hyk)
    have e1 := prI_take hxk hyk
    have bd := HBD.out k
    have bd2 := HBD.out (k + 1)
    rw [e1] at bd2
    have E1 := Lib.hid e1
    have pm : (x * y).natAbs <= 1099511627776 := by
     rw [Int.natAbs_mul]
     exact Nat.mul_le_mul (show x.natAbs <= 1048576 by omega) (show y.natAbs <= 1048576 by omega)
    have i0 : (k : Int) < n := by omega
    have i1 : 0 <= (k : Int) := by omega
    obtain ⟨s0, hs0⟩ : ∃ s0, prI (xs.take k) (ys.take k) = s0 := ⟨_, rfl⟩
    rw [hs0] at bd bd2 ⊢
    have HS0 := Lib.hid hs0
    have q1 : IntKind.i64.wrap (x * y) = x * y := IntWalk.i64_in _ (by omega)
    have q2 : IntKind.i64.wrap (s0 + x * y) = s0 + x * y := IntWalk.i64_in _ (by omega)
    clear hxk hyk e1 m1 m2 pm bd bd2 hs0
    go_wp2_with fail
    go_quiet (fail)
    clear q1 q2
    go_wp2_with fail
    go_roundw
    case rel => exact ⟨k + 1, by omega, by go_num, by rw [E1.out, HS0.out], bel_drewN hbw _⟩
    case measure => simp [intOf]; omega
  · obtain rfl : k = n := by omega
    have hall : prI (xs.take k) (ys.take k) = prI xs ys := by rw [List.take_of_length_le (by rw [HX.out]; exact Nat.le_refl _), List.take_of_length_le (by rw [HY.out]; exact Nat.le_refl _)]
    have bd := HBD.out k
    rw [hall] at bd ⊢
    have hw := gwhole_any (prI xs ys) wr (HT.out.below hbw (Nat.le_refl _)) (by omega) (by omega)
    have HW := Lib.hid hw
    have i0 : ¬ (k : Int) < k := by omega
    clear hall bd hw
    go_wp2_with fail
    refine HW.out.mono ?_
    rintro e w1 ⟨rfl, hb⟩
    go_wp2_with fail
    go_ret
    exact ⟨rfl, hbw.trans (hb.mono hbw.size)⟩
def RowsI (w : World) (vs : List Value) (rows : List (List Int)) : Prop := vs.length = rows.length /\ ∀ (i : Nat) v xs, vs[i]? = some v -> rows[i]? = some xs -> ∃ a c, v = .slice a xs.length c /\ Cells w a (xs.map (Value.int .i64)) /\ xs.length <= 9223372036854775807
theorem RowsI.below {w w' : World} {vs : List Value} {rows : List (List Int)} (h : RowsI w vs rows) (hb : Below w.heap.size w w') : RowsI w' vs rows := ⟨h.1, fun i v xs h1 h2 => by
 obtain ⟨a, c, e, hc, hl⟩ := h.2 i v xs h1 h2
 exact ⟨a, c, e, hc.below hb (Nat.le_refl _), hl⟩⟩
def witB (n : Nat) (a : List Int) : Bool := decide (a.length = n) && smB a
def fgE (y : List Int) (ws : List (List Int)) : Int :=
 if 1 <= y.length /\ y.length <= 64 /\ smB y = true then (if 1 <= ws.length /\ ws.length <= 4 /\ ws.all (witB y.length) = true then 0 else 62) else 60
theorem fgE_sig {y : List Int} {ws : List (List Int)} (h : ¬ (1 <= y.length /\ y.length <= 64 /\ smB y = true)) : fgE y ws = 60 := by unfold fgE; rw [if_neg h]
theorem fgE_wit {y : List Int} {ws : List (List Int)} (h : 1 <= y.length /\ y.length <= 64 /\ smB y = true) (h2 : ¬ (1 <= ws.length /\ ws.length <= 4 /\ ws.all (witB y.length) = true)) : fgE y ws = 62 := by unfold fgE; rw [if_pos h, if_neg h2]
theorem fgE_ok {y : List Int} {ws : List (List Int)} (h : 1 <= y.length /\ y.length <= 64 /\ smB y = true) (h2 : 1 <= ws.length /\ ws.length <= 4 /\ ws.all (witB y.length) = true) : fgE y ws = 0 := by unfold fgE; rw [if_pos h, if_pos h2]
set_option maxRecDepth 100000 in
set_option maxHeartbeats 2000000 in
theorem fitting_any (ao wo : Option Addr) (y : List Int) (vs : List Value) (ws : List (List Int)) (ca cw : Nat) (w : World) (hc : Cells w ao (y.map (Value.int .i64))) (hl : y.length <= 9223372036854775807) (hd : Cells w wo vs) (hr : RowsI w vs ws) (hwl : ws.length <= 9223372036854775807) :
 Calls Tryz.prog 59 #[.slice ao y.length ca, .slice wo ws.length cw] w fun e w' => e = .returned (.int .i64 (fgE y ws)) /\ Below w.heap.size w w' := by
 have HS := Lib.hid (small_any ao y ca w hc hl); have HD := Lib.hid hd; have HR := Lib.hid hr
 obtain ⟨E, hE⟩ : ∃ E, fgE y ws = E := ⟨_, rfl⟩
 rw [hE]
 have HE := Lib.hid hE
 have HVL : Hid (vs.length = ws.length) := Lib.hid hr.1
 clear hc hd hr hE
 by_cases h1 : y.length < 1
 · have i1 : (y.length : Int) < 1 := by omega
   obtain rfl : E = 60 := by rw [<- HE.out]; exact fgE_sig (by omega)
   clear hl hwl h1 HE
   go_enter Tryz.func59, Tryz.ntmps59
   go_wp2_with fail
   go_ret
   exact ⟨rfl, Below.refl _ _⟩
 have i1 : ¬ (y.length : Int) < 1 := by omega
 by_cases h2 : 64 < y.length
 · have i2 : (64 : Int) < y.length := by omega
   obtain rfl : E = 60 := by rw [<- HE.out]; exact fgE_sig (by omega)
   clear hl hwl h1 h2 HE
   go_enter Tryz.func59, Tryz.ntmps59
   go_wp2_with fail
   go_ret
   exact ⟨rfl, Below.refl _ _⟩
 have i2 : ¬ (64 : Int) < y.length := by omega
 cases hs : smB y
 · obtain rfl : E = 60 := by rw [<- HE.out]; exact fgE_sig (fun h => by rw [hs] at h; exact absurd h.2.2 (by decide))
   rw [hs] at HS
   clear hl hwl h1 h2 HE hs
   go_enter Tryz.func59, Tryz.ntmps59
   go_wp2_with fail
   refine HS.out.mono ?_
   rintro e w1 ⟨rfl, hb⟩
   go_wp2_with fail
   go_ret
   exact ⟨rfl, hb⟩
 have hy : 1 <= y.length /\ y.length <= 64 /\ smB y = true := ⟨by omega, by omega, hs⟩
 have HY := Lib.hid hy
 rw [hs] at HS
 by_cases h3 : ws.length < 1
 · have i3 : (ws.length : Int) < 1 := by omega
   obtain rfl : E = 62 := by rw [<- HE.out]; exact fgE_wit hy (by omega)
   clear hl hwl h1 h2 h3 HE hs hy
   go_enter Tryz.func59, Tryz.ntmps59
   go_wp2_with fail
   refine HS.out.mono ?_
   rintro e w1 ⟨rfl, hb⟩
   go_wp2_with fail
   go_ret
   exact ⟨rfl, hb⟩
 have i3 : ¬ (ws.length : Int) < 1 := by omega
 by_cases h4 : 4 < ws.length
 · have i4 : (4 : Int) < ws.length := by omega
   obtain rfl : E = 62 := by rw [<- HE.out]; exact fgE_wit hy (by omega)
   clear hl hwl h1 h2 h3 h4 HE hs hy
   go_enter Tryz.func59, Tryz.ntmps59
   go_wp2_with fail
   refine HS.out.mono ?_
   rintro e w1 ⟨rfl, hb⟩
   go_wp2_with fail
   go_ret
   exact ⟨rfl, hb⟩
 have i4 : ¬ (4 : Int) < ws.length := by omega
 obtain ⟨M, hM⟩ : ∃ M, y.length = M := ⟨_, rfl⟩
 rw [hM] at HS i1 i2 ⊢
 have HM := Lib.hid hM
 clear hl hwl h1 h2 h3 h4 hs hy hM
 go_enter Tryz.func59, Tryz.ntmps59
 go_wp2_with fail
 refine HS.out.mono ?_
 rintro e w1 ⟨rfl, hb⟩
 have HB := Lib.hid hb
 clear hb HS
 go_wp2_with fail
 go_loopw [30] (fun iv wr => ∃ k : Nat, k <= ws.length /\ iv = .int .i64 k /\ (ws.take k).all (witB M) = true /\ Below w.heap.size w wr) (fun iv _ => ws.length - (intOf iv).toNat)
 case atStart => exact ⟨0, Nat.zero_le _, rfl, rfl, HB.out⟩
 case round =>
  obtain ⟨k, hk, rfl, hall, hbw⟩ := hrel
  have HA := Lib.hid hall
  clear hall
  by_cases hlt : k < ws.length
  · obtain ⟨a, ha⟩ := get_of_lt hlt
    obtain ⟨v, hv⟩ := get_of_lt (show k < vs.length by rw [HVL.out]; exact hlt)
    obtain ⟨aa, cc, rfl, hac, hal⟩ := HR.out.2 k v a hv ha
    obtain ⟨bw, offw, rfl⟩ := HD.out.addr (by intro h; rw [h] at hv; simp at hv)
    have c0 := cell_keep (HD.out.at hv) hbw (Nat.le_refl _)
    have hsa := small_any aa a cc wr (hac.below hbw (Nat.le_refl _)) hal
    have HSA := Lib.hid hsa
    have htk := take_get ha
    have HTK := Lib.hid htk; have HAM := Lib.hid (List.mem_of_getElem? ha)
    have j0 : (k : Int) < ws.length := by omega
    clear hsa htk hv ha hac
    by_cases hle : a.length = M
    · rw [hle] at c0 HSA
      have e1 : ((M : Int) == (M : Int)) = true := by simp
      cases hsm : smB a
      · obtain rfl : E = 62 := by
         rw [<- HE.out]
         refine fgE_wit HY.out (fun h => ?_)
         have := List.all_eq_true.1 h.2.2 a HAM.out
         unfold witB at this
         rw [hsm] at this; simp at this
        rw [hsm] at HSA
        clear hsm hle
        go_wp2_with fail
        refine HSA.out.mono ?_
        rintro e w2 ⟨rfl, hb2⟩
        have hbf := hbw.trans (hb2.mono hbw.size)
        go_wp2_with fail
        go_ret
        exact ⟨rfl, hbf⟩
      · have ha2 : (ws.take (k + 1)).all (witB M) = true := by
         rw [HTK.out, List.all_append, HA.out]; simp [witB, hle, hsm]
        have HA2 := Lib.hid ha2
        rw [hsm] at HSA
        clear hsm hle ha2
        go_wp2_with fail
        refine HSA.out.mono ?_
        rintro e w2 ⟨rfl, hb2⟩
        have hbf := hbw.trans (hb2.mono hbw.size)
        go_wp2_with fail
        go_roundw
        case rel => exact ⟨k + 1, by omega, by go_num, HA2.out, hbf⟩
        case measure => simp [intOf]; omega
    · have e1 : ((a.length : Int) == (M : Int)) = false := by rw [beq_eq_false_iff_ne]; omega
      obtain rfl : E = 62 := by
       rw [<- HE.out]
       refine fgE_wit HY.out (fun h => ?_)
       have := List.all_eq_true.1 h.2.2 a HAM.out
       unfold witB at this
       rw [HM.out] at this
       simp [hle] at this
      have e2 : ((a.length : Int) != (M : Int)) = true := by rw [bne_iff_ne]; omega
      clear hle
      go_wp2_with fail
      go_ret
      exact ⟨rfl, hbw⟩
  · obtain rfl : k = ws.length := by omega
    obtain rfl : E = 0 := by
     rw [<- HE.out]
     refine fgE_ok HY.out ⟨by omega, by omega, ?_⟩
     rw [HM.out]
     have := HA.out
     rwa [List.take_length] at this
    have j0 : ¬ (ws.length : Int) < ws.length := by omega
    go_wp2_with fail
    go_ret
    exact ⟨rfl, hbw⟩
end Go.Proofs.YtdpjdifoonfcdaaGreatDoor

namespace Go.Proofs.YtdpjdifoonfcdaaGreatDoor
open Go.RowKit
set_option maxRecDepth 100000 in
set_option maxHeartbeats 8000000 in
theorem normQ (v0 : Value) (a : Rat) (w : World) (h0 : VQ w v0 a) (l1 : hgt a <= 10000000) :
 Calls Tryz.prog 247 #[v0] w (RQRes (a * a) w) := by
 have H0 := Lib.hid h0
 obtain ⟨a1, ac1, a2, ac2, a3, ac3, a4, ac4, rfl, _, _, _, _⟩ := h0.slices
 obtain ⟨W0, hW0⟩ : ∃ W0, W0 = ((w.alloc (.cells #[.bool (qS a), .slice a1 (dig (qN a)).length ac1, .slice a2 (dig (qD a)).length ac2, .bool false, .slice a3 (dig 0).length ac3, .slice a4 (dig 1).length ac4] 148)).alloc (.cells #[.bool false, .slice none 0 0, .slice none 0 0] 146)) := ⟨_, rfl⟩
 have hbx := fun (B : Nat) (w1 : World) (h1 : Below B W0 w1) (h2 : w.heap.size + 1 < B) => boxes2 (w := w) (by rw [hW0] at h1; exact h1) h2
 have hB0 : Below w.heap.size w W0 := by rw [hW0]; exact (((Below.refl w.heap.size w).alloc (Nat.le_refl _) _).alloc (by simp; try omega) _)
 have hz0 : W0.heap.size = w.heap.size + 2 := by rw [hW0]; simp
 obtain ⟨k0, -, -⟩ := hbx (w.heap.size + 2) W0 (Below.refl _ W0) (by omega)
 have x00 : W0.cell? ⟨w.heap.size, 0, none⟩ = some (.bool (qS a)) := k0 0
 have x01 : W0.cell? ⟨w.heap.size, 1, none⟩ = some (.slice a1 (dig (qN a)).length ac1) := k0 1
 have x02 : W0.cell? ⟨w.heap.size, 2, none⟩ = some (.slice a2 (dig (qD a)).length ac2) := k0 2
 have x03 : W0.cell? ⟨w.heap.size, 3, none⟩ = some (.bool false) := k0 3
 have x04 : W0.cell? ⟨w.heap.size, 4, none⟩ = some (.slice a3 (dig 0).length ac3) := k0 4
 have x05 : W0.cell? ⟨w.heap.size, 5, none⟩ = some (.slice a4 (dig 1).length ac4) := k0 5
 have dx00 : W0.drew.cell? ⟨w.heap.size, 0, none⟩ = some (.bool (qS a)) := x00
 have dx01 : W0.drew.cell? ⟨w.heap.size, 1, none⟩ = some (.slice a1 (dig (qN a)).length ac1) := x01
 have dx02 : W0.drew.cell? ⟨w.heap.size, 2, none⟩ = some (.slice a2 (dig (qD a)).length ac2) := x02
 have dx03 : W0.drew.cell? ⟨w.heap.size, 3, none⟩ = some (.bool false) := x03
 have dx04 : W0.drew.cell? ⟨w.heap.size, 4, none⟩ = some (.slice a3 (dig 0).length ac3) := x04
 have dx05 : W0.drew.cell? ⟨w.heap.size, 5, none⟩ = some (.slice a4 (dig 1).length ac4) := x05
 have HBX := Lib.hid hbx; have HB0 := Lib.hid hB0
 have HPW : Hid (∀ W, Below W0.heap.size W0 W -> Below w.heap.size w W) := fun W h => HB0.out.trans (h.mono HB0.out.size)
 have hN1 : ∀ W, Below w.heap.size w W -> Calls Tryz.prog 245 #[.agg #[.bool (qS a), .slice a1 (dig (qN a)).length ac1, .slice a2 (dig (qD a)).length ac2], .agg #[.bool (qS a), .slice a1 (dig (qN a)).length ac1, .slice a2 (dig (qD a)).length ac2]] W (RQRes (a * a) W) := fun W hb => ratTimesQ _ _ a a W (H0.out.parts.1.below hb (Nat.le_refl _)) (H0.out.parts.1.below hb (Nat.le_refl _)) (by omega) (by omega)
 have hN2 : ∀ W, Below w.heap.size w W -> Calls Tryz.prog 245 #[.agg #[.bool false, .slice a3 (dig 0).length ac3, .slice a4 (dig 1).length ac4], .agg #[.bool false, .slice a3 (dig 0).length ac3, .slice a4 (dig 1).length ac4]] W (RQRes 0 W) := fun W hb => by
  have := ratTimesQ _ _ 0 0 W (H0.out.parts.2.below hb (Nat.le_refl _)) (H0.out.parts.2.below hb (Nat.le_refl _)) (by rw [hgt_zero]; omega) (by rw [hgt_zero]; omega)
  rw [Rat.mul_zero] at this; exact this
 have hN3 : ∀ v1 v2 W, RQ W v1 (a * a) -> RQ W v2 0 -> Calls Tryz.prog 162 #[v1, v2] W (RQRes (a * a) W) := fun v1 v2 W g1 g2 => by
  have h3 := hgt_mul a a
  have := ratPlusQ v1 v2 (a * a) 0 W g1 g2 (by omega) (by rw [hgt_zero]; omega)
  rw [Rat.add_zero] at this; exact this
 have HN1 := Lib.hid hN1; have HN2 := Lib.hid hN2; have HN3 := Lib.hid hN3
 have HBC := Lib.hid ((Below.refl W0.heap.size W0).drew)
 obtain ⟨wc, hwc⟩ : ∃ wc, wc = W0.drew := ⟨_, rfl⟩
 rw [<- hwc] at HBC
 clear hbx hB0 k0 hN1 hN2 hN3 l1 h0
 go_enter Tryz.func247, Tryz.ntmps247
 go_wp2_with fail
 rw [<- hW0]
 clear hW0
 go_region_held3 (fun w' => w'.cell? ⟨w.heap.size, 0, none⟩ = some (.bool (qS a)) /\ w'.cell? ⟨w.heap.size, 1, none⟩ = some (.slice a1 (dig (qN a)).length ac1) /\ w'.cell? ⟨w.heap.size, 2, none⟩ = some (.slice a2 (dig (qD a)).length ac2) /\ w'.cell? ⟨w.heap.size, 3, none⟩ = some (.bool false) /\ w'.cell? ⟨w.heap.size, 4, none⟩ = some (.slice a3 (dig 0).length ac3) /\ w'.cell? ⟨w.heap.size, 5, none⟩ = some (.slice a4 (dig 1).length ac4))
  (first | with_reducible exact ⟨px00, px01, px02, px03, px04, px05⟩ | with_reducible exact ⟨x00, x01, x02, x03, x04, x05⟩ | with_reducible exact ⟨dx00, dx01, dx02, dx03, dx04, dx05⟩ | (refine ⟨?_, ?_, ?_, ?_, ?_, ?_⟩ <;> (repeat rw [World.cell?_setCell_other _ _ _ _ (by simp)]) <;> assumption) | go_keep)
  (first
   | (go_at_call 245; (try rw [<- hwc]); (with_reducible refine Calls.mono (HN1.out wc (HPW.out _ HBC.out)) ?_); rintro e wc ⟨⟨u0, rfl, hv0⟩, hbc⟩; (try have HV1 := Lib.hid (HV1.out.below hbc (Nat.le_refl _))); (try have HV2 := Lib.hid (HV2.out.below hbc (Nat.le_refl _))); have HV0 := Lib.hid hv0; clear hv0; have HBC := Lib.hid (HBC.out.trans (hbc.mono HBC.out.size)); have px00 := cell_keep x00 HBC.out (Nat.le_refl _); have px01 := cell_keep x01 HBC.out (Nat.le_refl _); have px02 := cell_keep x02 HBC.out (Nat.le_refl _); have px03 := cell_keep x03 HBC.out (Nat.le_refl _); have px04 := cell_keep x04 HBC.out (Nat.le_refl _); have px05 := cell_keep x05 HBC.out (Nat.le_refl _); obtain ⟨-, f2, ff⟩ := HBX.out _ _ HBC.out (by omega); have z0 := f2 0; have z1 := f2 1; have z2 := f2 2; simp only [List.getElem?_toArray, List.getElem?_cons_succ, List.getElem?_cons_zero] at z0 z1 z2; have t0 := ff 0; have t1 := ff 1; have t2 := ff 2; clear f2 ff; clear hbc)
   | (go_at_call 245; (try rw [<- hwc]); (with_reducible refine Calls.mono (HN2.out wc (HPW.out _ HBC.out)) ?_); rintro e wc ⟨⟨u1, rfl, hv1⟩, hbc⟩; (try have HV0 := Lib.hid (HV0.out.below hbc (Nat.le_refl _))); (try have HV2 := Lib.hid (HV2.out.below hbc (Nat.le_refl _))); have HV1 := Lib.hid hv1; clear hv1; have HBC := Lib.hid (HBC.out.trans (hbc.mono HBC.out.size)); have px00 := cell_keep x00 HBC.out (Nat.le_refl _); have px01 := cell_keep x01 HBC.out (Nat.le_refl _); have px02 := cell_keep x02 HBC.out (Nat.le_refl _); have px03 := cell_keep x03 HBC.out (Nat.le_refl _); have px04 := cell_keep x04 HBC.out (Nat.le_refl _); have px05 := cell_keep x05 HBC.out (Nat.le_refl _); obtain ⟨-, f2, ff⟩ := HBX.out _ _ HBC.out (by omega); have z0 := f2 0; have z1 := f2 1; have z2 := f2 2; simp only [List.getElem?_toArray, List.getElem?_cons_succ, List.getElem?_cons_zero] at z0 z1 z2; have t0 := ff 0; have t1 := ff 1; have t2 := ff 2; clear f2 ff; clear hbc)
   | (go_at_call 162; (try rw [<- hwc]); (with_reducible refine Calls.mono (HN3.out _ _ wc HV0.out HV1.out) ?_); rintro e wc ⟨⟨u2, rfl, hv2⟩, hbc⟩; (try have HV0 := Lib.hid (HV0.out.below hbc (Nat.le_refl _))); (try have HV1 := Lib.hid (HV1.out.below hbc (Nat.le_refl _))); have HV2 := Lib.hid hv2; obtain ⟨g21, g2c1, g22, g2c2, rfl, _, _⟩ := hv2.slices; clear hv2; have HBC := Lib.hid (HBC.out.trans (hbc.mono HBC.out.size)); have px00 := cell_keep x00 HBC.out (Nat.le_refl _); have px01 := cell_keep x01 HBC.out (Nat.le_refl _); have px02 := cell_keep x02 HBC.out (Nat.le_refl _); have px03 := cell_keep x03 HBC.out (Nat.le_refl _); have px04 := cell_keep x04 HBC.out (Nat.le_refl _); have px05 := cell_keep x05 HBC.out (Nat.le_refl _); obtain ⟨-, f2, ff⟩ := HBX.out _ _ HBC.out (by omega); have z0 := f2 0; have z1 := f2 1; have z2 := f2 2; simp only [List.getElem?_toArray, List.getElem?_cons_succ, List.getElem?_cons_zero] at z0 z1 z2; have t0 := ff 0; have t1 := ff 1; have t2 := ff 2; clear f2 ff; clear hbc))
 all_goals
  have hbw := HPW.out _ HBC.out
  have hle : w.heap.size <= w.heap.size + 1 := by omega
  go_wp2_with fail
  refine bodyPost_ret (v := .agg #[.bool (qS (a * a)), .slice g21 (dig (qN (a * a))).length g2c1, .slice g22 (dig (qD (a * a))).length g2c2]) (by simp [results, Tryz.results247, go_sem, z0, z1, z2]) rfl ?_
  exact ⟨⟨_, rfl, HV2.out.box3 z0 z1 z2 trivial trivial trivial⟩, (((hbw.setCell hle _).setCell hle _).setCell hle _)⟩
set_option maxRecDepth 100000 in
set_option maxHeartbeats 8000000 in
theorem overQ (v0 v1 : Value) (a b : Rat) (w : World) (h0 : VQ w v0 a) (h1 : VQ w v1 b) (l1 : hgt a <= 10000000) (l2 : hgt b <= 10000000) (hb : b ≠ 0) :
 Calls Tryz.prog 202 #[v0, v1] w (VQRes (a * b⁻¹) w) := by
 have H0 := Lib.hid h0
 obtain ⟨a1, ac1, a2, ac2, a3, ac3, a4, ac4, rfl, _, _, _, _⟩ := h0.slices
 have H1 := Lib.hid h1
 obtain ⟨b1, bc1, b2, bc2, b3, bc3, b4, bc4, rfl, _, _, _, _⟩ := h1.slices
 obtain ⟨W0, hW0⟩ : ∃ W0, W0 = (((w.alloc (.cells #[.bool (qS a), .slice a1 (dig (qN a)).length ac1, .slice a2 (dig (qD a)).length ac2, .bool false, .slice a3 (dig 0).length ac3, .slice a4 (dig 1).length ac4] 148)).alloc (.cells #[.bool (qS b), .slice b1 (dig (qN b)).length bc1, .slice b2 (dig (qD b)).length bc2, .bool false, .slice b3 (dig 0).length bc3, .slice b4 (dig 1).length bc4] 148)).alloc (.cells #[.bool false, .slice none 0 0, .slice none 0 0, .bool false, .slice none 0 0, .slice none 0 0] 148)) := ⟨_, rfl⟩
 have hbx := fun (B : Nat) (w1 : World) (h1 : Below B W0 w1) (h2 : w.heap.size + 2 < B) => boxes3 (w := w) (by rw [hW0] at h1; exact h1) h2
 have hB0 : Below w.heap.size w W0 := by rw [hW0]; exact ((((Below.refl w.heap.size w).alloc (Nat.le_refl _) _).alloc (by simp; try omega) _).alloc (by simp; try omega) _)
 have hz0 : W0.heap.size = w.heap.size + 3 := by rw [hW0]; simp
 obtain ⟨k0, k1, -, -⟩ := hbx (w.heap.size + 3) W0 (Below.refl _ W0) (by omega)
 have x00 : W0.cell? ⟨w.heap.size, 0, none⟩ = some (.bool (qS a)) := k0 0
 have x01 : W0.cell? ⟨w.heap.size, 1, none⟩ = some (.slice a1 (dig (qN a)).length ac1) := k0 1
 have x02 : W0.cell? ⟨w.heap.size, 2, none⟩ = some (.slice a2 (dig (qD a)).length ac2) := k0 2
 have x03 : W0.cell? ⟨w.heap.size, 3, none⟩ = some (.bool false) := k0 3
 have x04 : W0.cell? ⟨w.heap.size, 4, none⟩ = some (.slice a3 (dig 0).length ac3) := k0 4
 have x05 : W0.cell? ⟨w.heap.size, 5, none⟩ = some (.slice a4 (dig 1).length ac4) := k0 5
 have x10 : W0.cell? ⟨w.heap.size + 1, 0, none⟩ = some (.bool (qS b)) := k1 0
 have x11 : W0.cell? ⟨w.heap.size + 1, 1, none⟩ = some (.slice b1 (dig (qN b)).length bc1) := k1 1
 have x12 : W0.cell? ⟨w.heap.size + 1, 2, none⟩ = some (.slice b2 (dig (qD b)).length bc2) := k1 2
 have x13 : W0.cell? ⟨w.heap.size + 1, 3, none⟩ = some (.bool false) := k1 3
 have x14 : W0.cell? ⟨w.heap.size + 1, 4, none⟩ = some (.slice b3 (dig 0).length bc3) := k1 4
 have x15 : W0.cell? ⟨w.heap.size + 1, 5, none⟩ = some (.slice b4 (dig 1).length bc4) := k1 5
 have dx00 : W0.drew.cell? ⟨w.heap.size, 0, none⟩ = some (.bool (qS a)) := x00
 have dx01 : W0.drew.cell? ⟨w.heap.size, 1, none⟩ = some (.slice a1 (dig (qN a)).length ac1) := x01
 have dx02 : W0.drew.cell? ⟨w.heap.size, 2, none⟩ = some (.slice a2 (dig (qD a)).length ac2) := x02
 have dx03 : W0.drew.cell? ⟨w.heap.size, 3, none⟩ = some (.bool false) := x03
 have dx04 : W0.drew.cell? ⟨w.heap.size, 4, none⟩ = some (.slice a3 (dig 0).length ac3) := x04
 have dx05 : W0.drew.cell? ⟨w.heap.size, 5, none⟩ = some (.slice a4 (dig 1).length ac4) := x05
 have dx10 : W0.drew.cell? ⟨w.heap.size + 1, 0, none⟩ = some (.bool (qS b)) := x10
 have dx11 : W0.drew.cell? ⟨w.heap.size + 1, 1, none⟩ = some (.slice b1 (dig (qN b)).length bc1) := x11
 have dx12 : W0.drew.cell? ⟨w.heap.size + 1, 2, none⟩ = some (.slice b2 (dig (qD b)).length bc2) := x12
 have dx13 : W0.drew.cell? ⟨w.heap.size + 1, 3, none⟩ = some (.bool false) := x13
 have dx14 : W0.drew.cell? ⟨w.heap.size + 1, 4, none⟩ = some (.slice b3 (dig 0).length bc3) := x14
 have dx15 : W0.drew.cell? ⟨w.heap.size + 1, 5, none⟩ = some (.slice b4 (dig 1).length bc4) := x15
 have HBX := Lib.hid hbx; have HB0 := Lib.hid hB0
 have HPW : Hid (∀ W, Below W0.heap.size W0 W -> Below w.heap.size w W) := fun W h => HB0.out.trans (h.mono HB0.out.size)
 have hbb : b * b ≠ 0 := fun h => by rcases Rat.mul_eq_zero.1 h with h | h <;> exact hb h
 have m1 := hgt_mul a b
 have m2 := hgt_mul b b
 have m3 := hgt_inv hbb
 have hN1 : ∀ W, Below w.heap.size w W -> Calls Tryz.prog 246 #[.agg #[.bool (qS b), .slice b1 (dig (qN b)).length bc1, .slice b2 (dig (qD b)).length bc2, .bool false, .slice b3 (dig 0).length bc3, .slice b4 (dig 1).length bc4]] W (VQRes b W) := fun W hb => conjQ _ b W (H1.out.below hb (Nat.le_refl _))
 have hN2 : ∀ v W, Below w.heap.size w W -> VQ W v b -> Calls Tryz.prog 201 #[.agg #[.bool (qS a), .slice a1 (dig (qN a)).length ac1, .slice a2 (dig (qD a)).length ac2, .bool false, .slice a3 (dig 0).length ac3, .slice a4 (dig 1).length ac4], v] W (VQRes (a * b) W) := fun v W hb hv => timesQ _ v a b W (H0.out.below hb (Nat.le_refl _)) hv (by omega) (by omega)
 have hN3 : ∀ W, Below w.heap.size w W -> Calls Tryz.prog 247 #[.agg #[.bool (qS b), .slice b1 (dig (qN b)).length bc1, .slice b2 (dig (qD b)).length bc2, .bool false, .slice b3 (dig 0).length bc3, .slice b4 (dig 1).length bc4]] W (RQRes (b * b) W) := fun W hb => normQ _ b W (H1.out.below hb (Nat.le_refl _)) l2
 have hN4 : ∀ v W, RQ W v (b * b) -> Calls Tryz.prog 248 #[v] W (RQRes (b * b)⁻¹ W) := fun v W hv => ratInvQ v _ W hv hbb
 have hN5 : ∀ v W, RQ W v (b * b)⁻¹ -> Calls Tryz.prog 84 #[v] W (VQRes (b * b)⁻¹ W) := fun v W hv => plain_any _ _ _ _ _ hv
 have hN6 : ∀ v1 v2 W, VQ W v1 (a * b) -> VQ W v2 (b * b)⁻¹ -> Calls Tryz.prog 201 #[v1, v2] W (VQRes (a * b⁻¹) W) := fun v1 v2 W g1 g2 => by
  have := timesQ v1 v2 _ _ W g1 g2 (by omega) (by omega)
  rw [Rat.inv_mul_rev, show a * b * (b⁻¹ * b⁻¹) = a * b⁻¹ by rw [Rat.mul_assoc, <- Rat.mul_assoc b, Rat.mul_inv_cancel b hb, Rat.one_mul]] at this
  exact this
 have HN1 := Lib.hid hN1; have HN2 := Lib.hid hN2; have HN3 := Lib.hid hN3; have HN4 := Lib.hid hN4; have HN5 := Lib.hid hN5; have HN6 := Lib.hid hN6
 have HBC := Lib.hid ((Below.refl W0.heap.size W0).drew)
 obtain ⟨wc, hwc⟩ : ∃ wc, wc = W0.drew := ⟨_, rfl⟩
 rw [<- hwc] at HBC
 clear hbx hB0 k0 k1 hN1 hN2 hN3 hN4 hN5 hN6 l1 l2 hb hbb m1 m2 m3 h0 h1
 go_enter Tryz.func202, Tryz.ntmps202
 go_wp2_with fail
 rw [<- hW0]
 clear hW0
 go_region_held3 (fun w' => w'.cell? ⟨w.heap.size, 0, none⟩ = some (.bool (qS a)) /\ w'.cell? ⟨w.heap.size, 1, none⟩ = some (.slice a1 (dig (qN a)).length ac1) /\ w'.cell? ⟨w.heap.size, 2, none⟩ = some (.slice a2 (dig (qD a)).length ac2) /\ w'.cell? ⟨w.heap.size, 3, none⟩ = some (.bool false) /\ w'.cell? ⟨w.heap.size, 4, none⟩ = some (.slice a3 (dig 0).length ac3) /\ w'.cell? ⟨w.heap.size, 5, none⟩ = some (.slice a4 (dig 1).length ac4) /\ w'.cell? ⟨w.heap.size + 1, 0, none⟩ = some (.bool (qS b)) /\ w'.cell? ⟨w.heap.size + 1, 1, none⟩ = some (.slice b1 (dig (qN b)).length bc1) /\ w'.cell? ⟨w.heap.size + 1, 2, none⟩ = some (.slice b2 (dig (qD b)).length bc2) /\ w'.cell? ⟨w.heap.size + 1, 3, none⟩ = some (.bool false) /\ w'.cell? ⟨w.heap.size + 1, 4, none⟩ = some (.slice b3 (dig 0).length bc3) /\ w'.cell? ⟨w.heap.size + 1, 5, none⟩ = some (.slice b4 (dig 1).length bc4))
  (first | with_reducible exact ⟨px00, px01, px02, px03, px04, px05, px10, px11, px12, px13, px14, px15⟩ | with_reducible exact ⟨x00, x01, x02, x03, x04, x05, x10, x11, x12, x13, x14, x15⟩ | with_reducible exact ⟨dx00, dx01, dx02, dx03, dx04, dx05, dx10, dx11, dx12, dx13, dx14, dx15⟩ | (refine ⟨?_, ?_, ?_, ?_, ?_, ?_, ?_, ?_, ?_, ?_, ?_, ?_⟩ <;> (repeat rw [World.cell?_setCell_other _ _ _ _ (by simp)]) <;> assumption) | go_keep)
  (first
   | (go_at_call 246; (try rw [<- hwc]); (with_reducible refine Calls.mono (HN1.out wc (HPW.out _ HBC.out)) ?_); rintro e wc ⟨⟨u0, rfl, hv0⟩, hbc⟩; (try have HV1 := Lib.hid (HV1.out.below hbc (Nat.le_refl _))); (try have HV2 := Lib.hid (HV2.out.below hbc (Nat.le_refl _))); (try have HV3 := Lib.hid (HV3.out.below hbc (Nat.le_refl _))); (try have HV4 := Lib.hid (HV4.out.below hbc (Nat.le_refl _))); (try have HV5 := Lib.hid (HV5.out.below hbc (Nat.le_refl _))); have HV0 := Lib.hid hv0; clear hv0; have HBC := Lib.hid (HBC.out.trans (hbc.mono HBC.out.size)); have px00 := cell_keep x00 HBC.out (Nat.le_refl _); have px01 := cell_keep x01 HBC.out (Nat.le_refl _); have px02 := cell_keep x02 HBC.out (Nat.le_refl _); have px03 := cell_keep x03 HBC.out (Nat.le_refl _); have px04 := cell_keep x04 HBC.out (Nat.le_refl _); have px05 := cell_keep x05 HBC.out (Nat.le_refl _); have px10 := cell_keep x10 HBC.out (Nat.le_refl _); have px11 := cell_keep x11 HBC.out (Nat.le_refl _); have px12 := cell_keep x12 HBC.out (Nat.le_refl _); have px13 := cell_keep x13 HBC.out (Nat.le_refl _); have px14 := cell_keep x14 HBC.out (Nat.le_refl _); have px15 := cell_keep x15 HBC.out (Nat.le_refl _); obtain ⟨-, -, f2, ff⟩ := HBX.out _ _ HBC.out (by omega); have z0 := f2 0; have z1 := f2 1; have z2 := f2 2; have z3 := f2 3; have z4 := f2 4; have z5 := f2 5; simp only [List.getElem?_toArray, List.getElem?_cons_succ, List.getElem?_cons_zero] at z0 z1 z2 z3 z4 z5; have t0 := ff 0; have t1 := ff 1; have t2 := ff 2; have t3 := ff 3; have t4 := ff 4; have t5 := ff 5; clear f2 ff; clear hbc)
   | (go_at_call 201; (try rw [<- hwc]); (with_reducible refine Calls.mono (HN2.out _ wc (HPW.out _ HBC.out) HV0.out) ?_); rintro e wc ⟨⟨u1, rfl, hv1⟩, hbc⟩; (try have HV0 := Lib.hid (HV0.out.below hbc (Nat.le_refl _))); (try have HV2 := Lib.hid (HV2.out.below hbc (Nat.le_refl _))); (try have HV3 := Lib.hid (HV3.out.below hbc (Nat.le_refl _))); (try have HV4 := Lib.hid (HV4.out.below hbc (Nat.le_refl _))); (try have HV5 := Lib.hid (HV5.out.below hbc (Nat.le_refl _))); have HV1 := Lib.hid hv1; clear hv1; have HBC := Lib.hid (HBC.out.trans (hbc.mono HBC.out.size)); have px00 := cell_keep x00 HBC.out (Nat.le_refl _); have px01 := cell_keep x01 HBC.out (Nat.le_refl _); have px02 := cell_keep x02 HBC.out (Nat.le_refl _); have px03 := cell_keep x03 HBC.out (Nat.le_refl _); have px04 := cell_keep x04 HBC.out (Nat.le_refl _); have px05 := cell_keep x05 HBC.out (Nat.le_refl _); have px10 := cell_keep x10 HBC.out (Nat.le_refl _); have px11 := cell_keep x11 HBC.out (Nat.le_refl _); have px12 := cell_keep x12 HBC.out (Nat.le_refl _); have px13 := cell_keep x13 HBC.out (Nat.le_refl _); have px14 := cell_keep x14 HBC.out (Nat.le_refl _); have px15 := cell_keep x15 HBC.out (Nat.le_refl _); obtain ⟨-, -, f2, ff⟩ := HBX.out _ _ HBC.out (by omega); have z0 := f2 0; have z1 := f2 1; have z2 := f2 2; have z3 := f2 3; have z4 := f2 4; have z5 := f2 5; simp only [List.getElem?_toArray, List.getElem?_cons_succ, List.getElem?_cons_zero] at z0 z1 z2 z3 z4 z5; have t0 := ff 0; have t1 := ff 1; have t2 := ff 2; have t3 := ff 3; have t4 := ff 4; have t5 := ff 5; clear f2 ff; clear hbc)
   | (go_at_call 247; (try rw [<- hwc]); (with_reducible refine Calls.mono (HN3.out wc (HPW.out _ HBC.out)) ?_); rintro e wc ⟨⟨u2, rfl, hv2⟩, hbc⟩; (try have HV0 := Lib.hid (HV0.out.below hbc (Nat.le_refl _))); (try have HV1 := Lib.hid (HV1.out.below hbc (Nat.le_refl _))); (try have HV3 := Lib.hid (HV3.out.below hbc (Nat.le_refl _))); (try have HV4 := Lib.hid (HV4.out.below hbc (Nat.le_refl _))); (try have HV5 := Lib.hid (HV5.out.below hbc (Nat.le_refl _))); have HV2 := Lib.hid hv2; clear hv2; have HBC := Lib.hid (HBC.out.trans (hbc.mono HBC.out.size)); have px00 := cell_keep x00 HBC.out (Nat.le_refl _); have px01 := cell_keep x01 HBC.out (Nat.le_refl _); have px02 := cell_keep x02 HBC.out (Nat.le_refl _); have px03 := cell_keep x03 HBC.out (Nat.le_refl _); have px04 := cell_keep x04 HBC.out (Nat.le_refl _); have px05 := cell_keep x05 HBC.out (Nat.le_refl _); have px10 := cell_keep x10 HBC.out (Nat.le_refl _); have px11 := cell_keep x11 HBC.out (Nat.le_refl _); have px12 := cell_keep x12 HBC.out (Nat.le_refl _); have px13 := cell_keep x13 HBC.out (Nat.le_refl _); have px14 := cell_keep x14 HBC.out (Nat.le_refl _); have px15 := cell_keep x15 HBC.out (Nat.le_refl _); obtain ⟨-, -, f2, ff⟩ := HBX.out _ _ HBC.out (by omega); have z0 := f2 0; have z1 := f2 1; have z2 := f2 2; have z3 := f2 3; have z4 := f2 4; have z5 := f2 5; simp only [List.getElem?_toArray, List.getElem?_cons_succ, List.getElem?_cons_zero] at z0 z1 z2 z3 z4 z5; have t0 := ff 0; have t1 := ff 1; have t2 := ff 2; have t3 := ff 3; have t4 := ff 4; have t5 := ff 5; clear f2 ff; clear hbc)
   | (go_at_call 248; (try rw [<- hwc]); (with_reducible refine Calls.mono (HN4.out _ wc HV2.out) ?_); rintro e wc ⟨⟨u3, rfl, hv3⟩, hbc⟩; (try have HV0 := Lib.hid (HV0.out.below hbc (Nat.le_refl _))); (try have HV1 := Lib.hid (HV1.out.below hbc (Nat.le_refl _))); (try have HV2 := Lib.hid (HV2.out.below hbc (Nat.le_refl _))); (try have HV4 := Lib.hid (HV4.out.below hbc (Nat.le_refl _))); (try have HV5 := Lib.hid (HV5.out.below hbc (Nat.le_refl _))); have HV3 := Lib.hid hv3; clear hv3; have HBC := Lib.hid (HBC.out.trans (hbc.mono HBC.out.size)); have px00 := cell_keep x00 HBC.out (Nat.le_refl _); have px01 := cell_keep x01 HBC.out (Nat.le_refl _); have px02 := cell_keep x02 HBC.out (Nat.le_refl _); have px03 := cell_keep x03 HBC.out (Nat.le_refl _); have px04 := cell_keep x04 HBC.out (Nat.le_refl _); have px05 := cell_keep x05 HBC.out (Nat.le_refl _); have px10 := cell_keep x10 HBC.out (Nat.le_refl _); have px11 := cell_keep x11 HBC.out (Nat.le_refl _); have px12 := cell_keep x12 HBC.out (Nat.le_refl _); have px13 := cell_keep x13 HBC.out (Nat.le_refl _); have px14 := cell_keep x14 HBC.out (Nat.le_refl _); have px15 := cell_keep x15 HBC.out (Nat.le_refl _); obtain ⟨-, -, f2, ff⟩ := HBX.out _ _ HBC.out (by omega); have z0 := f2 0; have z1 := f2 1; have z2 := f2 2; have z3 := f2 3; have z4 := f2 4; have z5 := f2 5; simp only [List.getElem?_toArray, List.getElem?_cons_succ, List.getElem?_cons_zero] at z0 z1 z2 z3 z4 z5; have t0 := ff 0; have t1 := ff 1; have t2 := ff 2; have t3 := ff 3; have t4 := ff 4; have t5 := ff 5; clear f2 ff; clear hbc)
   | (go_at_call 84; (try rw [<- hwc]); (with_reducible refine Calls.mono (HN5.out _ wc HV3.out) ?_); rintro e wc ⟨⟨u4, rfl, hv4⟩, hbc⟩; (try have HV0 := Lib.hid (HV0.out.below hbc (Nat.le_refl _))); (try have HV1 := Lib.hid (HV1.out.below hbc (Nat.le_refl _))); (try have HV2 := Lib.hid (HV2.out.below hbc (Nat.le_refl _))); (try have HV3 := Lib.hid (HV3.out.below hbc (Nat.le_refl _))); (try have HV5 := Lib.hid (HV5.out.below hbc (Nat.le_refl _))); have HV4 := Lib.hid hv4; clear hv4; have HBC := Lib.hid (HBC.out.trans (hbc.mono HBC.out.size)); have px00 := cell_keep x00 HBC.out (Nat.le_refl _); have px01 := cell_keep x01 HBC.out (Nat.le_refl _); have px02 := cell_keep x02 HBC.out (Nat.le_refl _); have px03 := cell_keep x03 HBC.out (Nat.le_refl _); have px04 := cell_keep x04 HBC.out (Nat.le_refl _); have px05 := cell_keep x05 HBC.out (Nat.le_refl _); have px10 := cell_keep x10 HBC.out (Nat.le_refl _); have px11 := cell_keep x11 HBC.out (Nat.le_refl _); have px12 := cell_keep x12 HBC.out (Nat.le_refl _); have px13 := cell_keep x13 HBC.out (Nat.le_refl _); have px14 := cell_keep x14 HBC.out (Nat.le_refl _); have px15 := cell_keep x15 HBC.out (Nat.le_refl _); obtain ⟨-, -, f2, ff⟩ := HBX.out _ _ HBC.out (by omega); have z0 := f2 0; have z1 := f2 1; have z2 := f2 2; have z3 := f2 3; have z4 := f2 4; have z5 := f2 5; simp only [List.getElem?_toArray, List.getElem?_cons_succ, List.getElem?_cons_zero] at z0 z1 z2 z3 z4 z5; have t0 := ff 0; have t1 := ff 1; have t2 := ff 2; have t3 := ff 3; have t4 := ff 4; have t5 := ff 5; clear f2 ff; clear hbc)
   | (go_at_call 201; (try rw [<- hwc]); (with_reducible refine Calls.mono (HN6.out _ _ wc HV1.out HV4.out) ?_); rintro e wc ⟨⟨u5, rfl, hv5⟩, hbc⟩; (try have HV0 := Lib.hid (HV0.out.below hbc (Nat.le_refl _))); (try have HV1 := Lib.hid (HV1.out.below hbc (Nat.le_refl _))); (try have HV2 := Lib.hid (HV2.out.below hbc (Nat.le_refl _))); (try have HV3 := Lib.hid (HV3.out.below hbc (Nat.le_refl _))); (try have HV4 := Lib.hid (HV4.out.below hbc (Nat.le_refl _))); have HV5 := Lib.hid hv5; obtain ⟨g51, g5c1, g52, g5c2, g53, g5c3, g54, g5c4, rfl, _, _, _, _⟩ := hv5.slices; clear hv5; have HBC := Lib.hid (HBC.out.trans (hbc.mono HBC.out.size)); have px00 := cell_keep x00 HBC.out (Nat.le_refl _); have px01 := cell_keep x01 HBC.out (Nat.le_refl _); have px02 := cell_keep x02 HBC.out (Nat.le_refl _); have px03 := cell_keep x03 HBC.out (Nat.le_refl _); have px04 := cell_keep x04 HBC.out (Nat.le_refl _); have px05 := cell_keep x05 HBC.out (Nat.le_refl _); have px10 := cell_keep x10 HBC.out (Nat.le_refl _); have px11 := cell_keep x11 HBC.out (Nat.le_refl _); have px12 := cell_keep x12 HBC.out (Nat.le_refl _); have px13 := cell_keep x13 HBC.out (Nat.le_refl _); have px14 := cell_keep x14 HBC.out (Nat.le_refl _); have px15 := cell_keep x15 HBC.out (Nat.le_refl _); obtain ⟨-, -, f2, ff⟩ := HBX.out _ _ HBC.out (by omega); have z0 := f2 0; have z1 := f2 1; have z2 := f2 2; have z3 := f2 3; have z4 := f2 4; have z5 := f2 5; simp only [List.getElem?_toArray, List.getElem?_cons_succ, List.getElem?_cons_zero] at z0 z1 z2 z3 z4 z5; have t0 := ff 0; have t1 := ff 1; have t2 := ff 2; have t3 := ff 3; have t4 := ff 4; have t5 := ff 5; clear f2 ff; clear hbc))
 all_goals
  have hbw := HPW.out _ HBC.out
  have hle : w.heap.size <= w.heap.size + 1 + 1 := by omega
  go_wp2_with fail
  refine bodyPost_ret (v := .agg #[.bool (qS (a * b⁻¹)), .slice g51 (dig (qN (a * b⁻¹))).length g5c1, .slice g52 (dig (qD (a * b⁻¹))).length g5c2, .bool false, .slice g53 (dig 0).length g5c3, .slice g54 (dig 1).length g5c4]) (by simp [results, Tryz.results202, go_sem, z0, z1, z2, z3, z4, z5]) rfl ?_
  exact ⟨⟨_, rfl, HV5.out.box6 z0 z1 z2 z3 z4 z5 trivial trivial trivial trivial trivial trivial⟩, ((((((hbw.setCell hle _).setCell hle _).setCell hle _).setCell hle _).setCell hle _).setCell hle _)⟩
set_option maxRecDepth 100000 in
theorem valZeroQ (v : Value) (a : Rat) (w : World) (h : VQ w v a) :
 Calls Tryz.prog 131 #[v] w fun e w' => e = .returned (.bool (decide (a = 0))) /\ Below w.heap.size w w' := by
 have HH := Lib.hid h
 obtain ⟨a1, c1, a2, c2, a3, c3, a4, c4, rfl, _, _, _, _⟩ := h.slices
 obtain ⟨W0, hW0⟩ : ∃ W0, W0 = w.alloc (.cells #[.bool (qS a), .slice a1 (dig (qN a)).length c1, .slice a2 (dig (qD a)).length c2, .bool false, .slice a3 (dig 0).length c3, .slice a4 (dig 1).length c4] 148) := ⟨_, rfl⟩
 have hB0 : Below w.heap.size w W0 := by rw [hW0]; exact (Below.refl _ _).alloc (Nat.le_refl _) _
 have hz0 : W0.heap.size = w.heap.size + 1 := by rw [hW0]; simp
 have x0 : W0.cell? ⟨w.heap.size, 0, none⟩ = some (.bool (qS a)) := by rw [hW0]; simp
 have x1 : W0.cell? ⟨w.heap.size, 1, none⟩ = some (.slice a1 (dig (qN a)).length c1) := by rw [hW0]; simp
 have x2 : W0.cell? ⟨w.heap.size, 2, none⟩ = some (.slice a2 (dig (qD a)).length c2) := by rw [hW0]; simp
 have x3 : W0.cell? ⟨w.heap.size, 3, none⟩ = some (.bool false) := by rw [hW0]; simp
 have x4 : W0.cell? ⟨w.heap.size, 4, none⟩ = some (.slice a3 (dig 0).length c3) := by rw [hW0]; simp
 have x5 : W0.cell? ⟨w.heap.size, 5, none⟩ = some (.slice a4 (dig 1).length c4) := by rw [hW0]; simp
 have hZ1 : ∀ W, Below w.heap.size w W -> Calls Tryz.prog 164 #[.agg #[.bool (qS a), .slice a1 (dig (qN a)).length c1, .slice a2 (dig (qD a)).length c2]] W fun e w' => e = .returned (.bool (decide (a = 0))) /\ Below W.heap.size W w' := fun W hb => by
  have := zero_any _ _ _ _ W (HH.out.parts.1.below hb (Nat.le_refl _))
  rw [show decide (qN a = 0) = decide (a = 0) by rw [Bool.eq_iff_iff, decide_eq_true_iff, decide_eq_true_iff]; exact qN_zero] at this
  exact this
 have hZ2 : ∀ W, Below w.heap.size w W -> Calls Tryz.prog 164 #[.agg #[.bool false, .slice a3 (dig 0).length c3, .slice a4 (dig 1).length c4]] W fun e w' => e = .returned (.bool true) /\ Below W.heap.size W w' := fun W hb => zero_any _ _ _ _ W (HH.out.parts.2.below hb (Nat.le_refl _))
 generalize decide (a = 0) = z at *
 have HZ1 := Lib.hid hZ1; have HZ2 := Lib.hid hZ2; have HB0 := Lib.hid hB0
 clear h hZ1 hZ2 hB0 HH
 go_enter Tryz.func131, Tryz.ntmps131
 go_wp2_with fail
 rw [<- hW0]
 clear hW0
 refine (HZ1.out _ HB0.out).mono ?_
 rintro e w1 ⟨rfl, hb1⟩
 have HB1 := Lib.hid (HB0.out.trans (hb1.mono HB0.out.size))
 have p3 := cell_keep x3 hb1 (Nat.le_refl _)
 have p4 := cell_keep x4 hb1 (Nat.le_refl _)
 have p5 := cell_keep x5 hb1 (Nat.le_refl _)
 clear hb1
 cases z
 · go_wp2_with fail
   go_ret
   exact ⟨rfl, HB1.out⟩
 · go_wp2_with fail
   refine (HZ2.out _ HB1.out).mono ?_
   rintro e w2 ⟨rfl, hb2⟩
   have hbf := HB1.out.trans (hb2.mono HB1.out.size)
   clear hb2
   go_wp2_with fail
   go_ret
   exact ⟨rfl, hbf⟩
end Go.Proofs.YtdpjdifoonfcdaaGreatDoor

namespace Go.Proofs.YtdpjdifoonfcdaaGreatDoor
open Go.RowKit
def PairQ (q : Rat) (w : World) (e : Ending) (w' : World) : Prop := (∃ v, e = .returned (.tuple #[v, .int .i64 0]) /\ VQ w' v q) /\ Below w.heap.size w w'
theorem get_tx {q : Rat} (h : okQ q = true) (w : World) (ht : Tab w) : Calls Tryz.prog 129 #[.string (txQ q)] w fun e w' => (∃ v, e = .returned (.tuple #[v, .bool true]) /\ VQ w' v q) /\ Below w.heap.size w w' := by
 have := get_noI (txQ q) w ht (Nat.le_trans (tx_fit h).1 (by decide)) (tx_fit h).2
 rw [getR_tx h] at this
 exact this
theorem putQ_any (v : Value) (q : Rat) (w : World) (hv : VQ w v q) (ht : Tab w) (h : hgt q <= 1000000000) : Calls Tryz.prog 83 #[v] w fun e w' => e = .returned (.tuple #[.string (ptQ q), .int .i64 (peQ q)]) /\ Below w.heap.size w w' :=
 put_any v _ _ _ _ w hv ht (by have := hgt_n q; omega) (by have := hgt_d q; omega) (qD_ne q)
def lessF : Value := .func (.func 72) #[] #[]
theorem sure_less (w : World) :
 Calls Tryz.prog 71 #[lessF] w fun e w' => e = .returned (.func (.func 139) #[] #[.pointer (some ⟨w.heap.size, 0, none⟩)]) /\ Blk w' w.heap.size 141 #[lessF] /\ Below w.heap.size w w' := by
 have hbk := Blk.new w 141 #[lessF]
 have HBK := Lib.hid hbk
 clear hbk
 unfold lessF at *
 go_enter Tryz.func71, Tryz.ntmps71
 go_wp2
 go_ret
 exact ⟨rfl, HBK.out, (Below.refl _ _).alloc (Nat.le_refl _) _⟩
set_option maxRecDepth 100000 in
set_option maxHeartbeats 1000000 in
theorem sure1_less (v1 v2 : Value) (a b : Rat) (B : Nat) (w : World) (hB : Blk w B 141 #[lessF]) (h1 : VQ w v1 a) (h2 : VQ w v2 b) (l1 : hgt a <= 100000000) (l2 : hgt b <= 100000000) :
 Calls Tryz.prog 139 #[v1, v2, .pointer (some ⟨B, 0, none⟩)] w (PairQ (a - b) w) := by
 have H1 := Lib.hid h1; have H2 := Lib.hid h2
 obtain ⟨a1, c1, a2, c2, a3, c3, a4, c4, rfl, _, _, _, _⟩ := h1.slices
 obtain ⟨b1, e1, b2, e2, b3, e3, b4, e4, rfl, _, _, _, _⟩ := h2.slices
 have HPL : Hid (∀ W, Below w.heap.size w W -> Calls Tryz.prog 72 #[.agg #[.bool (qS a), .slice a1 (dig (qN a)).length c1, .slice a2 (dig (qD a)).length c2, .bool false, .slice a3 (dig 0).length c3, .slice a4 (dig 1).length c4], .agg #[.bool (qS b), .slice b1 (dig (qN b)).length e1, .slice b2 (dig (qD b)).length e2, .bool false, .slice b3 (dig 0).length e3, .slice b4 (dig 1).length e4]] W (VQRes (a - b) W)) := fun W hb => lessQ _ _ a b W (H1.out.below hb (Nat.le_refl _)) (H2.out.below hb (Nat.le_refl _)) (by omega) (by omega)
 have hlt := hB.lt
 have c0 : w.cell? ⟨B, 0, none⟩ = some lessF := hB.cell 0
 unfold lessF at c0
 have n1' : ¬ B = w.heap.size := by omega
 have n2' : ¬ B = w.heap.size + 1 := by omega
 have n3' : ¬ B = w.heap.size + 1 + 1 := by omega
 have h3 : Below w.heap.size w (((w.alloc (.cells #[.bool (qS a), .slice a1 (dig (qN a)).length c1, .slice a2 (dig (qD a)).length c2, .bool false, .slice a3 (dig 0).length c3, .slice a4 (dig 1).length c4] 148)).alloc (.cells #[.bool (qS b), .slice b1 (dig (qN b)).length e1, .slice b2 (dig (qD b)).length e2, .bool false, .slice b3 (dig 0).length e3, .slice b4 (dig 1).length e4] 148)).alloc (.cells #[.bool false, .slice none 0 0, .slice none 0 0, .bool false, .slice none 0 0, .slice none 0 0] 148)) := (((Below.refl w.heap.size w).alloc (Nat.le_refl _) _).alloc (by simp) _).alloc (by simp; omega) _
 have cz : (((w.alloc (.cells #[.bool (qS a), .slice a1 (dig (qN a)).length c1, .slice a2 (dig (qD a)).length c2, .bool false, .slice a3 (dig 0).length c3, .slice a4 (dig 1).length c4] 148)).alloc (.cells #[.bool (qS b), .slice b1 (dig (qN b)).length e1, .slice b2 (dig (qD b)).length e2, .bool false, .slice b3 (dig 0).length e3, .slice b4 (dig 1).length e4] 148)).alloc (.cells #[.bool false, .slice none 0 0, .slice none 0 0, .bool false, .slice none 0 0, .slice none 0 0] 148)).cell? ⟨B, 0, none⟩ = some (.func (.func 72) #[] #[]) := cell_keep c0 h3 (Nat.le_refl _)
 clear h1 h2 hB
 go_enter Tryz.func139, Tryz.ntmps139
 go_wp2_with fail
 refine (HPL.out _ h3).mono ?_
 rintro e w5 ⟨⟨v5, rfl, hv5⟩, hb5⟩
 have hbx := h3.trans (hb5.mono h3.size)
 obtain ⟨-, -, q, f⟩ := boxes3 hb5 (by simp)
 have z0 := q 0
 have z1 := q 1
 have z2 := q 2
 have z3 := q 3
 have z4 := q 4
 have z5 := q 5
 simp only [List.getElem?_toArray, List.getElem?_cons_succ, List.getElem?_cons_zero] at z0 z1 z2 z3 z4 z5
 have f0 := f 0
 have f1 := f 1
 have f2 := f 2
 have f3 := f 3
 have f4 := f 4
 have f5 := f 5
 obtain ⟨g1, i1, g2, i2, g3, i3, g4, i4, rfl, m1, m2, m3, m4⟩ := hv5.slices
 have HM1 := Lib.hid m1; have HM2 := Lib.hid m2; have HM3 := Lib.hid m3; have HM4 := Lib.hid m4
 clear m1 m2 m3 m4 hv5 hb5 q f h3 c0 cz n1' n2' n3'
 have hle : w.heap.size <= w.heap.size + 1 + 1 := by omega
 go_wp2_with fail
 refine bodyPost_ret (v := .tuple #[.agg #[.bool (qS (a - b)), .slice g1 (dig (qN (a - b))).length i1, .slice g2 (dig (qD (a - b))).length i2, .bool false, .slice g3 (dig 0).length i3, .slice g4 (dig 1).length i4], .int .i64 0]) (by simp [results, Tryz.results139, go_sem, z0, z1, z2, z3, z4, z5]) rfl ?_
 exact ⟨⟨_, rfl, _, _, _, _, rfl, HM1.out.box6 z0 z1 z2 z3 z4 z5 trivial trivial trivial trivial trivial trivial, HM2.out.box6 z0 z1 z2 z3 z4 z5 trivial trivial trivial trivial trivial trivial, HM3.out.box6 z0 z1 z2 z3 z4 z5 trivial trivial trivial trivial trivial trivial, HM4.out.box6 z0 z1 z2 z3 z4 z5 trivial trivial trivial trivial trivial trivial⟩, (((((hbx.setCell hle _).setCell hle _).setCell hle _).setCell hle _).setCell hle _).setCell hle _⟩
set_option maxRecDepth 100000 in
set_option maxHeartbeats 1000000 in
theorem subQ_own (a b : Rat) (w : World) (ht : Tab w) (h1 : okQ a = true) (h2 : okQ b = true) :
 Calls Tryz.prog 18 #[.string (txQ a), .string (txQ b)] w fun e w' => e = .returned (.tuple #[.string (ptQ (a - b)), .int .i64 (peQ (a - b))]) /\ Below w.heap.size w w' := by
 have hga := fun W (h : Tab W) => get_tx h1 W h
 have hgb := fun W (h : Tab W) => get_tx h2 W h
 have x1 := ok_hgt h1
 have x2 := ok_hgt h2
 have hs1 := fun v1 v2 B W hB h1 h2 => sure1_less v1 v2 a b B W hB h1 h2 (by omega) (by omega)
 have hz : hgt (a - b) <= 1000 := by have := hgt_sub a b; omega
 have hboth : ∀ (B : Nat) (W : World), Tab W -> Blk W B 141 #[lessF] -> Calls Tryz.prog 70 #[.string (txQ a), .string (txQ b), .func (.func 139) #[] #[.pointer (some ⟨B, 0, none⟩)]] W fun e w' => e = .returned (.tuple #[.string (ptQ (a - b)), .int .i64 (peQ (a - b))]) /\ Below W.heap.size W w' := by
  intro B W hT hB
  have hput := fun v W h1 h2 => putQ_any v (a - b) W h1 h2 (by omega)
  have HGA := Lib.hid hga; have HGB := Lib.hid hgb; have HS1 := Lib.hid hs1; have HT := Lib.hid hT; have HBK := Lib.hid hB; have HPUT := Lib.hid hput
  have hlt := hB.lt
  clear hga hgb hs1 hT hB hput ht h1 h2
  go_enter Tryz.func70, Tryz.ntmps70
  go_wp2_with fail
  refine (HGA.out W HT.out).mono ?_
  rintro e w1 ⟨⟨v1, rfl, hv1⟩, hb1⟩
  have HV1 := Lib.hid hv1
  obtain ⟨a1, c1, a2, c2, a3, c3, a4, c4, rfl, _, _, _, _⟩ := hv1.slices
  have hal1 := (Below.refl w1.heap.size w1).alloc (Nat.le_refl _) (.cells #[.bool (qS a), .slice a1 (dig (qN a)).length c1, .slice a2 (dig (qD a)).length c2, .bool false, .slice a3 (dig 0).length c3, .slice a4 (dig 1).length c4] 148)
  clear hv1
  go_wp2_with fail
  refine (HGB.out _ (HT.out.below (hb1.trans (hal1.mono hb1.size)) (Nat.le_refl _))).mono ?_
  rintro e w2 ⟨⟨v2, rfl, hv2⟩, hb2⟩
  have HV2 := Lib.hid hv2
  obtain ⟨b1, e1, b2, e2, b3, e3, b4, e4, rfl, _, _, _, _⟩ := hv2.slices
  have h12 : Below w1.heap.size w1 w2 := hal1.trans (hb2.mono hal1.size)
  have hbx := hb1.trans (h12.mono hb1.size)
  have p0 : w2.cell? ⟨w1.heap.size, 0, none⟩ = some (.bool (qS a)) := box_keep hb2 (by simp) 0
  have p1 : w2.cell? ⟨w1.heap.size, 1, none⟩ = some (.slice a1 (dig (qN a)).length c1) := box_keep hb2 (by simp) 1
  have p2 : w2.cell? ⟨w1.heap.size, 2, none⟩ = some (.slice a2 (dig (qD a)).length c2) := box_keep hb2 (by simp) 2
  have p3 : w2.cell? ⟨w1.heap.size, 3, none⟩ = some (.bool false) := box_keep hb2 (by simp) 3
  have p4 : w2.cell? ⟨w1.heap.size, 4, none⟩ = some (.slice a3 (dig 0).length c3) := box_keep hb2 (by simp) 4
  have p5 : w2.cell? ⟨w1.heap.size, 5, none⟩ = some (.slice a4 (dig 1).length c4) := box_keep hb2 (by simp) 5
  have hl1 : w1.heap.size < w2.heap.size := by have := hb2.size; simp at this; omega
  have n1' : ¬ w1.heap.size = w2.heap.size := by omega
  have hal2 := (Below.refl w2.heap.size w2).alloc (Nat.le_refl _) (.cells #[.bool (qS b), .slice b1 (dig (qN b)).length e1, .slice b2 (dig (qD b)).length e2, .bool false, .slice b3 (dig 0).length e3, .slice b4 (dig 1).length e4] 148)
  have hbk3 := HBK.out.below (hbx.trans (hal2.mono hbx.size)) hlt
  have HA2 := Lib.hid hal2; have HBX := Lib.hid hbx; have HB3 := Lib.hid hbk3; have H12 := Lib.hid h12
  clear hv2 hb1 hb2 hal1 hal2 hbx hbk3 h12
  go_wp2_with fail
  clear p0 p1 p2 p3 p4 p5 n1'
  refine (HS1.out _ _ B _ HB3.out ((HV1.out.below H12.out (Nat.le_refl _)).below HA2.out (Nat.le_refl _)) (HV2.out.below HA2.out (Nat.le_refl _))).mono ?_
  rintro e w3 ⟨⟨v3, rfl, hv3⟩, hb3⟩
  have h23 : Below w2.heap.size w2 w3 := HA2.out.trans (hb3.mono HA2.out.size)
  have HB23 := Lib.hid (HBX.out.trans (h23.mono HBX.out.size))
  have HV3 := Lib.hid hv3
  obtain ⟨g1, i1, g2, i2, g3, i3, g4, i4, rfl, _, _, _, _⟩ := hv3.slices
  clear hv3 hb3 h23
  have hsz3 := HB23.out.size
  go_wp2_with fail
  refine (HPUT.out _ _ (HV3.out.below ((Below.refl _ _).alloc (Nat.le_refl _) _) (Nat.le_refl _)) (HT.out.below (HB23.out.alloc hsz3 _) (Nat.le_refl _))).mono ?_
  rintro e w4 ⟨rfl, hb4⟩
  have hbf := (HB23.out.alloc hsz3 _).trans (hb4.mono (by simp; omega))
  clear hb4
  go_wp2_with fail
  go_ret2
  exact ⟨rfl, hbf⟩
 have HBO := Lib.hid hboth; have HT := Lib.hid ht
 clear hboth ht h1 h2 hga hgb hs1
 have hsu := sure_less w
 have HSU := Lib.hid hsu
 unfold lessF at HSU
 clear hsu
 go_enter Tryz.func18, Tryz.ntmps18
 go_wp2_with fail
 refine HSU.out.mono ?_
 rintro e w1 ⟨rfl, hbk, hb1⟩
 have HBK := Lib.hid hbk
 clear hbk
 go_wp2_with fail
 refine (HBO.out _ _ (HT.out.below hb1 (Nat.le_refl _)) HBK.out).mono ?_
 rintro e w2 ⟨rfl, hb2⟩
 go_wp2_with fail
 go_ret2
 exact ⟨rfl, hb1.trans (hb2.mono hb1.size)⟩
end Go.Proofs.YtdpjdifoonfcdaaGreatDoor

namespace Go.Proofs.YtdpjdifoonfcdaaGreatDoor
def BdQ (a : List (List Rat)) (H : Nat) : Prop := ∀ r ∈ a, ∀ x ∈ r, hgt x <= H
theorem BdQ.mono {a : List (List Rat)} {H H' : Nat} (h : BdQ a H) (hH : H <= H') : BdQ a H' := fun r hr x hx => Nat.le_trans (h r hr x hx) hH
theorem BdQ.atEnt {a : List (List Rat)} {H : Nat} (h : BdQ a H) (h1 : 1 <= H) (i j : Nat) : hgt (ent a i j) <= H := by
 unfold ent
 rw [List.getD]
 cases hr : (a.getD i [])[j]? with
 | none => show hgt 0 <= H; rw [hgt_zero]; exact h1
 | some x =>
   refine h _ ?_ x (List.mem_of_getElem? hr)
   cases hi : a[i]? with
   | none => rw [List.getD, hi] at hr; cases hr
   | some r => rw [List.getD, hi]; exact List.mem_of_getElem? hi
theorem BdQ.row {a : List (List Rat)} {H : Nat} (h : BdQ a H) (i : Nat) : ∀ x ∈ a.getD i [], hgt x <= H := by
 intro x hx
 cases hi : a[i]? with
 | none => rw [List.getD, hi] at hx; cases hx
 | some r => rw [List.getD, hi] at hx; exact h r (List.mem_of_getElem? hi) x hx
theorem BdQ.swap {a : List (List Rat)} {H n c p k : Nat} (h : BdQ a H) (hr : Rows a n c) (hp : p < n) (hk : k < n) : BdQ (swapQ a p k) H := by
 intro r hh x hx
 obtain ⟨i, hi⟩ := List.mem_iff_getElem?.1 hh
 rw [swapQ_get hr hp hk] at hi
 have : r ∈ a := by
  split at hi
  · exact List.mem_of_getElem? hi
  · split at hi
    · exact List.mem_of_getElem? hi
    · exact List.mem_of_getElem? hi
 exact h r this x hx
theorem hgt_overs {x t : Rat} {H : Nat} (hx : hgt x <= H) (ht : hgt t <= H) (h0 : t ≠ 0) : hgt (x * t⁻¹) <= 2 * H := by
 have := hgt_mul x t⁻¹
 rw [hgt_inv h0] at this; omega
theorem hgt_lesss {x f y : Rat} {H : Nat} (hx : hgt x <= H) (hf : hgt f <= H) (hy : hgt y <= 2 * H) : hgt (x - f * y) <= 4 * H + 1 := by
 have h1 := hgt_sub x (f * y)
 have h2 := hgt_mul f y
 omega
theorem BdQ.clear {a : List (List Rat)} {H k : Nat} (h : BdQ a H) (h1 : 1 <= H) (hz : ent a k k ≠ 0) : BdQ (clearQ a k) (4 * H + 1) := by
 intro r hh x hx
 obtain ⟨i, hi⟩ := List.mem_iff_getElem?.1 hh
 have hil : i < a.length := by
  have := (List.getElem?_eq_some_iff.1 hi).1
  unfold clearQ at this; rwa [List.length_mapIdx] at this
 rw [clearQ_get (List.getElem?_eq_getElem hil)] at hi
 injection hi with hi
 have hb : ∀ y ∈ (a.getD k []).map (· * (ent a k k)⁻¹), hgt y <= 2 * H := fun y hy => by
  obtain ⟨u, hu, rfl⟩ := List.mem_map.1 hy
  exact hgt_overs (h.row k u hu) (h.atEnt h1 k k) hz
 rw [<- hi] at hx
 split at hx
 · have := hb x hx; omega
 · obtain ⟨j, hj⟩ := List.mem_iff_getElem?.1 hx
   unfold lessRow at hj
   rw [List.getElem?_zipWith] at hj
   cases h2 : (a[i])[j]? with
   | none => rw [h2] at hj; cases hj
   | some u =>
     cases h3 : ((a.getD k []).map (· * (ent a k k)⁻¹))[j]? with
     | none => rw [h2, h3] at hj; cases hj
     | some y =>
       rw [h2, h3] at hj
       have hj : u - (a[i]).getD k 0 * y = x := Option.some.inj hj
       rw [<- hj]
       refine hgt_lesss (h _ (List.getElem_mem hil) u (List.mem_of_getElem? h2)) ?_ (hb y (List.mem_of_getElem? h3))
       have := h.atEnt h1 i k
       rwa [ent_of (List.getElem?_eq_getElem hil)] at this
def hgB (H : Nat) : Nat -> Nat
 | 0 => H
 | k + 1 => 4 * hgB H k + 1
theorem hgB_le {H k : Nat} (hk : k <= 4) : hgB H k <= 256 * H + 85 := by
 match k, hk with
 | 0, _ => simp only [hgB]; omega
 | 1, _ => simp only [hgB]; omega
 | 2, _ => simp only [hgB]; omega
 | 3, _ => simp only [hgB]; omega
 | 4, _ => simp only [hgB]; omega
theorem hgB_one {H : Nat} (h : 1 <= H) : ∀ k, 1 <= hgB H k
 | 0 => h
 | k + 1 => by simp only [hgB]; omega
theorem hgt_dotQ {H : Nat} : ∀ (xs ys : List Rat), (∀ x ∈ xs, hgt x <= H) -> (∀ y ∈ ys, hgt y <= H) -> hgt (dotQ xs ys) <= 1 + xs.length * (2 * H + 1)
 | [], _, _, _ => by rw [dotQ_nil, hgt_zero]; omega
 | _ :: _, [], _, _ => by show hgt 0 <= _; rw [hgt_zero]; omega
 | x :: xs, y :: ys, h1, h2 => by
   have := hgt_dotQ xs ys (fun u hu => h1 u (by simp [hu])) (fun u hu => h2 u (by simp [hu]))
   have e1 := h1 x (by simp)
   have e2 := h2 y (by simp)
   have e3 := hgt_mul x y
   have e4 := hgt_add (x * y) (dotQ xs ys)
   have e5 : (xs.length + 1) * (2 * H + 1) = xs.length * (2 * H + 1) + (2 * H + 1) := Nat.succ_mul _ _
   simp only [dotQ, List.length_cons]
   rw [e5]
   omega
theorem dotQ_take {xs ys : List Rat} {k : Nat} {x y : Rat} (hx : xs[k]? = some x) (hy : ys[k]? = some y) : dotQ (xs.take (k + 1)) (ys.take (k + 1)) = dotQ (xs.take k) (ys.take k) + x * y := by
 have h1 := (List.getElem?_eq_some_iff.1 hx).1
 have h2 := (List.getElem?_eq_some_iff.1 hy).1
 rw [List.take_add_one, List.take_add_one, hx, hy]
 exact dotQ_snoc _ _ _ _ (by rw [List.length_take, List.length_take]; omega)
theorem hgt_take {H k : Nat} {xs ys : List Rat} (h1 : ∀ x ∈ xs, hgt x <= H) (h2 : ∀ y ∈ ys, hgt y <= H) (hl : xs.length <= 5000) (hH : H <= 10000) : hgt (dotQ (xs.take k) (ys.take k)) <= 110000000 := by
 have := hgt_dotQ (xs.take k) (ys.take k) (fun x hx => h1 x (List.mem_of_mem_take hx)) (fun y hy => h2 y (List.mem_of_mem_take hy))
 have h3 : (xs.take k).length <= 5000 := by rw [List.length_take]; omega
 have h4 : (xs.take k).length * (2 * H + 1) <= 5000 * (2 * 10000 + 1) := Nat.mul_le_mul h3 (by omega)
 omega
end Go.Proofs.YtdpjdifoonfcdaaGreatDoor

namespace Go.Proofs.YtdpjdifoonfcdaaGreatDoor
open Go.RowKit
section
variable {P : Program} {md : Region.Mode} {ops : Array Oper} {Q : Exit -> Act -> World -> Prop} {T : Nat -> World -> Prop}
def wpAnyJ (P : Program) (md : Region.Mode) (ops : Array Oper) (Q : Exit -> Act -> World -> Prop) (T : Nat -> World -> Prop) : Nat -> Array Bool -> Act -> World -> Prop
 | 0, listed, a, w => Region.ready md ops listed = [] /\ Q .normal a w
 | fuel + 1, listed, a, w =>
   (Region.ready md ops listed = [] -> Q .normal a w) /\
   ∀ i ∈ Region.ready md ops listed, wpOp P ops Q i (fun a' w' => T i w' /\ wpAnyJ P md ops Q T fuel (listed.setIfInBounds i true) a' w') a w
theorem wpAny_of_J : ∀ (fuel : Nat) (listed : Array Bool) (a : Act) (w : World), wpAnyJ P md ops Q T fuel listed a w -> wpAny P md ops Q fuel listed a w
 | 0, _, _, _, h => h
 | fuel + 1, _, _, _, h => ⟨h.1, fun i hi => wpOp_mono (fun a' w' h' => wpAny_of_J fuel _ a' w' h'.2) (h.2 i hi)⟩
theorem wpAnyJ_first {S : World -> Prop} {i : Nat} {oi : Oper} {v : Value} (hi : ops[i]? = some oi) (hsel : ∀ (j : Nat) (o : Oper) cs b, ops[j]? = some o -> o.op ≠ .select cs b)
 (hQ : ∀ c a w, Q (.panic c) (a.put oi.dst v) w -> Q (.panic c) a w) (hTi : ∀ w, S w -> T i w) :
 ∀ (fuel : Nat) (listed : Array Bool) (a : Act) (w : World),
   (∀ j oj, ops[j]? = some oj -> j ≠ i -> listed.getD j true = false -> (∀ e ∈ oj.after, Region.binds md e = true -> e.on ≠ i) -> ∀ w, T j w -> S w) ->
   (∀ j oj, ops[j]? = some oj -> j ≠ i -> listed.getD j true = false -> (∀ e ∈ oj.after, Region.binds md e = true -> e.on ≠ i) -> oi.apart ops oj = true) ->
   i ∈ Region.ready md ops listed -> YieldsIf P ops S oi v a -> S w ->
   wpAnyJ P md ops Q T fuel (listed.setIfInBounds i true) (a.put oi.dst v) w -> wpAnyJ P md ops Q T (fuel + 1) listed a w := by
 intro fuel
 induction fuel with
 | zero =>
   intro listed a w _ _ hr hy hS H
   refine ⟨fun h => (by rw [h] at hr; cases hr), fun j hj => ?_⟩
   by_cases hji : j = i
   · subst hji; exact hy.wpOp hi hS ⟨hTi _ hS, H⟩
   · have := ready_mono hj hji
     rw [H.1] at this
     cases this
 | succ fuel ih =>
   intro listed a w hTS hfree hr hy hS H
   refine ⟨fun h => (by rw [h] at hr; cases hr), fun j hj => ?_⟩
   by_cases hji : j = i
   · subst hji; exact hy.wpOp hi hS ⟨hTi _ hS, H⟩
   · have h1 := H.2 j (ready_mono hj hji)
     obtain ⟨hjun, oj, hoj, hall⟩ := mem_ready.1 hj
     have hnot : ∀ e ∈ oj.after, Region.binds md e = true -> e.on ≠ i := fun e he hb heq => by
      have h1 := hall e he hb
      have h0 := (mem_ready.1 hr).1
      rw [heq] at h1
      rcases Nat.lt_or_ge i listed.size with h' | h'
      · simp [h'] at h0 h1; rw [h0] at h1; cases h1
      · simp [Array.getElem?_eq_none h'] at h1
     have h2 := wpOp_putIf hoj (hfree j oj hoj hji hjun hnot) (fun cs b => hsel i oi cs b hi) (fun cs b => hsel j oj cs b hoj) hQ hy h1
     have hfree' : ∀ k ok, ops[k]? = some ok -> k ≠ i -> (listed.setIfInBounds j true).getD k true = false ->
      (∀ e ∈ ok.after, Region.binds md e = true -> e.on ≠ i) -> oi.apart ops ok = true := fun k ok hk hki hun hno => by
      refine hfree k ok hk hki ?_ hno
      by_cases hjk : j = k
      · subst hjk; exact hjun
      · rw [getD_set_ne true hjk] at hun; exact hun
     have hTS' : ∀ k ok, ops[k]? = some ok -> k ≠ i -> (listed.setIfInBounds j true).getD k true = false ->
      (∀ e ∈ ok.after, Region.binds md e = true -> e.on ≠ i) -> ∀ w, T k w -> S w := fun k ok hk hki hun hno => by
      refine hTS k ok hk hki ?_ hno
      by_cases hjk : j = k
      · subst hjk; exact hjun
      · rw [getD_set_ne true hjk] at hun; exact hun
     refine wpOp_mono (fun a' w' h3 => ⟨h3.2.1, ih (listed.setIfInBounds j true) a' w' hTS' hfree' (ready_mono hr (Ne.symm hji)) h3.1 (hTS j oj hoj hji hjun hnot _ h3.2.1) ?_⟩) h2
     rw [Array.setIfInBounds_comm _ _ hji]
     exact h3.2.2
theorem wpAnyJ_all {rs : List Nat} {fuel : Nat} {listed : Array Bool} {a : Act} {w : World} (hr : Region.ready md ops listed = rs) (hne : rs ≠ [])
 (h : ∀ i ∈ rs, wpOp P ops Q i (fun a' w' => T i w' /\ wpAnyJ P md ops Q T fuel (listed.setIfInBounds i true) a' w') a w) : wpAnyJ P md ops Q T (fuel + 1) listed a w :=
 ⟨fun h0 => absurd (hr ▸ h0) hne, hr ▸ h⟩
theorem wpAnyJ_done {listed : Array Bool} {a : Act} {w : World} (hr : Region.ready md ops listed = []) (h : Q .normal a w) :
 ∀ fuel, wpAnyJ P md ops Q T fuel listed a w
 | 0 => ⟨hr, h⟩
 | _ + 1 => ⟨fun _ => h, by rw [hr]; simp⟩
theorem wp_region_drewJ {id : Nat} {a : Act} {w : World} (hm : P.follows .mixedOrders = true) (h : wpAnyJ P .any ops Q T ops.size (Array.replicate ops.size false) a w.drew) : (Code.region id ops true).wp P Q a w :=
 wp_region_any hm (wpAny_of_J _ _ _ _ h)
def waitsFor (md : Region.Mode) (ops : Array Oper) (j i : Nat) : Bool := match ops[j]? with | some o => o.after.any (fun e => Region.binds md e && e.on == i) | none => true
theorem tjV (i : Nat) (v : Value) (S : World -> Prop) (ok : Nat -> Bool) {oi : Oper} {fuel : Nat} {listed l' : Array Bool} {a a' : Act} {w : World} (hS : S w) (hTi : ∀ w, S w -> T i w) (hTS : ∀ j, ok j = true -> ∀ w, T j w -> S w)
 (h : wpAnyJ P md ops Q T fuel l' a' w)
 (hi : ops[i]? = some oi := by simp only [List.getElem?_toArray, List.getElem?_cons_succ, List.getElem?_cons_zero]; rfl)
 (hs : Region.noSelect ops = true := by kernel_rfl) (hf : Region.free md ops listed i = true := by kernel_rfl) (hr : (Region.ready md ops listed).contains i = true := by kernel_rfl)
 (hok : (List.range ops.size).all (fun j => j == i || listed.getD j true || waitsFor md ops j i || ok j) = true := by kernel_rfl)
 (hQ : ∀ c a w, Q (.panic c) (a.put oi.dst v) w -> Q (.panic c) a w := by exact fun _ _ _ h => h) (hw : Region.wanted oi (yielded ops a.tmps) = true := by rfl)
 (hy : ∀ w, S w -> (execOp a.eval oi).run P w = .ok (.value v) w := by intro w9 h; (repeat (obtain ⟨_, h⟩ := h)); first | (go_simp; done) | (go_simp; exact IntWalk.i64_in _ (by omega)))
 (hl : listed.setIfInBounds i true = l' := by first | (simp only [List.setIfInBounds_toArray, List.set_cons_zero, List.set_cons_succ]; rfl) | rfl)
 (ha : a.put oi.dst v = a' := by first | (simp only [Act.put, List.setIfInBounds_toArray, List.set_cons_zero, List.set_cons_succ]; rfl) | rfl) : wpAnyJ P md ops Q T (fuel + 1) listed a w := by
 subst hl; subst ha
 refine wpAnyJ_first (S := S) hi (Region.noSelect_spec hs) hQ hTi fuel listed a w (fun j oj hj hji hun hno w hT => hTS j ?_ w hT) (Region.free_spec hi hf) (by simpa using hr) (.inl ⟨hw, hy⟩) hS h
 have hjs := (Array.getElem?_eq_some_iff.1 hj).1
 have h1 := List.all_eq_true.1 hok j (List.mem_range.2 hjs)
 rw [Bool.or_eq_true, Bool.or_eq_true, Bool.or_eq_true] at h1
 rcases h1 with ((h1 | h1) | h1) | h1
 · exact absurd (by simpa using h1) hji
 · rw [hun] at h1; cases h1
 · exfalso
   unfold waitsFor at h1
   rw [hj] at h1
   simp only [Array.any_eq_true] at h1
   obtain ⟨k, hk, he⟩ := h1
   rw [Bool.and_eq_true, beq_iff_eq] at he
   exact hno _ (Array.getElem_mem hk) he.1 he.2
 · exact h1
theorem tjO {fuel : Nat} {listed l' : Array Bool} {a : Act} {w : World} {i : Nat} {o : Oper}
 (h : ∀ K' : Act -> World -> Prop, Shut (∀ a w, T i w -> wpAnyJ P md ops Q T fuel l' a w -> K' a w) -> if Region.wanted o (yielded ops a.tmps) = true then Oper.wp P o a w K' Q else K' (a.put o.dst undef) w)
 (hi : ops[i]? = some o) (hl : listed.setIfInBounds i true = l') : wpOp P ops Q i (fun a' w' => T i w' /\ wpAnyJ P md ops Q T fuel (listed.setIfInBounds i true) a' w') a w := by
 subst hl
 exact wpOp_step hi (fun K' hK => h K' (fun a w hS hW => hK a w ⟨hS, hW⟩))
theorem tjC (i : Nat) {o : Oper} {fuel : Nat} {listed l' : Array Bool} {a : Act} {w : World}
 (h : ∀ K' : Act -> World -> Prop, Shut (∀ a w, T i w -> wpAnyJ P md ops Q T fuel l' a w -> K' a w) -> if Region.wanted o (yielded ops a.tmps) = true then Oper.wp P o a w K' Q else K' (a.put o.dst undef) w)
 (hi : ops[i]? = some o := by simp only [List.getElem?_toArray, List.getElem?_cons_succ, List.getElem?_cons_zero]; rfl) (hr : Region.ready md ops listed = [i] := by kernel_rfl)
 (hl : listed.setIfInBounds i true = l' := by first | (simp only [List.setIfInBounds_toArray, List.set_cons_zero, List.set_cons_succ]; rfl) | rfl) : wpAnyJ P md ops Q T (fuel + 1) listed a w :=
 wpAnyJ_all hr (by simp) (fun j hj => by obtain rfl := List.mem_singleton.1 hj; exact tjO h hi hl)
end
end Go.Proofs.YtdpjdifoonfcdaaGreatDoor
