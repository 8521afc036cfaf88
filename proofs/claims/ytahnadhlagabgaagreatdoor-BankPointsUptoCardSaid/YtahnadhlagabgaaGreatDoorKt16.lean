/- Parts of a proof, in build order: OA, I0, I1, H4, Is, OB, OC, OD, I3, I5, I6, JT, OE. -/
import Derived.Test.YtahnadhlagabgaaGreatDoorKt15

namespace Go.Proofs.YtahnadhlagabgaaGreatDoor
open Go.RowKit
set_option maxRecDepth 100000 in
set_option maxHeartbeats 4000000 in
theorem refFamily_any (L a b c d : Int) (w : World) :
 Calls Tryz.prog 64 #[.agg #[.int .i64 L, .int .i64 a, .int .i64 b, .int .i64 c, .int .i64 d]] w fun e w' => e = .returned (.bool (famOK L a b c d)) /\ Below w.heap.size w w' := by
 have hal := (Below.refl w.heap.size w).alloc lc (.cells #[.int .i64 L, .int .i64 a, .int .i64 b, .int .i64 c, .int .i64 d] 23)
 have HAL := hG hal
 clear hal
 obtain ⟨R, hR⟩ : ∃ R, R = famOK L a b c d := ⟨_, rfl⟩
 rw [<- hR]
 have hin := fun (n lo hi : Int) (W : World) => rin2_any n lo hi W
 have HIN := hG hin
 clear hin
 unfold famOK at hR
 by_cases h1 : inB 4 L 64 = true
 · by_cases h2 : inB 0 a b = true
   · by_cases h3 : 63 < b
     · have e : R = false := by rw [hR]; simp only [inB, decide_eq_true_eq] at h1 h2; simp; omega
       subst e
       have H1 := hG h1; have H2 := hG h2
       clear hR h1 h2
       go_enter Tryz.func64, Tryz.ntmps64
       go_wp2_with fail
       refine (HIN.out _ _ _ _).mono ?_
       rintro e w1 ⟨rfl, rfl⟩
       rw [H1.out]
       go_wp2_with fail
       refine (HIN.out _ _ _ _).mono ?_
       rintro e w1 ⟨rfl, rfl⟩
       rw [H2.out]
       go_wp2_with fail
       go_ret
       exact ⟨rfl, HAL.out⟩
     · by_cases h4 : inB 0 c d = true
       · by_cases h5 : 63 < d
         · have e : R = false := by rw [hR]; simp only [inB, decide_eq_true_eq] at h1 h2 h4; simp; omega
           subst e
           have H1 := hG h1; have H2 := hG h2; have H4 := hG h4
           clear hR h1 h2 h4
           go_enter Tryz.func64, Tryz.ntmps64
           go_wp2_with fail
           refine (HIN.out _ _ _ _).mono ?_
           rintro e w1 ⟨rfl, rfl⟩
           rw [H1.out]
           go_wp2_with fail
           refine (HIN.out _ _ _ _).mono ?_
           rintro e w1 ⟨rfl, rfl⟩
           rw [H2.out]
           go_wp2_with fail
           refine (HIN.out _ _ _ _).mono ?_
           rintro e w1 ⟨rfl, rfl⟩
           rw [H4.out]
           go_wp2_with fail
           go_ret
           exact ⟨rfl, HAL.out⟩
         · have hb : 0 <= a /\ a <= b /\ b < 64 /\ 0 <= c /\ c <= d /\ d < 64 := by simp only [inB, decide_eq_true_eq] at h2 h4; omega
           have e : R = decide ((b - a + 1) * (d - c + 1) <= 400) := by rw [hR, h1, decide_eq_true hb]; rfl
           obtain ⟨b1, b2, b3, b4, b5, b6⟩ := hb
           have m1 : 0 <= (b - a + 1) * (d - c + 1) := Int.mul_nonneg (by omega) (by omega)
           have m2 : (b - a + 1) * (d - c + 1) <= 64 * (d - c + 1) := Int.mul_le_mul_of_nonneg_right (by omega) (by omega)
           have w1 : IntKind.i64.wrap (b - a) = b - a := IntWalk.i64_in _ (by omega)
           have w2 : IntKind.i64.wrap (b - a + 1) = b - a + 1 := IntWalk.i64_in _ (by omega)
           have w3 : IntKind.i64.wrap (d - c) = d - c := IntWalk.i64_in _ (by omega)
           have w4 : IntKind.i64.wrap (d - c + 1) = d - c + 1 := IntWalk.i64_in _ (by omega)
           have w5 : IntKind.i64.wrap ((b - a + 1) * (d - c + 1)) = (b - a + 1) * (d - c + 1) := IntWalk.i64_in _ (by omega)
           have H1 := hG h1; have H2 := hG h2; have H4 := hG h4; have HE := hG e
           clear hR h1 h2 h4 e m1 m2 b1 b2 b3 b4 b5 b6
           go_enter Tryz.func64, Tryz.ntmps64
           go_wp2_with fail
           refine (HIN.out _ _ _ _).mono ?_
           rintro e w1 ⟨rfl, rfl⟩
           rw [H1.out]
           go_wp2_with fail
           refine (HIN.out _ _ _ _).mono ?_
           rintro e w1 ⟨rfl, rfl⟩
           rw [H2.out]
           go_wp2_with fail
           refine (HIN.out _ _ _ _).mono ?_
           rintro e w1 ⟨rfl, rfl⟩
           rw [H4.out]
           go_wp2_with fail
           go_ret
           exact ⟨ret_bool HE.out.symm, HAL.out⟩
       · have e : R = false := by rw [hR]; simp only [inB, decide_eq_true_eq] at h1 h2 h4; simp; omega
         have h4 : inB 0 c d = false := by simpa using h4
         subst e
         have H1 := hG h1; have H2 := hG h2; have H4 := hG h4
         clear hR h1 h2 h4
         go_enter Tryz.func64, Tryz.ntmps64
         go_wp2_with fail
         refine (HIN.out _ _ _ _).mono ?_
         rintro e w1 ⟨rfl, rfl⟩
         rw [H1.out]
         go_wp2_with fail
         refine (HIN.out _ _ _ _).mono ?_
         rintro e w1 ⟨rfl, rfl⟩
         rw [H2.out]
         go_wp2_with fail
         refine (HIN.out _ _ _ _).mono ?_
         rintro e w1 ⟨rfl, rfl⟩
         rw [H4.out]
         go_wp2_with fail
         go_ret
         exact ⟨rfl, HAL.out⟩
   · have e : R = false := by rw [hR]; simp only [inB, decide_eq_true_eq] at h1 h2; simp; omega
     have h2 : inB 0 a b = false := by simpa using h2
     subst e
     have H1 := hG h1; have H2 := hG h2
     clear hR h1 h2
     go_enter Tryz.func64, Tryz.ntmps64
     go_wp2_with fail
     refine (HIN.out _ _ _ _).mono ?_
     rintro e w1 ⟨rfl, rfl⟩
     rw [H1.out]
     go_wp2_with fail
     refine (HIN.out _ _ _ _).mono ?_
     rintro e w1 ⟨rfl, rfl⟩
     rw [H2.out]
     go_wp2_with fail
     go_ret
     exact ⟨rfl, HAL.out⟩
 · have h1 : inB 4 L 64 = false := by simpa using h1
   have e : R = false := by rw [hR, h1]; rfl
   subst e
   have H1 := hG h1
   clear hR h1
   go_enter Tryz.func64, Tryz.ntmps64
   go_wp2_with fail
   refine (HIN.out _ _ _ _).mono ?_
   rintro e w1 ⟨rfl, rfl⟩
   rw [H1.out]
   go_wp2_with fail
   go_ret
   exact ⟨rfl, HAL.out⟩
theorem rin_any (n lo hi : Int) (w : World) :
 Calls Tryz.prog 47 #[.int .i64 n, .int .i64 lo, .int .i64 hi] w fun e w' => e = .returned (.bool (inB lo n hi)) /\ w = w' := by
 by_cases h1 : lo <= n
 · go_enter Tryz.func47, Tryz.ntmps47
   go_wp2
   go_ret
   exact ⟨ret_bool (by simp [inB]; try omega), rfl⟩
 · go_enter Tryz.func47, Tryz.ntmps47
   go_wp2
   go_ret
   exact ⟨ret_bool (by simp [inB]; try omega), rfl⟩
theorem refCheckChirp_any (L p q : Int) (w : World) :
 Calls Tryz.prog 92 #[.int .i64 L, .agg #[.int .i64 p, .int .i64 q]] w fun e w' => e = .returned (.int .i64 (wavE L p q)) /\ Below w.heap.size w w' := by
 have hE : wavE L p q = if waveOK L p q then 0 else 70 := rfl
 generalize wavE L p q = E at *
 cases h1 : inB 4 L 64
 · have HE : Hid (E = 70) := by rw [hE]; simp only [waveOK, h1]; exact hG rfl
   clear hE
   go_enter Tryz.func92, Tryz.ntmps92
   go_wp2_with (go_at_call 47; refine (rin_any _ _ _ _).mono ?_; rintro e w' ⟨rfl, rfl⟩)
   go_ret
   exact ⟨by rw [HE.out]; rfl, bg.alloc lc _⟩
 cases h2 : inB 0 p 63
 · have HE : Hid (E = 70) := by rw [hE]; simp only [waveOK, h1, h2]; exact hG rfl
   clear hE
   go_enter Tryz.func92, Tryz.ntmps92
   go_wp2_with (go_at_call 47; refine (rin_any _ _ _ _).mono ?_; rintro e w' ⟨rfl, rfl⟩)
   go_ret
   exact ⟨by rw [HE.out]; rfl, bg.alloc lc _⟩
 cases h3 : inB 0 q 63
 · have HE : Hid (E = 70) := by rw [hE]; simp only [waveOK, h1, h2, h3]; exact hG rfl
   clear hE
   go_enter Tryz.func92, Tryz.ntmps92
   go_wp2_with (go_at_call 47; refine (rin_any _ _ _ _).mono ?_; rintro e w' ⟨rfl, rfl⟩)
   go_ret
   exact ⟨by rw [HE.out]; rfl, bg.alloc lc _⟩
 · have HE : Hid (E = 0) := by rw [hE]; simp only [waveOK, h1, h2, h3]; exact hG rfl
   clear hE
   go_enter Tryz.func92, Tryz.ntmps92
   go_wp2_with (go_at_call 47; refine (rin_any _ _ _ _).mono ?_; rintro e w' ⟨rfl, rfl⟩)
   go_ret
   exact ⟨by rw [HE.out]; rfl, bg.alloc lc _⟩
theorem cells_block (w : World) (cs : List Value) (T : TypeId) : Cells (w.alloc (.cells cs.toArray T)) (some ⟨w.heap.size, 0, none⟩) cs :=
 .inr ⟨w.heap.size, 0, rfl, fun j u hu => by
  rw [cell_of_row _ _ _ _ _ _ (heap_alloc_new _ _), Nat.zero_add]; simpa using hu⟩
theorem refQuarter_any (w : World) :
 Calls Tryz.prog 152 #[] w fun e w' => (∃ b, e = .returned (.slice (some ⟨b, 0, none⟩) 17 17) /\ Cells w' (some ⟨b, 0, none⟩) (quart.map (Value.int .i64))) /\ Below w.heap.size w w' := by
 have hc := cells_block w (quart.map (Value.int .i64)) 3
 have HC := hG hc; clear hc
 go_enter Tryz.func152, Tryz.ntmps152
 go_wp2
 go_ret
 exact ⟨⟨_, rfl, HC.out⟩, bg.alloc lc _⟩
set_option maxRecDepth 100000 in
theorem refTable_low (k : Nat) (w : World) (h : k < 32) :
 Calls Tryz.prog 113 #[.int .i64 k] w fun e w' => e = .returned (.int .i64 (half0 k)) /\ Below w.heap.size w w' := by
 by_cases h2 : k <= 16
 · obtain ⟨x, hx⟩ := get_of_lt (show k < quart.length by simp [quart]; omega)
   have hh : half0 k = x := by simp only [half0, Int.toNat_natCast]; rw [if_pos (by omega), List.getD_eq_getElem?_getD, hx]; rfl
   have HX := hG hx; have HH := hG hh
   clear hx hh
   go_enter Tryz.func113, Tryz.ntmps113
   go_wp2_with (go_at_call 152; refine (refQuarter_any _).mono ?_; rintro e w1 ⟨⟨b, rfl, hc⟩, hb⟩; have hcx := hc.int HX.out; rw [Nat.zero_add] at hcx; have HC := hG hc; clear hc)
   go_ret
   exact ⟨by rw [HH.out]; rfl, hb⟩
 · obtain ⟨x, hx⟩ := get_of_lt (show 32 - k < quart.length by simp [quart]; omega)
   have hh : half0 k = x := by simp only [half0]; rw [if_neg (by omega), show (32 - (k : Int)).toNat = 32 - k by omega, List.getD_eq_getElem?_getD, hx]; rfl
   have e1 : (32 - (k : Int)).toNat = 32 - k := by omega
   have HX := hG hx; have HH := hG hh
   clear hx hh
   go_enter Tryz.func113, Tryz.ntmps113
   go_wp2_with (go_at_call 152; refine (refQuarter_any _).mono ?_; rintro e w1 ⟨⟨b, rfl, hc⟩, hb⟩; have hcx := hc.int HX.out; rw [Nat.zero_add] at hcx; have HC := hG hc; clear hc)
   go_ret
   exact ⟨by rw [HH.out]; rfl, hb⟩
set_option maxRecDepth 100000 in
theorem refTable_any (k : Nat) (w : World) (h : k < 64) :
 Calls Tryz.prog 113 #[.int .i64 k] w fun e w' => e = .returned (.int .i64 (tab k)) /\ Below w.heap.size w w' := by
 by_cases h1 : k < 32
 · have e : tab k = half0 k := by simp only [tab]; rw [show (k : Int) % 64 = k by omega, if_pos (by omega)]
   rw [e]
   exact refTable_low k w h1
 · have e : tab k = -half0 ((k - 32 : Nat) : Int) := by simp only [tab]; rw [show (k : Int) % 64 = k by omega, if_neg (by omega), show (k : Int) - 32 = ((k - 32 : Nat) : Int) by omega]
   have hlow := fun w => refTable_low (k - 32) w (by omega)
   rw [<- show (k : Int) - 32 = ((k - 32 : Nat) : Int) by omega] at hlow e
   have hb := half0_pos ((k : Int) - 32)
   generalize half0 ((k : Int) - 32) = y at *
   have HL := hG hlow; have HE := hG e
   clear hlow e
   go_enter Tryz.func113, Tryz.ntmps113
   go_wp2_with (go_at_call 113; refine (HL.out _).mono ?_; rintro e w1 ⟨rfl, hb1⟩)
   go_ret
   exact ⟨by rw [HE.out]; rfl, hb1⟩
theorem tab_mod (x : Nat) : tab ((x % 64 : Nat) : Int) = tab x := by
 unfold tab
 rw [show ((x % 64 : Nat) : Int) % 64 = (x : Int) % 64 by omega]
theorem wav_take {L p q : Int} {k : Nat} (h : k < L.toNat) (hL : L <= 64) : ((wav L p q).take (k + 1)) = (wav L p q).take k ++ [tab (p.toNat * k + q.toNat * k * k : Nat)] := by
 have hk : (wav L p q)[k]? = some (tab (p.toNat * k + q.toNat * k * k : Nat)) := by
  unfold wav
  rw [smp_at _ _ _ _ (by omega), if_pos h]
 exact take_get hk
set_option maxRecDepth 100000 in
set_option maxHeartbeats 2000000 in
theorem refWaveL_any (L p q : Int) (w : World) (h : waveOK L p q = true) :
 Calls Tryz.prog 59 #[.int .i64 L, .agg #[.int .i64 p, .int .i64 q]] w fun e w' => (∃ b c, e = .returned (.slice b L.toNat c) /\ Cells w' b (((wav L p q).take L.toNat).map (Value.int .i64))) /\ Below w.heap.size w w' := by
 have hL := waveOK_true h
 obtain ⟨M, hM⟩ : ∃ M : Nat, L = (M : Int) := ⟨L.toNat, by omega⟩
 obtain ⟨P, hP⟩ : ∃ P : Nat, p = (P : Int) := ⟨p.toNat, by omega⟩
 obtain ⟨Q, hQ⟩ : ∃ Q : Nat, q = (Q : Int) := ⟨q.toNat, by omega⟩
 have hMt : L.toNat = M := by omega
 have hw : ∀ k, k < M -> (wav L p q).take (k + 1) = (wav L p q).take k ++ [tab (P * k + Q * k * k : Nat)] := by
  intro k hk
  have := wav_take (p := p) (q := q) (show k < L.toNat by omega) (by omega)
  rwa [show p.toNat = P by omega, show q.toNat = Q by omega] at this
 rw [hMt]
 generalize wav L p q = xs at *
 have b0 : P <= 63 /\ Q <= 63 /\ M <= 64 /\ 4 <= M := by omega
 subst hM; subst hP; subst hQ
 clear h hL hMt
 obtain ⟨b1, b2, b3, b4⟩ := b0
 obtain ⟨i0, hi, hz0, hz1, hz2⟩ := info_parts Tryz.infoInt
 have HW := hG hw; clear hw
 go_enter Tryz.func59, Tryz.ntmps59
 go_wp2
 go_loopw [5, 6] (fun v i wr => ∃ k : Nat, k <= M /\ i = .int .i64 (k : Int) /\ wr.ownsRow (w.heap.size + 1) 3 1 v k ((xs.take k).map (Value.int .i64)) /\ Below (w.heap.size + 1) (w.alloc (.cells #[.int .i64 (P : Int), .int .i64 (Q : Int)] 54)) wr) (fun _ i _ => M - (intOf i).toNat)
 case atStart => exact ⟨0, Nat.zero_le _, rfl, World.ownsRow_nil _ _ _ _, Below.refl _ _⟩
 case round =>
  obtain ⟨k, hk, rfl, hown, hb⟩ := hrel
  have hc0 : wr.cell? ⟨w.heap.size, 0, none⟩ = some (.int .i64 (P : Int)) := box_keep hb (by simp) 0
  have hc1 : wr.cell? ⟨w.heap.size, 1, none⟩ = some (.int .i64 (Q : Int)) := box_keep hb (by simp) 1
  have hsz : w.heap.size + 1 <= wr.heap.size := by have := hb.size; simpa using this
  have hbw : Below w.heap.size w wr := (bg.alloc lc _).trans (hb.mono (by omega))
  by_cases hlt : k < M
  · have m1 : P * k <= 64 * 64 := Nat.mul_le_mul (by omega) (by omega)
    have m2 : Q * k <= 64 * 64 := Nat.mul_le_mul (by omega) (by omega)
    have m3 : Q * k * k <= 64 * 64 * 64 := Nat.mul_le_mul m2 (by omega)
    have c1 : 0 <= (P : Int) * k /\ (P : Int) * k <= 4096 := by rw [<- Int.natCast_mul]; omega
    have c2 : 0 <= (Q : Int) * k /\ (Q : Int) * k <= 4096 := by rw [<- Int.natCast_mul]; omega
    have c3 : 0 <= (Q : Int) * k * k /\ (Q : Int) * k * k <= 262144 := by rw [<- Int.natCast_mul, <- Int.natCast_mul]; omega
    have q1 : IntKind.i64.wrap ((P : Int) * k) = (P : Int) * k := IntWalk.i64_in _ (by omega)
    have q2 : IntKind.i64.wrap ((Q : Int) * k) = (Q : Int) * k := IntWalk.i64_in _ (by omega)
    have q3 : IntKind.i64.wrap ((Q : Int) * k * k) = (Q : Int) * k * k := IntWalk.i64_in _ (by omega)
    have q4 : IntKind.i64.wrap ((P : Int) * k + (Q : Int) * k * k) = (P : Int) * k + (Q : Int) * k * k := IntWalk.i64_in _ (by omega)
    obtain ⟨t, ht⟩ : ∃ t : Nat, t = (P * k + Q * k * k) % 64 := ⟨_, rfl⟩
    have q5 : ((P : Int) * k + (Q : Int) * k * k) % 64 = (t : Int) := by rw [ht]; push_cast; rfl
    have q6 : Int.tmod ((P : Int) * k + (Q : Int) * k * k) 64 = (t : Int) := by rw [Int.tmod_eq_emod_of_nonneg (by omega)]; exact q5
    have hy : tab (P * k + Q * k * k : Nat) = tab t := by rw [ht, tab_mod]
    have htb := fun w => refTable_any t w (by omega)
    have e1 : (xs.take (k + 1)).map (Value.int .i64) = (xs.take k).map (Value.int .i64) ++ [.int .i64 (tab t)] := by rw [HW.out k hlt, List.map_append, hy]; rfl
    have HT := hG htb; have E1 := hG e1
    have HOB : Hid (∀ j, u5.ownBlock = some j -> w.heap.size + 1 <= j) := fun j e => (hown.lt j e).1
    clear htb e1 hy ht m1 m2 m3
    generalize tab t = y at *
    go_wp2_with (first
     | (go_at_call 113; refine (HT.out _).mono ?_; rintro e w1 ⟨rfl, hb1⟩)
     | (at_builtin; refine wpList_append_own _ rfl _ _ 43 rfl (w.heap.size + 1) 3 i0 (.int .i64 0) 1 8 Tryz.underlying43 hi hz0 hz1 hz2 rfl (by decide) _ _ _ rfl ((own_belowK hown hb1 lc).alloc _) ⟨w1.heap.size, 0, none⟩ 1 1 [.int .i64 y] rfl rfl (news1 _ _ _) (by simp [Value.oneCell']) (by unfold maxLen; omega) (by omega) (by have := hb1.size; simp; omega) ?_; intro v1 wz hown1 hgrow _))
    have hfin := hown1
    rw [<- E1.out] at hfin
    have hs1 := hb1.size
    have hbz := ((hb.trans (hb1.mono hsz)).alloc (by omega) (.cells #[.int .i64 y] 3)).grown hgrow (by simp; omega) HOB.out
    clear hown1 hgrow hown
    have HFIN := hG hfin; clear hfin
    go_roundw
    case rel => exact ⟨k + 1, by omega, by go_num, HFIN.out, hbz⟩
    case measure => simp [intOf]; omega
  · obtain rfl : k = M := by omega
    obtain ⟨g, c, rfl, hcs⟩ := own_cells hown
    have HCS := hG hcs; clear hcs hown
    go_wp2
    go_ret
    exact ⟨⟨g, c, rfl, HCS.out⟩, hbw⟩
set_option maxRecDepth 100000 in
set_option maxHeartbeats 2000000 in
theorem refNorm_any (xs : List Int) (L : Nat) (ao : Option Addr) (cap : Nat) (w : World) (hx : xs.length = 64) (hL : L <= 64) (h1 : ∀ x ∈ xs, -127 <= x /\ x <= 127) (hc : Cells w ao ((xs.take L).map (Value.int .i64))) :
 Calls Tryz.prog 108 #[.slice ao L cap] w fun e w' => e = .returned (.int .i64 (sqTo xs 0 L)) /\ Below w.heap.size w w' := by
 have hp : Calls Tryz.prog 142 #[.slice ao L cap, .slice ao L cap] w fun e w' => e = .returned (.int .i64 (sqTo xs 0 L)) /\ Below w.heap.size w w' := by
  have HC := hG hc; have H1 := hG h1
  clear hc h1
  go_enter Tryz.func142, Tryz.ntmps142
  go_wp2
  go_loopw [5, 6] (fun s i wr => ∃ k : Nat, k <= L /\ i = .int .i64 (k : Int) /\ s = .int .i64 (sqTo xs 0 k) /\ Below w.heap.size w wr) (fun _ i _ => L - (intOf i).toNat)
  case atStart => exact ⟨0, Nat.zero_le _, rfl, rfl, Below.refl _ _⟩
  case round =>
   obtain ⟨k, hk, rfl, rfl, hb⟩ := hrel
   by_cases hlt : k < L
   · obtain ⟨x, hxx⟩ := get_of_lt (show k < xs.length by omega)
     have hxt : (xs.take L)[k]? = some x := by rw [List.getElem?_take, if_pos hlt]; exact hxx
     obtain ⟨b, off, rfl⟩ := HC.out.addr (by intro h; rw [List.map_eq_nil_iff] at h; rw [h] at hxt; simp at hxt)
     have hcx := cell_keep (HC.out.int hxt) hb lc
     have m1 := H1.out x (List.mem_of_getElem? hxx)
     have pd := ov_prod m1.1 m1.2 m1.1 m1.2
     have bs := sqTo_bd H1.out 0 k
     have e1 : sqTo xs 0 (k + 1) = sqTo xs 0 k + x * x := by simp [sqTo, hxx]
     have E1 := hG e1; clear e1 hxx hxt
     have q1 : IntKind.i64.wrap (x * x) = x * x := IntWalk.i64_in _ (by omega)
     have q2 : IntKind.i64.wrap (sqTo xs 0 k + x * x) = sqTo xs 0 k + x * x := IntWalk.i64_in _ (by omega)
     have i1 : (k : Int) < L := by omega
     have i2 : (0 : Int) <= k := by omega
     go_wp2
     go_quiet (fail)
     clear q1 q2
     go_wp2
     go_roundw
     case rel => exact ⟨k + 1, by omega, by go_num, by rw [E1.out], bel_drewN hb _⟩
     case measure => simp [intOf]; omega
   · obtain rfl : k = L := by omega
     go_wp2
     go_ret
     exact ⟨rfl, hb⟩
 have HP := hG hp; clear hp hc h1
 go_enter Tryz.func108, Tryz.ntmps108
 go_wp2_with (go_at_call 142; refine HP.out.mono ?_; rintro e w1 ⟨rfl, hb1⟩)
 go_ret
 exact ⟨rfl, hb1⟩
theorem ovl_sqTo (xs : List Int) (L : Nat) : ovl xs xs L 0 = sqTo xs 0 L := by
 rw [ovl_self, Int.toNat_natCast]
 induction L with
 | zero => rfl
 | succ n ih =>
   simp only [ovTo, sqTo, ih, Int.add_zero, Int.zero_add, Int.toNat_natCast, Nat.zero_add]
theorem silent_zero {xs : List Int} (h : silentB xs = true) (L : Nat) : ovl xs xs L 0 = 0 := by
 have he : xs = smp 0 0 0 := by simpa [silentB] using h
 subst he
 have hz : ∀ i, (smp 0 0 0).getD i 0 = 0 := by
  intro i
  rw [List.getD_eq_getElem?_getD]
  by_cases hi : i < 64
  · rw [smp_at 0 0 0 i hi, if_neg (by omega)]; rfl
  · rw [List.getElem?_eq_none (by rw [smp_length]; omega)]; rfl
 rw [ovl_sqTo]
 induction L with
 | zero => rfl
 | succ n ih => simp only [sqTo]; rw [ih, hz]; rfl
theorem norm_silent {L p q : Int} (hL : 0 <= L) : (sqTo (wav L p q) 0 L.toNat == 0) = silentB (wav L p q) := by
 cases hs : silentB (wav L p q) with
 | true =>
   have h := silent_zero hs L.toNat
   rw [ovl_sqTo] at h
   rw [h]; rfl
 | false =>
   have h := norm_pos hs
   have h2 := ovl_sqTo (wav L p q) L.toNat
   rw [show ((L.toNat : Nat) : Int) = L by omega] at h2
   rw [h2] at h
   rw [Bool.eq_false_iff]
   intro h3
   rw [beq_iff_eq] at h3
   omega
theorem nodup_snoc {cs : List (Int × Int)} {k : Nat} {c : Int × Int} (h : cs[k]? = some c) (hn : (cs.take k).Nodup) (hm : c ∉ cs.take k) : (cs.take (k + 1)).Nodup := by
 rw [take_get h, List.nodup_append]
 refine ⟨hn, by simp, fun a ha b hb => ?_⟩
 rw [List.mem_singleton] at hb
 subst hb
 intro e
 subst e
 exact hm ha
set_option maxRecDepth 100000 in
set_option maxHeartbeats 4000000 in
theorem refBank_any (L : Int) (cs : List (Int × Int)) (ao : Option Addr) (cap : Nat) (w : World) (hc : Cells w ao (prs cs)) (hl : cs.length <= 9223372036854775807) :
 Calls Tryz.prog 66 #[.int .i64 L, .slice ao cs.length cap] w fun e w' => e = .returned (.bool (bankOK L cs)) /\ Below w.heap.size w w' := by
 have HC := hG hc; clear hc
 go_enter Tryz.func66, Tryz.ntmps66
 go_wp2_with fail
 go_loopw [5] (fun iv wr => ∃ k : Nat, k <= cs.length /\ iv = .int .i64 k /\ (cs.take k).all (chOK L) = true /\ (cs.take k).Nodup /\ Below w.heap.size w wr) (fun iv _ => cs.length - (intOf iv).toNat)
 case atStart => exact ⟨0, Nat.zero_le _, rfl, by simp, by simp, Below.refl _ _⟩
 case round =>
  obtain ⟨k, hk, rfl, hall, hnd, hbe⟩ := hrel
  have HALL := hG hall; have HND := hG hnd
  clear hall hnd
  by_cases hlt : k < cs.length
  · obtain ⟨⟨p, q⟩, hx⟩ := get_of_lt hlt
    obtain ⟨b, off, rfl⟩ := HC.out.addr (prs_ne (by omega))
    have c1 := cell_keep (HC.out.at (prs_fst hx)) hbe lc
    have c2 := cell_keep (HC.out.at (prs_snd hx)) hbe lc
    rw [<- Nat.add_assoc] at c2
    simp only at c1 c2
    have hck := fun W => refCheckChirp_any L p q W
    have i1 : (k : Int) < (cs.length : Int) := by omega
    have i2 : (0 : Int) <= (k : Int) := by omega
    have HX := hG hx
    clear hx
    cases hok : waveOK L p q with
    | false =>
      have hE : wavE L p q = 70 := by unfold wavE; rw [hok]; rfl
      have hbo : bankOK L cs = false := bankOK_not HX.out (.inl (by rw [chOK, hok]; rfl))
      rw [hE] at hck
      have HCK := hG hck; have HBO := hG hbo
      clear hck hbo hok hE
      go_wp2_with fail
      refine (HCK.out _).mono ?_
      rintro e w1 ⟨rfl, hb1⟩
      go_wp2_with fail
      go_ret
      exact ⟨ret_bool HBO.out.symm, hbe.trans (hb1.mono hbe.size)⟩
    | true =>
      have hE : wavE L p q = 0 := by unfold wavE; rw [hok]; rfl
      rw [hE] at hck
      have hL := waveOK_true hok
      have hwv := fun W => refWaveL_any L p q W hok
      have hnm := fun (ao : Option Addr) (c : Nat) (W : World) h => refNorm_any (wav L p q) L.toNat ao c W (wav_length _ _ _) (by omega) (wav_bd _ _ _) h
      have hns : (sqTo (wav L p q) 0 L.toNat == 0) = silentB (wav L p q) := norm_silent (by omega)
      have HCK := hG hck; have HWV := hG hwv; have HNM := hG hnm
      clear hck hwv hnm hE
      cases hsl : silentB (wav L p q) with
      | true =>
        rw [hsl] at hns
        have hbo : bankOK L cs = false := bankOK_not HX.out (.inl (by rw [chOK, hsl]; simp))
        have HBO := hG hbo
        generalize sqTo (wav L p q) 0 L.toNat = N at *
        clear hbo hsl hok
        go_wp2_with fail
        refine (HCK.out _).mono ?_
        rintro e w1 ⟨rfl, hb1⟩
        have hbe1 := hbe.trans (hb1.mono hbe.size)
        clear c1 c2
        have c1 := cell_keep (HC.out.at (prs_fst HX.out)) hbe1 lc
        have c2 := cell_keep (HC.out.at (prs_snd HX.out)) hbe1 lc
        rw [<- Nat.add_assoc] at c2
        simp only at c1 c2
        go_wp2_with fail
        refine (HWV.out _).mono ?_
        rintro e w2 ⟨⟨bw, cw, rfl, hcw⟩, hb2⟩
        have HCW := hG hcw
        clear hcw
        go_wp2_with fail
        refine (HNM.out _ _ _ HCW.out).mono ?_
        rintro e w3 ⟨rfl, hb3⟩
        have hbw := hbe1.trans ((hb2.trans (hb3.mono hb2.size)).mono hbe1.size)
        go_wp2_with fail
        go_ret
        exact ⟨ret_bool HBO.out.symm, hbw⟩
      | false =>
        rw [hsl] at hns
        have hch : (cs.take (k + 1)).all (chOK L) = true := by rw [take_get HX.out, List.all_append, HALL.out]; simp [chOK, hok, hsl]
        have HCH := hG hch
        generalize sqTo (wav L p q) 0 L.toNat = N at *
        clear hch hsl hok
        go_wp2_with fail
        refine (HCK.out _).mono ?_
        rintro e w1 ⟨rfl, hb1⟩
        have hbe1 := hbe.trans (hb1.mono hbe.size)
        clear c1 c2
        have c1 := cell_keep (HC.out.at (prs_fst HX.out)) hbe1 lc
        have c2 := cell_keep (HC.out.at (prs_snd HX.out)) hbe1 lc
        rw [<- Nat.add_assoc] at c2
        simp only at c1 c2
        go_wp2_with fail
        refine (HWV.out _).mono ?_
        rintro e w2 ⟨⟨bw, cw, rfl, hcw⟩, hb2⟩
        have HCW := hG hcw
        clear hcw
        go_wp2_with fail
        refine (HNM.out _ _ _ HCW.out).mono ?_
        rintro e w3 ⟨rfl, hb3⟩
        have hbw := hbe1.trans ((hb2.trans (hb3.mono hb2.size)).mono hbe1.size)
        clear c1 c2
        have d1 := cell_keep (HC.out.at (prs_fst HX.out)) hbw lc
        have d2 := cell_keep (HC.out.at (prs_snd HX.out)) hbw lc
        rw [<- Nat.add_assoc] at d2
        simp only at d1 d2
        have HBW := hG hbw
        clear hb1 hb2 hb3 hbe1 hbw
        go_wp2_with fail
        clear d1 d2 hns
        go_loopw [6] (fun jv wr => ∃ j : Nat, j <= k /\ jv = .int .i64 j /\ (p, q) ∉ cs.take j /\ Below w.heap.size w wr) (fun jv _ => k - (intOf jv).toNat)
        case atStart => exact ⟨0, Nat.zero_le _, rfl, by simp, HBW.out⟩
        case round =>
         obtain ⟨j, hj, rfl, hm, hbj⟩ := hrel
         have HM := hG hm
         clear hm
         by_cases hjk : j < k
         · obtain ⟨⟨r, s⟩, hy⟩ := get_of_lt (show j < cs.length by omega)
           have e1 := cell_keep (HC.out.at (prs_fst hy)) hbj lc
           have e2 := cell_keep (HC.out.at (prs_snd hy)) hbj lc
           have d1 := cell_keep (HC.out.at (prs_fst HX.out)) hbj lc
           have d2 := cell_keep (HC.out.at (prs_snd HX.out)) hbj lc
           rw [<- Nat.add_assoc] at e2 d2
           simp only at e1 e2 d1 d2
           have HY := hG hy
           clear hy
           have j1 : (j : Int) < (k : Int) := by omega
           have j2 : (0 : Int) <= (j : Int) := by omega
           have j3 : (j : Int) < (cs.length : Int) := by omega
           by_cases heq : r = p /\ s = q
           · obtain ⟨rfl, rfl⟩ := heq
             have hbo : bankOK L cs = false := bankOK_not HX.out (.inr (by
              rw [List.contains_iff_mem]
              exact List.mem_of_getElem? (i := j) (by rw [List.getElem?_take, if_pos hjk]; exact HY.out)))
             have HBO := hG hbo
             clear hbo
             go_wp2
             go_quiet (fail)
             go_wp2
             go_ret
             exact ⟨ret_bool HBO.out.symm, bel_drewN hbj _⟩
           · have hm2 : (p, q) ∉ cs.take (j + 1) := by
              rw [take_get HY.out, List.mem_append, List.mem_singleton]
              rintro (h | h)
              · exact HM.out h
              · cases h; exact heq ⟨rfl, rfl⟩
             have HM2 := hG hm2
             clear hm2
             by_cases hr : r = p
             · subst hr
               have hb1 : (s == q) = false := by simpa using heq
               clear heq
               go_wp2
               go_quiet (fail)
               go_wp2
               go_roundw
               case rel => exact ⟨j + 1, by omega, by go_num, HM2.out, bel_drewN hbj _⟩
               case measure => simp [intOf]; omega
             · have hb1 : (r == p) = false := by simpa using hr
               clear heq hr
               go_wp2
               go_quiet (fail)
               go_wp2
               go_roundw
               case rel => exact ⟨j + 1, by omega, by go_num, HM2.out, bel_drewN hbj _⟩
               case measure => simp [intOf]; omega
         · obtain rfl : j = k := by omega
           have hnd2 := nodup_snoc HX.out HND.out HM.out
           have HN2 := hG hnd2
           have j1 : ¬ ((j : Int) < (j : Int)) := by omega
           clear hnd2
           go_wp2
           go_roundw
           case rel => exact ⟨j + 1, by omega, by go_num, HCH.out, HN2.out, hbj⟩
           case measure => simp [intOf]; omega
  · obtain rfl : k = cs.length := by omega
    have hb : bankOK L cs = decide (cs.length <= 64) := by
     have h1 := HALL.out
     have h2 := HND.out
     rw [List.take_length] at h1 h2
     simp [bankOK, h1, h2]
    have HB := hG hb
    have i1 : ¬ ((cs.length : Int) < (cs.length : Int)) := by omega
    clear hb
    have he : decide ((cs.length : Int) <= 64) = decide (cs.length <= 64) := by rw [Bool.eq_iff_iff, decide_eq_true_iff, decide_eq_true_iff]; omega
    have HE := hG he
    clear he
    go_wp2
    go_ret
    exact ⟨ret_bool (by first | exact HE.out.trans HB.out.symm | (rw [HB.out]; simp; omega)), hbe⟩
def BegRes (L a b c d : Int) (cs : List (Int × Int)) (s : ByteArray) (w : World) (e : Ending) (w' : World) : Prop :=
 (∃ n m : Nat, e = .returned (.tuple #[.agg #[.int .i64 n, .int .i64 m], .int .i64 (covE L a b c d cs s)]) /\ (covE L a b c d cs s = 0 -> barS s = some (n, m))) /\ Below w.heap.size w w'
set_option maxRecDepth 100000 in
set_option maxHeartbeats 4000000 in
theorem refBegin_any (L a b c d : Int) (cs : List (Int × Int)) (ao : Option Addr) (cap : Nat) (s : ByteArray) (w : World) (hs : s.size <= 1048576) (hc : Cells w ao (prs cs)) (hl : cs.length <= 9223372036854775807) :
 Calls Tryz.prog 52 #[.agg #[.int .i64 L, .int .i64 a, .int .i64 b, .int .i64 c, .int .i64 d], .slice ao cs.length cap, .string s] w (BegRes L a b c d cs s w) := by
 obtain ⟨W0, hW0⟩ : ∃ W0, (w.alloc (.cells #[.int .i64 L, .int .i64 a, .int .i64 b, .int .i64 c, .int .i64 d] 23)).alloc (.cells #[.int .i64 0, .int .i64 0] 88) = W0 := ⟨_, rfl⟩
 have hb0 : Below w.heap.size w W0 := by rw [<- hW0]; exact ((Below.refl _ w).alloc lc _).alloc (by simp) _
 have q0 : Blk W0 w.heap.size 23 #[.int .i64 L, .int .i64 a, .int .i64 b, .int .i64 c, .int .i64 d] := by rw [<- hW0]; exact heap_alloc2_old w _ _
 have q1 : Blk W0 (w.heap.size + 1) 88 #[.int .i64 0, .int .i64 0] := by rw [<- hW0]; exact heap_alloc2_new w _ _
 have hsz0 : W0.heap.size = w.heap.size + 2 := by rw [<- hW0]; simp
 have hkr : ∀ W, Below W0.heap.size W0 W -> ((W.cell? ⟨w.heap.size, 0, none⟩ = some (.int .i64 L) /\ W.cell? ⟨w.heap.size, 1, none⟩ = some (.int .i64 a) /\ W.cell? ⟨w.heap.size, 2, none⟩ = some (.int .i64 b) /\ W.cell? ⟨w.heap.size, 3, none⟩ = some (.int .i64 c) /\ W.cell? ⟨w.heap.size, 4, none⟩ = some (.int .i64 d)) /\
  W.cell? ⟨w.heap.size + 1, 0, none⟩ = some (.int .i64 0) /\ W.cell? ⟨w.heap.size + 1, 1, none⟩ = some (.int .i64 0) /\ W.frozen? ⟨w.heap.size + 1, 0, none⟩ = false /\ W.frozen? ⟨w.heap.size + 1, 1, none⟩ = false) /\ Below w.heap.size w W /\ Cells W ao (prs cs) := fun W h => by
  have hq := q0.below h (by omega)
  have hr := q1.below h (by omega)
  have hb := hb0.trans (h.mono hb0.size)
  exact ⟨⟨⟨hq.cell 0, hq.cell 1, hq.cell 2, hq.cell 3, hq.cell 4⟩, hr.cell 0, hr.cell 1, hr.free 0, hr.free 1⟩, hb, hc.below hb lc⟩
 have hfa := fun W => refFamily_any L a b c d W
 have hbk := fun W h => refBank_any L cs ao cap W h hl
 have hbr := fun W => refBar_any s W hs
 have hle : w.heap.size <= w.heap.size + 1 := Nat.le_succ _
 have hE : covE L a b c d cs s = if famOK L a b c d = false then 71 else if bankOK L cs = false then 72 else if barS s = none then 74 else 0 := rfl
 have HW0 := hG hW0; have HKR := hG hkr; have HFA := hG hfa; have HBK := hG hbk; have HBR := hG hbr
 clear hb0 q0 q1 hW0 hkr hfa hbk hbr hc
 obtain ⟨⟨⟨k0, k1, k2, k3, k4⟩, r0, r1, f0, f1⟩, hbw, -⟩ := HKR.out W0 bg
 rw [<- HW0.out] at k0 k1 k2 k3 k4 r0 r1 f0 f1
 cases hfo : famOK L a b c d with
 | false =>
   rw [hfo] at HFA
   have hv : covE L a b c d cs s = 71 := by rw [hE, hfo]; rfl
   have HV := hG hv
   clear hv hE hfo k0 k1 k2 k3 k4 r0 r1 f0 f1
   go_enter Tryz.func52, Tryz.ntmps52
   go_wp2_with fail
   rw [HW0.out]
   refine (HFA.out W0).mono ?_
   rintro e w1 ⟨rfl, hb1⟩
   obtain ⟨⟨-, r0, r1, f0, f1⟩, hbw, -⟩ := HKR.out w1 hb1
   go_wp2_with fail
   refine bodyPost_ret (v := .tuple #[.agg #[.int .i64 0, .int .i64 0], .int .i64 71]) (by simp [results, Tryz.results52, go_sem, r0, r1]) rfl ?_
   exact ⟨⟨0, 0, by rw [HV.out]; rfl, fun h => by rw [HV.out] at h; cases h⟩, (hbw.setCell hle _).setCell hle _⟩
 | true =>
   rw [hfo] at HFA
   cases hbo : bankOK L cs with
   | false =>
     rw [hbo] at HBK
     have hv : covE L a b c d cs s = 72 := by rw [hE, hfo, hbo]; rfl
     have HV := hG hv
     clear hv hE hfo hbo k0 k1 k2 k3 k4 r0 r1 f0 f1
     go_enter Tryz.func52, Tryz.ntmps52
     go_wp2_with fail
     rw [HW0.out]
     refine (HFA.out W0).mono ?_
     rintro e w1 ⟨rfl, hb1⟩
     obtain ⟨⟨⟨k0, k1, k2, k3, k4⟩, -⟩, -, hc1⟩ := HKR.out w1 hb1
     have HC1 := hG hc1
     clear hc1
     go_wp2_with fail
     refine (HBK.out _ HC1.out).mono ?_
     rintro e w2 ⟨rfl, hb2⟩
     have hb2 := hb1.trans (hb2.mono hb1.size)
     obtain ⟨⟨-, r0, r1, f0, f1⟩, hbw, -⟩ := HKR.out w2 hb2
     clear k0 k1 k2 k3 k4
     go_wp2_with fail
     refine bodyPost_ret (v := .tuple #[.agg #[.int .i64 0, .int .i64 0], .int .i64 72]) (by simp [results, Tryz.results52, go_sem, r0, r1]) rfl ?_
     exact ⟨⟨0, 0, by rw [HV.out]; rfl, fun h => by rw [HV.out] at h; cases h⟩, (hbw.setCell hle _).setCell hle _⟩
   | true =>
     rw [hbo] at HBK
     cases hbs : barS s with
     | none =>
       have hv : covE L a b c d cs s = 74 := by rw [hE, hfo, hbo, hbs]; rfl
       have HV := hG hv; have HS := hG hbs
       clear hv hE hfo hbo hbs k0 k1 k2 k3 k4 r0 r1 f0 f1
       go_enter Tryz.func52, Tryz.ntmps52
       go_wp2_with fail
       rw [HW0.out]
       refine (HFA.out W0).mono ?_
       rintro e w1 ⟨rfl, hb1⟩
       obtain ⟨⟨⟨k0, k1, k2, k3, k4⟩, -⟩, -, hc1⟩ := HKR.out w1 hb1
       have HC1 := hG hc1
       clear hc1
       go_wp2_with fail
       refine (HBK.out _ HC1.out).mono ?_
       rintro e w2 ⟨rfl, hb2⟩
       have hb2 := hb1.trans (hb2.mono hb1.size)
       clear k0 k1 k2 k3 k4
       go_wp2_with fail
       refine (HBR.out _).mono ?_
       rintro e w3 ⟨⟨n, m, rfl, -⟩, hb3⟩
       rw [HS.out]
       simp only [Option.isSome_none]
       have hb3 := hb2.trans (hb3.mono hb2.size)
       have hb4 := hb3.alloc hb3.size (.cells #[.int .i64 n, .int .i64 m] 88)
       obtain ⟨⟨-, r0, r1, f0, f1⟩, hbw, -⟩ := HKR.out _ hb4
       go_wp2_with fail
       refine bodyPost_ret (v := .tuple #[.agg #[.int .i64 0, .int .i64 0], .int .i64 74]) (by simp [results, Tryz.results52, go_sem, r0, r1]) rfl ?_
       exact ⟨⟨0, 0, by rw [HV.out]; rfl, fun h => by rw [HV.out] at h; cases h⟩, (hbw.setCell hle _).setCell hle _⟩
     | some x =>
       have hv : covE L a b c d cs s = 0 := by rw [hE, hfo, hbo, hbs]; rfl
       have HV := hG hv; have HS := hG hbs
       clear hv hE hfo hbo hbs k0 k1 k2 k3 k4 r0 r1 f0 f1
       go_enter Tryz.func52, Tryz.ntmps52
       go_wp2_with fail
       rw [HW0.out]
       refine (HFA.out W0).mono ?_
       rintro e w1 ⟨rfl, hb1⟩
       obtain ⟨⟨⟨k0, k1, k2, k3, k4⟩, -⟩, -, hc1⟩ := HKR.out w1 hb1
       have HC1 := hG hc1
       clear hc1
       go_wp2_with fail
       refine (HBK.out _ HC1.out).mono ?_
       rintro e w2 ⟨rfl, hb2⟩
       have hb2 := hb1.trans (hb2.mono hb1.size)
       clear k0 k1 k2 k3 k4
       go_wp2_with fail
       refine (HBR.out _).mono ?_
       rintro e w3 ⟨⟨n, m, rfl, hnm⟩, hb3⟩
       rw [HS.out]
       simp only [Option.isSome_some]
       have hnm := hnm x HS.out
       have hb3 := hb2.trans (hb3.mono hb2.size)
       have hb4 := hb3.alloc hb3.size (.cells #[.int .i64 n, .int .i64 m] 88)
       obtain ⟨⟨-, r0, r1, f0, f1⟩, hbw, -⟩ := HKR.out _ hb4
       go_wp2_with fail
       refine bodyPost_ret (v := .tuple #[.agg #[.int .i64 n, .int .i64 m], .int .i64 0]) (by simp [results, Tryz.results52, go_sem, r0, r1]) rfl ?_
       exact ⟨⟨n, m, by rw [HV.out], fun _ => by rw [HS.out, hnm]⟩, (hbw.setCell hle _).setCell hle _⟩
set_option maxRecDepth 100000 in
set_option maxHeartbeats 4000000 in
theorem refPoints_any (L a b c d : Int) (w : World) (hf : famOK L a b c d = true) :
 Calls Tryz.prog 53 #[.agg #[.int .i64 L, .int .i64 a, .int .i64 b, .int .i64 c, .int .i64 d]] w fun e w' => (∃ b' c', e = .returned (.slice b' (ptsAll L a c (d - c + 1).toNat (b - a + 1).toNat).length c') /\ Cells w' b' (prs (pairsOf (ptsAll L a c (d - c + 1).toNat (b - a + 1).toNat)))) /\ Below w.heap.size w w' := by
 have hfm := fam_true hf
 obtain ⟨i0, hi, hz0, hz1, hz2⟩ := info_parts Tryz.infoChirp
 obtain ⟨m, hm⟩ : ∃ m : Nat, m = (d - c + 1).toNat := ⟨_, rfl⟩
 obtain ⟨k, hk⟩ : ∃ k : Nat, k = (b - a + 1).toNat := ⟨_, rfl⟩
 rw [<- hm, <- hk] at hfm
 rw [<- hm, <- hk]
 have hd : d = c + m - 1 := by omega
 have hbb : b = a + k - 1 := by omega
 obtain ⟨l1, l2, a1, a2, a3, c1, c2, c3, h400⟩ := hfm
 obtain ⟨W0, hW0⟩ : ∃ W0, w.alloc (.cells #[.int .i64 L, .int .i64 a, .int .i64 b, .int .i64 c, .int .i64 d] 23) = W0 := ⟨_, rfl⟩
 have hb0 : Below w.heap.size w W0 := by rw [<- hW0]; exact (Below.refl _ w).alloc lc _
 have hs0 : W0.heap.size = w.heap.size + 1 := by rw [<- hW0]; simp
 have q0 : Blk W0 w.heap.size 23 #[.int .i64 L, .int .i64 a, .int .i64 b, .int .i64 c, .int .i64 d] := by rw [<- hW0]; exact heap_alloc_new w _
 have hkr : ∀ W, Below W0.heap.size W0 W -> (W.cell? ⟨w.heap.size, 0, none⟩ = some (.int .i64 L) /\ W.cell? ⟨w.heap.size, 1, none⟩ = some (.int .i64 a) /\ W.cell? ⟨w.heap.size, 2, none⟩ = some (.int .i64 b) /\ W.cell? ⟨w.heap.size, 3, none⟩ = some (.int .i64 c) /\ W.cell? ⟨w.heap.size, 4, none⟩ = some (.int .i64 d)) /\ Below w.heap.size w W := fun W h => by
  have hq := q0.below h (by omega)
  exact ⟨⟨hq.cell 0, hq.cell 1, hq.cell 2, hq.cell 3, hq.cell 4⟩, hb0.trans (h.mono hb0.size)⟩
 have HKR := hG hkr; have HW0 := hG hW0; have HM := hG hm; have HK := hG hk; have HDD := hG hd; have HBB := hG hbb
 obtain ⟨⟨k0, k1, k2, k3, k4⟩, -⟩ := HKR.out W0 bg
 rw [<- HW0.out] at k0 k1 k2 k3 k4
 clear hkr hb0 q0 hW0 hm hk hd hbb hf
 go_enter Tryz.func53, Tryz.ntmps53
 go_wp2_with fail
 rw [HW0.out]
 clear k0 k1 k2 k3 k4
 go_loopw [3, 4] (fun ov pv wr => ∃ j : Nat, j <= k /\ pv = .int .i64 (a + j) /\ wr.ownsRow W0.heap.size 54 2 ov (ptsAll L a c m j).length (prs (pairsOf (ptsAll L a c m j))) /\ Below W0.heap.size W0 wr) (fun _ pv _ => (b + 1 - intOf pv).toNat)
 case atStart => exact ⟨0, Nat.zero_le _, by simp, World.ownsRow_nil _ _ _ _, Below.refl _ _⟩
 case round =>
  obtain ⟨j, hj, rfl, hown, hbe⟩ := hrel
  obtain ⟨⟨k0, k1, k2, k3, k4⟩, hbw⟩ := HKR.out wr hbe
  have HOWN := hG hown
  clear hown
  by_cases hjk : j < k
  · have i1 : a + (j : Int) <= b := by have := HBB.out; omega
    have hjp : 0 <= a + (j : Int) /\ a + (j : Int) <= 63 := by omega
    generalize hP : a + (j : Int) = P at *
    have hPj : P = a + (j : Int) := hP.symm
    have HPJ := hG hPj
    clear hP hPj
    go_wp2_with fail
    have HKK : Hid (P <= b) := hG i1
    have HWK : Hid (Below W0.heap.size W0 wr) := hG hbe
    clear hbe hbw k0 k1 k2 k3 k4 i1
    go_loopw [3, 5] (fun ov qv wr => ∃ i : Nat, i <= m /\ qv = .int .i64 (c + i) /\ wr.ownsRow W0.heap.size 54 2 ov (ptsTo L a c m j i).length (prs (pairsOf (ptsTo L a c m j i))) /\ Below W0.heap.size W0 wr) (fun _ qv _ => (d + 1 - intOf qv).toNat)
    case atStart => exact ⟨0, Nat.zero_le _, by simp, by rw [ptsTo_zero]; exact HOWN.out, HWK.out⟩
    case round =>
     obtain ⟨i, hi', rfl, hown, hbe⟩ := hrel
     obtain ⟨⟨k0, k1, k2, k3, k4⟩, hbw⟩ := HKR.out wr hbe
     have HOB : Hid (∀ j, u3.ownBlock = some j -> W0.heap.size <= j) := fun j e => (hown.lt j e).1
     have HO := hG hown
     clear hown
     by_cases him : i < m
     · have i1 : c + (i : Int) <= d := by have := HDD.out; omega
       have hqp : 0 <= c + (i : Int) /\ c + (i : Int) <= 63 := by omega
       have hts := ptsTo_succ L a c m j i
       have htl := ptsTo_len L a c m hjk him
       rw [<- HPJ.out] at hts
       generalize hQ : c + (i : Int) = Q at *
       have hok : waveOK L P Q = true := by simp only [waveOK, inB, Bool.and_eq_true, decide_eq_true_eq]; omega
       have hwv := fun W => refWaveL_any L P Q W hok
       have hnm := fun (ao : Option Addr) (c : Nat) (W : World) h => refNorm_any (wav L P Q) L.toNat ao c W (wav_length _ _ _) (by omega) (wav_bd _ _ _) h
       have hnn := norm_nn (wav L P Q) L
       have hns : (sqTo (wav L P Q) 0 L.toNat == 0) = silentB (wav L P Q) := norm_silent (by omega)
       have hov := ovl_sqTo (wav L P Q) L.toNat
       rw [show ((L.toNat : Nat) : Int) = L by omega] at hov
       rw [hov] at hnn
       have HWV := hG hwv; have HNM := hG hnm; have HTS := hG hts
       have HQ : Hid (Q + 1 = c + ((i + 1 : Nat) : Int)) := hG (by rw [<- hQ]; omega)
       obtain ⟨wq, hwq⟩ : ∃ wq, wr.alloc (.cells #[.int .i64 P, .int .i64 Q] 54) = wq := ⟨_, rfl⟩
       have hbq : Below wr.heap.size wr wq := by rw [<- hwq]; exact (Below.refl wr.heap.size wr).alloc lc _
       have hsq : wq.heap.size = wr.heap.size + 1 := by rw [<- hwq]; simp
       have hkq : Blk wq wr.heap.size 54 #[.int .i64 P, .int .i64 Q] := by rw [<- hwq]; exact heap_alloc_new wr _
       have hbeq := hbe.trans (hbq.mono hbe.size)
       obtain ⟨⟨y0, y1, y2, y3, y4⟩, -⟩ := HKR.out wq hbeq
       have z0 : wq.cell? ⟨wr.heap.size, 0, none⟩ = some (.int .i64 P) := hkq.cell 0
       have z1 : wq.cell? ⟨wr.heap.size, 1, none⟩ = some (.int .i64 Q) := hkq.cell 1
       have HBQ := hG hbq; have HKQ := hG hkq; have HBE := hG hbe
       clear hwv hnm hov hts hQ hok hbq hkq hbeq hbw k0 k1 k3
       cases hsl : silentB (wav L P Q) with
       | true =>
         rw [hsl] at hns
         have hN : sqTo (wav L P Q) 0 L.toNat = 0 := by simpa using hns
         have hpt : ptsAt L P Q = [] := ptsAt_no (fun h => by rw [h.2] at hsl; cases hsl)
         rw [hpt, List.append_nil] at HTS
         rw [hN] at HNM
         clear hns hN hpt hnn hsl
         go_wp2_with fail
         refine (HWV.out _).mono ?_
         rintro e w2 ⟨⟨bw, cw, rfl, hcw⟩, hb2⟩
         have HCW := hG hcw
         clear hcw hwq y0 y1 y2 y3 y4 z0 z1
         go_wp2_with fail
         refine (HNM.out _ _ _ HCW.out).mono ?_
         rintro e w3 ⟨rfl, hb3⟩
         have hbq3 := hb2.trans (hb3.mono hb2.size)
         have hbr := HBQ.out.trans (hbq3.mono HBQ.out.size)
         have hbe3 := HBE.out.trans (hbr.mono HBE.out.size)
         have hown3 := own_belowK HO.out hbr lc
         rw [<- HTS.out] at hown3
         go_wp2_with fail
         go_roundw
         case rel => exact ⟨i + 1, by omega, by first | rfl | (rw [<- HQ.out]) | (rw [HQ.out]), hown3, hbe3⟩
         case measure => simp [intOf]; omega
       | false =>
         rw [hsl] at hns
         have hN : (0 : Int) < sqTo (wav L P Q) 0 L.toNat := by
          have : sqTo (wav L P Q) 0 L.toNat ≠ 0 := by simpa using hns
          omega
         have hpt : ptsAt L P Q = [⟨(P, Q), ⟨by simp only [waveOK, inB, Bool.and_eq_true, decide_eq_true_eq]; omega, hsl⟩⟩] := ptsAt_yes _
         rw [hpt] at HTS
         clear hns hpt hnn
         generalize sqTo (wav L P Q) 0 L.toNat = NN at *
         go_wp2_with fail
         refine (HWV.out _).mono ?_
         rintro e w2 ⟨⟨bw, cw, rfl, hcw⟩, hb2⟩
         have HCW := hG hcw
         clear hcw hwq y0 y1 y2 y3 y4 z0 z1
         go_wp2_with fail
         refine (HNM.out _ _ _ HCW.out).mono ?_
         rintro e w3 ⟨rfl, hb3⟩
         have hbq3 := hb2.trans (hb3.mono hb2.size)
         have hbr := HBQ.out.trans (hbq3.mono HBQ.out.size)
         have hbe3 := HBE.out.trans (hbr.mono HBE.out.size)
         have hown3 := own_belowK HO.out hbr lc
         have hk3 := HKQ.out.below hbq3 (by omega)
         have z0 : w3.cell? ⟨wr.heap.size, 0, none⟩ = some (.int .i64 P) := hk3.cell 0
         have z1 : w3.cell? ⟨wr.heap.size, 1, none⟩ = some (.int .i64 Q) := hk3.cell 1
         have hlen : (ptsTo L a c m j i).length <= 400 := by omega
         have hz3 := hbe3.size
         clear hk3
         go_wp2_with (at_builtin; refine wpList_append_own _ rfl _ _ 24 rfl W0.heap.size 54 i0 (.agg #[.int .i64 0, .int .i64 0]) 2 16 Tryz.underlying24 hi hz0 hz1 hz2 rfl (by decide) _ _ _ rfl (hown3.alloc _) ⟨w3.heap.size, 0, none⟩ 1 1 [.int .i64 P, .int .i64 Q] rfl rfl (cells_two_new _ _ _ _) (by simp [Value.oneCell']) (by unfold maxLen; omega) (by omega) (by simp; omega) ?_; intro v1 wz hown1 hgrow _)
         have hfin := hown1
         rw [show prs (pairsOf (ptsTo L a c m j i)) ++ [.int .i64 P, .int .i64 Q] = prs (pairsOf (ptsTo L a c m j (i + 1))) from by rw [HTS.out, prs_pairs_snoc], show (ptsTo L a c m j i).length + 1 = (ptsTo L a c m j (i + 1)).length from by rw [HTS.out, List.length_append]; rfl] at hfin
         have hbz := (hbe3.alloc hbe3.size (.cells #[.int .i64 P, .int .i64 Q] 54)).grown hgrow (by simp; have := hbe3.size; omega) HOB.out
         clear hown1 hgrow hown3 z0 z1
         have HFIN := hG hfin; clear hfin
         go_wp2_with fail
         go_roundw
         case rel => exact ⟨i + 1, by omega, by first | rfl | (rw [<- HQ.out]) | (rw [HQ.out]), HFIN.out, hbz⟩
         case measure => simp [intOf]; omega
     · obtain rfl : i = m := by omega
       have i1 : ¬ (c + (i : Int) <= d) := by have := HDD.out; omega
       have hfull := ptsTo_full L a c i j
       have hown2 := HO.out
       rw [hfull] at hown2
       have HO2 := hG hown2
       clear hfull hown2 hbw
       go_wp2_with fail
       go_roundw
       case rel => exact ⟨j + 1, by omega, by rw [HPJ.out]; first | rfl | (congr 1; omega) | (simp; omega), HO2.out, hbe⟩
       case measure => simp [intOf]; have := HKK.out; omega
  · obtain rfl : j = k := by omega
    have i1 : ¬ (a + (j : Int) <= b) := by have := HBB.out; omega
    obtain ⟨g, cc, rfl, hcs, -, -⟩ := own_cap HOWN.out
    have HCS := hG hcs
    clear hcs
    go_wp2_with fail
    go_ret
    exact ⟨⟨g, ⟨cc, rfl⟩, HCS.out⟩, hbw⟩
def ovR (xs ys : List Int) (L : Nat) (s : Int) : Nat -> Int
 | 0 => 0
 | n + 1 => ovR xs ys L s n + if inB 0 ((n : Int) + s) ((L : Int) - 1) then xs.getD n 0 * ys.getD ((n : Int) + s).toNat 0 else 0
theorem ovR_eq (xs ys : List Int) (L : Nat) (s : Int) (n : Nat) (h : n <= L) : ovR xs ys L s n = ovTo xs ys s (max 0 (-s)) (min (n : Int) (min (L : Int) (L - s)) - max 0 (-s)).toNat := by
 induction n with
 | zero => rw [show (min ((0 : Nat) : Int) (min (L : Int) (L - s)) - max 0 (-s)).toNat = 0 by omega]; rfl
 | succ n ih =>
   simp only [ovR]
   rw [ih (by omega)]
   by_cases hin : inB 0 ((n : Int) + s) ((L : Int) - 1) = true
   · rw [if_pos hin]
     have h2 : 0 <= (n : Int) + s /\ (n : Int) + s <= (L : Int) - 1 := by simpa [inB] using hin
     obtain ⟨m, hm⟩ : ∃ m, m = (min (n : Int) (min (L : Int) (L - s)) - max 0 (-s)).toNat := ⟨_, rfl⟩
     rw [<- hm, show (min ((n + 1 : Nat) : Int) (min (L : Int) (L - s)) - max 0 (-s)).toNat = m + 1 by omega]
     simp only [ovTo]
     rw [show (max 0 (-s) + (m : Int)).toNat = n by omega, show max 0 (-s) + (m : Int) + s = (n : Int) + s by omega]
   · rw [if_neg hin, Int.add_zero]
     have h2 : ¬ (0 <= (n : Int) + s /\ (n : Int) + s <= (L : Int) - 1) := by simpa [inB] using hin
     congr 1
     omega
theorem ovR_full (xs ys : List Int) (L : Nat) (s : Int) : ovR xs ys L s L = ovl xs ys L s := by
 rw [ovR_eq _ _ _ _ _ lc]
 unfold ovl
 congr 1
 omega
theorem ovR_bd {xs ys : List Int} (h1 : ∀ x ∈ xs, -127 <= x /\ x <= 127) (h2 : ∀ x ∈ ys, -127 <= x /\ x <= 127) (L : Nat) (s : Int) (n : Nat) : -(16129 * (n : Int)) <= ovR xs ys L s n /\ ovR xs ys L s n <= 16129 * (n : Int) := by
 induction n with
 | zero => simp [ovR]
 | succ n ih =>
   have g1 := getD_in (by omega) h1 n
   have g2 := getD_in (by omega) h2 ((n : Int) + s).toNat
   have := ov_prod g1.1 g1.2 g2.1 g2.2
   simp only [ovR]
   split <;> omega
set_option maxRecDepth 100000 in
set_option maxHeartbeats 4000000 in
theorem refOverlapL_any (xs ys : List Int) (L : Nat) (s : Int) (ao : Option Addr) (ca : Nat) (bo : Option Addr) (cb : Nat) (w : World) (hx : xs.length = 64) (hy : ys.length = 64) (hL1 : 1 <= L) (hL : L <= 64) (hs1 : -1000 <= s) (hs2 : s <= 1000) (h1 : ∀ x ∈ xs, -127 <= x /\ x <= 127) (h2 : ∀ x ∈ ys, -127 <= x /\ x <= 127)
 (hc : Cells w ao ((xs.take L).map (Value.int .i64))) (hd : Cells w bo ((ys.take L).map (Value.int .i64))) :
 Calls Tryz.prog 112 #[.slice ao L ca, .slice bo L cb, .int .i64 s] w fun e w' => e = .returned (.int .i64 (ovl xs ys L s)) /\ Below w.heap.size w w' := by
 have hf := ovR_full xs ys L s
 have HF := hG hf; have HC := hG hc; have HD := hG hd; have H1 := hG h1; have H2 := hG h2
 clear hf hc hd h1 h2
 go_enter Tryz.func112, Tryz.ntmps112
 go_wp2
 go_loopw [7, 8] (fun v i wr => ∃ k : Nat, k <= L /\ i = .int .i64 (k : Int) /\ v = .int .i64 (ovR xs ys L s k) /\ Below w.heap.size w wr) (fun _ i _ => L - (intOf i).toNat)
 case atStart => exact ⟨0, Nat.zero_le _, rfl, rfl, Below.refl _ _⟩
 case round =>
  obtain ⟨k, hk, rfl, rfl, hb⟩ := hrel
  by_cases hlt : k < L
  · obtain ⟨x, hxx⟩ := get_of_lt (show k < xs.length by omega)
    have hxt : (xs.take L)[k]? = some x := by rw [List.getElem?_take, if_pos hlt]; exact hxx
    obtain ⟨b, off, rfl⟩ := HC.out.addr (by intro h; rw [List.map_eq_nil_iff] at h; rw [h] at hxt; simp at hxt)
    have hcx := cell_keep (HC.out.int hxt) hb lc
    have bs := ovR_bd H1.out H2.out L s k
    have i1 : (k : Int) < L := by omega
    have i2 : (0 : Int) <= k := by omega
    have hin := fun w => rin_any ((k : Int) + s) 0 ((L : Int) - 1) w
    by_cases hi : inB 0 ((k : Int) + s) ((L : Int) - 1) = true
    · have h3 : 0 <= (k : Int) + s /\ (k : Int) + s <= (L : Int) - 1 := by simpa [inB] using hi
      obtain ⟨m, hm⟩ : ∃ m : Nat, (k : Int) + s = (m : Int) := ⟨((k : Int) + s).toNat, by omega⟩
      obtain ⟨y, hyy⟩ := get_of_lt (show m < ys.length by omega)
      have hyt : (ys.take L)[m]? = some y := by rw [List.getElem?_take, if_pos (by omega)]; exact hyy
      obtain ⟨b2, off2, rfl⟩ := HD.out.addr (by intro h; rw [List.map_eq_nil_iff] at h; rw [h] at hyt; simp at hyt)
      have hcy := cell_keep (HD.out.int hyt) hb lc
      have m1 := H1.out x (List.mem_of_getElem? hxx)
      have m2 := H2.out y (List.mem_of_getElem? hyy)
      have pd := ov_prod m1.1 m1.2 m2.1 m2.2
      have e1 : ovR xs ys L s (k + 1) = ovR xs ys L s k + x * y := by
       simp only [ovR]
       rw [if_pos hi, hm, Int.toNat_natCast, List.getD_eq_getElem?_getD, List.getD_eq_getElem?_getD, hxx, hyy]; rfl
      rw [hi] at hin
      have E1 := hG e1; have HIN := hG hin
      have q0 : IntKind.i64.wrap ((k : Int) + s) = (k : Int) + s := IntWalk.i64_in _ (by omega)
      have q1 : IntKind.i64.wrap (x * y) = x * y := IntWalk.i64_in _ (by omega)
      have q2 : IntKind.i64.wrap (ovR xs ys L s k + x * y) = ovR xs ys L s k + x * y := IntWalk.i64_in _ (by omega)
      have q3 : 0 <= (k : Int) + s := h3.1
      have q4 : (k : Int) + s < L := by omega
      have q5 : ((k : Int) + s).toNat = m := by omega
      clear e1 hin hxx hyy hxt hyt hi hm
      go_wp2_with (go_at_call 47; refine (HIN.out _).mono ?_; rintro e w' ⟨rfl, rfl⟩)
      go_quiet (fail)
      clear q0 q1 q2 q3 q4 q5
      go_wp2
      go_roundw
      case rel => exact ⟨k + 1, by omega, by go_num, by rw [E1.out], bel_drewN hb _⟩
      case measure => simp [intOf]; omega
    · have hi : inB 0 ((k : Int) + s) ((L : Int) - 1) = false := by simpa using hi
      have e1 : ovR xs ys L s (k + 1) = ovR xs ys L s k := by
       simp only [ovR]
       rw [hi]; simp
      rw [hi] at hin
      have E1 := hG e1; have HIN := hG hin
      clear e1 hin hxx hxt hi
      go_wp2_with (go_at_call 47; refine (HIN.out _).mono ?_; rintro e w' ⟨rfl, rfl⟩)
      go_roundw
      case rel => exact ⟨k + 1, by omega, by go_num, by rw [E1.out], hb⟩
      case measure => simp [intOf]; omega
  · obtain rfl : k = L := by omega
    rw [HF.out]
    go_wp2
    go_ret
    exact ⟨rfl, hb⟩
theorem rdig_len {n : Nat} (h : n < 18446744073709551616) : (Z4.dig n).length <= 549755813888 := Nat.le_trans (Z4.dig_len_i64 h) (by decide)
theorem rtext_same (n : Int) (d : Nat) : ratT (ofS n d) (ofN n d) (ofD n d) = Z4.qT (decide (n < 0)) (n.natAbs / Nat.gcd n.natAbs d) (d / Nat.gcd n.natAbs d) := by
 have h1 : ofS n d = decide (n < 0) := by
  unfold ofS
  rw [decide_eq_false (show ¬ (d : Int) < 0 by omega)]
  by_cases hn : n < 0
  · rw [decide_eq_true hn, decide_eq_true (show n.natAbs ≠ 0 by omega)]; rfl
  · rw [decide_eq_false hn]; rfl
 have h2 : ofN n d = n.natAbs / Nat.gcd n.natAbs d := by unfold ofN; rw [Int.natAbs_natCast]
 have h3 : ofD n d = d / Nat.gcd n.natAbs d := by unfold ofD; rw [Int.natAbs_natCast]
 rw [h1, h2, h3]
 unfold ratT Z4.qT
 have e1 : ∀ s k, sgT s k = Z4.zT s k := fun _ _ => rfl
 have e2 : ∀ k, decB k = Z4.dcB k := fun _ => rfl
 rw [e1, e2, ByteArray.append_assoc]
set_option maxRecDepth 100000 in
set_option maxHeartbeats 1000000 in
theorem refRatio_any (n : Int) (D : Nat) (w : World) (h1 : -9223372036854775808 <= n) (h2 : n <= 9223372036854775807) (h3 : 1 <= D) (h4 : D <= 9223372036854775807) :
 Calls Tryz.prog 119 #[.int .i64 n, .int .i64 D] w fun e w' => (∃ v, e = .returned v /\ Z4.QV w' v (decide (n < 0)) (n.natAbs / Nat.gcd n.natAbs D) (D / Nat.gcd n.natAbs D)) /\ Below w.heap.size w w' := by
 have hzn := fun W => Z4.zOf_any n W (by omega) (by omega)
 have hzd := fun W => Z4.zOf_any (D : Int) W (by omega) (by omega)
 have hqo := fun va vb W g1 g2 => Z4.qOf_pos va vb n D W g1 g2 (by omega) (rdig_len (by omega)) (rdig_len (by omega))
 have HZN := hG hzn; have HZD := hG hzd; have HQO := hG hqo
 clear hzn hzd hqo h1 h2 h3 h4
 have hbw := (Below.refl w.heap.size w).alloc lc (.cells #[.bool false, .slice none 0 0, .bool false, .slice none 0 0] 129)
 have HBW := hG hbw; clear hbw
 go_enter Tryz.func119, Tryz.ntmps119
 go_wp2_with fail
 refine (HZN.out _).mono ?_
 rintro e w1 ⟨⟨v1, rfl, hv1⟩, hb1⟩
 go_wp2_with fail
 refine (HZD.out _).mono ?_
 rintro e w2 ⟨⟨v2, rfl, hv2⟩, hb2⟩
 go_wp2_with fail
 refine (HQO.out _ _ _ (hv1.below hb2 lc) hv2).mono ?_
 rintro e w3 ⟨⟨v3, rfl, hv3⟩, hb3⟩
 have hbx := (hb1.trans (hb2.mono hb1.size)).trans (hb3.mono (Nat.le_trans hb1.size hb2.size))
 have q0 := box_keep hbx (by simp) 0
 have q1 := box_keep hbx (by simp) 1
 have q2 := box_keep hbx (by simp) 2
 have q3 := box_keep hbx (by simp) 3
 simp only [List.getElem?_toArray, List.getElem?_cons_succ, List.getElem?_cons_zero] at q0 q1 q2 q3
 have f0 := box_free hbx (by simp) 0
 have f1 := box_free hbx (by simp) 1
 have f2 := box_free hbx (by simp) 2
 have f3 := box_free hbx (by simp) 3
 have hle : w.heap.size <= w.heap.size := Nat.le_refl _
 have hb := HBW.out.trans (hbx.mono (by simp))
 obtain ⟨vn, vd, rfl, hm1, hm2⟩ := hv3
 obtain ⟨an, cn, rfl⟩ := hm1.cases
 obtain ⟨ad, cd, rfl⟩ := hm2.cases
 have HM1 := hG hm1; have HM2 := hG hm2
 clear hm1 hm2 hb1 hb2 hb3 hv1 hv2
 go_wp2
 refine bodyPost_ret (v := .agg #[.bool (decide (n < 0)), .slice an (Z4.dig (n.natAbs / Nat.gcd n.natAbs D)).length cn, .bool false, .slice ad (Z4.dig (D / Nat.gcd n.natAbs D)).length cd]) (by simp [results, Tryz.results119, go_sem, q0, q1, q2, q3]) rfl ?_
 exact ⟨⟨_, rfl, _, _, rfl, HM1.out.box4 q0 q1 q2 q3, HM2.out.box4 q0 q1 q2 q3⟩, (((hb.setCell hle _).setCell hle _).setCell hle _).setCell hle _⟩
def bsR (xs ys : List Int) (L : Nat) : Nat -> Int
 | 0 => 0
 | k + 1 => max (bsR xs ys L k) (ovl xs ys L (1 - (L : Int) + k))
theorem bsR_nn (xs ys : List Int) (L k : Nat) : 0 <= bsR xs ys L k := by
 induction k with
 | zero => simp [bsR]
 | succ k ih => simp only [bsR]; omega
theorem bsR_le (xs ys : List Int) (L : Nat) (hL : L <= 64) (k : Nat) (hk : k <= 2 * L - 1) : bsR xs ys L k <= bestN xs ys L := by
 induction k with
 | zero => exact bestN_nn _ _ _
 | succ k ih =>
   have h1 := ih (by omega)
   have h2 := bestN_ge xs ys L hL (1 - (L : Int) + k) (by omega) (by omega)
   simp only [bsR]; omega
theorem bsR_ge (xs ys : List Int) (L : Nat) (k : Nat) : ∀ i, i < k -> ovl xs ys L (1 - (L : Int) + i) <= bsR xs ys L k := by
 induction k with
 | zero => intro i hi; omega
 | succ k ih =>
   intro i hi
   simp only [bsR]
   by_cases h : i = k
   · subst h; omega
   · have := ih i (by omega); omega
theorem bsR_full (xs ys : List Int) (L : Nat) (h0 : 1 <= L) (hL : L <= 64) : bsR xs ys L (2 * L - 1) = bestN xs ys L := by
 refine Int.le_antisymm (bsR_le xs ys L hL _ lc) ?_
 rcases bestN_is xs ys L h0 hL with h | ⟨s, h1, h2, h⟩
 · rw [h]; exact bsR_nn _ _ _ _
 · have := bsR_ge xs ys L (2 * L - 1) (s - (1 - (L : Int))).toNat (by omega)
   rw [show 1 - (L : Int) + (((s - (1 - (L : Int))).toNat : Nat) : Int) = s by omega] at this
   rw [h]; exact this
theorem bsR_bd {xs ys : List Int} (h1 : ∀ x ∈ xs, -127 <= x /\ x <= 127) (h2 : ∀ x ∈ ys, -127 <= x /\ x <= 127) {L : Nat} (hL : L <= 64) (k : Nat) : bsR xs ys L k <= 1032256 := by
 induction k with
 | zero => simp [bsR]
 | succ k ih =>
   have := ovl_bd h1 h2 L (1 - (L : Int) + k) (by omega)
   simp only [bsR]; omega
set_option maxRecDepth 100000 in
set_option maxHeartbeats 4000000 in
theorem refmatchL_any (xs ys : List Int) (L D : Nat) (ao : Option Addr) (ca : Nat) (bo : Option Addr) (cb : Nat) (w : World) (hx : xs.length = 64) (hy : ys.length = 64) (hL1 : 1 <= L) (hL : L <= 64) (h1 : ∀ x ∈ xs, -127 <= x /\ x <= 127) (h2 : ∀ x ∈ ys, -127 <= x /\ x <= 127)
 (hD : (D : Int) = ovl xs xs L 0 * ovl ys ys L 0) (hD1 : 1 <= D)
 (hc : Cells w ao ((xs.take L).map (Value.int .i64))) (hd : Cells w bo ((ys.take L).map (Value.int .i64))) :
 Calls Tryz.prog 71 #[.slice ao L ca, .slice bo L cb] w fun e w' => (∃ v, e = .returned v /\ Z4.QV w' v (decide (bestN xs ys L * bestN xs ys L < 0)) ((bestN xs ys L * bestN xs ys L).natAbs / Nat.gcd (bestN xs ys L * bestN xs ys L).natAbs D) (D / Nat.gcd (bestN xs ys L * bestN xs ys L).natAbs D)) /\ Below w.heap.size w w' := by
 have hfull := bsR_full xs ys L hL1 hL
 have hbb := bsR_bd h1 h2 hL
 have hbn := bsR_nn xs ys L
 have hov := fun s W (g1 : -1000 <= s) (g2 : s <= 1000) c1 c2 => refOverlapL_any xs ys L s ao ca bo cb W hx hy hL1 hL g1 g2 h1 h2 c1 c2
 have hob := fun s g => ovl_bd h1 h2 L s g
 have hn1 := fun W c1 => refNorm_any xs L ao ca W hx hL h1 c1
 have hn2 := fun W c1 => refNorm_any ys L bo cb W hy hL h2 c1
 rw [<- ovl_sqTo] at hn1 hn2
 have b1 := ovl_bd h1 h1 L 0 (by omega)
 have b2 := ovl_bd h2 h2 L 0 (by omega)
 have nn1 := norm_nn xs L
 have nn2 := norm_nn ys L
 have hbs : ∀ k, bsR xs ys L (k + 1) = max (bsR xs ys L k) (ovl xs ys L (1 - (L : Int) + k)) := fun k => rfl
 have hb0 : bsR xs ys L 0 = 0 := rfl
 generalize ovl xs xs L 0 = n1 at *
 generalize ovl ys ys L 0 = n2 at *
 generalize ovl xs ys L = F at *
 generalize bsR xs ys L = G at *
 generalize bestN xs ys L = N at *
 have m2 := Int.mul_le_mul (show n1 <= 1032256 by omega) (show n2 <= 1032256 by omega) (by omega) (by omega)
 have hNb : 0 <= N /\ N <= 1032256 := by rw [<- hfull]; exact ⟨hbn _, hbb _⟩
 have m3 := Int.mul_le_mul hNb.2 hNb.2 hNb.1 (by omega)
 have m4 := Int.mul_nonneg hNb.1 hNb.1
 have hra := fun W => refRatio_any (N * N) D W (by omega) (by omega) hD1 (by omega)
 have hbw := (Below.refl w.heap.size w).alloc lc (.cells #[.bool false, .slice none 0 0, .bool false, .slice none 0 0] 129)
 have HBW := hG hbw
 have HC := hG hc; have HDC := hG hd
 have HF := hG hfull; have HBB := hG hbb; have HBN := hG hbn; have HOV := hG hov; have HOB := hG hob
 have HN1 := hG hn1; have HN2 := hG hn2; have HBS := hG hbs; have HRA := hG hra
 have q1 : IntKind.i64.wrap (N * N) = N * N := IntWalk.i64_in _ (by omega)
 have q2 : IntKind.i64.wrap (n1 * n2) = (D : Int) := by rw [hD]; exact IntWalk.i64_in _ (by omega)
 have Q1 := hG q1; have Q2 := hG q2
 clear hfull hbb hbn hov hob hn1 hn2 hbs hra hc hd h1 h2 hD b1 b2 nn1 nn2 m2 m3 m4 q1 q2 hbw
 go_enter Tryz.func71, Tryz.ntmps71
 go_wp2
 go_loopw [5, 6] (fun v i wr => ∃ k : Nat, k <= 2 * L - 1 /\ i = .int .i64 (1 - (L : Int) + k) /\ v = .int .i64 (G k) /\ Below (w.heap.size + 1) (w.alloc (.cells #[.bool false, .slice none 0 0, .bool false, .slice none 0 0] 129)) wr) (fun _ i _ => (L - intOf i).toNat)
 case atStart => exact ⟨0, Nat.zero_le _, by simp, by rw [hb0], Below.refl _ _⟩
 case round =>
  obtain ⟨k, hk, rfl, rfl, hb⟩ := hrel
  have hs1 : w.heap.size + 1 <= wr.heap.size := by have := hb.size; simpa using this
  have hbz : Below w.heap.size w wr := HBW.out.trans (hb.mono (by omega))
  by_cases hlt : k < 2 * L - 1
  · have hov := HOV.out (1 - (L : Int) + k) wr (by omega) (by omega) (HC.out.below hbz lc) (HDC.out.below hbz lc)
    have hE := HBS.out k
    have f1 := HOB.out (1 - (L : Int) + k) (by omega)
    have g1 := HBN.out k
    have g2 := HBB.out k
    have HO := hG hov; have HE := hG hE
    clear hov hE
    go_wp2_with (go_at_call 112; refine HO.out.mono ?_; rintro e w2 ⟨rfl, hb2⟩)
    have hbn2 := hb.trans (hb2.mono hs1)
    go_roundw
    case rel => exact ⟨k + 1, by omega, by go_num, by rw [HE.out], hbn2⟩
    case measure => simp [intOf]; omega
  · obtain rfl : k = 2 * L - 1 := by omega
    rw [HF.out]
    have q1 := Q1.out
    have hCx := HC.out.below hbz lc
    have hDx := HDC.out.below hbz lc
    go_wp2_with fail
    refine (HN1.out _ hCx).mono ?_
    rintro e w2 ⟨rfl, hb2⟩
    go_wp2_with fail
    refine (HN2.out _ (hDx.below hb2 lc)).mono ?_
    rintro e w3 ⟨rfl, hb3⟩
    have q2 := Q2.out
    go_wp2_with fail
    refine (HRA.out _).mono ?_
    rintro e w4 ⟨⟨v, rfl, hv⟩, hb4⟩
    have hbx := ((hb.trans (hb2.mono hs1)).trans (hb3.mono (Nat.le_trans hs1 hb2.size))).trans (hb4.mono (Nat.le_trans hs1 (Nat.le_trans hb2.size hb3.size)))
    have q0 := box_keep hbx (by simp) 0
    have q1 := box_keep hbx (by simp) 1
    have q2 := box_keep hbx (by simp) 2
    have q3 := box_keep hbx (by simp) 3
    simp only [List.getElem?_toArray, List.getElem?_cons_succ, List.getElem?_cons_zero] at q0 q1 q2 q3
    have f0 := box_free hbx (by simp) 0
    have f1 := box_free hbx (by simp) 1
    have f2 := box_free hbx (by simp) 2
    have f3 := box_free hbx (by simp) 3
    have hle : w.heap.size <= w.heap.size := Nat.le_refl _
    have hb := HBW.out.trans (hbx.mono (by simp))
    obtain ⟨vn, vd, rfl, hm1, hm2⟩ := hv
    obtain ⟨an, cn, rfl⟩ := hm1.cases
    obtain ⟨ad, cd, rfl⟩ := hm2.cases
    have HM1 := hG hm1; have HM2 := hG hm2
    clear hm1 hm2 hb2 hb3 hb4 hCx hDx hbz
    go_wp2
    refine bodyPost_ret (v := .agg #[.bool (decide (N * N < 0)), .slice an (Z4.dig ((N * N).natAbs / Nat.gcd (N * N).natAbs D)).length cn, .bool false, .slice ad (Z4.dig (D / Nat.gcd (N * N).natAbs D)).length cd]) (by simp [results, Tryz.results71, go_sem, q0, q1, q2, q3]) rfl ?_
    exact ⟨⟨_, rfl, _, _, rfl, HM1.out.box4 q0 q1 q2 q3, HM2.out.box4 q0 q1 q2 q3⟩, (((hb.setCell hle _).setCell hle _).setCell hle _).setCell hle _⟩
theorem box4_set {w : World} {b : Nat} {t : TypeId} {x0 x1 x2 x3 : Value} (h : Blk w b t #[x0, x1, x2, x3]) (u0 u1 u2 u3 : Value) : Blk ((((w.setCell ⟨b, 0, none⟩ u0).setCell ⟨b, 1, none⟩ u1).setCell ⟨b, 2, none⟩ u2).setCell ⟨b, 3, none⟩ u3) b t #[u0, u1, u2, u3] := (((h.setAt 0 u0).setAt 1 u1).setAt 2 u2).setAt 3 u3
def QB (w : World) (b : Nat) (p : Nat × Nat) : Prop := ∃ a1 n1 c1 a2 n2 c2, Blk w b 129 #[.bool false, .slice a1 n1 c1, .bool false, .slice a2 n2 c2] /\ Z4.MV w (.slice a1 n1 c1) p.1 /\ Z4.MV w (.slice a2 n2 c2) p.2
theorem QB.below {w w' : World} {b : Nat} {p : Nat × Nat} (h : QB w b p) (hb : Below w.heap.size w w') : QB w' b p := by
 obtain ⟨a1, n1, c1, a2, n2, c2, h1, h2, h3⟩ := h
 exact ⟨a1, n1, c1, a2, n2, c2, h1.below hb h1.lt, h2.below hb lc, h3.below hb lc⟩
theorem QB.new {w : World} {p : Nat × Nat} {a1 a2 : Option Addr} {n1 c1 n2 c2 : Nat} (h1 : Z4.MV w (.slice a1 n1 c1) p.1) (h2 : Z4.MV w (.slice a2 n2 c2) p.2) : QB (w.alloc (.cells #[.bool false, .slice a1 n1 c1, .bool false, .slice a2 n2 c2] 129)) w.heap.size p :=
 ⟨_, _, _, _, _, _, Blk.new _ _ _, h1.below (bg.alloc lc _) lc, h2.below (bg.alloc lc _) lc⟩
theorem QB.fill {w : World} {b : Nat} {x0 x2 : Bool} {u1 u3 : Option Addr} {m1 d1 m3 d3 : Nat} {q : Nat × Nat} {a1 a2 : Option Addr} {n1 c1 n2 c2 : Nat} (h : Blk w b 129 #[.bool x0, .slice u1 m1 d1, .bool x2, .slice u3 m3 d3]) (h1 : Z4.MV w (.slice a1 n1 c1) q.1) (h2 : Z4.MV w (.slice a2 n2 c2) q.2) : QB ((((w.setCell ⟨b, 0, none⟩ (.bool false)).setCell ⟨b, 1, none⟩ (.slice a1 n1 c1)).setCell ⟨b, 2, none⟩ (.bool false)).setCell ⟨b, 3, none⟩ (.slice a2 n2 c2)) b q :=
 ⟨_, _, _, _, _, _, box4_set h _ _ _ _, h1.box4 (h.cell 0) (h.cell 1) (h.cell 2) (h.cell 3), h2.box4 (h.cell 0) (h.cell 1) (h.cell 2) (h.cell 3)⟩
theorem QB.put {w : World} {b : Nat} {p q : Nat × Nat} {a1 a2 : Option Addr} {n1 c1 n2 c2 : Nat} (h : QB w b p) (h1 : Z4.MV w (.slice a1 n1 c1) q.1) (h2 : Z4.MV w (.slice a2 n2 c2) q.2) : QB ((((w.setCell ⟨b, 0, none⟩ (.bool false)).setCell ⟨b, 1, none⟩ (.slice a1 n1 c1)).setCell ⟨b, 2, none⟩ (.bool false)).setCell ⟨b, 3, none⟩ (.slice a2 n2 c2)) b q := by
 obtain ⟨e1, m1, d1, e2, m2, d2, g1, g2, g3⟩ := h
 exact QB.fill g1 h1 h2
theorem QB.qv {w : World} {b : Nat} {p : Nat × Nat} (h : QB w b p) : ∃ a1 n1 c1 a2 n2 c2, Blk w b 129 #[.bool false, .slice a1 n1 c1, .bool false, .slice a2 n2 c2] /\ Z4.MV w (.slice a1 n1 c1) p.1 /\ Z4.MV w (.slice a2 n2 c2) p.2 := h
theorem qv_parts {w : World} {v : Value} {p : Nat × Nat} (h : Z4.QV w v false p.1 p.2) : ∃ a1 n1 c1 a2 n2 c2, v = .agg #[.bool false, .slice a1 n1 c1, .bool false, .slice a2 n2 c2] /\ Z4.MV w (.slice a1 n1 c1) p.1 /\ Z4.MV w (.slice a2 n2 c2) p.2 := by
 obtain ⟨vn, vd, rfl, h1, h2⟩ := h
 obtain ⟨a1, c1, rfl⟩ := h1.cases
 obtain ⟨a2, c2, rfl⟩ := h2.cases
 exact ⟨_, _, _, _, _, _, rfl, h1, h2⟩
theorem refmatch_call (L p q r s : Int) (h : matE L p q r s = 0) (ao bo : Option Addr) (ca cb : Nat) (W : World) (c1 : Cells W ao (((wav L p q).take L.toNat).map (Value.int .i64))) (c2 : Cells W bo (((wav L r s).take L.toNat).map (Value.int .i64))) :
 Calls Tryz.prog 71 #[.slice ao L.toNat ca, .slice bo L.toNat cb] W fun e w' => (∃ v, e = .returned v /\ Z4.QV w' v false (mFr L p q r s).1 (mFr L p q r s).2) /\ Below W.heap.size W w' := by
 obtain ⟨h1, h2, h3, h4⟩ := matE_zero h
 have hL := waveOK_true h1
 have hd := matD_pos h1 h2 h3 h4
 have hn := mat_bd (r := r) (s := s) h1
 have m2 := Int.mul_nonneg hn.1 hn.1
 have hm := refmatchL_any (wav L p q) (wav L r s) L.toNat (matD L p q r s).toNat ao ca bo cb W (wav_length _ _ _) (wav_length _ _ _) (by omega) (by omega) (wav_bd _ _ _) (wav_bd _ _ _) (by rw [show ((L.toNat : Nat) : Int) = L by omega]; show (((matD L p q r s).toNat : Nat) : Int) = matD L p q r s; omega) (by omega) c1 c2
 rw [show bestN (wav L p q) (wav L r s) L.toNat = matN L p q r s from rfl, decide_eq_false (by omega)] at hm
 exact hm
theorem qcmp_fr {p q : Nat × Nat} (hp : FrOK p) (hq : FrOK q) {va vb : Value} {w : World} (ha : Z4.QV w va false p.1 p.2) (hb : Z4.QV w vb false q.1 q.2) :
 Calls Tryz.prog 72 #[va, vb] w fun e w' => e = .returned (.int .i64 (cmpF p q)) /\ Below w.heap.size w w' := by
 obtain ⟨p1, p2, p3, p4⟩ := hp
 obtain ⟨q1, q2, q3, q4⟩ := hq
 have hs : ∀ {n : Nat}, n < 10 ^ 15 -> (Z4.dig n).length <= 1073741824 := fun h => Nat.le_trans (Z4.dig_len_i64 (by omega)) (by decide)
 have hm : ∀ {a b : Nat}, a < 10 ^ 15 -> b < 10 ^ 15 -> (Z4.dig (((a : Nat) : Int) * ((b : Nat) : Int)).natAbs).length <= 549755813888 := fun {a b} h1 h2 => by
  rw [show (((a : Nat) : Int) * ((b : Nat) : Int)).natAbs = a * b by rw [Int.natAbs_mul, Int.natAbs_natCast, Int.natAbs_natCast]]
  refine Nat.le_trans (Z4.dig_len_lt (k := 8) ?_) (by decide)
  have := Nat.mul_le_mul (Nat.le_of_lt h1) (Nat.le_of_lt h2)
  exact Nat.lt_of_le_of_lt this (by decide)
 have hc := Z4.qCmp_any va vb (p.1 : Int) (q.1 : Int) p.2 q.2 w (by rw [decide_eq_false (by omega), Int.natAbs_natCast]; exact ha) (by rw [decide_eq_false (by omega), Int.natAbs_natCast]; exact hb) (by rw [Int.natAbs_natCast]; exact hs (by omega)) (by rw [Int.natAbs_natCast]; exact hs (by omega)) (hs p4) (hs q4) (hm (by omega) q4) (hm (by omega) p4)
 rw [show Z4.zcm ((p.1 : Int) * (q.2 : Int) - (q.1 : Int) * (p.2 : Int)) = cmpF p q by
  unfold Z4.zcm cmpF
  generalize (p.1 : Int) * (q.2 : Int) = x
  generalize (q.1 : Int) * (p.2 : Int) = y
  by_cases h : x = y
  · rw [if_pos (by omega), if_pos h]
  · rw [if_neg (by omega), if_neg h]
    by_cases h2 : x < y
    · rw [if_pos (by omega), if_pos h2]
    · rw [if_neg (by omega), if_neg h2]] at hc
 exact hc
theorem T2_q {p : Nat × Nat} (h : FrOK p) : T2 p = Z4.qT false p.1 p.2 := by
 have hr := redI_ok h
 have := rtext_same (p.1 : Int) p.2
 rw [T2, ofT, this]
 have e : (decide ((p.1 : Int) < 0), (p.1 : Int).natAbs / Nat.gcd (p.1 : Int).natAbs p.2, p.2 / Nat.gcd (p.1 : Int).natAbs p.2) = (false, p.1, p.2) := hr
 simp only [Prod.mk.injEq] at e
 rw [e.1, e.2.1, e.2.2]
theorem refW_ok {L : Int} {cs : List (Int × Int)} (h : ∀ c ∈ cs, chOK L c = true) (l : List (Pt L)) : FrOK (refW L cs l) := by
 unfold refW
 suffices H : ∀ (l : List (Pt L)) (v : Nat × Nat), FrOK v -> FrOK (l.foldl (fun v x => if cmpF (mostF L x.1 cs) v < 0 then mostF L x.1 cs else v) v) from H l _ fr11
 intro l
 induction l with
 | nil => intro v hv; exact hv
 | cons x r ih =>
   intro v hv
   rw [List.foldl_cons]
   refine ih _ ?_
   split
   · exact mostF_ok x h
   · exact hv
set_option maxRecDepth 100000 in
set_option maxHeartbeats 4000000 in
theorem refReaches_any (n d : Int) (L : Nat) (xs ys : List Int) (s : Int) (ao : Option Addr) (ca : Nat) (bo : Option Addr) (cb : Nat) (w : World) (hx : xs.length = 64) (hy : ys.length = 64) (hL1 : 1 <= L) (hL : L <= 64) (h1 : ∀ x ∈ xs, -127 <= x /\ x <= 127) (h2 : ∀ x ∈ ys, -127 <= x /\ x <= 127)
 (s1 : -1000 <= s) (s2 : s <= 1000) (n1 : 0 <= n) (n2 : n <= 999999) (d1 : 0 <= d) (d2 : d <= 999999) (hc : Cells w ao ((xs.take L).map (Value.int .i64))) (hd : Cells w bo ((ys.take L).map (Value.int .i64))) :
 Calls Tryz.prog 58 #[.slice ao L ca, .slice bo L cb, .int .i64 s, .agg #[.int .i64 n, .int .i64 d]] w fun e w' => e = .returned (.bool (rchB n d xs ys L s)) /\ Below w.heap.size w w' := by
 obtain ⟨W0, hW0⟩ : ∃ W0, w.alloc (.cells #[.int .i64 n, .int .i64 d] 88) = W0 := ⟨_, rfl⟩
 have hb0 : Below w.heap.size w W0 := by rw [<- hW0]; exact (Below.refl _ w).alloc lc _
 have hs0 : W0.heap.size = w.heap.size + 1 := by rw [<- hW0]; simp
 have q0 : Blk W0 w.heap.size 88 #[.int .i64 n, .int .i64 d] := by rw [<- hW0]; exact heap_alloc_new w _
 have hkr : ∀ W, Below W0.heap.size W0 W -> (W.cell? ⟨w.heap.size, 0, none⟩ = some (.int .i64 n) /\ W.cell? ⟨w.heap.size, 1, none⟩ = some (.int .i64 d)) /\ Below w.heap.size w W := fun W h => by
  have hq := q0.below h (by omega)
  exact ⟨⟨hq.cell 0, hq.cell 1⟩, hb0.trans (h.mono hb0.size)⟩
 have ho := fun W (h : Below w.heap.size w W) => refOverlapL_any xs ys L s ao ca bo cb W hx hy hL1 hL s1 s2 h1 h2 (hc.below h lc) (hd.below h lc)
 have hn1 := fun W (h : Below w.heap.size w W) => refNorm_any xs L ao ca W hx hL h1 (hc.below h lc)
 have hn2 := fun W (h : Below w.heap.size w W) => refNorm_any ys L bo cb W hy hL h2 (hd.below h lc)
 rw [<- ovl_sqTo] at hn1 hn2
 have b0 := ovl_bd h1 h2 L s (by omega)
 have b1 := ovl_bd h1 h1 L 0 (by omega)
 have b2 := ovl_bd h2 h2 L 0 (by omega)
 have c1 := norm_nn xs L
 have c2 := norm_nn ys L
 have hR : rchB n d xs ys L s = (decide (0 < ovl xs ys L s) && decide (ovl xs xs L 0 * ovl ys ys L 0 * n <= ovl xs ys L s * ovl xs ys L s * d)) := rfl
 rw [hR]
 clear hR
 generalize ovl xs ys L s = N at *
 generalize ovl xs xs L 0 = m1 at *
 generalize ovl ys ys L 0 = m2 at *
 have b0' : -1032256 <= N /\ N <= 1032256 := by omega
 have b1' : m1 <= 1032256 := by omega
 have b2' : m2 <= 1032256 := by omega
 have HO := hG ho; have HN1 := hG hn1; have HN2 := hG hn2; have HW0 := hG hW0; have HKR := hG hkr
 clear ho hn1 hn2 b0 b1 b2 h1 h2 hc hd hW0 hb0 q0 hkr hx hy
 obtain ⟨⟨k0, k1⟩, hbw⟩ := HKR.out W0 bg
 rw [<- HW0.out] at k0 k1
 by_cases hN : 0 < N
 · have p1 : 0 <= N * N /\ N * N <= 1065552449536 := ⟨Int.mul_nonneg (by omega) (by omega), by
    have := Int.mul_le_mul_of_nonneg_right b0'.2 (by omega : 0 <= N); omega⟩
   have p2 : 0 <= N * N * d /\ N * N * d <= 1065552449536 * 999999 := ⟨Int.mul_nonneg p1.1 d1, by
    have h3 := Int.mul_le_mul_of_nonneg_left d2 p1.1
    have h4 := Int.mul_le_mul_of_nonneg_right p1.2 (by omega : (0 : Int) <= 999999); omega⟩
   have p3 : 0 <= n * m1 /\ n * m1 <= 999999 * 1032256 := ⟨Int.mul_nonneg n1 c1, by
    have h3 := Int.mul_le_mul_of_nonneg_left b1' n1; omega⟩
   have p4 : 0 <= n * m1 * m2 /\ n * m1 * m2 <= 999999 * 1032256 * 1032256 := ⟨Int.mul_nonneg p3.1 c2, by
    have h3 := Int.mul_le_mul_of_nonneg_left b2' p3.1; omega⟩
   have e1 : IntKind.i64.wrap (N * N) = N * N := IntWalk.i64_in _ (by omega)
   have e2 : IntKind.i64.wrap (N * N * d) = N * N * d := IntWalk.i64_in _ (by omega)
   have e3 : IntKind.i64.wrap (n * m1) = n * m1 := IntWalk.i64_in _ (by omega)
   have e4 : IntKind.i64.wrap (n * m1 * m2) = n * m1 * m2 := IntWalk.i64_in _ (by omega)
   have hres : (decide (0 < N) && decide (m1 * m2 * n <= N * N * d)) = decide (n * m1 * m2 <= N * N * d) := by
    rw [decide_eq_true hN, Bool.true_and, show m1 * m2 * n = n * m1 * m2 by rw [Int.mul_comm (m1 * m2) n, <- Int.mul_assoc]]
   have HRES := hG hres
   clear p1 p2 p3 p4 hres b0' b1' b2' c1 c2 n1 n2 d1 d2
   go_enter Tryz.func58, Tryz.ntmps58
   go_wp2_with fail
   rw [HW0.out]
   refine (HO.out _ hbw).mono ?_
   rintro e wa ⟨rfl, hba⟩
   obtain ⟨⟨x0, x1⟩, hbwa⟩ := HKR.out wa hba
   obtain ⟨⟨y0, y1⟩, hbwad⟩ := HKR.out wa.drew hba.drew
   have HBA := hG hba
   clear k0 k1 hba hbw
   go_wp2_with fail
   go_region_held3 (fun w' => w'.cell? ⟨w.heap.size, 0, none⟩ = some (.int .i64 n) /\ w'.cell? ⟨w.heap.size, 1, none⟩ = some (.int .i64 d))
    (first | with_reducible exact ⟨x0, x1⟩ | with_reducible exact ⟨y0, y1⟩ | with_reducible exact ⟨z0, z1⟩ | with_reducible exact ⟨t0, t1⟩ | go_keep)
    (first
     | (go_at_call 108; (with_reducible refine Calls.mono (HN1.out wa.drew hbwad) ?_); rintro e wb ⟨rfl, hbb⟩; have hbb := HBA.out.drew.trans (hbb.mono HBA.out.size); have HBB := hG hbb; obtain ⟨⟨z0, z1⟩, hbwb⟩ := HKR.out wb hbb; clear hbb)
     | (go_at_call 108; (with_reducible refine Calls.mono (HN2.out wa.drew hbwad) ?_); rintro e wb ⟨rfl, hbb⟩; have hbb := HBA.out.drew.trans (hbb.mono HBA.out.size); have HBB := hG hbb; obtain ⟨⟨z0, z1⟩, hbwb⟩ := HKR.out wb hbb; clear hbb)
     | (go_at_call 108; (with_reducible refine Calls.mono (HN1.out wb hbwb) ?_); rintro e wc ⟨rfl, hbc⟩; have hbc := HBB.out.trans (hbc.mono HBB.out.size); obtain ⟨⟨t0, t1⟩, hbwc⟩ := HKR.out wc hbc; clear hbc)
     | (go_at_call 108; (with_reducible refine Calls.mono (HN2.out wb hbwb) ?_); rintro e wc ⟨rfl, hbc⟩; have hbc := HBB.out.trans (hbc.mono HBB.out.size); obtain ⟨⟨t0, t1⟩, hbwc⟩ := HKR.out wc hbc; clear hbc))
   all_goals
    go_wp2_with fail
    go_ret
    exact ⟨ret_bool HRES.out.symm, hbwc⟩
 · have hres : (decide (0 < N) && decide (m1 * m2 * n <= N * N * d)) = false := by rw [decide_eq_false hN]; rfl
   have HRES := hG hres
   have hNb : decide (0 < N) = false := decide_eq_false hN
   clear hres b0' b1' b2' c1 c2 n1 n2 d1 d2 hN
   go_enter Tryz.func58, Tryz.ntmps58
   go_wp2_with fail
   rw [HW0.out]
   refine (HO.out _ hbw).mono ?_
   rintro e wa ⟨rfl, hba⟩
   obtain ⟨⟨x0, x1⟩, hbwa⟩ := HKR.out wa hba
   clear k0 k1 hba hbw
   go_wp2_with fail
   go_quiet (fail)
   go_wp2_with fail
   go_ret
   exact ⟨ret_bool HRES.out.symm, bel_drewN hbwa _⟩
end Go.Proofs.YtahnadhlagabgaaGreatDoor
