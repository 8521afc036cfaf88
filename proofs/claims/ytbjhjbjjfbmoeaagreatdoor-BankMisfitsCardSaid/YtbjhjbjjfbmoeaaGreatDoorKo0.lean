/- Parts of a proof, in build order: I0, I1, I2, I3, I4, Z0, Z1, Z2. -/
import Derived.Test.YtbjhjbjjfbmoeaaGreatDoorKn0

/- Waves of the reference: table, CheckChirp, wave. -/
namespace Go.Proofs.YtbjhjbjjfbmoeaaGreatDoor
open Go.RowKit

theorem rin_any (n lo hi : Int) (w : World) :
    Calls Tryz.prog 42 #[.int .i64 n, .int .i64 lo, .int .i64 hi] w fun e w' => e = .returned (.bool (inB lo n hi)) ∧ w = w' := by
  by_cases h1 : lo ≤ n
  · go_enter Tryz.func42, Tryz.ntmps42
    go_wp2
    go_ret
    exact ⟨ret_bool (by simp [inB]; try omega), rfl⟩
  · go_enter Tryz.func42, Tryz.ntmps42
    go_wp2
    go_ret
    exact ⟨ret_bool (by simp [inB]; try omega), rfl⟩

theorem checkChirp_any (L p q : Int) (w : World) :
    Calls Tryz.prog 18 #[.int .i64 L, .agg #[.int .i64 p, .int .i64 q]] w fun e w' => e = .returned (.int .i64 (wavE L p q)) ∧ Below w.heap.size w w' := by
  have hw := fun w => wave_any L p q w
  have hE : wavE L p q = if waveOK L p q then 0 else 70 := rfl
  obtain ⟨Z, hZ⟩ : ∃ Z, Z = shp 0 (smp 0 0 0) := ⟨_, rfl⟩
  have z : Tryz.zeroCells101 = Z := by rw [hZ]; exact zero101
  have hZs : Z.size = 65 := by rw [hZ, shp_size, smp_length]
  have hst := store_shape (waveV L p q) Z (waveV_size L p q) hZs (waveV_one L p q)
  have hs1 := waveV_size L p q
  generalize waveV L p q = V at *
  have hne : ¬ V = #[] := by intro h; rw [h] at hs1; simp at hs1
  have HW := Lib.hid hw; clear hw hZ
  generalize wavE L p q = E at *
  cases h : waveOK L p q
  · have HE : Hid (E = 70) := by rw [hE, h]; exact Lib.hid rfl
    rw [h] at HW
    clear hE h
    go_enter Tryz.func18, Tryz.ntmps18
    go_wp2_with (go_at_call 60; refine (HW.out _).mono ?_; rintro e w1 ⟨rfl, hb1⟩)
    have g1 := ((Below.refl w.heap.size w).alloc (Nat.le_refl _) _).trans (hb1.mono (by simp))
    go_ret
    exact ⟨by rw [HE.out]; rfl, g1.alloc g1.size _⟩
  · have HE : Hid (E = 0) := by rw [hE, h]; exact Lib.hid rfl
    rw [h] at HW
    clear hE h
    go_enter Tryz.func18, Tryz.ntmps18
    go_wp2_with (go_at_call 60; refine (HW.out _).mono ?_; rintro e w1 ⟨rfl, hb1⟩)
    have g1 := ((Below.refl w.heap.size w).alloc (Nat.le_refl _) _).trans (hb1.mono (by simp))
    go_ret
    exact ⟨by rw [HE.out]; rfl, g1.alloc g1.size _⟩

theorem refCheckChirp_any (L p q : Int) (w : World) :
    Calls Tryz.prog 19 #[.int .i64 L, .agg #[.int .i64 p, .int .i64 q]] w fun e w' => e = .returned (.int .i64 (wavE L p q)) ∧ Below w.heap.size w w' := by
  have hE : wavE L p q = if waveOK L p q then 0 else 70 := rfl
  generalize wavE L p q = E at *
  cases h1 : inB 4 L 64
  · have HE : Hid (E = 70) := by rw [hE]; simp only [waveOK, h1]; exact Lib.hid rfl
    clear hE
    go_enter Tryz.func19, Tryz.ntmps19
    go_wp2_with (go_at_call 42; refine (rin_any _ _ _ _).mono ?_; rintro e w' ⟨rfl, rfl⟩)
    go_ret
    exact ⟨by rw [HE.out]; rfl, (Below.refl _ _).alloc (Nat.le_refl _) _⟩
  cases h2 : inB 0 p 63
  · have HE : Hid (E = 70) := by rw [hE]; simp only [waveOK, h1, h2]; exact Lib.hid rfl
    clear hE
    go_enter Tryz.func19, Tryz.ntmps19
    go_wp2_with (go_at_call 42; refine (rin_any _ _ _ _).mono ?_; rintro e w' ⟨rfl, rfl⟩)
    go_ret
    exact ⟨by rw [HE.out]; rfl, (Below.refl _ _).alloc (Nat.le_refl _) _⟩
  cases h3 : inB 0 q 63
  · have HE : Hid (E = 70) := by rw [hE]; simp only [waveOK, h1, h2, h3]; exact Lib.hid rfl
    clear hE
    go_enter Tryz.func19, Tryz.ntmps19
    go_wp2_with (go_at_call 42; refine (rin_any _ _ _ _).mono ?_; rintro e w' ⟨rfl, rfl⟩)
    go_ret
    exact ⟨by rw [HE.out]; rfl, (Below.refl _ _).alloc (Nat.le_refl _) _⟩
  · have HE : Hid (E = 0) := by rw [hE]; simp only [waveOK, h1, h2, h3]; exact Lib.hid rfl
    clear hE
    go_enter Tryz.func19, Tryz.ntmps19
    go_wp2_with (go_at_call 42; refine (rin_any _ _ _ _).mono ?_; rintro e w' ⟨rfl, rfl⟩)
    go_ret
    exact ⟨by rw [HE.out]; rfl, (Below.refl _ _).alloc (Nat.le_refl _) _⟩

theorem cells_block (w : World) (cs : List Value) (T : TypeId) : Cells (w.alloc (.cells cs.toArray T)) (some ⟨w.heap.size, 0, none⟩) cs :=
  .inr ⟨w.heap.size, 0, rfl, fun j u hu => by
    rw [cell_of_row _ _ _ _ _ _ (heap_alloc_new _ _), Nat.zero_add]; simpa using hu⟩
theorem refQuarter_any (w : World) :
    Calls Tryz.prog 176 #[] w fun e w' => (∃ b, e = .returned (.slice (some ⟨b, 0, none⟩) 17 17) ∧ Cells w' (some ⟨b, 0, none⟩) (quart.map (Value.int .i64))) ∧ Below w.heap.size w w' := by
  have hc := cells_block w (quart.map (Value.int .i64)) 3
  have HC := Lib.hid hc; clear hc
  go_enter Tryz.func176, Tryz.ntmps176
  go_wp2
  go_ret
  exact ⟨⟨_, rfl, HC.out⟩, (Below.refl _ _).alloc (Nat.le_refl _) _⟩

set_option maxRecDepth 100000 in
theorem refTable_low (k : Nat) (w : World) (h : k < 32) :
    Calls Tryz.prog 125 #[.int .i64 k] w fun e w' => e = .returned (.int .i64 (half0 k)) ∧ Below w.heap.size w w' := by
  by_cases h2 : k ≤ 16
  · obtain ⟨x, hx⟩ := get_of_lt (show k < quart.length by simp [quart]; omega)
    have hh : half0 k = x := by simp only [half0, Int.toNat_natCast]; rw [if_pos (by omega), List.getD_eq_getElem?_getD, hx]; rfl
    have HX := Lib.hid hx; have HH := Lib.hid hh
    clear hx hh
    go_enter Tryz.func125, Tryz.ntmps125
    go_wp2_with (go_at_call 176; refine (refQuarter_any _).mono ?_; rintro e w1 ⟨⟨b, rfl, hc⟩, hb⟩; have hcx := hc.int HX.out; rw [Nat.zero_add] at hcx; have HC := Lib.hid hc; clear hc)
    go_ret
    exact ⟨by rw [HH.out]; rfl, hb⟩
  · obtain ⟨x, hx⟩ := get_of_lt (show 32 - k < quart.length by simp [quart]; omega)
    have hh : half0 k = x := by simp only [half0]; rw [if_neg (by omega), show (32 - (k : Int)).toNat = 32 - k by omega, List.getD_eq_getElem?_getD, hx]; rfl
    have e1 : (32 - (k : Int)).toNat = 32 - k := by omega
    have HX := Lib.hid hx; have HH := Lib.hid hh
    clear hx hh
    go_enter Tryz.func125, Tryz.ntmps125
    go_wp2_with (go_at_call 176; refine (refQuarter_any _).mono ?_; rintro e w1 ⟨⟨b, rfl, hc⟩, hb⟩; have hcx := hc.int HX.out; rw [Nat.zero_add] at hcx; have HC := Lib.hid hc; clear hc)
    go_ret
    exact ⟨by rw [HH.out]; rfl, hb⟩
set_option maxRecDepth 100000 in
theorem refTable_any (k : Nat) (w : World) (h : k < 64) :
    Calls Tryz.prog 125 #[.int .i64 k] w fun e w' => e = .returned (.int .i64 (tab k)) ∧ Below w.heap.size w w' := by
  by_cases h1 : k < 32
  · have e : tab k = half0 k := by simp only [tab]; rw [show (k : Int) % 64 = k by omega, if_pos (by omega)]
    rw [e]
    exact refTable_low k w h1
  · have e : tab k = -half0 ((k - 32 : Nat) : Int) := by simp only [tab]; rw [show (k : Int) % 64 = k by omega, if_neg (by omega), show (k : Int) - 32 = ((k - 32 : Nat) : Int) by omega]
    have hlow := fun w => refTable_low (k - 32) w (by omega)
    rw [← show (k : Int) - 32 = ((k - 32 : Nat) : Int) by omega] at hlow e
    have hb := half0_pos ((k : Int) - 32)
    generalize half0 ((k : Int) - 32) = y at *
    have HL := Lib.hid hlow; have HE := Lib.hid e
    clear hlow e
    go_enter Tryz.func125, Tryz.ntmps125
    go_wp2_with (go_at_call 125; refine (HL.out _).mono ?_; rintro e w1 ⟨rfl, hb1⟩)
    go_ret
    exact ⟨by rw [HE.out]; rfl, hb1⟩
end Go.Proofs.YtbjhjbjjfbmoeaaGreatDoor

/- Waves of the reference: wave, Wave, product, norm. -/
namespace Go.Proofs.YtbjhjbjjfbmoeaaGreatDoor
open Go.RowKit

theorem tab_mod (x : Nat) : tab ((x % 64 : Nat) : Int) = tab x := by
  unfold tab
  rw [show ((x % 64 : Nat) : Int) % 64 = (x : Int) % 64 by omega]
/-- the first k samples of a wave -/
theorem wav_take {L p q : Int} {k : Nat} (h : k < L.toNat) (hL : L ≤ 64) : ((wav L p q).take (k + 1)) = (wav L p q).take k ++ [tab (p.toNat * k + q.toNat * k * k : Nat)] := by
  have hk : (wav L p q)[k]? = some (tab (p.toNat * k + q.toNat * k * k : Nat)) := by
    unfold wav
    rw [smp_at _ _ _ _ (by omega), if_pos h]
  exact take_get hk

set_option maxRecDepth 100000 in
set_option maxHeartbeats 2000000 in
theorem refWaveL_any (L p q : Int) (w : World) (h : waveOK L p q = true) :
    Calls Tryz.prog 65 #[.int .i64 L, .agg #[.int .i64 p, .int .i64 q]] w fun e w' => (∃ b c, e = .returned (.slice b L.toNat c) ∧ Cells w' b (((wav L p q).take L.toNat).map (Value.int .i64))) ∧ Below w.heap.size w w' := by
  have hL := waveOK_true h
  obtain ⟨M, hM⟩ : ∃ M : Nat, L = (M : Int) := ⟨L.toNat, by omega⟩
  obtain ⟨P, hP⟩ : ∃ P : Nat, p = (P : Int) := ⟨p.toNat, by omega⟩
  obtain ⟨Q, hQ⟩ : ∃ Q : Nat, q = (Q : Int) := ⟨q.toNat, by omega⟩
  have hMt : L.toNat = M := by omega
  have hw : ∀ k, k < M → (wav L p q).take (k + 1) = (wav L p q).take k ++ [tab (P * k + Q * k * k : Nat)] := by
    intro k hk
    have := wav_take (p := p) (q := q) (show k < L.toNat by omega) (by omega)
    rwa [show p.toNat = P by omega, show q.toNat = Q by omega] at this
  rw [hMt]
  generalize wav L p q = xs at *
  have b0 : P ≤ 63 ∧ Q ≤ 63 ∧ M ≤ 64 ∧ 4 ≤ M := by omega
  subst hM; subst hP; subst hQ
  clear h hL hMt
  obtain ⟨b1, b2, b3, b4⟩ := b0
  obtain ⟨i0, hi, hz0, hz1, hz2⟩ := info_parts Tryz.infoInt
  have HW := Lib.hid hw; clear hw
  go_enter Tryz.func65, Tryz.ntmps65
  go_wp2
  go_loopw [5, 6] (fun v i wr => ∃ k : Nat, k ≤ M ∧ i = .int .i64 (k : Int) ∧ wr.ownsRow (w.heap.size + 1) 3 1 v k ((xs.take k).map (Value.int .i64)) ∧ Below (w.heap.size + 1) (w.alloc (.cells #[.int .i64 (P : Int), .int .i64 (Q : Int)] 23)) wr) (fun _ i _ => M - (intOf i).toNat)
  case atStart => exact ⟨0, Nat.zero_le _, rfl, World.ownsRow_nil _ _ _ _, Below.refl _ _⟩
  case round =>
    obtain ⟨k, hk, rfl, hown, hb⟩ := hrel
    have hc0 : wr.cell? ⟨w.heap.size, 0, none⟩ = some (.int .i64 (P : Int)) := box_keep hb (by simp) 0
    have hc1 : wr.cell? ⟨w.heap.size, 1, none⟩ = some (.int .i64 (Q : Int)) := box_keep hb (by simp) 1
    have hsz : w.heap.size + 1 ≤ wr.heap.size := by have := hb.size; simpa using this
    have hbw : Below w.heap.size w wr := ((Below.refl _ _).alloc (Nat.le_refl _) _).trans (hb.mono (by omega))
    by_cases hlt : k < M
    · have m1 : P * k ≤ 64 * 64 := Nat.mul_le_mul (by omega) (by omega)
      have m2 : Q * k ≤ 64 * 64 := Nat.mul_le_mul (by omega) (by omega)
      have m3 : Q * k * k ≤ 64 * 64 * 64 := Nat.mul_le_mul m2 (by omega)
      have c1 : 0 ≤ (P : Int) * k ∧ (P : Int) * k ≤ 4096 := by rw [← Int.natCast_mul]; omega
      have c2 : 0 ≤ (Q : Int) * k ∧ (Q : Int) * k ≤ 4096 := by rw [← Int.natCast_mul]; omega
      have c3 : 0 ≤ (Q : Int) * k * k ∧ (Q : Int) * k * k ≤ 262144 := by rw [← Int.natCast_mul, ← Int.natCast_mul]; omega
      have q1 : IntKind.i64.wrap ((P : Int) * k) = (P : Int) * k := IntWalk.i64_in _ (by omega)
      have q2 : IntKind.i64.wrap ((Q : Int) * k) = (Q : Int) * k := IntWalk.i64_in _ (by omega)
      have q3 : IntKind.i64.wrap ((Q : Int) * k * k) = (Q : Int) * k * k := IntWalk.i64_in _ (by omega)
      have q4 : IntKind.i64.wrap ((P : Int) * k + (Q : Int) * k * k) = (P : Int) * k + (Q : Int) * k * k := IntWalk.i64_in _ (by omega)
      obtain ⟨t, ht⟩ : ∃ t : Nat, t = (P * k + Q * k * k) % 64 := ⟨_, rfl⟩
      have q5 : ((P : Int) * k + (Q : Int) * k * k) % 64 = (t : Int) := by rw [ht]; push_cast; rfl
      have q6 : Int.tmod ((P : Int) * k + (Q : Int) * k * k) 64 = (t : Int) := by rw [Int.tmod_eq_emod_of_nonneg (by omega)]; exact q5
      have hy : tab (P * k + Q * k * k : Nat) = tab t := by rw [ht, tab_mod]
      have htb := fun w => refTable_any t w (by omega)
      have e1 : (xs.take (k + 1)).map (Value.int .i64) = (xs.take k).map (Value.int .i64) ++ [.int .i64 (tab t)] := by rw [HW.out k hlt, List.map_append, hy]; rfl
      have HT := Lib.hid htb; have E1 := Lib.hid e1
      have HOB : Hid (∀ j, u5.ownBlock = some j → w.heap.size + 1 ≤ j) := fun j e => (hown.lt j e).1
      clear htb e1 hy ht m1 m2 m3
      generalize tab t = y at *
      go_wp2_with (first
        | (go_at_call 125; refine (HT.out _).mono ?_; rintro e w1 ⟨rfl, hb1⟩)
        | (at_builtin; refine wpList_append_own _ rfl _ _ 24 rfl (w.heap.size + 1) 3 i0 (.int .i64 0) 1 8 Tryz.underlying24 hi hz0 hz1 hz2 rfl (by decide) _ _ _ rfl ((own_belowK hown hb1 (Nat.le_refl _)).alloc _) ⟨w1.heap.size, 0, none⟩ 1 1 [.int .i64 y] rfl rfl (news1 _ _ _) (by simp [Value.oneCell']) (by unfold maxLen; omega) (by omega) (by have := hb1.size; simp; omega) ?_; intro v1 wz hown1 hgrow _))
      have hfin := hown1
      rw [← E1.out] at hfin
      have hs1 := hb1.size
      have hbz := ((hb.trans (hb1.mono hsz)).alloc (by omega) (.cells #[.int .i64 y] 3)).grown hgrow (by simp; omega) HOB.out
      clear hown1 hgrow hown
      have HFIN := Lib.hid hfin; clear hfin
      go_roundw
      case rel => exact ⟨k + 1, by omega, by go_num, HFIN.out, hbz⟩
      case measure => simp [intOf]; omega
    · obtain rfl : k = M := by omega
      obtain ⟨g, c, rfl, hcs⟩ := own_cells hown
      have HCS := Lib.hid hcs; clear hcs hown
      go_wp2
      go_ret
      exact ⟨⟨g, c, rfl, HCS.out⟩, hbw⟩

set_option maxRecDepth 100000 in
theorem refWave_any (L p q : Int) (w : World) :
    Calls Tryz.prog 17 #[.int .i64 L, .agg #[.int .i64 p, .int .i64 q]] w fun e w' => (∃ b c, e = .returned (.tuple #[.slice b (wavR L p q).length c, .int .i64 (wavE L p q)]) ∧ Cells w' b ((wavR L p q).map (Value.int .i64))) ∧ Below w.heap.size w w' := by
  have hck := fun w => refCheckChirp_any L p q w
  cases h : waveOK L p q
  · have hE : wavE L p q = 70 := by simp [wavE, h]
    have hR : wavR L p q = [] := by simp [wavR, h]
    rw [hE] at hck ⊢
    rw [hR]
    have HC := Lib.hid hck; clear hck hE hR h
    go_enter Tryz.func17, Tryz.ntmps17
    go_wp2_with (go_at_call 19; refine (HC.out _).mono ?_; rintro e w1 ⟨rfl, hb1⟩)
    go_ret2
    exact ⟨⟨none, 0, rfl, Cells.nil _ _⟩, ((Below.refl _ _).alloc (Nat.le_refl _) _).trans (hb1.mono (by simp))⟩
  · have hE : wavE L p q = 0 := by simp [wavE, h]
    have hR : wavR L p q = (wav L p q).take L.toNat := by simp [wavR, h]
    have hwl : (wavR L p q).length = L.toNat := by rw [wavR_length, h]; rfl
    have hwv := fun w => refWaveL_any L p q w h
    rw [hE] at hck ⊢
    rw [hwl, hR]
    have HC := Lib.hid hck; have HW := Lib.hid hwv
    clear hck hE hR h hwl hwv
    generalize wav L p q = xs at *
    go_enter Tryz.func17, Tryz.ntmps17
    go_wp2_with fail
    refine (HC.out _).mono ?_
    rintro e w1 ⟨rfl, hb1⟩
    have y0 : w1.cell? ⟨w.heap.size, 0, none⟩ = some (.int .i64 p) := box_keep hb1 (by simp) 0
    have y1 : w1.cell? ⟨w.heap.size, 1, none⟩ = some (.int .i64 q) := box_keep hb1 (by simp) 1
    have g1 := ((Below.refl w.heap.size w).alloc (Nat.le_refl _) _).trans (hb1.mono (by simp))
    go_wp2_with fail
    refine (HW.out _).mono ?_
    rintro e w2 ⟨⟨b, c, rfl, hc⟩, hb2⟩
    have HCC := Lib.hid hc; clear hc y0 y1
    go_wp2
    go_ret2
    exact ⟨⟨b, c, rfl, HCC.out⟩, g1.trans (hb2.mono g1.size)⟩

set_option maxRecDepth 100000 in
set_option maxHeartbeats 2000000 in
theorem refNorm_any (xs : List Int) (L : Nat) (ao : Option Addr) (cap : Nat) (w : World) (hx : xs.length = 64) (hL : L ≤ 64) (h1 : ∀ x ∈ xs, -127 ≤ x ∧ x ≤ 127) (hc : Cells w ao ((xs.take L).map (Value.int .i64))) :
    Calls Tryz.prog 67 #[.slice ao L cap] w fun e w' => e = .returned (.int .i64 (sqTo xs 0 L)) ∧ Below w.heap.size w w' := by
  have hp : Calls Tryz.prog 85 #[.slice ao L cap, .slice ao L cap] w fun e w' => e = .returned (.int .i64 (sqTo xs 0 L)) ∧ Below w.heap.size w w' := by
    have HC := Lib.hid hc; have H1 := Lib.hid h1
    clear hc h1
    go_enter Tryz.func85, Tryz.ntmps85
    go_wp2
    go_loopw [5, 6] (fun s i wr => ∃ k : Nat, k ≤ L ∧ i = .int .i64 (k : Int) ∧ s = .int .i64 (sqTo xs 0 k) ∧ Below w.heap.size w wr) (fun _ i _ => L - (intOf i).toNat)
    case atStart => exact ⟨0, Nat.zero_le _, rfl, rfl, Below.refl _ _⟩
    case round =>
      obtain ⟨k, hk, rfl, rfl, hb⟩ := hrel
      by_cases hlt : k < L
      · obtain ⟨x, hxx⟩ := get_of_lt (show k < xs.length by omega)
        have hxt : (xs.take L)[k]? = some x := by rw [List.getElem?_take, if_pos hlt]; exact hxx
        obtain ⟨b, off, rfl⟩ := HC.out.addr (by intro h; rw [List.map_eq_nil_iff] at h; rw [h] at hxt; simp at hxt)
        have hcx := cell_keep (HC.out.int hxt) hb (Nat.le_refl _)
        have m1 := H1.out x (List.mem_of_getElem? hxx)
        have pd := ov_prod m1.1 m1.2 m1.1 m1.2
        have bs := sqTo_bd H1.out 0 k
        have e1 : sqTo xs 0 (k + 1) = sqTo xs 0 k + x * x := by simp [sqTo, hxx]
        have E1 := Lib.hid e1; clear e1 hxx hxt
        have q1 : IntKind.i64.wrap (x * x) = x * x := IntWalk.i64_in _ (by omega)
        have q2 : IntKind.i64.wrap (sqTo xs 0 k + x * x) = sqTo xs 0 k + x * x := IntWalk.i64_in _ (by omega)
        have i1 : (k : Int) < L := by omega
        have i2 : (0 : Int) ≤ k := by omega
        go_wp2
        go_quiet (fail)
        clear q1 q2
        go_wp2
        go_roundw
        case rel => exact ⟨k + 1, by omega, by go_num, by rw [E1.out], bel_drewN hb _⟩
        case measure => simp [intOf]; omega
      · obtain rfl : k = L := by omega
        go_wp2
        go_ret
        exact ⟨rfl, hb⟩
  have HP := Lib.hid hp; clear hp hc h1
  go_enter Tryz.func67, Tryz.ntmps67
  go_wp2_with (go_at_call 85; refine HP.out.mono ?_; rintro e w1 ⟨rfl, hb1⟩)
  go_ret
  exact ⟨rfl, hb1⟩
end Go.Proofs.YtbjhjbjjfbmoeaaGreatDoor

/- Norms and overlaps, of the program. -/
namespace Go.Proofs.YtbjhjbjjfbmoeaaGreatDoor
open Go.RowKit

/-- what Norm returns -/
def nrmV (L p q : Int) : Int := if waveOK L p q then ovl (wav L p q) (wav L p q) L 0 else 0
/-- what Overlap returns -/
def ovrE (L p q r s t : Int) : Int := if waveOK L p q && waveOK L r s then (if inB (1 - L) t (L - 1) then 0 else 8) else 70
def ovrV (L p q r s t : Int) : Int := if ovrE L p q r s t = 0 then ovl (wav L p q) (wav L r s) L t else 0

set_option maxRecDepth 100000 in
set_option maxHeartbeats 2000000 in
theorem Norm_any (L p q : Int) (w : World) :
    Calls Tryz.prog 21 #[.int .i64 L, .agg #[.int .i64 p, .int .i64 q]] w fun e w' => e = .returned (.tuple #[.int .i64 (nrmV L p q), .int .i64 (wavE L p q)]) ∧ Below w.heap.size w w' := by
  have hw := fun w => wave_any L p q w
  obtain ⟨Z, hZ⟩ : ∃ Z, Z = shp 0 (smp 0 0 0) := ⟨_, rfl⟩
  have z : Tryz.zeroCells101 = Z := by rw [hZ]; exact zero101
  have hZs : Z.size = 65 := by rw [hZ, shp_size, smp_length]
  have hst := store_shape (waveV L p q) Z (waveV_size L p q) hZs (waveV_one L p q)
  have hs1 := waveV_size L p q
  have hnn : waveOK L p q = true → ∀ w, Calls Tryz.prog 66 #[.agg (waveV L p q)] w fun e w' => e = .returned (.int .i64 (nrmV L p q)) ∧ Below w.heap.size w w' := by
    intro h w
    have hL := waveOK_true h
    have := norm_any L (wav L p q) w (wav_length _ _ _) (by omega) (by omega) (wav_bd _ _ _)
    have e1 : waveV L p q = shp L (wav L p q) := by simp [waveV, h]
    have e2 : nrmV L p q = ovl (wav L p q) (wav L p q) L 0 := by simp [nrmV, h]
    rw [e1, e2]; exact this
  have hE : wavE L p q = if waveOK L p q then 0 else 70 := rfl
  have hV0 : waveOK L p q = false → nrmV L p q = 0 := fun h => by simp [nrmV, h]
  generalize waveV L p q = V at *
  generalize nrmV L p q = N at *
  generalize wavE L p q = E at *
  have hne : ¬ V = #[] := by intro h; rw [h] at hs1; simp at hs1
  have hi : (Tryz.prog.info? 101).map (·.size) = some V.size := by rw [hs1]; kernel_rfl
  have HI := Lib.hid hi
  have HW := Lib.hid hw; clear hw hZ hi
  cases h : waveOK L p q
  · have HE : Hid (E = 70) := by rw [hE, h]; exact Lib.hid rfl
    have HV : Hid (N = 0) := Lib.hid (hV0 h)
    rw [h] at HW
    clear hE h hV0 hnn
    go_enter Tryz.func21, Tryz.ntmps21
    go_wp2_with (go_at_call 60; refine (HW.out _).mono ?_; rintro e w1 ⟨rfl, hb1⟩)
    have g1 := ((Below.refl w.heap.size w).alloc (Nat.le_refl _) _).trans (hb1.mono (by simp))
    go_ret2
    exact ⟨by rw [HE.out, HV.out]; rfl, g1.alloc g1.size _⟩
  · have HE : Hid (E = 0) := by rw [hE, h]; exact Lib.hid rfl
    have HN := Lib.hid (hnn h)
    rw [h] at HW
    clear hE h hV0 hnn
    go_enter Tryz.func21, Tryz.ntmps21
    go_wp2_with fail
    refine (HW.out _).mono ?_
    rintro e w1 ⟨rfl, hb1⟩
    have g1 := ((Below.refl w.heap.size w).alloc (Nat.le_refl _) _).trans (hb1.mono (by simp))
    have g2 : Below w.heap.size w (w1.alloc (.cells V 101)) := g1.alloc g1.size _
    go_wp2_with (first
      | (refine wpList_load_row (by rfl) 101 _ (by rfl) w1.heap.size (by rfl) _ V _ _ (heap_alloc_new _ _) Tryz.underlying101 (by rfl) HI.out ?_)
      | (go_at_call 66; refine (HN.out _).mono ?_; rintro e w2 ⟨rfl, hb2⟩))
    go_ret2
    exact ⟨by rw [HE.out]; rfl, g2.trans (hb2.mono g2.size)⟩

set_option maxRecDepth 100000 in
set_option maxHeartbeats 4000000 in
theorem Overlap_any (L p q r s t : Int) (w : World) :
    Calls Tryz.prog 23 #[.int .i64 L, .agg #[.int .i64 p, .int .i64 q], .agg #[.int .i64 r, .int .i64 s], .int .i64 t] w fun e w' => e = .returned (.tuple #[.int .i64 (ovrV L p q r s t), .int .i64 (ovrE L p q r s t)]) ∧ Below w.heap.size w w' := by
  obtain ⟨Z, hZ⟩ : ∃ Z, Z = shp 0 (smp 0 0 0) := ⟨_, rfl⟩
  have z : Tryz.zeroCells101 = Z := by rw [hZ]; exact zero101
  have hZs : Z.size = 65 := by rw [hZ, shp_size, smp_length]
  have hw1 := fun w => wave_any L p q w
  have hw2 := fun w => wave_any L r s w
  have hst1 := store_shape (waveV L p q) Z (waveV_size L p q) hZs (waveV_one L p q)
  have hst2 := store_shape (waveV L r s) Z (waveV_size L r s) hZs (waveV_one L r s)
  have hs1 := waveV_size L p q
  have hs2 := waveV_size L r s
  have hoo : waveOK L p q = true → waveOK L r s = true → inB (1 - L) t (L - 1) = true → ∀ w, Calls Tryz.prog 69 #[.agg (waveV L p q), .agg (waveV L r s), .int .i64 t] w fun e w' => e = .returned (.int .i64 (ovrV L p q r s t)) ∧ Below w.heap.size w w' := by
    intro h1 h2 h3 w
    have hL := waveOK_true h1
    have h3' : 1 - L ≤ t ∧ t ≤ L - 1 := by simpa [inB] using h3
    have := overlap_any L L (wav L p q) (wav L r s) t w (wav_length _ _ _) (wav_length _ _ _) (by omega) (by omega) (by omega) (by omega) (wav_bd _ _ _) (wav_bd _ _ _)
    have e1 : waveV L p q = shp L (wav L p q) := by simp [waveV, h1]
    have e2 : waveV L r s = shp L (wav L r s) := by simp [waveV, h2]
    have e3 : ovrE L p q r s t = 0 := by simp [ovrE, h1, h2, h3]
    have e4 : ovrV L p q r s t = ovl (wav L p q) (wav L r s) L t := by unfold ovrV; rw [if_pos e3]
    rw [e1, e2, e4]; exact this
  have hbd : waveOK L p q = true → 4 ≤ L ∧ L ≤ 64 := fun h => by have := waveOK_true h; omega
  have hE : ovrE L p q r s t = if waveOK L p q && waveOK L r s then (if inB (1 - L) t (L - 1) then 0 else 8) else 70 := rfl
  have hV0 : ovrE L p q r s t ≠ 0 → ovrV L p q r s t = 0 := fun h => by unfold ovrV; rw [if_neg h]
  generalize waveV L p q = V at *
  generalize waveV L r s = V2 at *
  generalize ovrV L p q r s t = O at *
  generalize ovrE L p q r s t = E at *
  have hne : ¬ V = #[] := by intro h; rw [h] at hs1; simp at hs1
  have hne2 : ¬ V2 = #[] := by intro h; rw [h] at hs2; simp at hs2
  have hi : (Tryz.prog.info? 101).map (·.size) = some V.size := by rw [hs1]; kernel_rfl
  have hi2 : (Tryz.prog.info? 101).map (·.size) = some V2.size := by rw [hs2]; kernel_rfl
  have HI := Lib.hid hi; have HI2 := Lib.hid hi2; clear hi hi2 hZ
  have HW1 := Lib.hid hw1; have HW2 := Lib.hid hw2; have HOO := Lib.hid hoo; have HBD := Lib.hid hbd
  clear hw1 hw2 hoo hbd
  have cB0 : ((w.alloc (.cells #[.int .i64 p, .int .i64 q] 23)).alloc (.cells #[.int .i64 r, .int .i64 s] 23)).cell? ⟨w.heap.size + 1, 0, none⟩ = some (.int .i64 r) := (cell_of_row _ _ 0 _ _ _ (heap_alloc2_new w _ _)).trans rfl
  have cB1 : ((w.alloc (.cells #[.int .i64 p, .int .i64 q] 23)).alloc (.cells #[.int .i64 r, .int .i64 s] 23)).cell? ⟨w.heap.size + 1, 1, none⟩ = some (.int .i64 s) := (cell_of_row _ _ 1 _ _ _ (heap_alloc2_new w _ _)).trans rfl
  cases h1 : waveOK L p q
  · have hE70 : E = 70 := by rw [hE]; simp only [h1]; rfl
    have HE : Hid (E = 70 ∧ O = 0) := Lib.hid ⟨hE70, hV0 (by rw [hE70]; decide)⟩
    clear hE70
    rw [h1] at HW1
    clear hE hV0 h1 HOO
    go_enter Tryz.func23, Tryz.ntmps23
    go_wp2_with fail
    refine (HW1.out _).mono ?_
    rintro e w1 ⟨rfl, hb1⟩
    have kk0 := cell_keep (cell_keep cB0 hb1 (Nat.le_refl _)) ((Below.refl _ w1).alloc (Nat.le_refl _) (.cells V 101)) (Nat.le_refl _)
    have kk1 := cell_keep (cell_keep cB1 hb1 (Nat.le_refl _)) ((Below.refl _ w1).alloc (Nat.le_refl _) (.cells V 101)) (Nat.le_refl _)
    have g1 : Below w.heap.size w w1 := (((Below.refl _ _).alloc (Nat.le_refl _) _).alloc (by simp) _).trans (hb1.mono (by simp; omega))
    go_wp2_with fail
    refine (HW2.out _).mono ?_
    rintro e w2 ⟨rfl, hb2⟩
    have g2 : Below w.heap.size w w2 := (g1.alloc g1.size _).trans (hb2.mono (by have := g1.size; simp; omega))
    clear kk0 kk1
    go_wp2
    go_ret2
    exact ⟨by rw [HE.out.1, HE.out.2]; rfl, g2.alloc g2.size _⟩
  cases h2 : waveOK L r s
  · have hE70 : E = 70 := by rw [hE]; simp only [h1, h2]; rfl
    have HE : Hid (E = 70 ∧ O = 0) := Lib.hid ⟨hE70, hV0 (by rw [hE70]; decide)⟩
    clear hE70
    rw [h1] at HW1
    rw [h2] at HW2
    clear hE hV0 h1 h2 HOO
    go_enter Tryz.func23, Tryz.ntmps23
    go_wp2_with fail
    refine (HW1.out _).mono ?_
    rintro e w1 ⟨rfl, hb1⟩
    have kk0 := cell_keep (cell_keep cB0 hb1 (Nat.le_refl _)) ((Below.refl _ w1).alloc (Nat.le_refl _) (.cells V 101)) (Nat.le_refl _)
    have kk1 := cell_keep (cell_keep cB1 hb1 (Nat.le_refl _)) ((Below.refl _ w1).alloc (Nat.le_refl _) (.cells V 101)) (Nat.le_refl _)
    have g1 : Below w.heap.size w w1 := (((Below.refl _ _).alloc (Nat.le_refl _) _).alloc (by simp) _).trans (hb1.mono (by simp; omega))
    go_wp2_with fail
    refine (HW2.out _).mono ?_
    rintro e w2 ⟨rfl, hb2⟩
    have g2 : Below w.heap.size w w2 := (g1.alloc g1.size _).trans (hb2.mono (by have := g1.size; simp; omega))
    clear kk0 kk1
    go_wp2
    go_ret2
    exact ⟨by rw [HE.out.1, HE.out.2]; rfl, g2.alloc g2.size _⟩
  obtain ⟨l1, l2⟩ := HBD.out h1
  rw [h1] at HW1
  rw [h2] at HW2
  cases h3 : inB (1 - L) t (L - 1)
  · have hE8 : E = 8 := by rw [hE]; simp only [h1, h2, h3]; rfl
    have HE : Hid (E = 8 ∧ O = 0) := Lib.hid ⟨hE8, hV0 (by rw [hE8]; decide)⟩
    clear hE8
    have hwi := fun w => bwithin_any t (1 - L) (L - 1) w
    rw [h3] at hwi
    have HWI := Lib.hid hwi
    clear hE hV0 h1 h2 h3 HOO hwi HBD
    go_enter Tryz.func23, Tryz.ntmps23
    go_wp2_with fail
    refine (HW1.out _).mono ?_
    rintro e w1 ⟨rfl, hb1⟩
    have kk0 := cell_keep (cell_keep cB0 hb1 (Nat.le_refl _)) ((Below.refl _ w1).alloc (Nat.le_refl _) (.cells V 101)) (Nat.le_refl _)
    have kk1 := cell_keep (cell_keep cB1 hb1 (Nat.le_refl _)) ((Below.refl _ w1).alloc (Nat.le_refl _) (.cells V 101)) (Nat.le_refl _)
    have g1 : Below w.heap.size w w1 := (((Below.refl _ _).alloc (Nat.le_refl _) _).alloc (by simp) _).trans (hb1.mono (by simp; omega))
    go_wp2_with fail
    refine (HW2.out _).mono ?_
    rintro e w2 ⟨rfl, hb2⟩
    have g2 : Below w.heap.size w w2 := (g1.alloc g1.size _).trans (hb2.mono (by have := g1.size; simp; omega))
    clear kk0 kk1
    go_wp2_with (go_at_call 68; refine (HWI.out _).mono ?_; rintro e w' ⟨rfl, rfl⟩)
    go_ret2
    exact ⟨by rw [HE.out.1, HE.out.2]; rfl, g2.alloc g2.size _⟩
  · have HE : Hid (E = 0) := by rw [hE]; simp only [h1, h2, h3]; exact Lib.hid rfl
    have hwi := fun w => bwithin_any t (1 - L) (L - 1) w
    rw [h3] at hwi
    have HWI := Lib.hid hwi
    have HOV := Lib.hid (HOO.out h1 h2 h3)
    clear hE hV0 h1 h2 h3 HOO hwi HBD
    go_enter Tryz.func23, Tryz.ntmps23
    go_wp2_with fail
    refine (HW1.out _).mono ?_
    rintro e w1 ⟨rfl, hb1⟩
    have kk0 := cell_keep (cell_keep cB0 hb1 (Nat.le_refl _)) ((Below.refl _ w1).alloc (Nat.le_refl _) (.cells V 101)) (Nat.le_refl _)
    have kk1 := cell_keep (cell_keep cB1 hb1 (Nat.le_refl _)) ((Below.refl _ w1).alloc (Nat.le_refl _) (.cells V 101)) (Nat.le_refl _)
    have g1 : Below w.heap.size w w1 := (((Below.refl _ _).alloc (Nat.le_refl _) _).alloc (by simp) _).trans (hb1.mono (by simp; omega))
    go_wp2_with fail
    refine (HW2.out _).mono ?_
    rintro e w2 ⟨rfl, hb2⟩
    have g2 : Below w.heap.size w w2 := (g1.alloc g1.size _).trans (hb2.mono (by have := g1.size; simp; omega))
    have g3 : Below w.heap.size w (w2.alloc (.cells V2 101)) := g2.alloc g2.size _
    have hs12 : w1.heap.size < w2.heap.size := by have := hb2.size; simp at this; omega
    have r1 : (w2.alloc (.cells V2 101)).heap[w1.heap.size]? = some (.cells V 101 (0, 0)) := (hold_old w2 _ _ hs12).trans ((hb2.block _ (by simp)).trans (heap_alloc_new _ _))
    have HR1 := Lib.hid r1; clear r1 kk0 kk1
    go_wp2_with (first
      | (go_at_call 68; refine (HWI.out _).mono ?_; rintro e w' ⟨rfl, rfl⟩)
      | (refine wpList_load_row (by rfl) 101 _ (by rfl) w1.heap.size (by rfl) _ V _ _ HR1.out Tryz.underlying101 (by rfl) HI.out ?_)
      | (refine wpList_load_row (by rfl) 101 _ (by rfl) w2.heap.size (by rfl) _ V2 _ _ (heap_alloc_new _ _) Tryz.underlying101 (by rfl) HI2.out ?_)
      | (go_at_call 69; refine (HOV.out _).mono ?_; rintro e w3 ⟨rfl, hb3⟩))
    go_ret2
    exact ⟨by rw [HE.out]; rfl, g3.trans (hb3.mono g3.size)⟩
end Go.Proofs.YtbjhjbjjfbmoeaaGreatDoor

/- Norms and overlaps, of the reference. -/
namespace Go.Proofs.YtbjhjbjjfbmoeaaGreatDoor
open Go.RowKit

/-- the reference's sum of products with a shift -/
def ovR (xs ys : List Int) (L : Nat) (s : Int) : Nat → Int
  | 0 => 0
  | n + 1 => ovR xs ys L s n + if inB 0 ((n : Int) + s) ((L : Int) - 1) then xs.getD n 0 * ys.getD ((n : Int) + s).toNat 0 else 0
theorem ovR_eq (xs ys : List Int) (L : Nat) (s : Int) (n : Nat) (h : n ≤ L) : ovR xs ys L s n = ovTo xs ys s (max 0 (-s)) (min (n : Int) (min (L : Int) (L - s)) - max 0 (-s)).toNat := by
  induction n with
  | zero => rw [show (min ((0 : Nat) : Int) (min (L : Int) (L - s)) - max 0 (-s)).toNat = 0 by omega]; rfl
  | succ n ih =>
    simp only [ovR]
    rw [ih (by omega)]
    by_cases hin : inB 0 ((n : Int) + s) ((L : Int) - 1) = true
    · rw [if_pos hin]
      have h2 : 0 ≤ (n : Int) + s ∧ (n : Int) + s ≤ (L : Int) - 1 := by simpa [inB] using hin
      obtain ⟨m, hm⟩ : ∃ m, m = (min (n : Int) (min (L : Int) (L - s)) - max 0 (-s)).toNat := ⟨_, rfl⟩
      rw [← hm, show (min ((n + 1 : Nat) : Int) (min (L : Int) (L - s)) - max 0 (-s)).toNat = m + 1 by omega]
      simp only [ovTo]
      rw [show (max 0 (-s) + (m : Int)).toNat = n by omega, show max 0 (-s) + (m : Int) + s = (n : Int) + s by omega]
    · rw [if_neg hin, Int.add_zero]
      have h2 : ¬ (0 ≤ (n : Int) + s ∧ (n : Int) + s ≤ (L : Int) - 1) := by simpa [inB] using hin
      congr 1
      omega
theorem ovR_full (xs ys : List Int) (L : Nat) (s : Int) : ovR xs ys L s L = ovl xs ys L s := by
  rw [ovR_eq _ _ _ _ _ (Nat.le_refl _)]
  unfold ovl
  congr 1
  omega
theorem ovR_bd {xs ys : List Int} (h1 : ∀ x ∈ xs, -127 ≤ x ∧ x ≤ 127) (h2 : ∀ x ∈ ys, -127 ≤ x ∧ x ≤ 127) (L : Nat) (s : Int) (n : Nat) : -(16129 * (n : Int)) ≤ ovR xs ys L s n ∧ ovR xs ys L s n ≤ 16129 * (n : Int) := by
  induction n with
  | zero => simp [ovR]
  | succ n ih =>
    have g1 := getD_in (by omega) h1 n
    have g2 := getD_in (by omega) h2 ((n : Int) + s).toNat
    have := ov_prod g1.1 g1.2 g2.1 g2.2
    simp only [ovR]
    split <;> omega

set_option maxRecDepth 100000 in
set_option maxHeartbeats 4000000 in
theorem refOverlapL_any (xs ys : List Int) (L : Nat) (s : Int) (ao : Option Addr) (ca : Nat) (bo : Option Addr) (cb : Nat) (w : World) (hx : xs.length = 64) (hy : ys.length = 64) (hL1 : 1 ≤ L) (hL : L ≤ 64) (hs1 : -1000 ≤ s) (hs2 : s ≤ 1000) (h1 : ∀ x ∈ xs, -127 ≤ x ∧ x ≤ 127) (h2 : ∀ x ∈ ys, -127 ≤ x ∧ x ≤ 127)
    (hc : Cells w ao ((xs.take L).map (Value.int .i64))) (hd : Cells w bo ((ys.take L).map (Value.int .i64))) :
    Calls Tryz.prog 71 #[.slice ao L ca, .slice bo L cb, .int .i64 s] w fun e w' => e = .returned (.int .i64 (ovl xs ys L s)) ∧ Below w.heap.size w w' := by
  have hf := ovR_full xs ys L s
  have HF := Lib.hid hf; have HC := Lib.hid hc; have HD := Lib.hid hd; have H1 := Lib.hid h1; have H2 := Lib.hid h2
  clear hf hc hd h1 h2
  go_enter Tryz.func71, Tryz.ntmps71
  go_wp2
  go_loopw [7, 8] (fun v i wr => ∃ k : Nat, k ≤ L ∧ i = .int .i64 (k : Int) ∧ v = .int .i64 (ovR xs ys L s k) ∧ Below w.heap.size w wr) (fun _ i _ => L - (intOf i).toNat)
  case atStart => exact ⟨0, Nat.zero_le _, rfl, rfl, Below.refl _ _⟩
  case round =>
    obtain ⟨k, hk, rfl, rfl, hb⟩ := hrel
    by_cases hlt : k < L
    · obtain ⟨x, hxx⟩ := get_of_lt (show k < xs.length by omega)
      have hxt : (xs.take L)[k]? = some x := by rw [List.getElem?_take, if_pos hlt]; exact hxx
      obtain ⟨b, off, rfl⟩ := HC.out.addr (by intro h; rw [List.map_eq_nil_iff] at h; rw [h] at hxt; simp at hxt)
      have hcx := cell_keep (HC.out.int hxt) hb (Nat.le_refl _)
      have bs := ovR_bd H1.out H2.out L s k
      have i1 : (k : Int) < L := by omega
      have i2 : (0 : Int) ≤ k := by omega
      have hin := fun w => rin_any ((k : Int) + s) 0 ((L : Int) - 1) w
      by_cases hi : inB 0 ((k : Int) + s) ((L : Int) - 1) = true
      · have h3 : 0 ≤ (k : Int) + s ∧ (k : Int) + s ≤ (L : Int) - 1 := by simpa [inB] using hi
        obtain ⟨m, hm⟩ : ∃ m : Nat, (k : Int) + s = (m : Int) := ⟨((k : Int) + s).toNat, by omega⟩
        obtain ⟨y, hyy⟩ := get_of_lt (show m < ys.length by omega)
        have hyt : (ys.take L)[m]? = some y := by rw [List.getElem?_take, if_pos (by omega)]; exact hyy
        obtain ⟨b2, off2, rfl⟩ := HD.out.addr (by intro h; rw [List.map_eq_nil_iff] at h; rw [h] at hyt; simp at hyt)
        have hcy := cell_keep (HD.out.int hyt) hb (Nat.le_refl _)
        have m1 := H1.out x (List.mem_of_getElem? hxx)
        have m2 := H2.out y (List.mem_of_getElem? hyy)
        have pd := ov_prod m1.1 m1.2 m2.1 m2.2
        have e1 : ovR xs ys L s (k + 1) = ovR xs ys L s k + x * y := by
          simp only [ovR]
          rw [if_pos hi, hm, Int.toNat_natCast, List.getD_eq_getElem?_getD, List.getD_eq_getElem?_getD, hxx, hyy]; rfl
        rw [hi] at hin
        have E1 := Lib.hid e1; have HIN := Lib.hid hin
        have q0 : IntKind.i64.wrap ((k : Int) + s) = (k : Int) + s := IntWalk.i64_in _ (by omega)
        have q1 : IntKind.i64.wrap (x * y) = x * y := IntWalk.i64_in _ (by omega)
        have q2 : IntKind.i64.wrap (ovR xs ys L s k + x * y) = ovR xs ys L s k + x * y := IntWalk.i64_in _ (by omega)
        have q3 : 0 ≤ (k : Int) + s := h3.1
        have q4 : (k : Int) + s < L := by omega
        have q5 : ((k : Int) + s).toNat = m := by omega
        clear e1 hin hxx hyy hxt hyt hi hm
        go_wp2_with (go_at_call 42; refine (HIN.out _).mono ?_; rintro e w' ⟨rfl, rfl⟩)
        go_quiet (fail)
        clear q0 q1 q2 q3 q4 q5
        go_wp2
        go_roundw
        case rel => exact ⟨k + 1, by omega, by go_num, by rw [E1.out], bel_drewN hb _⟩
        case measure => simp [intOf]; omega
      · have hi : inB 0 ((k : Int) + s) ((L : Int) - 1) = false := by simpa using hi
        have e1 : ovR xs ys L s (k + 1) = ovR xs ys L s k := by
          simp only [ovR]
          rw [hi]; simp
        rw [hi] at hin
        have E1 := Lib.hid e1; have HIN := Lib.hid hin
        clear e1 hin hxx hxt hi
        go_wp2_with (go_at_call 42; refine (HIN.out _).mono ?_; rintro e w' ⟨rfl, rfl⟩)
        go_roundw
        case rel => exact ⟨k + 1, by omega, by go_num, by rw [E1.out], hb⟩
        case measure => simp [intOf]; omega
    · obtain rfl : k = L := by omega
      rw [HF.out]
      go_wp2
      go_ret
      exact ⟨rfl, hb⟩

set_option maxRecDepth 100000 in
theorem refNormF_any (L p q : Int) (w : World) :
    Calls Tryz.prog 22 #[.int .i64 L, .agg #[.int .i64 p, .int .i64 q]] w fun e w' => e = .returned (.tuple #[.int .i64 (nrmV L p q), .int .i64 (wavE L p q)]) ∧ Below w.heap.size w w' := by
  have hck := fun w => refCheckChirp_any L p q w
  cases h : waveOK L p q
  · have hE : wavE L p q = 70 := by simp [wavE, h]
    have hR : nrmV L p q = 0 := by simp [nrmV, h]
    rw [hE] at hck ⊢
    rw [hR]
    have HC := Lib.hid hck; clear hck hE hR h
    go_enter Tryz.func22, Tryz.ntmps22
    go_wp2_with (go_at_call 19; refine (HC.out _).mono ?_; rintro e w1 ⟨rfl, hb1⟩)
    go_ret2
    exact ⟨rfl, ((Below.refl _ _).alloc (Nat.le_refl _) _).trans (hb1.mono (by simp))⟩
  · have hE : wavE L p q = 0 := by simp [wavE, h]
    have hL := waveOK_true h
    have hR : nrmV L p q = sqTo (wav L p q) 0 L.toNat := by
      simp only [nrmV, h, if_true]
      have := ovl_sqTo (wav L p q) L.toNat
      rwa [show ((L.toNat : Nat) : Int) = L by omega] at this
    have hwv := fun w => refWaveL_any L p q w h
    have hnm := fun ao cap wx hc => refNorm_any (wav L p q) L.toNat ao cap wx (wav_length _ _ _) (by omega) (wav_bd _ _ _) hc
    rw [hE] at hck ⊢
    rw [hR]
    have HC := Lib.hid hck; have HW := Lib.hid hwv; have HN := Lib.hid hnm
    clear hck hE hR h hwv hnm
    generalize wav L p q = xs at *
    go_enter Tryz.func22, Tryz.ntmps22
    go_wp2_with fail
    refine (HC.out _).mono ?_
    rintro e w1 ⟨rfl, hb1⟩
    have y0 : w1.cell? ⟨w.heap.size, 0, none⟩ = some (.int .i64 p) := box_keep hb1 (by simp) 0
    have y1 : w1.cell? ⟨w.heap.size, 1, none⟩ = some (.int .i64 q) := box_keep hb1 (by simp) 1
    have g1 := ((Below.refl w.heap.size w).alloc (Nat.le_refl _) _).trans (hb1.mono (by simp))
    go_wp2_with fail
    refine (HW.out _).mono ?_
    rintro e w2 ⟨⟨b, c, rfl, hc⟩, hb2⟩
    have HCC := Lib.hid hc; clear hc y0 y1
    have g2 := g1.trans (hb2.mono g1.size)
    go_wp2_with fail
    refine (HN.out _ _ _ HCC.out).mono ?_
    rintro e w3 ⟨rfl, hb3⟩
    go_wp2
    go_ret2
    exact ⟨rfl, g2.trans (hb3.mono g2.size)⟩

/-- the error of two chirps -/
def bothE (L p q r s : Int) : Int := if waveOK L p q && waveOK L r s then 0 else 70
theorem refBoth_any (L p q r s : Int) (w : World) :
    Calls Tryz.prog 70 #[.int .i64 L, .agg #[.int .i64 p, .int .i64 q], .agg #[.int .i64 r, .int .i64 s]] w fun e w' => e = .returned (.int .i64 (bothE L p q r s)) ∧ Below w.heap.size w w' := by
  have h1 := fun w => refCheckChirp_any L p q w
  have h2 := fun w => refCheckChirp_any L r s w
  have cB0 : ((w.alloc (.cells #[.int .i64 p, .int .i64 q] 23)).alloc (.cells #[.int .i64 r, .int .i64 s] 23)).cell? ⟨w.heap.size + 1, 0, none⟩ = some (.int .i64 r) := (cell_of_row _ _ 0 _ _ _ (heap_alloc2_new w _ _)).trans rfl
  have cB1 : ((w.alloc (.cells #[.int .i64 p, .int .i64 q] 23)).alloc (.cells #[.int .i64 r, .int .i64 s] 23)).cell? ⟨w.heap.size + 1, 1, none⟩ = some (.int .i64 s) := (cell_of_row _ _ 1 _ _ _ (heap_alloc2_new w _ _)).trans rfl
  cases g1 : waveOK L p q
  · have hE : bothE L p q r s = 70 := by simp [bothE, g1]
    rw [show wavE L p q = 70 by simp [wavE, g1]] at h1
    rw [hE]
    have H1 := Lib.hid h1
    clear h1 h2 hE g1
    go_enter Tryz.func70, Tryz.ntmps70
    go_wp2_with (go_at_call 19; refine (H1.out _).mono ?_; rintro e w1 ⟨rfl, hb1⟩)
    go_ret
    exact ⟨rfl, (((Below.refl _ _).alloc (Nat.le_refl _) _).alloc (by simp) _).trans (hb1.mono (by simp; omega))⟩
  · have hE : bothE L p q r s = wavE L r s := by simp [bothE, wavE, g1]
    rw [show wavE L p q = 0 by simp [wavE, g1]] at h1
    rw [hE]
    generalize wavE L r s = E at *
    have H1 := Lib.hid h1; have H2 := Lib.hid h2
    clear h1 h2 hE g1
    go_enter Tryz.func70, Tryz.ntmps70
    go_wp2_with fail
    refine (H1.out _).mono ?_
    rintro e w1 ⟨rfl, hb1⟩
    have kk0 := cell_keep cB0 hb1 (Nat.le_refl _)
    have kk1 := cell_keep cB1 hb1 (Nat.le_refl _)
    have g1 : Below w.heap.size w w1 := (((Below.refl _ _).alloc (Nat.le_refl _) _).alloc (by simp) _).trans (hb1.mono (by simp; omega))
    go_wp2_with fail
    refine (H2.out _).mono ?_
    rintro e w2 ⟨rfl, hb2⟩
    clear kk0 kk1
    go_wp2
    go_ret
    exact ⟨rfl, g1.trans (hb2.mono g1.size)⟩
end Go.Proofs.YtbjhjbjjfbmoeaaGreatDoor

/- Overlap, of the reference. -/
namespace Go.Proofs.YtbjhjbjjfbmoeaaGreatDoor
open Go.RowKit

set_option maxRecDepth 100000 in
set_option maxHeartbeats 4000000 in
theorem refOverlap_any (L p q r s t : Int) (w : World) :
    Calls Tryz.prog 24 #[.int .i64 L, .agg #[.int .i64 p, .int .i64 q], .agg #[.int .i64 r, .int .i64 s], .int .i64 t] w fun e w' => e = .returned (.tuple #[.int .i64 (ovrV L p q r s t), .int .i64 (ovrE L p q r s t)]) ∧ Below w.heap.size w w' := by
  have hbo := fun w => refBoth_any L p q r s w
  have cB0 : ((w.alloc (.cells #[.int .i64 p, .int .i64 q] 23)).alloc (.cells #[.int .i64 r, .int .i64 s] 23)).cell? ⟨w.heap.size + 1, 0, none⟩ = some (.int .i64 r) := (cell_of_row _ _ 0 _ _ _ (heap_alloc2_new w _ _)).trans rfl
  have cB1 : ((w.alloc (.cells #[.int .i64 p, .int .i64 q] 23)).alloc (.cells #[.int .i64 r, .int .i64 s] 23)).cell? ⟨w.heap.size + 1, 1, none⟩ = some (.int .i64 s) := (cell_of_row _ _ 1 _ _ _ (heap_alloc2_new w _ _)).trans rfl
  have cA0 : ((w.alloc (.cells #[.int .i64 p, .int .i64 q] 23)).alloc (.cells #[.int .i64 r, .int .i64 s] 23)).cell? ⟨w.heap.size, 0, none⟩ = some (.int .i64 p) := (cell_of_row _ _ 0 _ _ _ ((hold_old _ _ _ (by simp)).trans (heap_alloc_new w _))).trans rfl
  have cA1 : ((w.alloc (.cells #[.int .i64 p, .int .i64 q] 23)).alloc (.cells #[.int .i64 r, .int .i64 s] 23)).cell? ⟨w.heap.size, 1, none⟩ = some (.int .i64 q) := (cell_of_row _ _ 1 _ _ _ ((hold_old _ _ _ (by simp)).trans (heap_alloc_new w _))).trans rfl
  by_cases hok : (waveOK L p q && waveOK L r s) = true
  · have hE0 : bothE L p q r s = 0 := by simp only [bothE, hok, if_true]
    rw [hE0] at hbo
    have hok2 : waveOK L p q = true ∧ waveOK L r s = true := by simpa using hok
    have hL := waveOK_true hok2.1
    have l1 : 4 ≤ L := by omega
    have l2 : L ≤ 64 := by omega
    have hin := fun w => rin_any t (-(L - 1)) (L - 1) w
    rw [show -(L - 1) = 1 - L by omega] at hin
    cases h3 : inB (1 - L) t (L - 1)
    · have hE : ovrE L p q r s t = 8 := by simp only [ovrE, hok, h3, if_true]; rfl
      have hV : ovrV L p q r s t = 0 := by unfold ovrV; rw [if_neg (by rw [hE]; decide)]
      rw [h3] at hin
      rw [hE, hV]
      have HB := Lib.hid hbo; have HIN := Lib.hid hin
      clear hbo hin hE hV h3 hok hok2 hL hE0
      go_enter Tryz.func24, Tryz.ntmps24
      go_wp2_with fail
      refine (HB.out _).mono ?_
      rintro e w1 ⟨rfl, hb1⟩
      have g1 : Below w.heap.size w w1 := (((Below.refl _ _).alloc (Nat.le_refl _) _).alloc (by simp) _).trans (hb1.mono (by simp; omega))
      have e1 : -(L - 1) = 1 - L := by omega
      go_wp2_with (go_at_call 42; (try rw [e1]); refine (HIN.out _).mono ?_; rintro e w' ⟨rfl, rfl⟩)
      go_ret2
      exact ⟨rfl, g1⟩
    · have hE : ovrE L p q r s t = 0 := by simp only [ovrE, hok, h3, if_true]
      have hV : ovrV L p q r s t = ovl (wav L p q) (wav L r s) L t := by unfold ovrV; rw [if_pos hE]
      have h3' : 1 - L ≤ t ∧ t ≤ L - 1 := by simpa [inB] using h3
      have hw1 := fun w => refWaveL_any L p q w hok2.1
      have hw2 := fun w => refWaveL_any L r s w hok2.2
      have hov := fun ao ca bo cb W h1 h2 => refOverlapL_any (wav L p q) (wav L r s) L.toNat t ao ca bo cb W (wav_length _ _ _) (wav_length _ _ _) (by omega) (by omega) (by omega) (by omega) (wav_bd _ _ _) (wav_bd _ _ _) h1 h2
      rw [show ((L.toNat : Nat) : Int) = L by omega] at hov
      rw [h3] at hin
      rw [hE, hV]
      generalize wav L p q = xs at *
      generalize wav L r s = ys at *
      generalize ovl xs ys L t = V at *
      generalize L.toNat = N at *
      have HB := Lib.hid hbo; have HIN := Lib.hid hin
      have HW1 := Lib.hid hw1; have HW2 := Lib.hid hw2; have HOV := Lib.hid hov
      clear hbo hin hE hV h3 hok hok2 hL hE0 h3' hw1 hw2 hov
      go_enter Tryz.func24, Tryz.ntmps24
      go_wp2_with fail
      refine (HB.out _).mono ?_
      rintro e w1 ⟨rfl, hb1⟩
      have g1 : Below w.heap.size w w1 := (((Below.refl _ _).alloc (Nat.le_refl _) _).alloc (by simp) _).trans (hb1.mono (by simp; omega))
      have e1 : -(L - 1) = 1 - L := by omega
      have x0 := cell_keep cA0 hb1 (Nat.le_refl _)
      have x1 := cell_keep cA1 hb1 (Nat.le_refl _)
      have y0 := cell_keep cB0 hb1 (Nat.le_refl _)
      have y1 := cell_keep cB1 hb1 (Nat.le_refl _)
      have xd0 : w1.drew.cell? ⟨w.heap.size, 0, none⟩ = some (.int .i64 p) := x0
      have xd1 : w1.drew.cell? ⟨w.heap.size, 1, none⟩ = some (.int .i64 q) := x1
      have yd0 : w1.drew.cell? ⟨w.heap.size + 1, 0, none⟩ = some (.int .i64 r) := y0
      have yd1 : w1.drew.cell? ⟨w.heap.size + 1, 1, none⟩ = some (.int .i64 s) := y1
      clear cA0 cA1 cB0 cB1 hb1
      go_wp2_with (go_at_call 42; (try rw [e1]); refine (HIN.out _).mono ?_; rintro e w' ⟨rfl, rfl⟩)
      clear e1
      go_region_held3 (fun w' => w'.cell? ⟨w.heap.size, 0, none⟩ = some (.int .i64 p) ∧ w'.cell? ⟨w.heap.size, 1, none⟩ = some (.int .i64 q) ∧ w'.cell? ⟨w.heap.size + 1, 0, none⟩ = some (.int .i64 r) ∧ w'.cell? ⟨w.heap.size + 1, 1, none⟩ = some (.int .i64 s))
        (first | with_reducible exact ⟨x0, x1, y0, y1⟩ | with_reducible exact ⟨xd0, xd1, yd0, yd1⟩ | with_reducible exact ⟨sx0, sx1, sy0, sy1⟩ | with_reducible exact ⟨rx0, rx1, ry0, ry1⟩ | with_reducible exact ⟨px0, px1, py0, py1⟩ | go_keep)
        (first
          | (go_at_call 65; (with_reducible refine Calls.mono (HW1.out w1.drew) ?_); rintro e w2 ⟨⟨ba, ca, rfl, hca⟩, hb2⟩; have HA := Lib.hid hca; have hbz : Below w1.heap.size w1 w2 := ((Below.refl w1.heap.size w1).drew).trans hb2; have HB2 := Lib.hid hbz; have px0 := cell_keep x0 hbz (Nat.le_refl _); have px1 := cell_keep x1 hbz (Nat.le_refl _); have py0 := cell_keep y0 hbz (Nat.le_refl _); have py1 := cell_keep y1 hbz (Nat.le_refl _); clear hca hb2 hbz)
          | (go_at_call 65; (with_reducible refine Calls.mono (HW2.out w1.drew) ?_); rintro e w2 ⟨⟨bb, cb, rfl, hcb⟩, hb2⟩; have HBB := Lib.hid hcb; have hbz : Below w1.heap.size w1 w2 := ((Below.refl w1.heap.size w1).drew).trans hb2; have HB2 := Lib.hid hbz; have px0 := cell_keep x0 hbz (Nat.le_refl _); have px1 := cell_keep x1 hbz (Nat.le_refl _); have py0 := cell_keep y0 hbz (Nat.le_refl _); have py1 := cell_keep y1 hbz (Nat.le_refl _); clear hcb hb2 hbz)
          | (go_at_call 65; (with_reducible refine Calls.mono (HW1.out w2) ?_); rintro e w3 ⟨⟨ba, ca, rfl, hca⟩, hb3⟩; have HA := Lib.hid hca; have HBB3 := Lib.hid (HBB.out.below hb3 (Nat.le_refl _)); have hbz : Below w1.heap.size w1 w3 := HB2.out.trans (hb3.mono HB2.out.size); have HB3 := Lib.hid hbz; have rx0 := cell_keep x0 hbz (Nat.le_refl _); have rx1 := cell_keep x1 hbz (Nat.le_refl _); have ry0 := cell_keep y0 hbz (Nat.le_refl _); have ry1 := cell_keep y1 hbz (Nat.le_refl _); clear hca hb3 hbz)
          | (go_at_call 65; (with_reducible refine Calls.mono (HW2.out w2) ?_); rintro e w3 ⟨⟨bb, cb, rfl, hcb⟩, hb3⟩; have HBB3 := Lib.hid hcb; have HA3 := Lib.hid (HA.out.below hb3 (Nat.le_refl _)); have hbz : Below w1.heap.size w1 w3 := HB2.out.trans (hb3.mono HB2.out.size); have HB3 := Lib.hid hbz; have rx0 := cell_keep x0 hbz (Nat.le_refl _); have rx1 := cell_keep x1 hbz (Nat.le_refl _); have ry0 := cell_keep y0 hbz (Nat.le_refl _); have ry1 := cell_keep y1 hbz (Nat.le_refl _); clear hcb hb3 hbz)
          | (go_at_call 71; (with_reducible refine Calls.mono (HOV.out _ _ _ _ w3 HA3.out HBB3.out) ?_); rintro e w4 ⟨rfl, hb4⟩; have hbz : Below w1.heap.size w1 w4 := HB3.out.trans (hb4.mono HB3.out.size); have HB4 := Lib.hid hbz; have sx0 := cell_keep x0 hbz (Nat.le_refl _); have sx1 := cell_keep x1 hbz (Nat.le_refl _); have sy0 := cell_keep y0 hbz (Nat.le_refl _); have sy1 := cell_keep y1 hbz (Nat.le_refl _); clear hb4 hbz)
          | (go_at_call 71; (with_reducible refine Calls.mono (HOV.out _ _ _ _ w3 HA.out HBB3.out) ?_); rintro e w4 ⟨rfl, hb4⟩; have hbz : Below w1.heap.size w1 w4 := HB3.out.trans (hb4.mono HB3.out.size); have HB4 := Lib.hid hbz; have sx0 := cell_keep x0 hbz (Nat.le_refl _); have sx1 := cell_keep x1 hbz (Nat.le_refl _); have sy0 := cell_keep y0 hbz (Nat.le_refl _); have sy1 := cell_keep y1 hbz (Nat.le_refl _); clear hb4 hbz))
      all_goals
        go_wp2
        go_ret2
        exact ⟨rfl, g1.trans (HB4.out.mono g1.size)⟩
  · have hok' : (waveOK L p q && waveOK L r s) = false := by simpa using hok
    have hE : ovrE L p q r s t = 70 := by simp [ovrE, hok']
    have hV : ovrV L p q r s t = 0 := by unfold ovrV; rw [if_neg (by rw [hE]; decide)]
    have hE0 : bothE L p q r s = 70 := by simp [bothE, hok']
    rw [hE0] at hbo
    rw [hE, hV]
    have HB := Lib.hid hbo
    clear hbo hE hV hE0 hok hok' cA0 cA1 cB0 cB1
    go_enter Tryz.func24, Tryz.ntmps24
    go_wp2_with (go_at_call 70; refine (HB.out _).mono ?_; rintro e w1 ⟨rfl, hb1⟩)
    go_ret2
    exact ⟨rfl, (((Below.refl _ _).alloc (Nat.le_refl _) _).alloc (by simp) _).trans (hb1.mono (by simp; omega))⟩
end Go.Proofs.YtbjhjbjjfbmoeaaGreatDoor

/- Digits of natural numbers to the base 10^4, the least one first: plain facts. -/
namespace Go.Proofs.YtbjhjbjjfbmoeaaGreatDoor.Z4
def B : Nat := 10000

def val : List Nat → Nat
  | [] => 0
  | d :: ds => d + B * val ds

def dig (n : Nat) : List Nat := if n = 0 then [] else n % B :: dig (n / B)
termination_by n
decreasing_by exact Nat.div_lt_self (Nat.pos_of_ne_zero ‹_›) (by decide)

theorem B_pos : 0 < B := by decide
theorem dig_zero : dig 0 = [] := by rw [dig]; simp
theorem dig_pos {n : Nat} (h : n ≠ 0) : dig n = n % B :: dig (n / B) := by rw [dig]; simp [h]

theorem val_dig (n : Nat) : val (dig n) = n := by
  induction n using Nat.strongRecOn with
  | _ n ih =>
    by_cases h : n = 0
    · subst h; simp [dig_zero, val]
    · rw [dig_pos h, val, ih _ (Nat.div_lt_self (Nat.pos_of_ne_zero h) (by decide))]
      exact Nat.mod_add_div n B

def Sm (xs : List Nat) : Prop := ∀ d ∈ xs, d < B

theorem sm_dig (n : Nat) : Sm (dig n) := by
  induction n using Nat.strongRecOn with
  | _ n ih =>
    by_cases h : n = 0
    · subst h; simp [dig_zero, Sm]
    · rw [dig_pos h]
      intro d hd
      rcases List.mem_cons.1 hd with rfl | hd
      · exact Nat.mod_lt _ B_pos
      · exact ih _ (Nat.div_lt_self (Nat.pos_of_ne_zero h) (by decide)) d hd

theorem val_nil : val [] = 0 := rfl
theorem val_cons (d : Nat) (ds : List Nat) : val (d :: ds) = d + B * val ds := rfl

theorem val_append (xs ys : List Nat) : val (xs ++ ys) = val xs + B ^ xs.length * val ys := by
  induction xs with
  | nil => simp [val]
  | cons d ds ih => simp only [List.cons_append, val_cons, ih, List.length_cons, Nat.pow_succ]; rw [Nat.mul_add, Nat.add_assoc, Nat.mul_comm (B ^ ds.length) B, Nat.mul_assoc]

theorem val_snoc (xs : List Nat) (d : Nat) : val (xs ++ [d]) = val xs + B ^ xs.length * d := by
  rw [val_append]; simp [val]

theorem val_lt {xs : List Nat} (h : Sm xs) : val xs < B ^ xs.length := by
  induction xs with
  | nil => simp [val]
  | cons d ds ih =>
    have h1 : d < B := h d (by simp)
    have h2 := ih (fun x hx => h x (by simp [hx]))
    simp only [val_cons, List.length_cons, Nat.pow_succ]
    have : B * (val ds + 1) ≤ B * B ^ ds.length := Nat.mul_le_mul_left _ h2
    rw [Nat.mul_add, Nat.mul_one] at this
    rw [Nat.mul_comm (B ^ ds.length) B]; omega

/-- digits without zeros at the end -/
def Lean_ (xs : List Nat) : Prop := Sm xs ∧ xs.getLast? ≠ some 0

theorem val_eq_zero {xs : List Nat} : val xs = 0 ↔ ∀ d ∈ xs, d = 0 := by
  induction xs with
  | nil => simp [val]
  | cons d ds ih =>
    simp only [val_cons, List.mem_cons, forall_eq_or_imp, ← ih]
    constructor
    · intro h
      have h1 : d = 0 := by omega
      have h2 : B * val ds = 0 := by omega
      refine ⟨h1, ?_⟩
      rcases Nat.mul_eq_zero.1 h2 with h | h
      · exact absurd h (by decide)
      · exact h
    · rintro ⟨rfl, h⟩; simp [h]

theorem dig_val {xs : List Nat} (h : Sm xs) (hl : xs.getLast? ≠ some 0) : dig (val xs) = xs := by
  induction xs with
  | nil => simp [val, dig_zero]
  | cons d ds ih =>
    have h1 : d < B := h d (by simp)
    have hs : Sm ds := fun x hx => h x (by simp [hx])
    have hne : val (d :: ds) ≠ 0 := by
      intro h0
      have h0' := val_eq_zero.1 h0
      have : ((d :: ds).getLast (by simp)) = 0 := h0' _ (List.getLast_mem _)
      exact hl (by rw [List.getLast?_eq_some_getLast (by simp), this])
    rw [dig_pos hne, val_cons]
    have e1 : (d + B * val ds) % B = d := by rw [Nat.add_mul_mod_self_left, Nat.mod_eq_of_lt h1]
    have e2 : (d + B * val ds) / B = val ds := by rw [Nat.add_mul_div_left _ _ B_pos, Nat.div_eq_of_lt h1, Nat.zero_add]
    rw [e1, e2, ih hs]
    cases ds with
    | nil => simp
    | cons x xs => simpa [List.getLast?_cons_cons] using hl

theorem last_dig (n : Nat) : (dig n).getLast? ≠ some 0 := by
  induction n using Nat.strongRecOn with
  | _ n ih =>
    by_cases h : n = 0
    · subst h; simp [dig_zero]
    · rw [dig_pos h]
      have := ih (n / B) (Nat.div_lt_self (Nat.pos_of_ne_zero h) (by decide))
      by_cases h2 : n / B = 0
      · rw [h2, dig_zero]; simp
        have h3 : n < B := by
          rcases Nat.div_eq_zero_iff.1 h2 with h | h
          · exact absurd h (by decide)
          · exact h
        rw [Nat.mod_eq_of_lt h3]; exact h
      · rw [dig_pos h2] at this ⊢
        simpa [List.getLast?_cons_cons] using this

theorem dig_len_pos {n : Nat} : (dig n).length = 0 ↔ n = 0 := by
  by_cases h : n = 0
  · subst h; simp [dig_zero]
  · rw [dig_pos h]; simp [h]

theorem dig_small {n : Nat} (h : n < B) (h0 : n ≠ 0) : dig n = [n] := by
  rw [dig_pos h0, Nat.mod_eq_of_lt h, Nat.div_eq_of_lt h, dig_zero]

theorem lt_pow_len (n : Nat) : n < B ^ (dig n).length := by
  have := val_lt (sm_dig n); rwa [val_dig] at this

theorem pow_len_le {n : Nat} (h : n ≠ 0) : B ^ ((dig n).length - 1) ≤ n := by
  induction n using Nat.strongRecOn with
  | _ n ih =>
    rw [dig_pos h]
    by_cases h2 : n / B = 0
    · rw [h2, dig_zero]; simp; omega
    · have := ih _ (Nat.div_lt_self (Nat.pos_of_ne_zero h) (by decide)) h2
      have hl : (dig (n / B)).length ≠ 0 := by rw [Ne, dig_len_pos]; exact h2
      simp only [List.length_cons, Nat.add_sub_cancel]
      obtain ⟨k, hk⟩ : ∃ k, (dig (n / B)).length = k + 1 := ⟨(dig (n/B)).length - 1, by omega⟩
      rw [hk, Nat.add_sub_cancel] at this
      rw [hk, Nat.pow_succ]
      calc B ^ k * B ≤ n / B * B := Nat.mul_le_mul_right _ this
        _ ≤ n := Nat.div_mul_le_self n B

/-- lengths tell the order -/
theorem lt_of_len {m n : Nat} (h : (dig m).length < (dig n).length) : m < n := by
  have hn : n ≠ 0 := by rintro rfl; simp [dig_zero] at h
  have h1 := lt_pow_len m
  have h2 := pow_len_le hn
  have h3 : B ^ (dig m).length ≤ B ^ ((dig n).length - 1) := Nat.pow_le_pow_right B_pos (by omega)
  omega

theorem dig_len_mono {m n : Nat} (h : m ≤ n) : (dig m).length ≤ (dig n).length := by
  apply Nat.le_of_not_lt
  intro hc
  have := lt_of_len hc
  omega
end Go.Proofs.YtbjhjbjjfbmoeaaGreatDoor.Z4

/- Digits: order, quotients. -/
namespace Go.Proofs.YtbjhjbjjfbmoeaaGreatDoor.Z4

theorem val_split {l : List Nat} {j x : Nat} (hx : l[j]? = some x) : val l = val (l.take j) + B ^ j * (x + B * val (l.drop (j + 1))) := by
  have hj : j < l.length := (List.getElem?_eq_some_iff.1 hx).1
  have h1 : l = l.take j ++ (x :: l.drop (j + 1)) := by
    have := (List.take_append_drop j l).symm
    rw [List.drop_eq_getElem_cons hj, (List.getElem?_eq_some_iff.1 hx).2] at this
    exact this
  have h2 := congrArg val h1
  rw [val_append, val_cons, List.length_take, Nat.min_eq_left (by omega)] at h2
  exact h2

theorem cmp_digit {l1 l2 : List Nat} (h1 : Sm l1) {j x y : Nat} (hx : l1[j]? = some x) (hy : l2[j]? = some y) (hd : l1.drop (j + 1) = l2.drop (j + 1)) (hlt : x < y) : val l1 < val l2 := by
  rw [val_split hx, val_split hy, hd]
  have hj : j < l1.length := (List.getElem?_eq_some_iff.1 hx).1
  have h3 : val (l1.take j) < B ^ j := by
    have := val_lt (xs := l1.take j) (fun d hd => h1 d (List.mem_of_mem_take hd))
    rwa [List.length_take, Nat.min_eq_left (by omega)] at this
  have h4 : B ^ j * (x + 1 + B * val (l2.drop (j + 1))) ≤ B ^ j * (y + B * val (l2.drop (j + 1))) := Nat.mul_le_mul_left _ (by omega)
  have h5 : B ^ j * (x + 1 + B * val (l2.drop (j + 1))) = B ^ j * (x + B * val (l2.drop (j + 1))) + B ^ j := by
    rw [show x + 1 + B * val (l2.drop (j + 1)) = (x + B * val (l2.drop (j + 1))) + 1 from by omega, Nat.mul_add, Nat.mul_one]
  omega

/-- the order, as Go's compare says it -/
def cmpN (m n : Nat) : Int := if m < n then -1 else if n < m then 1 else 0
theorem cmpN_lt {m n : Nat} (h : m < n) : cmpN m n = -1 := by simp [cmpN, h]
theorem cmpN_gt {m n : Nat} (h : n < m) : cmpN m n = 1 := by simp [cmpN, h]; omega
theorem cmpN_eq (n : Nat) : cmpN n n = 0 := by simp [cmpN]

/-- a step of a division by one digit: r the rest of what lies above -/
theorem short_step {H d x : Nat} (hd : 0 < d) : ((H % d) * B + x) / d + B * (H / d) = (x + B * H) / d ∧ ((H % d) * B + x) % d = (x + B * H) % d := by
  have h : x + B * H = ((H % d) * B + x) + d * (B * (H / d)) := by
    have h1 : d * (H / d) + H % d = H := Nat.div_add_mod H d
    have h2 : B * H = B * (d * (H / d)) + B * (H % d) := by rw [← Nat.mul_add, h1]
    rw [h2, Nat.mul_comm (H % d) B, Nat.mul_left_comm d B]; omega
  rw [h, Nat.add_mul_div_left _ _ hd, Nat.add_mul_mod_self_left]
  exact ⟨rfl, rfl⟩

theorem short_dig {r d x : Nat} (hr : r < d) (hx : x < B) : (r * B + x) / d < B := by
  apply Nat.div_lt_of_lt_mul
  have : (r + 1) * B ≤ d * B := Nat.mul_le_mul_right _ hr
  rw [Nat.add_mul] at this; omega
theorem dig_len_val {l : List Nat} (h : Sm l) : (dig (val l)).length ≤ l.length := by
  have h1 := val_lt h
  apply Nat.le_of_not_lt
  intro hc
  have hne : val l ≠ 0 := by
    intro h0; rw [h0, dig_zero] at hc; simp at hc
  have h2 := pow_len_le hne
  have h3 : B ^ l.length ≤ B ^ ((dig (val l)).length - 1) := Nat.pow_le_pow_right B_pos (by omega)
  omega
end Go.Proofs.YtbjhjbjjfbmoeaaGreatDoor.Z4

/- The reference's whole numbers: strip, made, ZOf. -/
namespace Go.Proofs.YtbjhjbjjfbmoeaaGreatDoor.Z4
open Go.RowKit

/-- digits as cells -/
def zs (l : List Nat) : List Value := l.map fun d => Value.int .i64 (d : Nat)
theorem zs_length (l : List Nat) : (zs l).length = l.length := by simp [zs]
theorem zs_append (a b : List Nat) : zs (a ++ b) = zs a ++ zs b := by simp [zs]
theorem zs_ne {l : List Nat} (h : 0 < l.length) : zs l ≠ [] := by
  intro h2; have := congrArg List.length h2; rw [zs_length, List.length_nil] at this; omega
theorem zs_get {l : List Nat} {i d : Nat} (hd : l[i]? = some d) : (zs l)[i]? = some (.int .i64 (d : Nat)) := by simp [zs, hd]
theorem zcell {w : World} {b off : Nat} {l : List Nat} (h : Cells w (some ⟨b, off, none⟩) (zs l)) {i d : Nat} (hd : l[i]? = some d) : w.cell? ⟨b, off + i, none⟩ = some (.int .i64 (d : Nat)) :=
  h.at (zs_get hd)
theorem sm_get {l : List Nat} (h : Sm l) {i d : Nat} (hd : l[i]? = some d) : d ≤ 9999 := by
  have := h d (List.mem_of_getElem? hd); simp only [B] at this; omega
theorem val_take_zero {l : List Nat} {k : Nat} (h0 : l[k]? = some 0) : val (l.take (k + 1)) = val (l.take k) := by
  rw [take_get h0, val_snoc]; simp

theorem strip_any (ao : Option Addr) (l : List Nat) (c : Nat) (w : World) (hc : Cells w ao (zs l)) (hs : Sm l) (hl : l.length ≤ 9223372036854775807) (hcap : l.length ≤ c) (hc2 : c ≤ 9223372036854775807) :
    Calls Tryz.prog 225 #[.slice ao l.length c] w fun e w' => (e = .returned (.slice ao (dig (val l)).length c) ∧ Cells w' ao (zs (dig (val l)))) ∧ w = w' := by
  have HC := Lib.hid hc; clear hc
  have HS := Lib.hid hs; clear hs
  go_enter Tryz.func225, Tryz.ntmps225
  go_wp2
  go_loop [0] (fun v => ∃ k : Nat, k ≤ l.length ∧ v = .slice ao k c ∧ val (l.take k) = val l) (fun v => lenOf v)
  case atStart => exact ⟨l.length, Nat.le_refl _, rfl, by rw [List.take_length]⟩
  case round =>
    obtain ⟨k, hk, rfl, hv⟩ := hrel
    by_cases h0 : k = 0
    · subst h0
      rw [List.take_zero, val_nil] at hv
      have hv2 : dig (val l) = [] := by rw [← hv, dig_zero]
      have HV := Lib.hid hv2; clear hv hv2
      go_wp2
      go_ret
      exact ⟨⟨by rw [HV.out]; rfl, by rw [HV.out]; exact Cells.nil _ _⟩, rfl⟩
    · obtain ⟨j, rfl⟩ : ∃ j, k = j + 1 := ⟨k - 1, by omega⟩
      have hj : j < l.length := by omega
      obtain ⟨d, hd⟩ := get_of_lt hj
      obtain ⟨b, off, rfl⟩ := HC.out.addr (zs_ne (by omega))
      have hcell := zcell HC.out hd
      by_cases hd0 : d = 0
      · subst hd0
        have hv2 := val_take_zero hd
        rw [hv] at hv2
        have HV := Lib.hid hv2.symm; clear hv hv2 hd
        go_wp2
        go_round
        case rel => exact ⟨j, by omega, by go_num, HV.out⟩
        case measure => simp [lenOf]
      · have hdp : 0 < d := by omega
        have hne : ((d : Int) == 0) = false := by simp; omega
        have hlast : (l.take (j + 1)).getLast? ≠ some 0 := by rw [take_get hd]; simp; omega
        have hsm : Sm (l.take (j + 1)) := fun x hx => HS.out x (List.mem_of_mem_take hx)
        have hv2 : dig (val l) = l.take (j + 1) := by rw [← hv, dig_val hsm hlast]
        have hl2 : (dig (val l)).length = j + 1 := by rw [hv2, List.length_take]; omega
        have hcs : Cells w (some ⟨b, off, none⟩) (zs (dig (val l))) := by
          rw [hv2, zs, List.map_take]; exact HC.out.take _
        have HL := Lib.hid hl2; have HCS := Lib.hid hcs; clear hv hv2 hl2 hcs hd hsm hlast
        go_wp2
        go_ret
        exact ⟨⟨by rw [HL.out]; rfl, HCS.out⟩, rfl⟩

set_option maxRecDepth 100000 in
theorem made_any (s : Bool) (ao : Option Addr) (l : List Nat) (c : Nat) (w : World) (hc : Cells w ao (zs l)) (hs : Sm l) (hl : l.length ≤ 9223372036854775807) (hcap : l.length ≤ c) (hc2 : c ≤ 9223372036854775807) :
    Calls Tryz.prog 186 #[.bool s, .slice ao l.length c] w fun e w' => e = .returned (.agg #[.bool (s && decide (0 < (dig (val l)).length)), .slice ao (dig (val l)).length c]) ∧ Below w.heap.size w w' := by
  have hst := fun W (h : Cells W ao (zs l)) => strip_any ao l c W h hs hl hcap hc2
  have HST := Lib.hid hst; have HC := Lib.hid hc
  clear hst hc hs
  have hb1 : (s && decide (0 < (dig (val l)).length)) = (s && decide ((0 : Int) < (dig (val l)).length)) := by
    congr 1; rw [Bool.eq_iff_iff, decide_eq_true_iff, decide_eq_true_iff]; omega
  have HB1 := Lib.hid hb1; clear hb1
  have hbw := (Below.refl w.heap.size w).alloc (Nat.le_refl _) (.cells #[.bool false, .slice none 0 0] 118)
  have q0 : (w.alloc (.cells #[.bool false, .slice none 0 0] 118)).cell? ⟨w.heap.size, 0, none⟩ = some (.bool false) := by simp
  cases s
  · skip
    go_enter Tryz.func186, Tryz.ntmps186
    go_wp2_with fail
    refine (HST.out _ (HC.out.below hbw (Nat.le_refl _))).mono ?_
    rintro e w1 ⟨⟨rfl, hcl⟩, rfl⟩
    clear hcl
    go_wp2
    rw [HB1.out]
    refine bodyPost_ret (v := .agg #[.bool (false && decide ((0 : Int) < (dig (val l)).length)), .slice ao (dig (val l)).length c]) (by simp [results, Tryz.results186, go_sem]) rfl ?_
    exact ⟨rfl, (Below.refl w.heap.size w).alloc (Nat.le_refl _) _⟩
  · skip
    go_enter Tryz.func186, Tryz.ntmps186
    go_wp2_with fail
    refine (HST.out _ (HC.out.below hbw (Nat.le_refl _))).mono ?_
    rintro e w1 ⟨⟨rfl, hcl⟩, rfl⟩
    clear hcl
    go_wp2
    rw [HB1.out]
    refine bodyPost_ret (v := .agg #[.bool (true && decide ((0 : Int) < (dig (val l)).length)), .slice ao (dig (val l)).length c]) (by simp [results, Tryz.results186, go_sem]) rfl ?_
    exact ⟨rfl, (Below.refl w.heap.size w).alloc (Nat.le_refl _) _⟩

theorem dig_len_i64 {n : Nat} (h : n < 18446744073709551616) : (dig n).length ≤ 5 := by
  apply Nat.le_of_not_lt
  intro hc
  have hn : n ≠ 0 := by rintro rfl; simp [dig_zero] at hc
  have h1 := pow_len_le hn
  have h2 : B ^ 5 ≤ B ^ ((dig n).length - 1) := Nat.pow_le_pow_right B_pos (by omega)
  have h3 : B ^ 5 = 100000000000000000000 := by decide
  omega

/-- a whole number of the reference -/
def ZV (w : World) (v : Value) (n : Int) : Prop := ∃ a c, v = .agg #[.bool (decide (n < 0)), .slice a (dig n.natAbs).length c] ∧ Cells w a (zs (dig n.natAbs)) ∧ (dig n.natAbs).length ≤ c ∧ c ≤ 9223372036854775807
theorem ZV.below {w w' : World} {B : Nat} {v : Value} {n : Int} (h : ZV w v n) (hb : Below B w w') (hB : w.heap.size ≤ B) : ZV w' v n := by
  obtain ⟨a, c, h1, h2, h3⟩ := h
  exact ⟨a, c, h1, h2.below hb hB, h3⟩

/-- the sign of a magnitude -/
def sg (s : Bool) (k : Nat) : Int := if s then -(k : Int) else (k : Int)
theorem zbox {w : World} {ao : Option Addr} {l : List Nat} {b : Nat} {x0 : Bool} {a1 : Option Addr} {n1 c1 : Nat} {u0 u1 : Value} (h : Cells w ao (zs l)) (q0 : w.cell? ⟨b, 0, none⟩ = some (.bool x0)) (q1 : w.cell? ⟨b, 1, none⟩ = some (.slice a1 n1 c1)) : Cells ((w.setCell ⟨b, 0, none⟩ u0).setCell ⟨b, 1, none⟩ u1) ao (zs l) := by
  refine (h.set q0 ?_).set (v0 := .slice a1 n1 c1) ?_ ?_
  · intro x hx e; simp only [zs, List.mem_map] at hx; obtain ⟨d, _, rfl⟩ := hx; cases e
  · rw [World.cell?_setCell_other _ _ _ _ (by simp)]; exact q1
  · intro x hx e; simp only [zs, List.mem_map] at hx; obtain ⟨d, _, rfl⟩ := hx; cases e
theorem sg_in (s : Bool) (k : Nat) (h : k ≤ 9223372036854775807) : wrap64 (sg s k) = sg s k := by
  unfold sg
  cases s
  · simp only [wrap64]; simp; omega
  · simp only [wrap64]; simp; omega
theorem sg_abs (s : Bool) (k : Nat) : (intOf (.int .i64 (sg s k))).natAbs = k := by
  unfold sg intOf; cases s <;> simp
theorem sg_rem (s : Bool) (k : Nat) : (sg s k).tmod 10000 = sg s (k % B) := by
  unfold sg
  have h : (k : Int).tmod 10000 = ((k % B : Nat) : Int) := by rw [Int.tmod_eq_emod_of_nonneg (by omega)]; simp [B]
  cases s
  · simpa using h
  · simp only [if_true]
    rw [Int.neg_tmod, h]
theorem sg_div (s : Bool) (k : Nat) : (sg s k).tdiv 10000 = sg s (k / B) := by
  unfold sg
  have h : (k : Int).tdiv 10000 = ((k / B : Nat) : Int) := by rw [Int.tdiv_eq_ediv_of_nonneg (by omega)]; simp [B]
  cases s
  · simpa using h
  · simp only [if_true]
    rw [Int.neg_tdiv, h]

set_option maxRecDepth 100000 in
theorem zOf_any (n : Int) (w : World) (h1 : -9223372036854775808 ≤ n) (h2 : n ≤ 9223372036854775807) :
    Calls Tryz.prog 140 #[.int .i64 n] w fun e w' => (∃ v, e = .returned v ∧ ZV w' v n) ∧ Below w.heap.size w w' := by
  obtain ⟨i0, hi, hz0, hz1, hz2⟩ := info_parts Tryz.infoInt
  have hlen := dig_len_i64 (n := n.natAbs) (by omega)
  obtain ⟨s, hs⟩ : ∃ s, s = decide (n < 0) := ⟨_, rfl⟩
  obtain ⟨N, hN⟩ : ∃ N, N = n.natAbs := ⟨_, rfl⟩
  have hn : n = sg s N := by
    unfold sg
    by_cases h : n < 0
    · rw [hs, decide_eq_true h, if_pos rfl]; omega
    · rw [hs, decide_eq_false h]; simp; omega
  have hsg : (s && decide (0 < (dig N).length)) = s := by
    cases hsv : s with
    | false => rfl
    | true =>
      rw [hsv] at hs
      have : N ≠ 0 := by have := of_decide_eq_true hs.symm; omega
      have := mt dig_len_pos.1 this
      simp; omega
  have HZV : ∀ W a c, Cells W a (zs (dig N)) → (dig N).length ≤ c → c ≤ 9223372036854775807 → ZV W (.agg #[.bool s, .slice a (dig N).length c]) n := fun W a c q1 q2 q3 => ⟨a, c, by rw [← hs, ← hN], by rw [← hN]; exact q1, by rw [← hN]; exact q2, q3⟩
  have HZ := Lib.hid HZV; have HS := Lib.hid hs
  rw [← hN] at hlen
  have hNb : N ≤ 9223372036854775808 := by omega
  clear HZV hN h1 h2
  subst hn
  clear hs
  have hneg : decide (sg s N < 0) = s := HS.out.symm
  have hbw0 := (Below.refl w.heap.size w).alloc (Nat.le_refl _) (.cells #[.bool false, .slice none 0 0] 118)
  have HBW0 := Lib.hid hbw0; clear hbw0
  have HSG := Lib.hid hsg; clear hsg
  go_enter Tryz.func140, Tryz.ntmps140
  go_wp2
  go_loopw [0, 4] (fun m v wr => ∃ (ds : List Nat) (k : Nat), m = .int .i64 (sg s k) ∧ k ≤ N ∧ dig N = ds ++ dig k ∧ wr.ownsRow (w.heap.size + 1) 3 1 v ds.length (zs ds) ∧ Below (w.heap.size + 1) (w.alloc (.cells #[.bool false, .slice none 0 0] 118)) wr) (fun m _ _ => (intOf m).natAbs)
  case atStart => exact ⟨[], N, rfl, Nat.le_refl _, rfl, World.ownsRow_nil _ _ _ _, Below.refl _ _⟩
  case round =>
    obtain ⟨ds, k, rfl, hk, hds, hown, hb⟩ := hrel
    have hsz := hb.size
    simp only [World.size_alloc] at hsz
    by_cases h0 : k = 0
    · subst h0
      rw [dig_zero, List.append_nil] at hds
      have hs0 : sg s 0 = 0 := by unfold sg; cases s <;> rfl
      rw [hs0]
      obtain ⟨g, c, rfl, hcs, hc1, hc2⟩ := own_cap hown
      unfold maxLen at hc2
      have hsm : Sm ds := by rw [← hds]; exact sm_dig _
      have hvd : val ds = N := by rw [← hds, val_dig]
      have hmd := made_any s g ds c wr hcs hsm (by rw [← hds]; omega) hc1 hc2
      have hz := HZ.out
      rw [hvd, HSG.out] at hmd
      rw [← hvd] at hds
      have hvn := hvd
      have HMD := Lib.hid hmd; have HZ2 := Lib.hid hz; have HCS := Lib.hid hcs; have HDS := Lib.hid hds
      clear hmd hz hcs hown hds hsm hvd
      go_wp2_with fail
      refine HMD.out.mono ?_
      rintro e w1 ⟨rfl, hb1⟩
      have hbx := hb.trans (hb1.mono hsz)
      have hbw := HBW0.out.trans (hbx.mono (by omega))
      have q0 : w1.cell? ⟨w.heap.size, 0, none⟩ = some (.bool false) := box_keep hbx (by omega) 0
      have q1 : w1.cell? ⟨w.heap.size, 1, none⟩ = some (.slice none 0 0) := box_keep hbx (by omega) 1
      have f0 := box_free hbx (by omega) 0
      have f1 := box_free hbx (by omega) 1
      have hcs1 := HCS.out.below hb1 (Nat.le_refl _)
      have hdn : dig N = ds := by rw [← hvn]; exact HDS.out
      have hld : (dig N).length = ds.length := by rw [hdn]
      rw [← hdn] at hcs1
      have HC1 := Lib.hid hcs1
      clear hcs1 hdn
      go_wp2
      refine bodyPost_ret (v := .agg #[.bool s, .slice g (dig N).length c]) (by simp [results, Tryz.results140, go_sem, q0, q1, hld]) rfl ?_
      exact ⟨⟨_, rfl, HZ2.out _ _ _ (zbox HC1.out q0 q1) (by omega) hc2⟩, (hbw.setCell (Nat.le_refl _) _).setCell (Nat.le_refl _) _⟩
    · have hds2 : dig N = (ds ++ [k % B]) ++ dig (k / B) := by rw [hds, dig_pos h0]; simp
      have hle : ds.length ≤ 4 := by
        have := congrArg List.length hds2
        simp only [List.length_append, List.length_singleton] at this; omega
      have HDS := Lib.hid hds2; clear hds hds2 hlen
      have hlt : k / B < k := Nat.div_lt_self (by omega) (by decide)
      have hq9 : k % B ≤ 9999 := by have hqB : k % B < B := Nat.mod_lt _ B_pos; have hB : B = 10000 := rfl; omega
      have e0 : (sg s k != 0) = true := by rw [bne_iff_ne]; unfold sg; cases s <;> simp <;> omega
      have e2 : (sg s k).tdiv 10000 = sg s (k / B) := sg_div s k
      have e1 : (sg s k).tmod 10000 = sg s (k % B) := sg_rem s k
      generalize k % B = q at *
      generalize k / B = kd at *
      have e5 : wrap64 (sg s kd) = sg s kd := sg_in s kd (by omega)
      have HOB : Hid (∀ j, u4.ownBlock = some j → w.heap.size + 1 ≤ j) := fun j e => (hown.lt j e).1
      have hA : sg s (q) = ((q : Nat) : Int) ∨ (sg s (q) = -((q : Nat) : Int) ∧ 0 < q) := by
        unfold sg
        cases s
        · exact .inl rfl
        · rcases Nat.eq_zero_or_pos (q) with h | h
          · rw [h]; exact .inl rfl
          · exact .inr ⟨rfl, h⟩
      rcases hA with hA | ⟨hA, hqp⟩
      · rw [hA] at e1
        have e3 : ¬ ((q : Nat) : Int) < 0 := by omega
        go_wp2_with (at_builtin; refine wpList_append_own _ rfl _ _ 24 rfl (w.heap.size + 1) 3 i0 (.int .i64 0) 1 8 Tryz.underlying24 hi hz0 hz1 hz2 rfl (by decide) _ _ _ rfl (hown.alloc _) ⟨wr.heap.size, 0, none⟩ 1 1 [.int .i64 (q : Nat)] rfl rfl (news1 _ _ _) (by simp [Value.oneCell']) (by unfold maxLen; omega) (by omega) (by simp; omega) ?_; intro v1 wz hown1 hgrow _)
        have hfin := hown1
        rw [show zs ds ++ [.int .i64 (q : Nat)] = zs (ds ++ [q]) from by rw [zs_append]; rfl] at hfin
        have hbz := (hb.alloc hsz (.cells #[.int .i64 (q : Nat)] 3)).grown hgrow (by simp; omega) HOB.out
        clear hown1 hgrow hown
        have HFIN := Lib.hid hfin; clear hfin
        go_wp2
        go_roundw
        case rel => exact ⟨ds ++ [q], kd, by rw [e5], by omega, HDS.out, by simpa using HFIN.out, hbz⟩
        case measure => rw [e5, sg_abs, sg_abs]; omega
      · rw [hA] at e1
        have e3 : -((q : Nat) : Int) < 0 := by omega
        have e4 : IntKind.i64.wrap ((q : Nat) : Int) = ((q : Nat) : Int) := IntWalk.i64_in _ (by omega)
        go_wp2_with (at_builtin; refine wpList_append_own _ rfl _ _ 24 rfl (w.heap.size + 1) 3 i0 (.int .i64 0) 1 8 Tryz.underlying24 hi hz0 hz1 hz2 rfl (by decide) _ _ _ rfl (hown.alloc _) ⟨wr.heap.size, 0, none⟩ 1 1 [.int .i64 (q : Nat)] rfl rfl (news1 _ _ _) (by simp [Value.oneCell']) (by unfold maxLen; omega) (by omega) (by simp; omega) ?_; intro v1 wz hown1 hgrow _)
        have hfin := hown1
        rw [show zs ds ++ [.int .i64 (q : Nat)] = zs (ds ++ [q]) from by rw [zs_append]; rfl] at hfin
        have hbz := (hb.alloc hsz (.cells #[.int .i64 (q : Nat)] 3)).grown hgrow (by simp; omega) HOB.out
        clear hown1 hgrow hown
        have HFIN := Lib.hid hfin; clear hfin
        go_wp2
        go_roundw
        case rel => exact ⟨ds ++ [q], kd, by rw [e5], by omega, HDS.out, by simpa using HFIN.out, hbz⟩
        case measure => rw [e5, sg_abs, sg_abs]; omega
end Go.Proofs.YtbjhjbjjfbmoeaaGreatDoor.Z4
