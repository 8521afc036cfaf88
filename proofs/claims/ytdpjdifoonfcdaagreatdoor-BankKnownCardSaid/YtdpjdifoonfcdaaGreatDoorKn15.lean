/- Parts of a proof, in build order: Zb, Zf, Zg, P1, I2, H4, P2. -/
import Derived.Test.YtdpjdifoonfcdaaGreatDoorKn14

namespace Go.Proofs.YtdpjdifoonfcdaaGreatDoor.Z4
open Go.RowKit
theorem val_drop {l : List Nat} {i x : Nat} (hx : l[i]? = some x) : val (l.drop i) = x + B * val (l.drop (i + 1)) := by
 have hi : i < l.length := (List.getElem?_eq_some_iff.1 hx).1
 rw [List.drop_eq_getElem_cons hi, val_cons]
 rw [List.getElem?_eq_getElem hi] at hx
 cases hx
 rfl
theorem top_pos {n t : Nat} (h : (dig n)[(dig n).length - 1]? = some t) : 0 < t := by
 have h1 := last_dig n
 rw [List.getLast?_eq_getElem?, h] at h1
 rcases Nat.eq_zero_or_pos t with h2 | h2
 · subst h2; exact absurd rfl h1
 · exact h2
theorem drop_pos {l : List Nat} {t : Nat} (h : l[l.length - 1]? = some t) (ht : 0 < t) (i : Nat) (hi : i < l.length) : 0 < val (l.drop i) := by
 rcases Nat.eq_zero_or_pos (val (l.drop i)) with h0 | h0
 · exfalso
   have h1 := val_eq_zero.1 h0 t (List.mem_iff_getElem?.2 ⟨l.length - 1 - i, by rw [List.getElem?_drop, show i + (l.length - 1 - i) = l.length - 1 from by omega]; exact h⟩)
   omega
 · exact h0
theorem val_top {l : List Nat} {t : Nat} (h : l[l.length - 1]? = some t) : val (l.drop (l.length - 1)) = t := by
 have hi := (List.getElem?_eq_some_iff.1 h).1
 rw [val_drop h, List.drop_of_length_le (by omega)]
 simp [val]
theorem B_pow (k : Nat) : B ^ k = 10 ^ (4 * k) := by
 rw [Nat.pow_mul]; rfl
theorem size_dig_eq {n t : Nat} (h : (dig n)[(dig n).length - 1]? = some t) : Lib.nDigits n = 4 * ((dig n).length - 1) + Lib.nDigits t := by
 have ht := top_pos h
 have h1 := val_split h
 have hi := (List.getElem?_eq_some_iff.1 h).1
 rw [val_dig, List.drop_of_length_le (by omega)] at h1
 simp only [val, Nat.mul_zero, Nat.add_zero] at h1
 have h2 : val ((dig n).take ((dig n).length - 1)) < B ^ ((dig n).length - 1) := by
  have h3 := val_lt (xs := (dig n).take ((dig n).length - 1)) (fun d hd => sm_dig n d (List.mem_of_mem_take hd))
  rwa [List.length_take, Nat.min_eq_left (by omega)] at h3
 rw [B_pow] at h1 h2
 generalize 4 * ((dig n).length - 1) = k at *
 generalize val ((dig n).take ((dig n).length - 1)) = lo at *
 rw [h1, Nat.add_comm lo, Nat.mul_comm, nDigits_shift k t lo ht h2]
 omega
theorem dec_digit {h x : Nat} (hh : 0 < h) (hx : x < B) : Lib.decDigits (x + B * h) = Lib.decDigits h ++ padD 4 x /\ Lib.decDigits (10000 + x) = 49 :: padD 4 x := by
 have hx' : x < 10 ^ 4 := hx
 refine ⟨?_, ?_⟩
 · rw [<- dec_shift 4 h x hh hx', show x + B * h = h * 10 ^ 4 + x from by simp only [B]; omega]
 · have := dec_shift 4 1 x (by omega) hx'
   rw [Nat.one_mul] at this
   rw [show (10000 : Nat) + x = 10 ^ 4 + x from rfl, this, Lib.decDigits_one (by decide)]
   rfl
end Go.Proofs.YtdpjdifoonfcdaaGreatDoor.Z4

namespace Go.Proofs.YtdpjdifoonfcdaaGreatDoor.Z4
open Go.RowKit
def CR (w : World) (v : Value) (s : Bool) (n d : Nat) : Prop := ∃ vn vd v0 v1, v = .agg #[.bool s, vn, .bool false, vd, .bool false, v0, .bool false, v1] /\ MV w vn n /\ MV w vd d /\ MV w v0 0 /\ MV w v1 1
theorem MV.set {w : World} {v : Value} {n : Nat} {p : Addr} {v0 u : Value} (h : MV w v n) (hp : w.cell? p = some v0) (hn : NoNum v0) : MV (w.setCell p u) v n := by
 obtain ⟨a, c, h1, h2, h3⟩ := h
 refine ⟨a, c, h1, h2.set hp ?_, h3⟩
 intro x hx e
 simp only [zs, List.mem_map] at hx
 obtain ⟨d, _, rfl⟩ := hx
 subst e; exact hn
end Go.Proofs.YtdpjdifoonfcdaaGreatDoor.Z4

namespace Go.Proofs.YtdpjdifoonfcdaaGreatDoor.Z4
open Go.RowKit
theorem CR.below {w w' : World} {B : Nat} {v : Value} {s : Bool} {n d : Nat} (h : CR w v s n d) (hb : Below B w w') (hB : w.heap.size <= B) : CR w' v s n d := by
 obtain ⟨a, b, c, e, rfl, h1, h2, h3, h4⟩ := h
 exact ⟨a, b, c, e, rfl, h1.below hb hB, h2.below hb hB, h3.below hb hB, h4.below hb hB⟩
end Go.Proofs.YtdpjdifoonfcdaaGreatDoor.Z4

namespace Go.Proofs.YtdpjdifoonfcdaaGreatDoor
open Go.RowKit
def abS (us : List Int) : Nat -> Int
 | 0 => 0
 | n + 1 => abS us n + ((us.getD n 0).natAbs : Int)
theorem abS_bd {us : List Int} (h1 : ∀ x ∈ us, -127 <= x /\ x <= 127) (n : Nat) : 0 <= abS us n /\ abS us n <= 127 * (n : Int) := by
 induction n with
 | zero => simp [abS]
 | succ n ih =>
   have g1 := getD_in (by omega) h1 n
   simp only [abS]; omega
def enoB (us : List Int) (L : Nat) (a ns bd : Int) : Bool := decide (0 < a * sqTo us 0 L - ns * abS us L) && decide (bd <= (a * sqTo us 0 L - ns * abS us L) * (a * sqTo us 0 L - ns * abS us L))
end Go.Proofs.YtdpjdifoonfcdaaGreatDoor

namespace Go.Proofs.YtdpjdifoonfcdaaGreatDoor
open Go.RowKit
def nrmV (L p q : Int) : Int := if waveOK L p q then ovl (wav L p q) (wav L p q) L 0 else 0
def ovrE (L p q r s t : Int) : Int := if waveOK L p q && waveOK L r s then (if inB (1 - L) t (L - 1) then 0 else 8) else 70
def ovrV (L p q r s t : Int) : Int := if ovrE L p q r s t = 0 then ovl (wav L p q) (wav L r s) L t else 0
set_option maxRecDepth 100000 in
set_option maxHeartbeats 2000000 in
theorem Norm_any (L p q : Int) (w : World) :
 Calls Tryz.prog 24 #[.int .i64 L, .agg #[.int .i64 p, .int .i64 q]] w fun e w' => e = .returned (.tuple #[.int .i64 (nrmV L p q), .int .i64 (wavE L p q)]) /\ Below w.heap.size w w' := by
 have hw := fun w => wave_any L p q w
 obtain ⟨Z, hZ⟩ : ∃ Z, Z = shp 0 (smp 0 0 0) := ⟨_, rfl⟩
 have z : Tryz.zeroCells129 = Z := by rw [hZ]; exact zero101
 have hZs : Z.size = 65 := by rw [hZ, shp_size, smp_length]
 have hst := store_shape (waveV L p q) Z (waveV_size L p q) hZs (waveV_one L p q)
 have hs1 := waveV_size L p q
 have hnn : waveOK L p q = true -> ∀ w, Calls Tryz.prog 81 #[.agg (waveV L p q)] w fun e w' => e = .returned (.int .i64 (nrmV L p q)) /\ Below w.heap.size w w' := by
  intro h w
  have hL := waveOK_true h
  have := norm_any L (wav L p q) w (wav_length _ _ _) (by omega) (by omega) (wav_bd _ _ _)
  have e1 : waveV L p q = shp L (wav L p q) := by simp [waveV, h]
  have e2 : nrmV L p q = ovl (wav L p q) (wav L p q) L 0 := by simp [nrmV, h]
  rw [e1, e2]; exact this
 have hE : wavE L p q = if waveOK L p q then 0 else 70 := rfl
 have hV0 : waveOK L p q = false -> nrmV L p q = 0 := fun h => by simp [nrmV, h]
 generalize waveV L p q = V at *
 generalize nrmV L p q = N at *
 generalize wavE L p q = E at *
 have hne : ¬ V = #[] := by intro h; rw [h] at hs1; simp at hs1
 have hi : (Tryz.prog.info? 129).map (·.size) = some V.size := by rw [hs1]; kernel_rfl
 have HI := Lib.hid hi
 have HW := Lib.hid hw; clear hw hZ hi
 cases h : waveOK L p q
 · have HE : Hid (E = 70) := by rw [hE, h]; exact Lib.hid rfl
   have HV : Hid (N = 0) := Lib.hid (hV0 h)
   rw [h] at HW
   clear hE h hV0 hnn
   go_enter Tryz.func24, Tryz.ntmps24
   go_wp2_with (go_at_call 63; refine (HW.out _).mono ?_; rintro e w1 ⟨rfl, hb1⟩)
   have g1 := ((Below.refl w.heap.size w).alloc (Nat.le_refl _) _).trans (hb1.mono (by simp))
   go_ret2
   exact ⟨by rw [HE.out, HV.out]; rfl, g1.alloc g1.size _⟩
 · have HE : Hid (E = 0) := by rw [hE, h]; exact Lib.hid rfl
   have HN := Lib.hid (hnn h)
   rw [h] at HW
   clear hE h hV0 hnn
   go_enter Tryz.func24, Tryz.ntmps24
   go_wp2_with fail
   refine (HW.out _).mono ?_
   rintro e w1 ⟨rfl, hb1⟩
   have g1 := ((Below.refl w.heap.size w).alloc (Nat.le_refl _) _).trans (hb1.mono (by simp))
   have g2 : Below w.heap.size w (w1.alloc (.cells V 129)) := g1.alloc g1.size _
   go_wp2_with (first
    | (refine wpList_load_row (by rfl) 129 _ (by rfl) w1.heap.size (by rfl) _ V _ _ (heap_alloc_new _ _) Tryz.underlying129 (by rfl) HI.out ?_)
    | (go_at_call 81; refine (HN.out _).mono ?_; rintro e w2 ⟨rfl, hb2⟩))
   go_ret2
   exact ⟨by rw [HE.out]; rfl, g2.trans (hb2.mono g2.size)⟩
set_option maxRecDepth 100000 in
set_option maxHeartbeats 4000000 in
theorem Overlap_any (L p q r s t : Int) (w : World) :
 Calls Tryz.prog 35 #[.int .i64 L, .agg #[.int .i64 p, .int .i64 q], .agg #[.int .i64 r, .int .i64 s], .int .i64 t] w fun e w' => e = .returned (.tuple #[.int .i64 (ovrV L p q r s t), .int .i64 (ovrE L p q r s t)]) /\ Below w.heap.size w w' := by
 obtain ⟨Z, hZ⟩ : ∃ Z, Z = shp 0 (smp 0 0 0) := ⟨_, rfl⟩
 have z : Tryz.zeroCells129 = Z := by rw [hZ]; exact zero101
 have hZs : Z.size = 65 := by rw [hZ, shp_size, smp_length]
 have hw1 := fun w => wave_any L p q w
 have hw2 := fun w => wave_any L r s w
 have hst1 := store_shape (waveV L p q) Z (waveV_size L p q) hZs (waveV_one L p q)
 have hst2 := store_shape (waveV L r s) Z (waveV_size L r s) hZs (waveV_one L r s)
 have hs1 := waveV_size L p q
 have hs2 := waveV_size L r s
 have hoo : waveOK L p q = true -> waveOK L r s = true -> inB (1 - L) t (L - 1) = true -> ∀ w, Calls Tryz.prog 94 #[.agg (waveV L p q), .agg (waveV L r s), .int .i64 t] w fun e w' => e = .returned (.int .i64 (ovrV L p q r s t)) /\ Below w.heap.size w w' := by
  intro h1 h2 h3 w
  have hL := waveOK_true h1
  have h3' : 1 - L <= t /\ t <= L - 1 := by simpa [inB] using h3
  have := overlap_any L L (wav L p q) (wav L r s) t w (wav_length _ _ _) (wav_length _ _ _) (by omega) (by omega) (by omega) (by omega) (wav_bd _ _ _) (wav_bd _ _ _)
  have e1 : waveV L p q = shp L (wav L p q) := by simp [waveV, h1]
  have e2 : waveV L r s = shp L (wav L r s) := by simp [waveV, h2]
  have e3 : ovrE L p q r s t = 0 := by simp [ovrE, h1, h2, h3]
  have e4 : ovrV L p q r s t = ovl (wav L p q) (wav L r s) L t := by unfold ovrV; rw [if_pos e3]
  rw [e1, e2, e4]; exact this
 have hbd : waveOK L p q = true -> 4 <= L /\ L <= 64 := fun h => by have := waveOK_true h; omega
 have hE : ovrE L p q r s t = if waveOK L p q && waveOK L r s then (if inB (1 - L) t (L - 1) then 0 else 8) else 70 := rfl
 have hV0 : ovrE L p q r s t ≠ 0 -> ovrV L p q r s t = 0 := fun h => by unfold ovrV; rw [if_neg h]
 generalize waveV L p q = V at *
 generalize waveV L r s = V2 at *
 generalize ovrV L p q r s t = O at *
 generalize ovrE L p q r s t = E at *
 have hne : ¬ V = #[] := by intro h; rw [h] at hs1; simp at hs1
 have hne2 : ¬ V2 = #[] := by intro h; rw [h] at hs2; simp at hs2
 have hi : (Tryz.prog.info? 129).map (·.size) = some V.size := by rw [hs1]; kernel_rfl
 have hi2 : (Tryz.prog.info? 129).map (·.size) = some V2.size := by rw [hs2]; kernel_rfl
 have HI := Lib.hid hi; have HI2 := Lib.hid hi2; clear hi hi2 hZ
 have HW1 := Lib.hid hw1; have HW2 := Lib.hid hw2; have HOO := Lib.hid hoo; have HBD := Lib.hid hbd
 clear hw1 hw2 hoo hbd
 have cB0 : ((w.alloc (.cells #[.int .i64 p, .int .i64 q] 23)).alloc (.cells #[.int .i64 r, .int .i64 s] 23)).cell? ⟨w.heap.size + 1, 0, none⟩ = some (.int .i64 r) := (cell_of_row _ _ 0 _ _ _ (heap_alloc2_new w _ _)).trans rfl
 have cB1 : ((w.alloc (.cells #[.int .i64 p, .int .i64 q] 23)).alloc (.cells #[.int .i64 r, .int .i64 s] 23)).cell? ⟨w.heap.size + 1, 1, none⟩ = some (.int .i64 s) := (cell_of_row _ _ 1 _ _ _ (heap_alloc2_new w _ _)).trans rfl
 cases h1 : waveOK L p q
 · have hE70 : E = 70 := by rw [hE]; simp only [h1]; rfl
   have HE : Hid (E = 70 /\ O = 0) := Lib.hid ⟨hE70, hV0 (by rw [hE70]; decide)⟩
   clear hE70
   rw [h1] at HW1
   clear hE hV0 h1 HOO
   go_enter Tryz.func35, Tryz.ntmps35
   go_wp2_with fail
   refine (HW1.out _).mono ?_
   rintro e w1 ⟨rfl, hb1⟩
   have kk0 := cell_keep (cell_keep cB0 hb1 (Nat.le_refl _)) ((Below.refl _ w1).alloc (Nat.le_refl _) (.cells V 129)) (Nat.le_refl _)
   have kk1 := cell_keep (cell_keep cB1 hb1 (Nat.le_refl _)) ((Below.refl _ w1).alloc (Nat.le_refl _) (.cells V 129)) (Nat.le_refl _)
   have g1 : Below w.heap.size w w1 := (((Below.refl _ _).alloc (Nat.le_refl _) _).alloc (by simp) _).trans (hb1.mono (by simp; omega))
   go_wp2_with fail
   refine (HW2.out _).mono ?_
   rintro e w2 ⟨rfl, hb2⟩
   have g2 : Below w.heap.size w w2 := (g1.alloc g1.size _).trans (hb2.mono (by have := g1.size; simp; omega))
   clear kk0 kk1
   go_wp2
   go_ret2
   exact ⟨by rw [HE.out.1, HE.out.2]; rfl, g2.alloc g2.size _⟩
 cases h2 : waveOK L r s
 · have hE70 : E = 70 := by rw [hE]; simp only [h1, h2]; rfl
   have HE : Hid (E = 70 /\ O = 0) := Lib.hid ⟨hE70, hV0 (by rw [hE70]; decide)⟩
   clear hE70
   rw [h1] at HW1
   rw [h2] at HW2
   clear hE hV0 h1 h2 HOO
   go_enter Tryz.func35, Tryz.ntmps35
   go_wp2_with fail
   refine (HW1.out _).mono ?_
   rintro e w1 ⟨rfl, hb1⟩
   have kk0 := cell_keep (cell_keep cB0 hb1 (Nat.le_refl _)) ((Below.refl _ w1).alloc (Nat.le_refl _) (.cells V 129)) (Nat.le_refl _)
   have kk1 := cell_keep (cell_keep cB1 hb1 (Nat.le_refl _)) ((Below.refl _ w1).alloc (Nat.le_refl _) (.cells V 129)) (Nat.le_refl _)
   have g1 : Below w.heap.size w w1 := (((Below.refl _ _).alloc (Nat.le_refl _) _).alloc (by simp) _).trans (hb1.mono (by simp; omega))
   go_wp2_with fail
   refine (HW2.out _).mono ?_
   rintro e w2 ⟨rfl, hb2⟩
   have g2 : Below w.heap.size w w2 := (g1.alloc g1.size _).trans (hb2.mono (by have := g1.size; simp; omega))
   clear kk0 kk1
   go_wp2
   go_ret2
   exact ⟨by rw [HE.out.1, HE.out.2]; rfl, g2.alloc g2.size _⟩
 obtain ⟨l1, l2⟩ := HBD.out h1
 rw [h1] at HW1
 rw [h2] at HW2
 cases h3 : inB (1 - L) t (L - 1)
 · have hE8 : E = 8 := by rw [hE]; simp only [h1, h2, h3]; rfl
   have HE : Hid (E = 8 /\ O = 0) := Lib.hid ⟨hE8, hV0 (by rw [hE8]; decide)⟩
   clear hE8
   have hwi := fun w => bwithin_any t (1 - L) (L - 1) w
   rw [h3] at hwi
   have HWI := Lib.hid hwi
   clear hE hV0 h1 h2 h3 HOO hwi HBD
   go_enter Tryz.func35, Tryz.ntmps35
   go_wp2_with fail
   refine (HW1.out _).mono ?_
   rintro e w1 ⟨rfl, hb1⟩
   have kk0 := cell_keep (cell_keep cB0 hb1 (Nat.le_refl _)) ((Below.refl _ w1).alloc (Nat.le_refl _) (.cells V 129)) (Nat.le_refl _)
   have kk1 := cell_keep (cell_keep cB1 hb1 (Nat.le_refl _)) ((Below.refl _ w1).alloc (Nat.le_refl _) (.cells V 129)) (Nat.le_refl _)
   have g1 : Below w.heap.size w w1 := (((Below.refl _ _).alloc (Nat.le_refl _) _).alloc (by simp) _).trans (hb1.mono (by simp; omega))
   go_wp2_with fail
   refine (HW2.out _).mono ?_
   rintro e w2 ⟨rfl, hb2⟩
   have g2 : Below w.heap.size w w2 := (g1.alloc g1.size _).trans (hb2.mono (by have := g1.size; simp; omega))
   clear kk0 kk1
   go_wp2_with (go_at_call 66; refine (HWI.out _).mono ?_; rintro e w' ⟨rfl, rfl⟩)
   go_ret2
   exact ⟨by rw [HE.out.1, HE.out.2]; rfl, g2.alloc g2.size _⟩
 · have HE : Hid (E = 0) := by rw [hE]; simp only [h1, h2, h3]; exact Lib.hid rfl
   have hwi := fun w => bwithin_any t (1 - L) (L - 1) w
   rw [h3] at hwi
   have HWI := Lib.hid hwi
   have HOV := Lib.hid (HOO.out h1 h2 h3)
   clear hE hV0 h1 h2 h3 HOO hwi HBD
   go_enter Tryz.func35, Tryz.ntmps35
   go_wp2_with fail
   refine (HW1.out _).mono ?_
   rintro e w1 ⟨rfl, hb1⟩
   have kk0 := cell_keep (cell_keep cB0 hb1 (Nat.le_refl _)) ((Below.refl _ w1).alloc (Nat.le_refl _) (.cells V 129)) (Nat.le_refl _)
   have kk1 := cell_keep (cell_keep cB1 hb1 (Nat.le_refl _)) ((Below.refl _ w1).alloc (Nat.le_refl _) (.cells V 129)) (Nat.le_refl _)
   have g1 : Below w.heap.size w w1 := (((Below.refl _ _).alloc (Nat.le_refl _) _).alloc (by simp) _).trans (hb1.mono (by simp; omega))
   go_wp2_with fail
   refine (HW2.out _).mono ?_
   rintro e w2 ⟨rfl, hb2⟩
   have g2 : Below w.heap.size w w2 := (g1.alloc g1.size _).trans (hb2.mono (by have := g1.size; simp; omega))
   have g3 : Below w.heap.size w (w2.alloc (.cells V2 129)) := g2.alloc g2.size _
   have hs12 : w1.heap.size < w2.heap.size := by have := hb2.size; simp at this; omega
   have r1 : (w2.alloc (.cells V2 129)).heap[w1.heap.size]? = some (.cells V 129 (0, 0)) := (hold_old w2 _ _ hs12).trans ((hb2.block _ (by simp)).trans (heap_alloc_new _ _))
   have HR1 := Lib.hid r1; clear r1 kk0 kk1
   go_wp2_with (first
    | (go_at_call 66; refine (HWI.out _).mono ?_; rintro e w' ⟨rfl, rfl⟩)
    | (refine wpList_load_row (by rfl) 129 _ (by rfl) w1.heap.size (by rfl) _ V _ _ HR1.out Tryz.underlying129 (by rfl) HI.out ?_)
    | (refine wpList_load_row (by rfl) 129 _ (by rfl) w2.heap.size (by rfl) _ V2 _ _ (heap_alloc_new _ _) Tryz.underlying129 (by rfl) HI2.out ?_)
    | (go_at_call 94; refine (HOV.out _).mono ?_; rintro e w3 ⟨rfl, hb3⟩))
   go_ret2
   exact ⟨by rw [HE.out]; rfl, g3.trans (hb3.mono g3.size)⟩
end Go.Proofs.YtdpjdifoonfcdaaGreatDoor

namespace Go.Proofs.YtdpjdifoonfcdaaGreatDoor
open Go.RowKit
theorem ovl_sqTo (xs : List Int) (L : Nat) : ovl xs xs L 0 = sqTo xs 0 L := by
 rw [ovl_self, Int.toNat_natCast]
 induction L with
 | zero => rfl
 | succ n ih =>
   simp only [ovTo, sqTo, ih, Int.add_zero, Int.zero_add, Int.toNat_natCast, Nat.zero_add]
end Go.Proofs.YtdpjdifoonfcdaaGreatDoor

namespace Go.Proofs.YtdpjdifoonfcdaaGreatDoor
open Go.RowKit
theorem enoB_mono {us : List Int} {L : Nat} {a b ns bd : Int} (h : enoB us L a ns bd = true) (hab : a <= b) : enoB us L b ns bd = true := by
 unfold enoB at *
 rw [Bool.and_eq_true, decide_eq_true_iff, decide_eq_true_iff] at *
 obtain ⟨h1, h2⟩ := h
 have hs := sqTo_nn us 0 L
 have hm := Int.mul_le_mul_of_nonneg_right hab hs
 have hN : a * sqTo us 0 L - ns * abS us L <= b * sqTo us 0 L - ns * abS us L := by omega
 generalize a * sqTo us 0 L - ns * abS us L = N at *
 generalize b * sqTo us 0 L - ns * abS us L = N' at *
 refine ⟨by omega, Int.le_trans h2 (Int.mul_le_mul hN hN (by omega) (by omega))⟩
theorem enoB_zero {us : List Int} (h1 : ∀ x ∈ us, -127 <= x /\ x <= 127) (L : Nat) {ns bd : Int} (hn : 0 <= ns) : enoB us L 0 ns bd = false := by
 unfold enoB
 rw [Bool.and_eq_false_iff]; left
 rw [decide_eq_false_iff_not]
 have := Int.mul_nonneg hn (abS_bd h1 L).1
 omega
def Sur (f : Int -> Bool) (v e : Int) : Prop := (e = 0 /\ 1 <= v /\ v <= 1048576 /\ f v = true /\ ∀ a, 0 <= a -> a < v -> f a = false) ∨ (e = 4 /\ v = 0 /\ ∀ a, 0 <= a -> a <= 1048576 -> f a = false)
theorem Sur.one {f : Int -> Bool} {v e v' e' : Int} (h : Sur f v e) (h' : Sur f v' e') : v = v' /\ e = e' := by
 rcases h with ⟨a1, a2, a3, a4, a5⟩ | ⟨a1, a2, a3⟩ <;> rcases h' with ⟨b1, b2, b3, b4, b5⟩ | ⟨b1, b2, b3⟩
 · refine ⟨?_, by omega⟩
   rcases (show v < v' ∨ v = v' ∨ v' < v by omega) with h | h | h
   · rw [b5 v (by omega) h] at a4; simp at a4
   · exact h
   · rw [a5 v' (by omega) h] at b4; simp at b4
 · rw [b3 v (by omega) (by omega)] at a4; simp at a4
 · rw [a3 v' (by omega) (by omega)] at b4; simp at b4
 · omega
def SurT (L p q ns va fl v e : Int) : Prop :=
 if waveOK L p q = false then v = 0 /\ e = 70 else if silentB (wav L p q) = true then v = 0 /\ e = 4 else if (inB 0 ns 32768 && inB 1 va 1048576 && inB 0 fl 65536) = false then v = 0 /\ e = 8 else Sur (fun a => enoB (wav L p q) L.toNat a ns (fl * va * sqTo (wav L p q) 0 L.toNat)) v e
theorem SurT.one {L p q ns va fl v e v' e' : Int} (h : SurT L p q ns va fl v e) (h' : SurT L p q ns va fl v' e') : v = v' /\ e = e' := by
 unfold SurT at *
 split at h
 · rename_i h0; rw [if_pos h0] at h'; omega
 · rename_i h0; rw [if_neg h0] at h'
   split at h
   · rename_i h0; rw [if_pos h0] at h'; omega
   · rename_i h0; rw [if_neg h0] at h'
     split at h
     · rename_i h0; rw [if_pos h0] at h'; omega
     · rename_i h0; rw [if_neg h0] at h'; exact h.one h'
end Go.Proofs.YtdpjdifoonfcdaaGreatDoor
