/- Parts of a proof, in build order: H4, H5, So, Dm, H6, V8. -/
import Derived.Test.YtbjhjbjjfbmoeaaGreatDoorKm0
import Derived.Laws.OwnMore
import Derived.Deep.Slices
import Derived.Lib.SmallJoins

/- BankExact: plain laws of misfits. -/
namespace Go.Proofs.YtbjhjbjjfbmoeaaGreatDoor
open Go.RowKit

theorem ofT_null {d : Nat} (hd : d ≠ 0) : ofT 0 d = ⟨#[48]⟩ := by
  rw [ofT_red]
  have e : redI 0 d = (false, 0, 1) := by
    unfold redI
    rw [show (0 : Int).natAbs = 0 from rfl, Nat.gcd_zero_left, Nat.div_self (by omega), Nat.zero_div, decide_eq_false (by omega)]
  rw [e, ← ofT_zero]
  show ratT false 0 1 = ofT 0 ((1 : Nat) : Int)
  rw [ofT_red]; rfl

theorem dotTo_split (xs ds : List Int) (t a n m : Nat) : dotTo xs ds t a (n + m) = dotTo xs ds t a n + dotTo xs ds t (a + n) m := by
  induction m with
  | zero => simp [dotTo]
  | succ m ih => rw [← Nat.add_assoc]; simp only [dotTo, ih, Nat.add_assoc]; omega
theorem sqTo_split (xs : List Int) (a n m : Nat) : sqTo xs a (n + m) = sqTo xs a n + sqTo xs (a + n) m := by
  induction m with
  | zero => simp [sqTo]
  | succ m ih => rw [← Nat.add_assoc]; simp only [sqTo, ih, Nat.add_assoc]; omega
theorem sqTo_null {xs : List Int} {a n : Nat} (h : sqTo xs a n = 0) : ∀ i, i < n → xs.getD (a + i) 0 = 0 := by
  induction n with
  | zero => intro i hi; omega
  | succ n ih =>
    intro i hi
    have h1 := sqTo_nn xs a n
    have h2 := mul_self_nn (xs.getD (a + n) 0)
    simp only [sqTo] at h
    by_cases e : i = n
    · subst e
      rcases Int.mul_eq_zero.1 (show xs.getD (a + i) 0 * xs.getD (a + i) 0 = 0 by omega) with h | h <;> exact h
    · exact ih (by omega) i (by omega)
theorem dotTo_null {xs : List Int} {a n : Nat} (ds : List Int) (t : Nat) (h : ∀ i, i < n → xs.getD (a + i) 0 = 0) : dotTo xs ds t a n = 0 := by
  induction n with
  | zero => rfl
  | succ n ih => simp only [dotTo]; rw [ih (fun i hi => h i (by omega)), h n (by omega)]; simp
/-- data that are a multiple of the wave -/
theorem dotTo_mult {xs ds : List Int} {t a n : Nat} {K : Int} (h : ∀ i, i < n → ds.getD (t + (a + i)) 0 = K * xs.getD (a + i) 0) : dotTo xs ds t a n = K * sqTo xs a n := by
  induction n with
  | zero => simp [dotTo, sqTo]
  | succ n ih =>
    simp only [dotTo, sqTo]
    rw [ih (fun i hi => h i (by omega)), h n (by omega), Int.mul_add]
    congr 1
    grind

theorem frFold (l : List (Int × Nat)) : ∀ a : Int × Nat, l.foldl frStep a = (a.1 * ((frSum l).2 : Int) + (frSum l).1 * a.2, a.2 * (frSum l).2) := by
  induction l with
  | nil => intro a; simp [frSum]
  | cons t r ih =>
    intro a
    rw [List.foldl_cons, ih (frStep a t)]
    have h := ih (frStep (0, 1) t)
    have h2 : frSum (t :: r) = r.foldl frStep (frStep (0, 1) t) := rfl
    rw [h2, h]
    simp only [frStep, Prod.mk.injEq]
    constructor
    · push_cast; grind
    · grind
theorem frSum_cons (u : Int × Nat) (l : List (Int × Nat)) : frSum (u :: l) = (u.1 * ((frSum l).2 : Int) + (frSum l).1 * u.2, u.2 * (frSum l).2) := by
  show (l.foldl frStep (frStep (0, 1) u)) = _
  rw [frFold]
  simp [frStep]

/-- the parts of a misfit but for the whole -/
def prtL (xs ds : List Int) (t k n : Nat) : List (Int × Nat) := (List.range n).map fun i => prt xs ds t (i * k) ((i + 1) * k) 1
theorem prtL_succ (xs ds : List Int) (t k n : Nat) : prtL xs ds t k (n + 1) = prtL xs ds t k n ++ [prt xs ds t (n * k) ((n + 1) * k) 1] := by simp [prtL, List.range_succ]
theorem prt_one (xs ds : List Int) (t n k : Nat) : prt xs ds t (n * k) ((n + 1) * k) 1 = if sqTo xs (n * k) k = 0 then (0, 1) else (dotTo xs ds t (n * k) k * dotTo xs ds t (n * k) k, (sqTo xs (n * k) k).toNat) := by
  unfold prt
  rw [show (n + 1) * k - n * k = k by rw [Nat.add_mul]; omega, Int.one_mul]
theorem step_ge {A B S D s d : Int} (hA : 0 ≤ A) (hB : 0 < B) (hs : 0 < s) (hS : 0 ≤ S) (h0 : S = 0 → D = 0) (h : B * (D * D) ≤ A * S) : B * s * ((D + d) * (D + d)) ≤ (A * s + d * d * B) * (S + s) := by
  have key : 2 * (B * s * D * d) ≤ A * (s * s) + d * d * B * S := by
    rcases Int.lt_or_eq_of_le hS with hS | hS
    · have h1 : B * (D * D) * (s * s) ≤ A * S * (s * s) := Int.mul_le_mul_of_nonneg_right h (mul_self_nn s)
      have h2 : 0 ≤ B * ((D * s - d * S) * (D * s - d * S)) := Int.mul_nonneg (by omega) (mul_self_nn _)
      have e1 : B * ((D * s - d * S) * (D * s - d * S)) = B * (D * D) * (s * s) - 2 * (B * s * D * d) * S + d * d * B * S * S := by grind
      have e2 : A * S * (s * s) = A * (s * s) * S := by grind
      have h3 : 2 * (B * s * D * d) * S ≤ (A * (s * s) + d * d * B * S) * S := by
        rw [Int.add_mul]; omega
      exact Int.le_of_mul_le_mul_right h3 hS
    · have hD := h0 hS.symm
      subst hD
      have h1 : 0 ≤ A * (s * s) := Int.mul_nonneg hA (mul_self_nn s)
      rw [← hS]; simp; exact h1
  have h4 : B * (D * D) * s ≤ A * S * s := Int.mul_le_mul_of_nonneg_right h (by omega)
  have e1 : B * s * ((D + d) * (D + d)) = B * (D * D) * s + 2 * (B * s * D * d) + B * s * (d * d) := by grind
  have e2 : (A * s + d * d * B) * (S + s) = A * S * s + (A * (s * s) + d * d * B * S) + B * s * (d * d) := by grind
  omega
theorem parts_ge (xs ds : List Int) (t k n : Nat) : 0 ≤ (frSum (prtL xs ds t k n)).1 ∧ 0 < (frSum (prtL xs ds t k n)).2 ∧ ((frSum (prtL xs ds t k n)).2 : Int) * (dotTo xs ds t 0 (n * k) * dotTo xs ds t 0 (n * k)) ≤ (frSum (prtL xs ds t k n)).1 * sqTo xs 0 (n * k) := by
  induction n with
  | zero => simp [prtL, frSum, dotTo, sqTo]
  | succ n ih =>
    obtain ⟨i1, i2, i3⟩ := ih
    rw [prtL_succ, frSum_snoc, prt_one]
    rw [show (n + 1) * k = n * k + k by rw [Nat.add_mul]; omega, dotTo_split, sqTo_split, Nat.zero_add]
    have h0 : sqTo xs 0 (n * k) = 0 → dotTo xs ds t 0 (n * k) = 0 := fun h => dotTo_null ds t (sqTo_null h)
    have h00 : sqTo xs (n * k) k = 0 → dotTo xs ds t (n * k) k = 0 := fun h => dotTo_null ds t (sqTo_null h)
    have hS := sqTo_nn xs 0 (n * k)
    have hs := sqTo_nn xs (n * k) k
    generalize frSum (prtL xs ds t k n) = F at *
    generalize sqTo xs 0 (n * k) = S at *
    generalize sqTo xs (n * k) k = s at *
    generalize dotTo xs ds t 0 (n * k) = D at *
    generalize dotTo xs ds t (n * k) k = d at *
    obtain ⟨A, B⟩ := F
    simp only at i1 i2 i3
    by_cases hz : s = 0
    · rw [if_pos hz, h00 hz, hz]
      simp only [frStep, Int.natCast_one, Int.mul_one, Int.zero_mul, Int.add_zero, Nat.mul_one]
      exact ⟨i1, i2, i3⟩
    · rw [if_neg hz]
      have hsn : ((s.toNat : Nat) : Int) = s := Int.toNat_of_nonneg hs
      simp only [frStep]
      rw [Int.natCast_mul, hsn]
      refine ⟨?_, Nat.mul_pos i2 (by omega), step_ge i1 (by omega) (by omega) hS h0 i3⟩
      have a1 := Int.mul_nonneg i1 hs
      have a2 := Int.mul_nonneg (mul_self_nn d) (show (0 : Int) ≤ B by omega)
      omega
theorem parts_mult {xs ds : List Int} {t k n : Nat} {K : Int} (h : ∀ i, i < n * k → ds.getD (t + i) 0 = K * xs.getD i 0) : (frSum (prtL xs ds t k n)).1 = K * K * sqTo xs 0 (n * k) * ((frSum (prtL xs ds t k n)).2 : Int) := by
  induction n with
  | zero => simp [prtL, frSum, sqTo]
  | succ n ih =>
    have hk : (n + 1) * k = n * k + k := by rw [Nat.add_mul]; omega
    have i1 := ih (fun i hi => h i (by omega))
    have hd : dotTo xs ds t (n * k) k = K * sqTo xs (n * k) k := dotTo_mult (fun i hi => h (n * k + i) (by omega))
    have hs := sqTo_nn xs (n * k) k
    rw [prtL_succ, frSum_snoc, prt_one, hd]
    rw [hk, sqTo_split, Nat.zero_add]
    generalize frSum (prtL xs ds t k n) = F at *
    generalize sqTo xs 0 (n * k) = S at *
    generalize sqTo xs (n * k) k = s at *
    obtain ⟨A, B⟩ := F
    simp only at i1
    by_cases hz : s = 0
    · rw [if_pos hz, hz]
      simp only [frStep, Int.natCast_one, Int.mul_one, Int.zero_mul, Int.add_zero, Nat.mul_one]
      exact i1
    · rw [if_neg hz]
      have hsn : ((s.toNat : Nat) : Int) = s := Int.toNat_of_nonneg hs
      simp only [frStep]
      rw [Int.natCast_mul, hsn, i1]
      grind

/-- the sum of a misfit's fractions -/
theorem misL_sum {xs ds : List Int} {t L k n : Nat} (hL : sqTo xs 0 L ≠ 0) : frSum (misL xs ds t L k n) = (-(dotTo xs ds t 0 L * dotTo xs ds t 0 L) * ((frSum (prtL xs ds t k n)).2 : Int) + (frSum (prtL xs ds t k n)).1 * sqTo xs 0 L, (sqTo xs 0 L).toNat * (frSum (prtL xs ds t k n)).2) := by
  have hs := sqTo_nn xs 0 L
  have e : misL xs ds t L k n = prt xs ds t 0 L (-1) :: prtL xs ds t k n := rfl
  rw [e, frSum_cons]
  have ep : prt xs ds t 0 L (-1) = (-(dotTo xs ds t 0 L * dotTo xs ds t 0 L), (sqTo xs 0 L).toNat) := by
    unfold prt
    rw [Nat.sub_zero, if_neg hL]
    congr 1
    grind
  rw [ep]
  simp only
  rw [Int.toNat_of_nonneg hs]
theorem ovl_sqTo (xs : List Int) (L : Nat) : ovl xs xs L 0 = sqTo xs 0 L := by
  rw [ovl_self, Int.toNat_natCast]
  induction L with
  | zero => rfl
  | succ n ih =>
    simp only [ovTo, sqTo, ih, Int.add_zero, Int.zero_add, Int.toNat_natCast, Nat.zero_add]
/-- what is known of a misfit that is none of the errors -/
theorem mis_ne {L p q : Int} {ds : List Int} {t n : Int} (h : misE L p q ds t n = 0) : sqTo (wav L p q) 0 L.toNat ≠ 0 ∧ n.toNat * (L.toNat / n.toNat) = L.toNat := by
  obtain ⟨h1, h2, _, _, _, h6, h7, h8⟩ := misE_zero h
  have hL := waveOK_true h1
  have hn := norm_pos h2
  rw [show L = ((L.toNat : Nat) : Int) by omega] at hn
  rw [show wav ((L.toNat : Nat) : Int) p q = wav L p q by rw [show ((L.toNat : Nat) : Int) = L by omega], ovl_sqTo] at hn
  refine ⟨by omega, ?_⟩
  obtain ⟨M, hM⟩ : ∃ M : Nat, L = (M : Int) := ⟨L.toNat, by omega⟩
  obtain ⟨N, hN⟩ : ∃ N : Nat, n = (N : Int) := ⟨n.toNat, by omega⟩
  rw [hM, hN] at h8 ⊢
  rw [Int.toNat_natCast, Int.toNat_natCast]
  exact Nat.mul_div_cancel' (Nat.dvd_of_mod_eq_zero (by omega))
theorem mis_pos {L p q : Int} {ds : List Int} {t n : Int} (h : misE L p q ds t n = 0) : 0 ≤ (misQ L p q ds t n).1 ∧ (misQ L p q ds t n).2 ≠ 0 := by
  obtain ⟨hs, hk⟩ := mis_ne h
  have hp := parts_ge (wav L p q) ds t.toNat (L.toNat / n.toNat) n.toNat
  rw [hk] at hp
  unfold misQ
  rw [misL_sum hs]
  have hsn := sqTo_nn (wav L p q) 0 L.toNat
  refine ⟨?_, ?_⟩
  · show 0 ≤ -(_ * _) * _ + _ * _
    rw [Int.neg_mul, Int.mul_comm (dotTo _ _ _ _ _ * _)]
    omega
  · show (sqTo _ _ _).toNat * _ ≠ 0
    exact Nat.mul_ne_zero (by omega) (by omega)
theorem mis_mult {L p q : Int} {ds : List Int} {t n K : Int} (h : misE L p q ds t n = 0) (hm : ∀ i, i < L.toNat → ds.getD (t.toNat + i) 0 = K * (wav L p q).getD i 0) : (misQ L p q ds t n).1 = 0 := by
  obtain ⟨hs, hk⟩ := mis_ne h
  have hp := parts_mult (xs := wav L p q) (ds := ds) (t := t.toNat) (k := L.toNat / n.toNat) (n := n.toNat) (K := K) (by rw [hk]; exact hm)
  rw [hk] at hp
  have hd : dotTo (wav L p q) ds t.toNat 0 L.toNat = K * sqTo (wav L p q) 0 L.toNat := dotTo_mult (fun i hi => by rw [Nat.zero_add]; exact hm i hi)
  unfold misQ
  rw [misL_sum hs]
  show -(_ * _) * _ + _ * _ = (0 : Int)
  rw [hp, hd]
  grind
theorem mis_one {L p q : Int} {ds : List Int} {t n : Int} (h : misE L p q ds t n = 0) : misE L p q ds t 1 = 0 ∧ (misQ L p q ds t 1).1 = 0 := by
  obtain ⟨h1, h2, h3, h4, h5, _, _, _⟩ := misE_zero h
  have he : misE L p q ds t 1 = 0 := by
    unfold misE
    rw [h1, h2, h3]
    simp [inB, Int.emod_one]
    omega
  obtain ⟨hs, _⟩ := mis_ne he
  refine ⟨he, ?_⟩
  unfold misQ
  rw [misL_sum hs]
  have hsn := sqTo_nn (wav L p q) 0 L.toNat
  have e : prtL (wav L p q) ds t.toNat (L.toNat / (1 : Int).toNat) (1 : Int).toNat = [(dotTo (wav L p q) ds t.toNat 0 L.toNat * dotTo (wav L p q) ds t.toNat 0 L.toNat, (sqTo (wav L p q) 0 L.toNat).toNat)] := by
    rw [show (1 : Int).toNat = 0 + 1 from rfl, prtL_succ, prt_one]
    simp only [Nat.zero_add, Nat.div_one, Nat.zero_mul]
    rw [if_neg hs]; rfl
  rw [e]
  show -(_ * _) * _ + _ * _ = (0 : Int)
  simp only [frSum, List.foldl_cons, List.foldl_nil, frStep]
  rw [Nat.one_mul, Int.toNat_of_nonneg hsn]
  grind
/-- texts of misfits -/
theorem mis_big {L p q : Int} {ds : List Int} {t n : Int} (h : misE L p q ds t n = 0) : bigQ (redI (misQ L p q ds t n).1 (misQ L p q ds t n).2).2.1 (redI (misQ L p q ds t n).1 (misQ L p q ds t n).2).2.2 = false := by
  obtain ⟨h1, _, h3, _, _, h6, h7, _⟩ := misE_zero h
  have hL := waveOK_true h1
  have hd := dataOK_true h3
  obtain ⟨_, hk⟩ := mis_ne h
  have hb := frSum_bd _ (misL_bd (wav_bd L p q) hd.2 t.toNat L.toNat (L.toNat / n.toNat) n.toNat (by omega) (by rw [hk]; omega))
  rw [misL_length] at hb
  have hp : (10 ^ 21) ^ (n.toNat + 1) ≤ (10 ^ 21) ^ 9 := Nat.pow_le_pow_right (by decide) (by omega)
  have hm : (n.toNat + 1) * (10 ^ 21) ^ (n.toNat + 1) ≤ 9 * (10 ^ 21) ^ 9 := Nat.mul_le_mul (by omega) hp
  refine redI_small (k := 199) ?_ ?_ (by omega)
  · exact Nat.lt_of_le_of_lt (Nat.le_trans hb.2 hm) (by decide +kernel)
  · exact Nat.lt_of_le_of_lt (Nat.le_trans hb.1 hp) (by decide +kernel)
theorem mis_cmp {L p q : Int} {ds : List Int} {t n : Int} (h : misE L p q ds t n = 0) : cmpE (misT L p q ds t n) ⟨#[48]⟩ = 0 ∧ 0 ≤ cmpV (misT L p q ds t n) ⟨#[48]⟩ ∧ ((misT L p q ds t n).size ≤ 1099511627776 ∧ Lib.hasSuffix (misT L p q ds t n).data.toList [105] = false) := by
  have hb := mis_big h
  obtain ⟨hn, hd⟩ := mis_pos h
  have hT : misT L p q ds t n = ofT (misQ L p q ds t n).1 (misQ L p q ds t n).2 := by unfold misT; rw [if_pos h]
  rw [hT]
  generalize (misQ L p q ds t n).1 = N at *
  generalize (misQ L p q ds t n).2 = D at *
  obtain ⟨a, b, c, _, _⟩ := redI_gcd (n := N) hd
  have hg : getR (ofT N D) = some (redI N D) := by rw [ofT_red]; exact getR_own a b c hb
  refine ⟨?_, ?_, ?_, ?_⟩
  · unfold cmpE; rw [hg, getR_zero]
  · unfold cmpV
    rw [hg, getR_zero]
    have hs : 0 ≤ sgI (redI N D).1 (redI N D).2.1 := by
      unfold sgI
      have e : (redI N D).1 = false := by
        show decide (N < 0) = false
        rw [decide_eq_false_iff_not]; omega
      rw [e]; simp
    simp only [cmpI]
    have e0 : sgI false 0 = 0 := rfl
    rw [e0, Int.zero_mul, Int.natCast_one, Int.mul_one]
    split
    · omega
    · split <;> omega
  · rw [ofT_red]
    unfold bigQ at hb
    rw [Bool.or_eq_false_iff, decide_eq_false_iff_not, decide_eq_false_iff_not] at hb
    have := ratT_size (redI N D).1 (redI N D).2.1 (redI N D).2.2
    omega
  · rw [ofT_red]; exact ratT_noI _ _ _
theorem misT_null {L p q : Int} {ds : List Int} {t n : Int} (h : misE L p q ds t n = 0) (hz : (misQ L p q ds t n).1 = 0) : misT L p q ds t n = ⟨#[48]⟩ := by
  obtain ⟨_, hd⟩ := mis_pos h
  unfold misT
  rw [if_pos h, hz, ofT_null hd]
end Go.Proofs.YtbjhjbjjfbmoeaaGreatDoor

/- BankExact: data that are a multiple of the wave at a time. -/
namespace Go.Proofs.YtbjhjbjjfbmoeaaGreatDoor
open Go.RowKit

/-- data of which i, from t on, are a multiple of a wave -/
def layd (ds : List Int) (t : Nat) (K : Int) (xs : List Int) (i : Nat) : List Int := (List.range ds.length).map fun j => if t ≤ j ∧ j < t + i then K * xs.getD (j - t) 0 else ds.getD j 0
theorem layd_length (ds : List Int) (t : Nat) (K : Int) (xs : List Int) (i : Nat) : (layd ds t K xs i).length = ds.length := by simp [layd]
theorem layd_get (ds : List Int) (t : Nat) (K : Int) (xs : List Int) (i j : Nat) (h : j < ds.length) : (layd ds t K xs i)[j]? = some (if t ≤ j ∧ j < t + i then K * xs.getD (j - t) 0 else ds.getD j 0) := by simp [layd, h]
theorem layd_zero (ds : List Int) (t : Nat) (K : Int) (xs : List Int) : layd ds t K xs 0 = ds := by
  apply List.ext_getElem?
  intro j
  by_cases h : j < ds.length
  · rw [layd_get _ _ _ _ _ _ h, if_neg (by omega), List.getD_eq_getElem?_getD, List.getElem?_eq_getElem h]; rfl
  · rw [List.getElem?_eq_none (by rw [layd_length]; omega), List.getElem?_eq_none (by omega)]
theorem layd_succ (ds : List Int) (t : Nat) (K : Int) (xs : List Int) (i : Nat) : (layd ds t K xs i).set (t + i) (K * xs.getD i 0) = layd ds t K xs (i + 1) := by
  apply List.ext_getElem?
  intro j
  rw [List.getElem?_set]
  by_cases h : j < ds.length
  · by_cases e : t + i = j
    · subst e
      rw [if_pos rfl, layd_length, if_pos h, layd_get _ _ _ _ _ _ h, if_pos (by omega), show t + i - t = i by omega]
    · rw [if_neg e, layd_get _ _ _ _ _ _ h, layd_get _ _ _ _ _ _ h]
      by_cases h2 : t ≤ j ∧ j < t + i
      · rw [if_pos h2, if_pos (by omega)]
      · rw [if_neg h2, if_neg (by omega)]
  · rw [List.getElem?_eq_none (by rw [layd_length]; omega : (layd ds t K xs i).length ≤ j), List.getElem?_eq_none (by rw [layd_length]; omega : (layd ds t K xs (i + 1)).length ≤ j)]
    split
    · rw [if_neg (by rw [layd_length]; omega)]
    · rfl
/-- the misfit of a multiple of the wave -/
theorem layd_mis {L p q : Int} {ds : List Int} {t n K : Int} (h : misE L p q ds t n = 0) (h0 : 0 ≤ K) (h1 : K ≤ 199) :
    misE L p q (layd ds t.toNat K (wav L p q) L.toNat) t n = 0 ∧ misT L p q (layd ds t.toNat K (wav L p q) L.toNat) t n = ⟨#[48]⟩ := by
  obtain ⟨h1', h2, h3, h4, h5, h6, h7, h8⟩ := misE_zero h
  have hL := waveOK_true h1'
  have hd := dataOK_true h3
  have hlen := layd_length ds t.toNat K (wav L p q) L.toNat
  have hok : dataOK (layd ds t.toNat K (wav L p q) L.toNat) = true := by
    simp only [dataOK, Bool.and_eq_true, decide_eq_true_eq, List.all_eq_true]
    refine ⟨by omega, fun x hx => ?_⟩
    simp only [layd, List.mem_map, List.mem_range] at hx
    obtain ⟨j, hj, rfl⟩ := hx
    split
    · have hb := getD_in (by omega) (wav_bd L p q) (j - t.toNat)
      generalize (wav L p q).getD (j - t.toNat) 0 = y at *
      have ha : K.natAbs ≤ 199 := by omega
      have hc : y.natAbs ≤ 127 := by omega
      have hm := Nat.mul_le_mul ha hc
      rw [← Int.natAbs_mul] at hm
      simp only [inB, decide_eq_true_eq]
      omega
    · have hb := getD_in (by omega) hd.2 j
      simp only [inB, decide_eq_true_eq]
      omega
  have he : misE L p q (layd ds t.toNat K (wav L p q) L.toNat) t n = 0 := by
    unfold misE at h ⊢
    rw [hok, hlen]
    rw [h3] at h
    exact h
  refine ⟨he, misT_null he (mis_mult (K := K) he fun i hi => ?_)⟩
  have hlt : t.toNat + i < ds.length := by omega
  rw [List.getD_eq_getElem?_getD, layd_get _ _ _ _ _ _ hlt, if_pos (by omega), show t.toNat + i - t.toNat = i by omega]
  rfl
end Go.Proofs.YtbjhjbjjfbmoeaaGreatDoor

/- A list of its own: append of a slice to a row of one's own; OwnInts. -/
namespace Go.Proofs.YtbjhjbjjfbmoeaaGreatDoor.Z4
open Go.RowKit

/-- append of a slice that lies somewhere, or is nil, to a row of one's own -/
theorem wpList_append_src {P : Program} {w : World} {ops : Array Oper} {rest : List Oper} {o : Oper} {a : Act} {Q : Exit → Act → World → Prop} (hgd : o.guard = none) (s x : Operand) (t : TypeId)
    (ho : o.op = .call { callee := .builtin .append, args := #[s, x], argTypes := #[t, t] })
    (base : Nat) (e : TypeId) (i : TypeInfo) (z : Value) (size bytes : Nat) (ht : P.underlying t = some (.slice e)) (hi : P.info? e = some i) (hz : i.zero = some z)
    (hsize : i.size = size) (hby : i.bytes = bytes) (hzs : z.cells.size = size) (hsz : 0 < size)
    (v : Value) (n : Nat) (xs : List Value) (hs : a.eval s = v) (hown : w.ownsRow base e size v n xs)
    (vx : Value) (m : Nat) (news : List Value) (hx : a.eval x = vx) (hsrc : (∃ ad c, vx = .slice (some ad) m c ∧ ∀ j u, news[j]? = some u → w.cell? (ad.add j) = some u) ∨ (vx = .slice none 0 0 ∧ m = 0 ∧ news = [])) (hl : news.length = m * size) (h1 : ∀ u ∈ news, u.oneCell' = true)
    (h63 : n + m ≤ maxLen) (hbytes : (n + m) * bytes ≤ 140737488355328) (hbase : base ≤ w.heap.size)
    (h : ∀ v' w', w'.ownsRow base e size v' (n + m) (xs ++ news) → w.grownBy w' v.ownBlock → wpList P ops Q rest (a.put o.dst v') w') : wpList P ops Q (o :: rest) a w := by
  rcases hsrc with ⟨ad, c, hv, hc⟩ | ⟨hv, hm, hn⟩
  · exact wpList_append_own w hgd s x t ho base e i z size bytes ht hi hz hsize hby hzs hsz v n xs hs hown ad m c news (by rw [hx, hv]) hl hc h1 h63 hbytes hbase fun v' w' h2 h3 _ => h v' w' h2 h3
  · subst hm; subst hn; subst hv
    exact wpList_append_two hgd s x t ho base e i z size bytes ht hi hz hsize hby hzs hsz v n xs hs hown base _ 0 [] hx (World.ownsRow_nil _ _ _ _) (by simp) h63 hbytes hbase fun v' w' h2 h3 _ => h v' w' h2 h3
end Go.Proofs.YtbjhjbjjfbmoeaaGreatDoor.Z4

namespace Go.Proofs.YtbjhjbjjfbmoeaaGreatDoor
open Go.RowKit

theorem ints_one (xs : List Int) : ∀ u ∈ xs.map (Value.int .i64), u.oneCell' = true := by
  intro u hu; obtain ⟨d, _, rfl⟩ := List.mem_map.1 hu; rfl

set_option maxRecDepth 100000 in
set_option maxHeartbeats 1000000 in
theorem ownInts_any (ax : Option Addr) (xs : List Int) (cx : Nat) (w : World) (hx : Cells w ax (xs.map (Value.int .i64))) (hl : xs.length ≤ 17592186044415) (hn : ax = none → cx = 0) :
    Calls Tryz.prog 29 #[.slice ax xs.length cx] w fun e w' => (∃ v, e = .returned v ∧ w'.ownsRow w.heap.size 3 1 v xs.length (xs.map (Value.int .i64))) ∧ Below w.heap.size w w' := by
  obtain ⟨i0, hi, hz0, hz1, hz2⟩ := info_parts Tryz.infoInt
  have hsrc : (∃ ad c, Value.slice ax xs.length cx = .slice (some ad) xs.length c ∧ ∀ j u, (xs.map (Value.int .i64))[j]? = some u → w.cell? (ad.add j) = some u) ∨ (Value.slice ax xs.length cx = .slice none 0 0 ∧ xs.length = 0 ∧ xs.map (Value.int .i64) = []) := by
    rcases hx with h | ⟨b, off, rfl, h⟩
    · have h0 : xs = [] := by simpa using h
      cases ax with
      | none => exact .inr ⟨by rw [hn rfl, h0]; rfl, by rw [h0]; rfl, h⟩
      | some ad => exact .inl ⟨ad, cx, rfl, fun j u hu => by rw [h] at hu; simp at hu⟩
    · exact .inl ⟨⟨b, off, none⟩, cx, rfl, fun j u hu => by rw [Addr.add_lit]; exact h j u hu⟩
  have HS := Lib.hid hsrc
  clear hsrc hx hn
  go_enter Tryz.func29, Tryz.ntmps29
  go_wp2_with (at_builtin; refine Z4.wpList_append_src rfl _ _ 24 rfl w.heap.size 3 i0 (.int .i64 0) 1 8 Tryz.underlying24 hi hz0 hz1 hz2 rfl (by decide) _ 0 [] rfl (World.ownsRow_nil _ _ _ _) _ xs.length (xs.map (Value.int .i64)) rfl HS.out (by simp) (ints_one xs) (by unfold maxLen; omega) (by omega) (Nat.le_refl _) ?_; intro v1 wz hown1 hgrow)
  have hb := (Below.refl w.heap.size w).grown hgrow (Nat.le_refl _) (fun _ h => by cases h)
  rw [Nat.zero_add, List.nil_append] at hown1
  have HO := Lib.hid hown1
  obtain ⟨g, c, rfl, hcs⟩ := own_cells hown1
  clear hown1 hcs hgrow
  go_wp2
  go_ret
  exact ⟨⟨_, rfl, HO.out⟩, hb⟩
end Go.Proofs.YtbjhjbjjfbmoeaaGreatDoor

/- Mod, with the law's own walk (for a seat without Down). -/
namespace Go.Proofs.YtbjhjbjjfbmoeaaGreatDoor
open Go.RowKit

theorem tdivz_floor {a b : Int} (hb : 0 < b) : (a.tmod b < 0 → a.tdiv b - 1 = a / b) ∧ (¬ a.tmod b < 0 → a.tdiv b = a / b) := by
  have h1 := Int.mul_tdiv_add_tmod a b
  have h2 := Int.mul_ediv_add_emod a b
  have h3 := Int.emod_nonneg a (by omega : b ≠ 0)
  have h4 := Int.emod_lt_of_pos a hb
  have h5 : a.tmod b < b := Int.tmod_lt_of_pos a hb
  have h6 : -b < a.tmod b := by have := Int.lt_tmod_of_pos a hb; omega
  refine ⟨fun h => ?_, fun h => ?_⟩
  · have e : b * (a.tdiv b - 1 - a / b) = a % b - b - a.tmod b := by rw [Int.mul_sub, Int.mul_sub]; omega
    have : a.tdiv b - 1 - a / b = 0 := by
      rcases Int.lt_trichotomy (a.tdiv b - 1 - a / b) 0 with hl | hl | hl
      · have := Int.mul_le_mul_of_nonneg_left (show a.tdiv b - 1 - a / b ≤ -1 by omega) (Int.le_of_lt hb); omega
      · exact hl
      · have := Int.mul_le_mul_of_nonneg_left (show 1 ≤ a.tdiv b - 1 - a / b by omega) (Int.le_of_lt hb); omega
    omega
  · have e : b * (a.tdiv b - a / b) = a % b - a.tmod b := by rw [Int.mul_sub]; omega
    have : a.tdiv b - a / b = 0 := by
      rcases Int.lt_trichotomy (a.tdiv b - a / b) 0 with hl | hl | hl
      · have := Int.mul_le_mul_of_nonneg_left (show a.tdiv b - a / b ≤ -1 by omega) (Int.le_of_lt hb); omega
      · exact hl
      · have := Int.mul_le_mul_of_nonneg_left (show 1 ≤ a.tdiv b - a / b by omega) (Int.le_of_lt hb); omega
    omega

theorem tmodz_floor {a b : Int} (hb : 0 < b) : (a.tmod b < 0 → a.tmod b + b = a % b) ∧ (¬ a.tmod b < 0 → a.tmod b = a % b) := by
  obtain ⟨f1, f2⟩ := tdivz_floor (a := a) hb
  have h1 := Int.mul_tdiv_add_tmod a b
  have h2 := Int.mul_ediv_add_emod a b
  refine ⟨fun h => ?_, fun h => ?_⟩
  · have := f1 h
    rw [← this, Int.mul_sub] at h2
    omega
  · have := f2 h
    rw [← this] at h2
    omega

theorem modz_any (a b : Int) (w : World) (hb : 1 ≤ b) (hb2 : b ≤ 4611686018427387904) :
    Calls Tryz.prog 30 #[.int .i64 a, .int .i64 b] w fun e w' => e = .returned (.int .i64 (a % b)) ∧ w = w' := by
  have hf := tmodz_floor (a := a) (b := b) (by omega)
  have h0 : (b == 0) = false := by simp; omega
  have hr : -9223372036854775807 ≤ a.tmod b ∧ a.tmod b ≤ 9223372036854775807 := by
    have h1 : a.tmod b < b := Int.tmod_lt_of_pos a (by omega)
    have h2 : -b < a.tmod b := by have := Int.lt_tmod_of_pos a (show 0 < b by omega); omega
    omega
  obtain ⟨r1, r2⟩ := hr
  have H1 := Lib.hid hf; clear hf
  by_cases hm : a.tmod b < 0
  · go_enter Tryz.func30, Tryz.ntmps30
    go_wp2
    go_ret
    exact ⟨ret_int (H1.out.1 hm), rfl⟩
  · go_enter Tryz.func30, Tryz.ntmps30
    go_wp2
    go_ret
    exact ⟨ret_int (H1.out.2 hm), rfl⟩

end Go.Proofs.YtbjhjbjjfbmoeaaGreatDoor

/- BankExact: the walk. -/
namespace Go.Proofs.YtbjhjbjjfbmoeaaGreatDoor
open Go.RowKit

set_option maxRecDepth 100000 in
set_option maxHeartbeats 2000000 in
theorem exact_no (L p q : Int) (al : Option Addr) (nl cl : Nat) (aa : Option Addr) (ds : List Int) (ca : Nat) (va fl wi n0 n1 n2 : Int) (w : World) (ht : Tab w) (hc : Cells w aa (ds.map (Value.int .i64))) (hl : ds.length ≤ 17592186044415) (he : misE L p q ds n0 n1 ≠ 0) :
    Calls Tryz.prog 6 #[.agg #[.int .i64 L, .slice al nl cl, .slice aa ds.length ca, .int .i64 va, .int .i64 fl, .int .i64 wi], .agg #[.int .i64 p, .int .i64 q], .agg #[.int .i64 n0, .int .i64 n1, .int .i64 n2]] w fun e w' => e = .returned (.bool true) ∧ Below w.heap.size w w' := by
  have hm := fun wx hT hC => misfit_any L p q aa ds ca n0 n1 wx hT hC (by omega)
  have hT0 : misT L p q ds n0 n1 = ⟨#[]⟩ := by unfold misT; rw [if_neg he]
  rw [hT0] at hm
  have hen : (misE L p q ds n0 n1 != 0) = true := by simpa using he
  generalize misE L p q ds n0 n1 = E at *
  have HM := Lib.hid hm
  clear hm hT0 he
  obtain ⟨W0, hW0⟩ : ∃ W0, ((w.alloc (.cells #[.int .i64 L, .slice al nl cl, .slice aa ds.length ca, .int .i64 va, .int .i64 fl, .int .i64 wi] 47)).alloc (.cells #[.int .i64 p, .int .i64 q] 23)).alloc (.cells #[.int .i64 n0, .int .i64 n1, .int .i64 n2] 48) = W0 := ⟨_, rfl⟩
  have hB0 : Below w.heap.size w W0 := by rw [← hW0]; exact (((Below.refl _ w).alloc (Nat.le_refl _) _).alloc (by simp) _).alloc (by simp; omega) _
  have hs0 : W0.heap.size = w.heap.size + 3 := by rw [← hW0]; simp
  have b0 : W0.heap[w.heap.size]? = some (.cells #[.int .i64 L, .slice al nl cl, .slice aa ds.length ca, .int .i64 va, .int .i64 fl, .int .i64 wi] 47 (0, 0)) := by rw [← hW0, hold_old _ _ _ (by simp; omega)]; exact heap_alloc2_old w _ _
  have b1 : W0.heap[w.heap.size + 1]? = some (.cells #[.int .i64 p, .int .i64 q] 23 (0, 0)) := by rw [← hW0, hold_old _ _ _ (by simp)]; exact heap_alloc2_new w _ _
  have b2 : W0.heap[w.heap.size + 1 + 1]? = some (.cells #[.int .i64 n0, .int .i64 n1, .int .i64 n2] 48 (0, 0)) := by
    have hsz : ((w.alloc (.cells #[.int .i64 L, .slice al nl cl, .slice aa ds.length ca, .int .i64 va, .int .i64 fl, .int .i64 wi] 47)).alloc (.cells #[.int .i64 p, .int .i64 q] 23)).heap.size = w.heap.size + 1 + 1 := by simp
    rw [← hW0, ← hsz]; exact heap_alloc_new _ _
  have FK : ∀ wx, Below W0.heap.size W0 wx → (wx.cell? ⟨w.heap.size, 0, none⟩ = some (.int .i64 L) ∧ wx.cell? ⟨w.heap.size, 2, none⟩ = some (.slice aa ds.length ca)) ∧ (wx.cell? ⟨w.heap.size + 1, 0, none⟩ = some (.int .i64 p) ∧ wx.cell? ⟨w.heap.size + 1, 1, none⟩ = some (.int .i64 q)) ∧ (wx.cell? ⟨w.heap.size + 1 + 1, 0, none⟩ = some (.int .i64 n0) ∧ wx.cell? ⟨w.heap.size + 1 + 1, 1, none⟩ = some (.int .i64 n1) ∧ wx.cell? ⟨w.heap.size + 1 + 1, 2, none⟩ = some (.int .i64 n2)) ∧ Tab wx ∧ Cells wx aa (ds.map (Value.int .i64)) ∧ Below w.heap.size w wx := by
    intro wx hb
    have e0 := (hb.block _ (by omega)).trans b0
    have e1 := (hb.block _ (by omega)).trans b1
    have e2 := (hb.block _ (by omega)).trans b2
    have e3 : Below w.heap.size w wx := hB0.trans (hb.mono (by omega))
    exact ⟨⟨(cell_of_row wx _ 0 _ _ _ e0).trans rfl, (cell_of_row wx _ 2 _ _ _ e0).trans rfl⟩, ⟨(cell_of_row wx _ 0 _ _ _ e1).trans rfl, (cell_of_row wx _ 1 _ _ _ e1).trans rfl⟩, ⟨(cell_of_row wx _ 0 _ _ _ e2).trans rfl, (cell_of_row wx _ 1 _ _ _ e2).trans rfl, (cell_of_row wx _ 2 _ _ _ e2).trans rfl⟩, ht.below e3 (Nat.le_refl _), hc.below e3 (Nat.le_refl _), e3⟩
  have HFK := Lib.hid FK; have HW0 := Lib.hid hW0; have HS0 := Lib.hid hs0
  clear FK hW0 hs0 b0 b1 b2 hB0
  clear ht hc
  go_enter Tryz.func6, Tryz.ntmps6
  go_wp2_with fail
  rw [HW0.out]
  have f := HFK.out W0 (Below.refl _ _)
  refine (HM.out _ f.2.2.2.1 f.2.2.2.2.1).mono ?_
  rintro e w1 ⟨rfl, hb1⟩
  have f1 := HFK.out w1 hb1
  have HT1 := Lib.hid f1.2.2.2.1; have g1 := f1.2.2.2.2.2
  clear f f1
  go_wp2_with (go_at_call 15; refine (bworks_any _ HT1.out).mono ?_; rintro e w5 ⟨rfl, hb5⟩)
  go_ret
  exact ⟨rfl, g1.trans (hb5.mono g1.size)⟩

set_option maxRecDepth 100000 in
set_option maxHeartbeats 4000000 in
theorem exact_yes (L p q : Int) (al : Option Addr) (nl cl : Nat) (aa : Option Addr) (ds : List Int) (ca : Nat) (va fl wi n0 n1 n2 : Int) (w : World) (ht : Tab w) (hc : Cells w aa (ds.map (Value.int .i64))) (hl : ds.length ≤ 17592186044415) (hn : aa = none → ca = 0) (he : misE L p q ds n0 n1 = 0) :
    Calls Tryz.prog 6 #[.agg #[.int .i64 L, .slice al nl cl, .slice aa ds.length ca, .int .i64 va, .int .i64 fl, .int .i64 wi], .agg #[.int .i64 p, .int .i64 q], .agg #[.int .i64 n0, .int .i64 n1, .int .i64 n2]] w fun e w' => e = .returned (.bool true) ∧ Below w.heap.size w w' := by
  obtain ⟨h1, h2, h3, h4, h5, h6, h7, h8⟩ := misE_zero he
  have hL := waveOK_true h1
  have hdk := dataOK_true h3
  have hm := fun wx hT hC => misfit_any L p q aa ds ca n0 n1 wx hT hC (by omega)
  have hm1 := fun wx hT hC => misfit_any L p q aa ds ca n0 1 wx hT hC (by omega)
  obtain ⟨o1, o2⟩ := mis_one he
  rw [he] at hm
  rw [o1, misT_null o1 o2] at hm1
  obtain ⟨c1, c2, c3⟩ := mis_cmp he
  have hcm := fun wx hT => cmp_any (misT L p q ds n0 n1) ⟨#[48]⟩ wx hT c3 (by decide)
  rw [c1] at hcm
  obtain ⟨K, hK⟩ : ∃ K, K = n2 % 200 := ⟨_, rfl⟩
  have hK0 : 0 ≤ K ∧ K ≤ 199 := by omega
  obtain ⟨z1, z2⟩ := layd_mis (K := K) he hK0.1 hK0.2
  have hlen := layd_length ds n0.toNat K (wav L p q) L.toNat
  have hm2 := fun ao cap wx hT hC => misfit_any L p q ao (layd ds n0.toNat K (wav L p q) L.toNat) cap n0 n1 wx hT hC (by omega)
  rw [z1, z2, hlen] at hm2
  have hmod := fun wx => modz_any n2 200 wx (by decide) (by decide)
  rw [← hK] at hmod
  have hwv := fun wx => Wave_any L p q wx
  have hwl : (wavR L p q).length = L.toNat := by rw [wavR_length, h1]; rfl
  have hwE : wavE L p q = 0 := by simp [wavE, h1]
  rw [hwl, hwE] at hwv
  obtain ⟨M, hM⟩ : ∃ M : Nat, L = (M : Int) := ⟨L.toNat, by omega⟩
  obtain ⟨T, hT⟩ : ∃ T : Nat, n0 = (T : Int) := ⟨n0.toNat, by omega⟩
  have hMt : L.toNat = M := by omega
  have hTt : n0.toNat = T := by omega
  have hwg : ∀ i, i < M → (wavR L p q)[i]? = some ((wav L p q).getD i 0) := by
    intro i hi
    have e : wavR L p q = (wav L p q).take L.toNat := by simp [wavR, h1]
    rw [e, hMt, List.getElem?_take, if_pos hi, List.getD_eq_getElem?_getD, List.getElem?_eq_getElem (by rw [wav_length]; omega)]
    rfl
  have hxb := wav_bd L p q
  rw [hMt] at hwv hm2
  rw [hTt] at hm2
  have hown := fun wx hC => ownInts_any aa ds ca wx hC hl hn
  generalize misT L p q ds n0 n1 = MT at *
  generalize cmpV MT ⟨#[48]⟩ = sg at *
  generalize wavR L p q = hr at *
  generalize wav L p q = xs at *
  have hML : M ≤ 64 ∧ 4 ≤ M ∧ T + M ≤ ds.length ∧ ds.length ≤ 512 := by omega
  have hKK : -128 ≤ K ∧ K ≤ 200 := by omega
  have HM := Lib.hid hm; have HM1 := Lib.hid hm1; have HCM := Lib.hid hcm; have HM2 := Lib.hid hm2; have HMOD := Lib.hid hmod; have HWV := Lib.hid hwv; have HWG := Lib.hid hwg; have HXB := Lib.hid hxb; have HOWN := Lib.hid hown; have HLM := Lib.hid hM; have HTM := Lib.hid hT
  clear hm hm1 hcm hm2 hmod hwv hwg hxb hown hM hT hMt hTt hK z1 z2 o1 o2 c1 c3 h1 h2 h3 h4 h5 h6 h7 h8 hdk hL he hwl hwE hlen hn
  obtain ⟨W0, hW0⟩ : ∃ W0, ((w.alloc (.cells #[.int .i64 L, .slice al nl cl, .slice aa ds.length ca, .int .i64 va, .int .i64 fl, .int .i64 wi] 47)).alloc (.cells #[.int .i64 p, .int .i64 q] 23)).alloc (.cells #[.int .i64 n0, .int .i64 n1, .int .i64 n2] 48) = W0 := ⟨_, rfl⟩
  have hB0 : Below w.heap.size w W0 := by rw [← hW0]; exact (((Below.refl _ w).alloc (Nat.le_refl _) _).alloc (by simp) _).alloc (by simp; omega) _
  have hs0 : W0.heap.size = w.heap.size + 3 := by rw [← hW0]; simp
  have b0 : W0.heap[w.heap.size]? = some (.cells #[.int .i64 L, .slice al nl cl, .slice aa ds.length ca, .int .i64 va, .int .i64 fl, .int .i64 wi] 47 (0, 0)) := by rw [← hW0, hold_old _ _ _ (by simp; omega)]; exact heap_alloc2_old w _ _
  have b1 : W0.heap[w.heap.size + 1]? = some (.cells #[.int .i64 p, .int .i64 q] 23 (0, 0)) := by rw [← hW0, hold_old _ _ _ (by simp)]; exact heap_alloc2_new w _ _
  have b2 : W0.heap[w.heap.size + 1 + 1]? = some (.cells #[.int .i64 n0, .int .i64 n1, .int .i64 n2] 48 (0, 0)) := by
    have hsz : ((w.alloc (.cells #[.int .i64 L, .slice al nl cl, .slice aa ds.length ca, .int .i64 va, .int .i64 fl, .int .i64 wi] 47)).alloc (.cells #[.int .i64 p, .int .i64 q] 23)).heap.size = w.heap.size + 1 + 1 := by simp
    rw [← hW0, ← hsz]; exact heap_alloc_new _ _
  have FK : ∀ wx, Below W0.heap.size W0 wx → (wx.cell? ⟨w.heap.size, 0, none⟩ = some (.int .i64 L) ∧ wx.cell? ⟨w.heap.size, 2, none⟩ = some (.slice aa ds.length ca)) ∧ (wx.cell? ⟨w.heap.size + 1, 0, none⟩ = some (.int .i64 p) ∧ wx.cell? ⟨w.heap.size + 1, 1, none⟩ = some (.int .i64 q)) ∧ (wx.cell? ⟨w.heap.size + 1 + 1, 0, none⟩ = some (.int .i64 n0) ∧ wx.cell? ⟨w.heap.size + 1 + 1, 1, none⟩ = some (.int .i64 n1) ∧ wx.cell? ⟨w.heap.size + 1 + 1, 2, none⟩ = some (.int .i64 n2)) ∧ Tab wx ∧ Cells wx aa (ds.map (Value.int .i64)) ∧ Below w.heap.size w wx := by
    intro wx hb
    have e0 := (hb.block _ (by omega)).trans b0
    have e1 := (hb.block _ (by omega)).trans b1
    have e2 := (hb.block _ (by omega)).trans b2
    have e3 : Below w.heap.size w wx := hB0.trans (hb.mono (by omega))
    exact ⟨⟨(cell_of_row wx _ 0 _ _ _ e0).trans rfl, (cell_of_row wx _ 2 _ _ _ e0).trans rfl⟩, ⟨(cell_of_row wx _ 0 _ _ _ e1).trans rfl, (cell_of_row wx _ 1 _ _ _ e1).trans rfl⟩, ⟨(cell_of_row wx _ 0 _ _ _ e2).trans rfl, (cell_of_row wx _ 1 _ _ _ e2).trans rfl, (cell_of_row wx _ 2 _ _ _ e2).trans rfl⟩, ht.below e3 (Nat.le_refl _), hc.below e3 (Nat.le_refl _), e3⟩
  have HFK := Lib.hid FK; have HW0 := Lib.hid hW0; have HS0 := Lib.hid hs0
  clear FK hW0 hs0 b0 b1 b2 hB0
  clear ht hc
  obtain ⟨m1, m2, m3, m4⟩ := hML
  go_enter Tryz.func6, Tryz.ntmps6
  go_wp2_with fail
  rw [HW0.out]
  have f := HFK.out W0 (Below.refl _ _)
  refine (HM.out _ f.2.2.2.1 f.2.2.2.2.1).mono ?_
  rintro e w1 ⟨rfl, hb1⟩
  clear f
  have f := HFK.out w1 hb1
  have HT1 := Lib.hid f.2.2.2.1
  clear f
  go_wp2_with fail
  refine (HCM.out _ HT1.out).mono ?_
  rintro e w2 ⟨rfl, hb2⟩
  have B2 : Below W0.heap.size W0 w2 := hb1.trans (hb2.mono hb1.size)
  have f := HFK.out w2 B2
  have f00 := f.1.1; have f02 := f.1.2; have f10 := f.2.1.1; have f11 := f.2.1.2; have f20 := f.2.2.1.1
  have HT2 := Lib.hid f.2.2.2.1; have HC2 := Lib.hid f.2.2.2.2.1
  clear f hb1 hb2 HT1
  go_wp2_with fail
  refine (HM1.out _ HT2.out HC2.out).mono ?_
  rintro e w3 ⟨rfl, hb3⟩
  have B3 : Below W0.heap.size W0 w3 := B2.trans (hb3.mono B2.size)
  clear f00 f02 f10 f11 f20 hb3 HT2 HC2
  have f := HFK.out w3 B3
  have f00 := f.1.1; have f10 := f.2.1.1; have f11 := f.2.1.2
  clear f
  go_wp2_with fail
  refine (HWV.out _).mono ?_
  rintro e w4 ⟨⟨bh, ch, rfl, hch⟩, hb4⟩
  have B4 : Below W0.heap.size W0 w4 := B3.trans (hb4.mono B3.size)
  clear f00 f10 f11 hb4
  have f := HFK.out w4 B4
  have f00 := f.1.1; have f02 := f.1.2
  have HC4 := Lib.hid f.2.2.2.2.1; have HCH := Lib.hid hch
  clear f hch
  rw [HLM.out] at f00
  go_wp2_with fail
  refine (HOWN.out _ HC4.out).mono ?_
  rintro e w5 ⟨⟨vd, rfl, hod⟩, hb5⟩
  have B5 : Below W0.heap.size W0 w5 := B4.trans (hb5.mono B4.size)
  have HCH5 := Lib.hid (HCH.out.below hb5 (Nat.le_refl _))
  clear f00 f02 HC4 B2 B3
  have hpos : ∃ g cp, vd = .slice (some ⟨g, 0, none⟩) ds.length cp := by
    rcases hod.2 with ⟨_, h0⟩ | ⟨g, cap, _, rfl, _⟩
    · omega
    · exact ⟨g, cap, rfl⟩
  obtain ⟨g, cp, rfl⟩ := hpos
  have hod0 : w5.ownsRow w4.heap.size 3 1 (.slice (some ⟨g, 0, none⟩) ds.length cp) ds.length ((layd ds T K xs 0).map (Value.int .i64)) := by rw [layd_zero]; exact hod
  have HOD := Lib.hid hod0; have HB5 := Lib.hid hb5
  clear hod hod0 hb5 HCH5
  go_wp2
  go_loopw [15] (fun iv wr => ∃ i : Nat, i ≤ M ∧ iv = .int .i64 (i : Int) ∧ wr.ownsRow w4.heap.size 3 1 (.slice (some ⟨g, 0, none⟩) ds.length cp) ds.length ((layd ds T K xs i).map (Value.int .i64)) ∧ Below w4.heap.size w4 wr) (fun iv _ => M - (intOf iv).toNat)
  case atStart => exact ⟨0, Nat.zero_le _, rfl, HOD.out, HB5.out⟩
  case round =>
    clear HOD HB5 B5
    obtain ⟨i, hi, rfl, hown, hb⟩ := hrel
    have Br : Below W0.heap.size W0 wr := B4.trans (hb.mono B4.size)
    have f := HFK.out wr Br
    have hs4 : W0.heap.size ≤ w4.heap.size := B4.size
    by_cases hlt : i < M
    · obtain ⟨y, hy⟩ : ∃ y, y = xs.getD i 0 := ⟨_, rfl⟩
      have hyb := getD_in (M := 127) (by omega) HXB.out i
      rw [← hy] at hyb
      have hhi := HWG.out i hlt
      rw [← hy] at hhi
      obtain ⟨b, off, rfl⟩ := HCH.out.addr (by intro h; rw [List.map_eq_nil_iff] at h; rw [h] at hhi; simp at hhi)
      have x2 := cell_keep (HCH.out.int hhi) hb (Nat.le_refl _)
      have hblt : b < w4.heap.size := by have := World.block_lt_of_cell? w4 _ (HCH.out.int hhi); simpa using this
      have x0 := f.2.2.1.1
      have x1 := f.2.2.1.2.2
      rw [HTM.out] at x0
      have hglt := (hown.lt g rfl)
      obtain ⟨old, hold⟩ := get_of_lt (show T + i < (layd ds T K xs i).length by rw [layd_length]; omega)
      have c1 : wr.cell? ⟨g, T + i, none⟩ = some (.int .i64 old) := by
        have := hown.cells rfl (T + i) (.int .i64 old) (by simp [hold])
        rwa [Addr.add_lit, Nat.zero_add] at this
      have c2 := hown.frozenAt (T + i)
      have hst := (hown.stored (T + i) (.int .i64 (K * y))).1
      rw [← List.map_set, hy, layd_succ, ← hy] at hst
      have hbn := hb.setCell (p := ⟨g, T + i, none⟩) hglt.1 (.int .i64 (K * y))
      have HST : Hid ((wr.setCell ⟨g, T + i, none⟩ (.int .i64 (K * y))).drew.ownsRow w4.heap.size 3 1 (.slice (some ⟨g, 0, none⟩) ds.length cp) ds.length ((layd ds T K xs (i + 1)).map (Value.int .i64))) := Lib.hid (own_drewN hst 1)
      have HBN : Hid (Below w4.heap.size w4 (wr.setCell ⟨g, T + i, none⟩ (.int .i64 (K * y))).drew) := Lib.hid (bel_drewN hbn 1)
      have hg1 := hglt.1
      clear hst hbn hold hown hhi hy f hb Br
      have hpd : -25400 ≤ K * y ∧ K * y ≤ 25400 := by
        have ha : K.natAbs ≤ 200 := by omega
        have hc : y.natAbs ≤ 127 := by omega
        have hm := Nat.mul_le_mul ha hc
        rw [← Int.natAbs_mul] at hm
        omega
      have q1 : IntKind.i64.wrap ((T : Int) + (i : Int)) = (T : Int) + i := IntWalk.i64_in _ (by omega)
      have q2 : IntKind.i64.wrap (K * y) = K * y := IntWalk.i64_in _ (by omega)
      have q3 : 0 ≤ (T : Int) + (i : Int) := by omega
      have q4 : (T : Int) + (i : Int) < ds.length := by omega
      have q5 : ((T : Int) + (i : Int)).toNat = T + i := by omega
      have i1 : (i : Int) < M := by omega
      have i2 : (0 : Int) ≤ i := by omega
      have xd0 : wr.drew.cell? ⟨w.heap.size + 1 + 1, 0, none⟩ = some (.int .i64 (T : Int)) := x0
      have xd1 : wr.drew.cell? ⟨w.heap.size + 1 + 1, 2, none⟩ = some (.int .i64 n2) := x1
      have xd2 : wr.drew.cell? ⟨b, off + i, none⟩ = some (.int .i64 y) := x2
      have cd1 : wr.drew.cell? ⟨g, T + i, none⟩ = some (.int .i64 old) := c1
      have cd2 : wr.drew.frozen? ⟨g, T + i, none⟩ = false := c2
      have hne1 : ¬ w.heap.size + 1 + 1 = g := by have := HS0.out; omega
      have hne2 : ¬ b = g := by omega
      have yd0 : (wr.setCell ⟨g, T + i, none⟩ (.int .i64 (K * y))).drew.cell? ⟨w.heap.size + 1 + 1, 0, none⟩ = some (.int .i64 (T : Int)) := by
        show (wr.setCell ⟨g, T + i, none⟩ (.int .i64 (K * y))).cell? _ = _
        rw [World.cell?_setCell_other _ _ _ _ (by simp <;> omega)]; exact x0
      have yd1 : (wr.setCell ⟨g, T + i, none⟩ (.int .i64 (K * y))).drew.cell? ⟨w.heap.size + 1 + 1, 2, none⟩ = some (.int .i64 n2) := by
        show (wr.setCell ⟨g, T + i, none⟩ (.int .i64 (K * y))).cell? _ = _
        rw [World.cell?_setCell_other _ _ _ _ (by simp <;> omega)]; exact x1
      have yd2 : (wr.setCell ⟨g, T + i, none⟩ (.int .i64 (K * y))).drew.cell? ⟨b, off + i, none⟩ = some (.int .i64 y) := by
        show (wr.setCell ⟨g, T + i, none⟩ (.int .i64 (K * y))).cell? _ = _
        rw [World.cell?_setCell_other _ _ _ _ (by simp <;> omega)]; exact x2
      go_wp2_with fail
      go_region_held3 (fun w' => w'.cell? ⟨w.heap.size + 1 + 1, 0, none⟩ = some (.int .i64 (T : Int)) ∧ w'.cell? ⟨w.heap.size + 1 + 1, 2, none⟩ = some (.int .i64 n2) ∧ w'.cell? ⟨b, off + i, none⟩ = some (.int .i64 y))
        (first | with_reducible exact ⟨x0, x1, x2⟩ | with_reducible exact ⟨xd0, xd1, xd2⟩ | with_reducible exact ⟨yd0, yd1, yd2⟩ | (refine ⟨?_, ?_, ?_⟩ <;> (repeat rw [World.cell?_setCell_other _ _ _ _ (by simp <;> omega)]) <;> assumption) | go_keep)
        (first | (go_at_call 30; (with_reducible refine Calls.mono (HMOD.out _) ?_); rintro e w' ⟨rfl, rfl⟩))
      go_wp2
      go_roundw
      case rel => exact ⟨i + 1, by omega, by go_num, HST.out, HBN.out⟩
      case measure => simp [intOf]; omega
    · obtain rfl : i = M := by omega
      obtain ⟨_, _, hve, hcs⟩ := own_cells hown
      have hcs' : Cells wr (some ⟨g, 0, none⟩) ((layd ds T K xs i).map (Value.int .i64)) := by cases hve; exact hcs
      have f00 := f.1.1; have f10 := f.2.1.1; have f11 := f.2.1.2; have f20 := f.2.2.1.1; have f21 := f.2.2.1.2.1; have gr := f.2.2.2.2.2
      have HTr := Lib.hid f.2.2.2.1; have HCS := Lib.hid hcs'
      clear f hcs hcs' hve hown
      go_wp2_with fail
      refine (HM2.out _ _ _ HTr.out HCS.out).mono ?_
      rintro e w7 ⟨rfl, hb7⟩
      have g7 := gr.trans (hb7.mono gr.size)
      have HT7 := Lib.hid (HTr.out.below hb7 (Nat.le_refl _))
      clear f00 f10 f11 f20 f21
      go_wp2_with (go_at_call 15; refine (bworks_any _ HT7.out).mono ?_; rintro e w8 ⟨rfl, hb8⟩)
      go_ret
      exact ⟨rfl, g7.trans (hb8.mono g7.size)⟩

theorem exact_law (L p q : Int) (al : Option Addr) (nl cl : Nat) (aa : Option Addr) (ds : List Int) (ca : Nat) (va fl wi n0 n1 n2 : Int) (w : World) (ht : Tab w) (hc : Cells w aa (ds.map (Value.int .i64))) (hl : ds.length ≤ 17592186044415) (hn : aa = none → ca = 0) :
    Calls Tryz.prog 6 #[.agg #[.int .i64 L, .slice al nl cl, .slice aa ds.length ca, .int .i64 va, .int .i64 fl, .int .i64 wi], .agg #[.int .i64 p, .int .i64 q], .agg #[.int .i64 n0, .int .i64 n1, .int .i64 n2]] w fun e w' => e = .returned (.bool true) ∧ Below w.heap.size w w' := by
  by_cases h : misE L p q ds n0 n1 = 0
  · exact exact_yes L p q al nl cl aa ds ca va fl wi n0 n1 n2 w ht hc hl hn h
  · exact exact_no L p q al nl cl aa ds ca va fl wi n0 n1 n2 w ht hc hl h
end Go.Proofs.YtbjhjbjjfbmoeaaGreatDoor

/- Arguments read as data: a struct of a number, a slice, a slice of numbers and three numbers (Scan), by value. -/
namespace Go.Proofs.YtbjhjbjjfbmoeaaGreatDoor
open Go.RowKit Go.WideShapes Go.ChangeShapes Go.Deep Go.Joins

section
variable {H : Type} {enc : TypeId × Value → H} {P : Program} {w : World} {base : Nat} {spare : Nat → Bool} {held : Bool}
theorem array6 {α : Type} {cs : Array α} (h : cs.size = 6) : ∃ c0 c1 c2 c3 c4 c5, cs = #[c0, c1, c2, c3, c4, c5] := by
  obtain ⟨l⟩ := cs
  match l, h with
  | [c0, c1, c2, c3, c4, c5], _ => exact ⟨c0, c1, c2, c3, c4, c5, rfl⟩
theorem open_scan {r : Reach} {b0 : Nat} {t i sc c si : TypeId} {f0 f1 f2 f3 f4 f5 : Field} {v : Value} {d : DataW H} {p : List MemPlace} (hs : P.underlying t = some (.struct #[f0, f1, f2, f3, f4, f5])) (h0 : f0.type = i ∧ f0.offset = 0) (h1 : f1.type = sc ∧ f1.offset = 1) (h2 : f2.type = si ∧ f2.offset = 2)
    (h3 : f3.type = i ∧ f3.offset = 3) (h4 : f4.type = i ∧ f4.offset = 4) (h5 : f5.type = i ∧ f5.offset = 5) (hi : P.underlying i = some (.int .i64)) (hsc : P.underlying sc = some (.slice c)) (hsi : P.underlying si = some (.slice i)) (ci : P.cellsOf i = 1) (csc : P.cellsOf sc = 1) (csi : P.cellsOf si = 1) (ct : P.cellsOf t = 6)
    (hv : Value.okWide P w r b0 t v) (h : DataW.Trod enc P w base spare held t v d p) :
    ∃ (L : Int) (al : Option Addr) (nl cl : Nat) (ao : Option Addr) (xs : List Int) (cap : Nat) (va fl wi : Int) (dd : DataW H), v = .agg #[.int .i64 L, .slice al nl cl, .slice ao xs.length cap, .int .i64 va, .int .i64 fl, .int .i64 wi] ∧ Cells w ao (xs.map (Value.int .i64)) ∧ xs.length ≤ cap ∧
      xs.length ≤ dlen dd ∧ (ao = none → cap = 0) ∧ (∀ n ∈ dd.weights P si, n ∈ d.weights P t) := by
  obtain ⟨cs, rfl, hsz⟩ := okWide_struct hs hv
  obtain ⟨c0, c1, c2, c3, c4, c5, rfl⟩ := array6 (hsz.trans ct)
  obtain ⟨fuel, hf⟩ := h
  obtain ⟨xs, n, _, hx, _, hlen, hfs⟩ := DataW.trod_struct hs hf
  match xs, hlen with
  | [y0, y1, y2, y3, y4, y5], _ =>
    have t0 := hfs 0 f0 rfl
    have t1 := hfs 1 f1 rfl
    have t2 := hfs 2 f2 rfl
    have t3 := hfs 3 f3 rfl
    have t4 := hfs 4 f4 rfl
    have t5 := hfs 5 f5 rfl
    rw [h0.1, h0.2, ci] at t0
    rw [h1.1, h1.2, csc] at t1
    rw [h2.1, h2.2, csi] at t2
    rw [h3.1, h3.2, ci] at t3
    rw [h4.1, h4.2, ci] at t4
    rw [h5.1, h5.2, ci] at t5
    obtain ⟨L, e0, _, _⟩ := DataW.trod_int hi (show DataW.trod enc P w base spare held n i [c0] = some y0 from t0)
    obtain ⟨va, e3, _, _⟩ := DataW.trod_int hi (show DataW.trod enc P w base spare held n i [c3] = some y3 from t3)
    obtain ⟨fl, e4, _, _⟩ := DataW.trod_int hi (show DataW.trod enc P w base spare held n i [c4] = some y4 from t4)
    obtain ⟨wi, e5, _, _⟩ := DataW.trod_int hi (show DataW.trod enc P w base spare held n i [c5] = some y5 from t5)
    obtain ⟨ao, zs, cap, e2, hc, hl, _, _, hdl, hnn⟩ := rd_ints2 hsi hi ci (show DataW.trod enc P w base spare held n si [c2] = some y2 from t2)
    have hsl : ∃ al nl cl, c1 = Value.slice al nl cl := by
      rcases open_slice hsc (show DataW.trod enc P w base spare held n sc [c1] = some y1 from t1) with ⟨h, _⟩ | ⟨a, len, cap, _, _, _, _, h, _⟩
      · simp only [List.cons.injEq, and_true] at h; exact ⟨_, _, _, h⟩
      · simp only [List.cons.injEq, and_true] at h; exact ⟨_, _, _, h⟩
    obtain ⟨al, nl, cl, e1⟩ := hsl
    simp only [List.cons.injEq, and_true] at e0 e2 e3 e4 e5
    refine ⟨L, al, nl, cl, ao, zs, cap, va, fl, wi, y2.1, by rw [e0, e1, e2, e3, e4, e5], hc, hl, hdl, hnn, fun m hm => ?_⟩
    simp only [Prod.mk.injEq] at hx
    rw [hx.1]
    have e : (DataW.agg ([y0, y1, y2, y3, y4, y5].map (·.1))).weights P t = DataW.weightsEach P ((#[f0, f1, f2, f3, f4, f5] : Array Field).toList.map (·.type)) ([y0, y1, y2, y3, y4, y5].map (·.1)) := by simp [DataW.weights, hs]
    rw [e]
    exact DataW.weights_mem_each (j := 2) (t := si) (d := y2.1) (by show some f2.type = some si; rw [h2.1]) rfl m hm
end
end Go.Proofs.YtbjhjbjjfbmoeaaGreatDoor
