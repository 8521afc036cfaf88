/- Parts of a proof, in build order: NA, NB, ND, NC, NG. -/
import Derived.Test.YtdpjdifoonfcdaaGreatDoorKh9

namespace Go.Proofs.YtdpjdifoonfcdaaGreatDoor
theorem sg_num (q : Rat) : sgI (decide (q.num < 0)) q.num.natAbs = q.num := by
 unfold sgI
 by_cases h : q.num < 0
 · rw [if_pos (by simpa using h)]; omega
 · rw [if_neg (by simpa using h)]; omega
theorem redI_rat (n : Int) {d : Nat} (hd : d ≠ 0) : redI n d = (decide ((mkRat n d).num < 0), (mkRat n d).num.natAbs, (mkRat n d).den) := by
 have hg : 0 < Nat.gcd n.natAbs d := Nat.gcd_pos_of_pos_right _ (by omega)
 have h1 := Nat.gcd_dvd_left n.natAbs d
 have hn : (mkRat n d).num = n / (Nat.gcd n.natAbs d : Nat) := by rw [Rat.num_mkRat, if_neg hd, Nat.gcd_comm]
 have hdn : (mkRat n d).den = d / Nat.gcd n.natAbs d := by rw [Rat.den_mkRat, if_neg hd, Nat.gcd_comm]
 have hdv : ((Nat.gcd n.natAbs d : Nat) : Int) ∣ n := Int.ofNat_dvd_left.2 h1
 unfold redI
 rw [hn, hdn]
 refine Prod.ext ?_ (Prod.ext ?_ rfl)
 · show decide (n < 0) = decide _
   rw [Bool.eq_iff_iff, decide_eq_true_iff, decide_eq_true_iff]
   constructor
   · intro h; exact Int.ediv_neg_of_neg_of_pos h (by omega)
   · intro h
     rcases Int.lt_or_le n 0 with h3 | h3
     · exact h3
     · have := Int.ediv_nonneg h3 (show (0 : Int) <= (Nat.gcd n.natAbs d : Nat) by omega); omega
 · show n.natAbs / _ = _
   rw [Int.natAbs_ediv_of_dvd hdv]; rfl
def qS (q : Rat) : Bool := decide (q.num < 0)
def qN (q : Rat) : Nat := q.num.natAbs
def qD (q : Rat) : Nat := q.den
theorem qD_ne (q : Rat) : qD q ≠ 0 := q.den_nz
theorem sg_q (q : Rat) : sgI (qS q) (qN q) = q.num := sg_num q
theorem red_q (n : Int) {d : Nat} (hd : d ≠ 0) : redI n d = (qS (mkRat n d), qN (mkRat n d), qD (mkRat n d)) := redI_rat n hd
theorem rp_q (a b : Rat) : rpS (qS a) (qN a) (qD a) (qS b) (qN b) (qD b) = qS (a + b) /\ rpN (qS a) (qN a) (qD a) (qS b) (qN b) (qD b) = qN (a + b) /\ rpD (qS a) (qN a) (qD a) (qS b) (qN b) (qD b) = qD (a + b) := by
 have h := rp_red (qS a) (qN a) (qD a) (qS b) (qN b) (qD b)
 rw [sg_q, sg_q, red_q _ (Nat.mul_ne_zero (qD_ne a) (qD_ne b))] at h
 rw [Rat.add_def']
 exact ⟨(Prod.ext_iff.1 h).1, (Prod.ext_iff.1 (Prod.ext_iff.1 h).2).1, (Prod.ext_iff.1 (Prod.ext_iff.1 h).2).2⟩
theorem rt_q (a b : Rat) : ((qS a != qS b) && decide (qN a * qN b ≠ 0)) = qS (a * b) /\ qN a * qN b / Nat.gcd (qN a * qN b) (qD a * qD b) = qN (a * b) /\ qD a * qD b / Nat.gcd (qN a * qN b) (qD a * qD b) = qD (a * b) := by
 have h := red_q (a.num * b.num) (Nat.mul_ne_zero (qD_ne a) (qD_ne b))
 rw [<- show a * b = mkRat (a.num * b.num) (qD a * qD b) from Rat.mul_def' a b] at h
 have hn : (a.num * b.num).natAbs = qN a * qN b := Int.natAbs_mul _ _
 unfold redI at h
 rw [hn] at h
 refine ⟨?_, (Prod.ext_iff.1 (Prod.ext_iff.1 h).2).1, (Prod.ext_iff.1 (Prod.ext_iff.1 h).2).2⟩
 have h0 : decide (a.num * b.num < 0) = qS (a * b) := (Prod.ext_iff.1 h).1
 rw [<- h0]
 rw [Bool.eq_iff_iff, decide_eq_true_iff, Bool.and_eq_true, decide_eq_true_iff, <- hn]
 unfold qS
 have t : ∀ {x : Int}, x < 0 -> decide (x < 0) = true := fun h => by simpa using h
 have f : ∀ {x : Int}, 0 <= x -> decide (x < 0) = false := fun h => by rw [decide_eq_false_iff_not]; omega
 have z1 : a.num = 0 -> a.num * b.num = 0 := fun h => by rw [h]; simp
 have z2 : b.num = 0 -> a.num * b.num = 0 := fun h => by rw [h]; simp
 rcases Int.lt_trichotomy a.num 0 with h1 | h1 | h1
 · rcases Int.lt_trichotomy b.num 0 with h2 | h2 | h2
   · have := Int.mul_pos_of_neg_of_neg h1 h2
     rw [t h1, t h2]; exact ⟨fun h => absurd h.1 (by decide), fun h => by omega⟩
   · have := z2 h2; exact ⟨fun h => by omega, fun h => by omega⟩
   · have := Int.mul_neg_of_neg_of_pos h1 h2
     rw [t h1, f (by omega)]; exact ⟨fun _ => this, fun _ => ⟨rfl, by omega⟩⟩
 · have := z1 h1; exact ⟨fun h => by omega, fun h => by omega⟩
 · rcases Int.lt_trichotomy b.num 0 with h2 | h2 | h2
   · have := Int.mul_neg_of_pos_of_neg h1 h2
     rw [f (by omega), t h2]; exact ⟨fun _ => this, fun _ => ⟨rfl, by omega⟩⟩
   · have := z2 h2; exact ⟨fun h => by omega, fun h => by omega⟩
   · have := Int.mul_pos h1 h2
     rw [f (by omega), f (by omega)]; exact ⟨fun h => absurd h.1 (by decide), fun h => by omega⟩
theorem neg_q (a : Rat) : (!qS a && decide (qN a ≠ 0)) = qS (-a) /\ qN (-a) = qN a /\ qD (-a) = qD a := by
 refine ⟨?_, ?_, rfl⟩
 · unfold qS qN; rw [Rat.neg_num, Bool.eq_iff_iff, Bool.and_eq_true, Bool.not_eq_true', decide_eq_true_iff, decide_eq_true_iff, decide_eq_false_iff_not]; omega
 · unfold qN; rw [Rat.neg_num, Int.natAbs_neg]
theorem inv_q {a : Rat} (h : a ≠ 0) : qS a⁻¹ = qS a /\ qN a⁻¹ = qD a /\ qD a⁻¹ = qN a := by
 have hn : a.num ≠ 0 := fun h0 => h (Rat.num_eq_zero.1 h0)
 unfold qS qN qD
 rw [Rat.num_inv, Rat.den_inv, if_neg hn]
 have hd := Rat.den_pos a
 refine ⟨?_, ?_, rfl⟩
 · rw [Bool.eq_iff_iff, decide_eq_true_iff, decide_eq_true_iff]
   rcases Int.lt_or_lt_of_ne hn with h1 | h1
   · rw [Int.sign_eq_neg_one_of_neg h1]; omega
   · rw [Int.sign_eq_one_of_pos h1]; omega
 · rw [Int.natAbs_mul, Int.natAbs_sign_of_ne_zero hn]; simp
theorem qN_zero {q : Rat} : qN q = 0 ↔ q = 0 := by unfold qN; rw [Int.natAbs_eq_zero, Rat.num_eq_zero]
def hgt (q : Rat) : Nat := max (dig (qN q)).length (dig (qD q)).length
theorem hgt_n (q : Rat) : (dig (qN q)).length <= hgt q := Nat.le_max_left _ _
theorem hgt_d (q : Rat) : (dig (qD q)).length <= hgt q := Nat.le_max_right _ _
theorem hgt_le {q : Rat} {k : Nat} (h1 : (dig (qN q)).length <= k) (h2 : (dig (qD q)).length <= k) : hgt q <= k := Nat.max_le.2 ⟨h1, h2⟩
theorem hgt_neg (q : Rat) : hgt (-q) = hgt q := by unfold hgt; rw [(neg_q q).2.1, (neg_q q).2.2]
theorem hgt_mul (a b : Rat) : hgt (a * b) <= hgt a + hgt b := by
 refine hgt_le ?_ ?_
 · rw [<- (rt_q a b).2.1]
   exact Nat.le_trans (dig_len_mono (Nat.div_le_self _ _)) (Nat.le_trans (dig_mul_len _ _) (Nat.add_le_add (hgt_n a) (hgt_n b)))
 · rw [<- (rt_q a b).2.2]
   exact Nat.le_trans (dig_len_mono (Nat.div_le_self _ _)) (Nat.le_trans (dig_mul_len _ _) (Nat.add_le_add (hgt_d a) (hgt_d b)))
theorem hgt_add (a b : Rat) : hgt (a + b) <= hgt a + hgt b + 1 := by
 obtain ⟨-, h2, h3⟩ := rp_q a b
 refine hgt_le ?_ ?_
 · rw [<- h2]
   refine Nat.le_trans (dig_len_mono (Nat.div_le_self _ _)) (Nat.le_trans (dig_len_mono (adN_le _ _ _ _)) (dig_add_len ?_ ?_))
   · exact Nat.le_trans (dig_mul_len _ _) (Nat.add_le_add (hgt_n a) (hgt_d b))
   · rw [Nat.add_comm]; exact Nat.le_trans (dig_mul_len _ _) (Nat.add_le_add (hgt_n b) (hgt_d a))
 · rw [<- h3]
   exact Nat.le_trans (dig_len_mono (Nat.div_le_self _ _)) (Nat.le_trans (dig_mul_len _ _) (Nat.le_trans (Nat.add_le_add (hgt_d a) (hgt_d b)) (by omega)))
theorem hgt_sub (a b : Rat) : hgt (a - b) <= hgt a + hgt b + 1 := by
 rw [Rat.sub_eq_add_neg]; have := hgt_add a (-b); rwa [hgt_neg] at this
theorem hgt_inv {a : Rat} (h : a ≠ 0) : hgt a⁻¹ = hgt a := by
 unfold hgt; rw [(inv_q h).2.1, (inv_q h).2.2, Nat.max_comm]
theorem hgt_zero : hgt 0 = 1 := by
 unfold hgt
 have h1 : dig (qN 0) = [] := dig_zero
 have h2 : dig (qD 0) = [1] := by show dig 1 = [1]; rw [dig_pos (by decide)]; rw [show 1 / B = 0 by decide, dig_zero]; rfl
 rw [h1, h2]; rfl
end Go.Proofs.YtdpjdifoonfcdaaGreatDoor

namespace Go.Proofs.YtdpjdifoonfcdaaGreatDoor
def dotQ : List Rat -> List Rat -> Rat
 | x :: xs, y :: ys => x * y + dotQ xs ys
 | _, _ => 0
theorem dotQ_nil (y : List Rat) : dotQ [] y = 0 := by unfold dotQ; rfl
theorem dotQ_snoc : ∀ (xs ys : List Rat) (x y : Rat), xs.length = ys.length -> dotQ (xs ++ [x]) (ys ++ [y]) = dotQ xs ys + x * y
 | [], [], x, y, _ => by simp [dotQ, Rat.zero_add, Rat.add_zero]
 | a :: xs, b :: ys, x, y, h => by
   have := dotQ_snoc xs ys x y (by simpa using h)
   simp only [List.cons_append, dotQ, this, Rat.add_assoc]
theorem dotQ_comm : ∀ (xs ys : List Rat), dotQ xs ys = dotQ ys xs
 | [], [] => rfl
 | [], _ :: _ => rfl
 | _ :: _, [] => rfl
 | a :: xs, b :: ys => by simp only [dotQ, dotQ_comm xs ys, Rat.mul_comm]
theorem dotQ_smul (c : Rat) : ∀ (xs ys : List Rat), dotQ (xs.map (· * c)) ys = dotQ xs ys * c
 | [], ys => by simp [dotQ, Rat.zero_mul]
 | _ :: _, [] => by simp [dotQ, Rat.zero_mul]
 | a :: xs, b :: ys => by simp only [List.map_cons, dotQ, dotQ_smul c xs ys]; grind
def lessRow (f : Rat) (by' row : List Rat) : List Rat := List.zipWith (fun x y => x - f * y) row by'
theorem lessRow_len {f : Rat} {b r : List Rat} (h : r.length = b.length) : (lessRow f b r).length = r.length := by unfold lessRow; rw [List.length_zipWith]; omega
theorem lessRow_get {f : Rat} {b r : List Rat} {j : Nat} {x y : Rat} (hx : r[j]? = some x) (hy : b[j]? = some y) : (lessRow f b r)[j]? = some (x - f * y) := by
 unfold lessRow; rw [List.getElem?_zipWith, hx, hy]
theorem dotQ_less (f : Rat) : ∀ (r b y : List Rat), r.length = b.length -> dotQ (lessRow f b r) y = dotQ r y - f * dotQ b y
 | [], [], y, _ => by simp [lessRow, dotQ, Rat.mul_zero, Rat.sub_eq_add_neg, Rat.add_zero]
 | x :: r, z :: b, [], _ => by simp [lessRow, dotQ, Rat.mul_zero, Rat.sub_eq_add_neg, Rat.add_zero]
 | x :: r, z :: b, y :: ys, h => by
   have := dotQ_less f r b ys (by simpa using h)
   unfold lessRow at this
   simp only [lessRow, List.zipWith_cons_cons, dotQ, this]; grind
theorem lessRow_zero (b r : List Rat) (h : r.length = b.length) : lessRow 0 b r = r := by
 refine List.ext_getElem? fun j => ?_
 unfold lessRow
 rw [List.getElem?_zipWith]
 rcases Nat.lt_or_ge j r.length with hj | hj
 · rw [List.getElem?_eq_getElem hj, List.getElem?_eq_getElem (by omega)]; simp [Rat.zero_mul, Rat.sub_eq_add_neg, Rat.add_zero]
 · rw [List.getElem?_eq_none hj]
def ent (a : List (List Rat)) (i j : Nat) : Rat := (a.getD i []).getD j 0
def pivAt (a : List (List Rat)) (k : Nat) : Nat -> Option Nat
 | 0 => none
 | m + 1 => let p := a.length - (m + 1); if ent a p k ≠ 0 then some p else pivAt a k m
def swapQ (a : List (List Rat)) (p k : Nat) : List (List Rat) := (a.set p (a.getD k [])).set k (a.getD p [])
def clearQ (a : List (List Rat)) (k : Nat) : List (List Rat) :=
 let b := (a.getD k []).map (· * (ent a k k)⁻¹)
 a.mapIdx fun i r => if i = k then b else lessRow (r.getD k 0) b r
def elimQ (k : Nat) : Nat -> List (List Rat) -> Option (List (List Rat))
 | 0, a => some a
 | m + 1, a => match pivAt a k (a.length - k) with
   | none => none
   | some p => elimQ (k + 1) m (clearQ (swapQ a p k) k)
def Rows (a : List (List Rat)) (n c : Nat) : Prop := a.length = n /\ ∀ r ∈ a, r.length = c
def Kills (a : List (List Rat)) (y : List Rat) : Prop := ∀ r ∈ a, dotQ r y = 0
theorem Rows.get {a : List (List Rat)} {n c i : Nat} (h : Rows a n c) (hi : i < n) : ∃ r, a[i]? = some r /\ r.length = c /\ a.getD i [] = r /\ r ∈ a := by
 have hl : i < a.length := by rw [h.1]; exact hi
 refine ⟨a[i], List.getElem?_eq_getElem hl, h.2 _ (List.getElem_mem hl), ?_, List.getElem_mem hl⟩
 simp [List.getD, List.getElem?_eq_getElem hl]
theorem swapQ_rows {a : List (List Rat)} {n c p k : Nat} (h : Rows a n c) (hp : p < n) (hk : k < n) : Rows (swapQ a p k) n c := by
 obtain ⟨rp, -, lp, ep, -⟩ := h.get hp
 obtain ⟨rk, -, lk, ek, -⟩ := h.get hk
 unfold swapQ
 rw [ep, ek]
 refine ⟨by simp [h.1], fun r hr => ?_⟩
 rcases List.mem_or_eq_of_mem_set hr with h1 | h1
 · rcases List.mem_or_eq_of_mem_set h1 with h2 | h2
   · exact h.2 _ h2
   · rw [h2, lk]
 · rw [h1, lp]
theorem swapQ_get {a : List (List Rat)} {n c p k : Nat} (h : Rows a n c) (hp : p < n) (hk : k < n) (i : Nat) : (swapQ a p k)[i]? = if i = k then a[p]? else if i = p then a[k]? else a[i]? := by
 obtain ⟨rp, gp, -, ep, -⟩ := h.get hp
 obtain ⟨rk, gk, -, ek, -⟩ := h.get hk
 unfold swapQ
 rw [ep, ek, gp, gk]
 have hl := h.1
 rw [List.getElem?_set, List.length_set]
 by_cases h1 : k = i
 · rw [if_pos h1, if_pos (by omega), if_pos h1.symm]
 · rw [if_neg h1, if_neg (fun hh => h1 hh.symm), List.getElem?_set]
   by_cases h2 : p = i
   · rw [if_pos h2, if_pos (by omega), if_pos h2.symm]
   · rw [if_neg h2, if_neg (fun hh => h2 hh.symm)]
theorem swapQ_kills {a : List (List Rat)} {n c p k : Nat} (h : Rows a n c) (hp : p < n) (hk : k < n) (y : List Rat) : Kills (swapQ a p k) y ↔ Kills a y := by
 constructor
 · intro hh r hr
   obtain ⟨i, hi, rfl⟩ := List.mem_iff_getElem.1 hr
   have hq : (a[i]) ∈ swapQ a p k := by
    by_cases h1 : i = k
    · refine List.mem_iff_getElem?.2 ⟨p, ?_⟩
      rw [swapQ_get h hp hk]
      by_cases h2 : p = k
      · rw [if_pos h2, h2, <- h1, List.getElem?_eq_getElem hi]
      · rw [if_neg h2, if_pos rfl, <- h1, List.getElem?_eq_getElem hi]
    · by_cases h2 : i = p
      · exact List.mem_iff_getElem?.2 ⟨k, by rw [swapQ_get h hp hk, if_pos rfl, <- h2, List.getElem?_eq_getElem hi]⟩
      · exact List.mem_iff_getElem?.2 ⟨i, by rw [swapQ_get h hp hk, if_neg h1, if_neg h2, List.getElem?_eq_getElem hi]⟩
   exact hh _ hq
 · intro hh r hr
   obtain ⟨i, hi⟩ := List.mem_iff_getElem?.1 hr
   rw [swapQ_get h hp hk] at hi
   have : r ∈ a := by
    split at hi
    · exact List.mem_of_getElem? hi
    · split at hi
      · exact List.mem_of_getElem? hi
      · exact List.mem_of_getElem? hi
   exact hh _ this
theorem clearQ_get {a : List (List Rat)} {k i : Nat} {r : List Rat} (h : a[i]? = some r) : (clearQ a k)[i]? = some (if i = k then (a.getD k []).map (· * (ent a k k)⁻¹) else lessRow (r.getD k 0) ((a.getD k []).map (· * (ent a k k)⁻¹)) r) := by
 unfold clearQ; rw [List.getElem?_mapIdx, h]; rfl
theorem clearQ_rows {a : List (List Rat)} {n c k : Nat} (h : Rows a n c) (hk : k < n) : Rows (clearQ a k) n c := by
 obtain ⟨rk, -, lk, ek, -⟩ := h.get hk
 refine ⟨by unfold clearQ; rw [List.length_mapIdx, h.1], fun r hr => ?_⟩
 obtain ⟨i, hi⟩ := List.mem_iff_getElem?.1 hr
 have hil : i < a.length := by
  have := (List.getElem?_eq_some_iff.1 hi).1
  unfold clearQ at this; rwa [List.length_mapIdx] at this
 rw [clearQ_get (List.getElem?_eq_getElem hil)] at hi
 have := h.2 _ (List.getElem_mem hil)
 injection hi with hi
 rw [<- hi]
 split
 · rw [List.length_map, ek, lk]
 · rw [lessRow_len (by rw [List.length_map, ek, lk]; exact this), this]
theorem clearQ_kills {a : List (List Rat)} {n c k : Nat} (h : Rows a n c) (hk : k < n) (hz : ent a k k ≠ 0) (y : List Rat) : Kills (clearQ a k) y ↔ Kills a y := by
 obtain ⟨rk, gk, lk, ek, mk⟩ := h.get hk
 have hc : (ent a k k)⁻¹ ≠ 0 := fun h0 => by
  have := Rat.mul_inv_cancel _ hz
  rw [h0, Rat.mul_zero] at this; exact absurd this (by decide)
 constructor
 · intro hh
   have hkk : dotQ rk y = 0 := by
    have := hh _ (List.mem_of_getElem? (clearQ_get (k := k) gk))
    rw [if_pos rfl, ek, dotQ_smul] at this
    rcases Rat.mul_eq_zero.1 this with h1 | h1
    · exact h1
    · exact absurd h1 hc
   intro r hr
   obtain ⟨i, hi⟩ := List.mem_iff_getElem?.1 hr
   have := hh _ (List.mem_of_getElem? (clearQ_get (k := k) hi))
   by_cases h1 : i = k
   · subst h1; rw [gk] at hi; injection hi with hi; rw [<- hi]; exact hkk
   · rw [if_neg h1, ek, dotQ_less _ _ _ _ (by rw [List.length_map, lk, h.2 _ hr]), dotQ_smul, hkk, Rat.zero_mul, Rat.mul_zero] at this
     grind
 · intro hh r hr
   obtain ⟨i, hi⟩ := List.mem_iff_getElem?.1 hr
   have hil : i < a.length := by
    have := (List.getElem?_eq_some_iff.1 hi).1
    unfold clearQ at this; rwa [List.length_mapIdx] at this
   have hkk := hh _ mk
   have hii := hh _ (List.getElem_mem hil)
   have hli := h.2 _ (List.getElem_mem hil)
   rw [clearQ_get (List.getElem?_eq_getElem hil)] at hi
   injection hi with hi
   rw [<- hi]
   split
   · rw [ek, dotQ_smul, hkk, Rat.zero_mul]
   · rw [ek, dotQ_less _ _ _ _ (by rw [List.length_map, lk, hli]), dotQ_smul, hkk, hii, Rat.zero_mul, Rat.mul_zero]; grind
theorem dotQ_zero : ∀ (r z : List Rat), (∀ x ∈ r, x = 0) -> dotQ r z = 0
 | [], _, _ => dotQ_nil _
 | _ :: _, [], _ => rfl
 | x :: r, z :: zs, h => by
   have h1 := h x (by simp)
   have h2 := dotQ_zero r zs (fun x hx => h x (by simp [hx]))
   simp only [dotQ, h1, h2, Rat.zero_mul, Rat.add_zero]
theorem dotQ_unit : ∀ (r z : List Rat) (i : Nat), r.length = z.length -> (∀ j x, r[j]? = some x -> x = if i = j then 1 else 0) -> dotQ r z = z.getD i 0
 | [], [], i, _, _ => by simp [dotQ]
 | x :: r, z :: zs, 0, hl, h => by
   have h1 := h 0 x (by simp)
   have h2 := dotQ_zero r zs (fun u hu => by
    obtain ⟨j, hj⟩ := List.mem_iff_getElem?.1 hu
    have := h (j + 1) u (by simpa using hj)
    simpa using this)
   simp only [dotQ, h1, h2]; simp [Rat.one_mul, Rat.add_zero]
 | x :: r, z :: zs, i + 1, hl, h => by
   have h1 := h 0 x (by simp)
   have h2 := dotQ_unit r zs i (by simpa using hl) (fun j u hj => by
    have := h (j + 1) u (by simpa using hj)
    simpa using this)
   simp only [dotQ, h1, h2]; simp [Rat.zero_mul, Rat.zero_add]
theorem dotQ_append : ∀ (a b c d : List Rat), a.length = c.length -> dotQ (a ++ b) (c ++ d) = dotQ a c + dotQ b d
 | [], b, [], d, _ => by simp [dotQ, Rat.zero_add]
 | x :: a, b, y :: c, d, h => by
   have := dotQ_append a b c d (by simpa using h)
   simp only [List.cons_append, dotQ, this, Rat.add_assoc]
theorem pivAt_some {a : List (List Rat)} {k : Nat} : ∀ {m p : Nat}, m <= a.length -> pivAt a k m = some p -> a.length - m <= p /\ p < a.length /\ ent a p k ≠ 0
 | 0, p, _, h => by simp [pivAt] at h
 | m + 1, p, hm, h => by
   unfold pivAt at h
   by_cases h1 : ent a (a.length - (m + 1)) k ≠ 0
   · simp only [if_pos h1] at h
     injection h with h
     subst h
     exact ⟨Nat.le_refl _, by omega, h1⟩
   · simp only [if_neg h1] at h
     obtain ⟨h2, h3⟩ := pivAt_some (by omega) h
     exact ⟨by omega, h3⟩
theorem pivAt_none {a : List (List Rat)} {k : Nat} : ∀ {m : Nat}, pivAt a k m = none -> ∀ p, a.length - m <= p -> p < a.length -> ent a p k = 0
 | 0, _, p, h1, h2 => by omega
 | m + 1, h, p, h1, h2 => by
   unfold pivAt at h
   by_cases h3 : ent a (a.length - (m + 1)) k ≠ 0
   · simp only [if_pos h3] at h; cases h
   · simp only [if_neg h3] at h
     by_cases h4 : p = a.length - (m + 1)
     · subst h4; exact Decidable.not_not.1 h3
     · exact pivAt_none h p (by omega) h2
def Unit' (a : List (List Rat)) (n k : Nat) : Prop := ∀ i j, i < n -> j < k -> ent a i j = if i = j then 1 else 0
theorem ent_of {a : List (List Rat)} {i j : Nat} {r : List Rat} (h : a[i]? = some r) : ent a i j = r.getD j 0 := by
 unfold ent; rw [show a.getD i [] = r by rw [List.getD, h]; rfl]
theorem getD_get {r : List Rat} {j : Nat} (h : j < r.length) : r[j]? = some (r.getD j 0) := by
 rw [List.getD, List.getElem?_eq_getElem h]; rfl
theorem getD_map (c : Rat) (r : List Rat) (j : Nat) : (r.map (· * c)).getD j 0 = r.getD j 0 * c := by
 simp only [List.getD, List.getElem?_map]
 cases r[j]? with
 | none => simp [Rat.zero_mul]
 | some x => rfl
theorem step_unit {a : List (List Rat)} {n k p : Nat} (h : Rows a n (n + 1)) (hk : k < n) (hkp : k <= p) (hp : p < n) (hz : ent a p k ≠ 0) (hu : Unit' a n k) :
 Rows (clearQ (swapQ a p k) k) n (n + 1) /\ Unit' (clearQ (swapQ a p k) k) n (k + 1) /\ ∀ y, Kills (clearQ (swapQ a p k) k) y ↔ Kills a y := by
 have hs := swapQ_rows h hp hk
 have hek : ent (swapQ a p k) k k = ent a p k := by
  obtain ⟨rp, gp, -, -, -⟩ := h.get hp
  rw [ent_of (show (swapQ a p k)[k]? = some rp by rw [swapQ_get h hp hk, if_pos rfl, gp]), ent_of gp]
 have hzk : ent (swapQ a p k) k k ≠ 0 := by rw [hek]; exact hz
 refine ⟨clearQ_rows hs hk, ?_, fun y => (clearQ_kills hs hk hzk y).trans (swapQ_kills h hp hk y)⟩
 -- the entries of the changed rows in the first columns
 have hsu : ∀ i j, i < n -> j < k -> ent (swapQ a p k) i j = if i = j then 1 else 0 := by
  intro i j hi hj
  obtain ⟨rp, gp, -, -, -⟩ := h.get hp
  obtain ⟨rk, gk, -, -, -⟩ := h.get hk
  obtain ⟨ri, gi, -, -, -⟩ := h.get hi
  by_cases h1 : i = k
  · rw [ent_of (show (swapQ a p k)[i]? = some rp by rw [swapQ_get h hp hk, if_pos h1, gp]), <- ent_of gp, hu p j hp hj, if_neg (by omega), if_neg (by omega)]
  · by_cases h2 : i = p
    · rw [ent_of (show (swapQ a p k)[i]? = some rk by rw [swapQ_get h hp hk, if_neg h1, if_pos h2, gk]), <- ent_of gk, hu k j hk hj, if_neg (by omega), if_neg (by omega)]
    · rw [ent_of (show (swapQ a p k)[i]? = some ri by rw [swapQ_get h hp hk, if_neg h1, if_neg h2, gi]), <- ent_of gi, hu i j hi hj]
 obtain ⟨rk, gk, lk, ek, -⟩ := hs.get hk
 intro i j hi hj
 obtain ⟨ri, gi, li, -, -⟩ := hs.get hi
 rw [ent_of (clearQ_get (k := k) gi), ek]
 have ekk : ent (swapQ a p k) k k = rk.getD k 0 := ent_of gk
 have eii : ∀ j, ent (swapQ a p k) i j = ri.getD j 0 := fun j => ent_of gi
 have ekj : ∀ j, ent (swapQ a p k) k j = rk.getD j 0 := fun j => ent_of gk
 have hinv := Rat.mul_inv_cancel _ hzk
 by_cases h1 : i = k
 · rw [if_pos h1, getD_map]
   by_cases h2 : j = k
   · subst h2; rw [if_pos h1, <- ekk]; exact hinv
   · rw [<- ekj j, hsu k j hk (by omega), if_neg (by omega), if_neg (by omega), Rat.zero_mul]
 · rw [if_neg h1]
   have hg : (lessRow (ri.getD k 0) (rk.map (· * (ent (swapQ a p k) k k)⁻¹)) ri)[j]? = some (ri.getD j 0 - ri.getD k 0 * (rk.getD j 0 * (ent (swapQ a p k) k k)⁻¹)) := by
    refine lessRow_get (getD_get (by omega)) ?_
    rw [List.getElem?_map, getD_get (show j < rk.length by omega)]; rfl
   rw [List.getD, hg]
   show ri.getD j 0 - ri.getD k 0 * (rk.getD j 0 * _) = _
   by_cases h2 : j = k
   · subst h2; rw [if_neg h1, <- ekk, hinv, Rat.mul_one]; grind
   · rw [<- ekj j, hsu k j hk (by omega), if_neg (by omega), <- eii j, hsu i j hi (by omega), Rat.zero_mul, Rat.mul_zero]; grind
theorem elimQ_some : ∀ (m k : Nat) {a a' : List (List Rat)} {n : Nat}, Rows a n (n + 1) -> k + m = n -> Unit' a n k -> elimQ k m a = some a' -> Rows a' n (n + 1) /\ Unit' a' n n /\ ∀ y, Kills a' y ↔ Kills a y
 | 0, k, a, a', n, h, hk, hu, he => by
   unfold elimQ at he; injection he with he; subst he
   obtain rfl : k = n := by omega
   exact ⟨h, hu, fun _ => Iff.rfl⟩
 | m + 1, k, a, a', n, h, hk, hu, he => by
   unfold elimQ at he
   cases hp : pivAt a k (a.length - k) with
   | none => rw [hp] at he; cases he
   | some p =>
     rw [hp] at he
     have hl := h.1
     obtain ⟨p1, p2, p3⟩ := pivAt_some (by omega) hp
     obtain ⟨s1, s2, s3⟩ := step_unit h (by omega) (by omega) (by omega) p3 hu
     obtain ⟨e1, e2, e3⟩ := elimQ_some m (k + 1) s1 (by omega) s2 he
     exact ⟨e1, e2, fun y => (e3 y).trans (s3 y)⟩
theorem elimQ_none : ∀ (m k : Nat) {a : List (List Rat)} {n : Nat}, Rows a n (n + 1) -> k + m = n -> Unit' a n k -> elimQ k m a = none -> ∃ z : List Rat, z.length = n /\ (∃ x ∈ z, x ≠ 0) /\ Kills a (z ++ [0])
 | 0, k, a, n, h, hk, hu, he => by unfold elimQ at he; cases he
 | m + 1, k, a, n, h, hk, hu, he => by
   unfold elimQ at he
   have hl := h.1
   cases hp : pivAt a k (a.length - k) with
   | some p =>
     rw [hp] at he
     obtain ⟨p1, p2, p3⟩ := pivAt_some (by omega) hp
     obtain ⟨s1, s2, s3⟩ := step_unit h (by omega) (by omega) (by omega) p3 hu
     obtain ⟨z, z1, z2, z3⟩ := elimQ_none m (k + 1) s1 (by omega) s2 he
     exact ⟨z, z1, z2, (s3 _).1 z3⟩
   | none =>
     have hz := fun p h1 h2 => pivAt_none hp p h1 h2
     refine ⟨(a.take k).map (fun r => -(r.getD k 0)) ++ 1 :: List.replicate m 0, by simp [hl]; omega, ⟨1, by simp, by decide⟩, ?_⟩
     intro r hr
     obtain ⟨i, hi⟩ := List.mem_iff_getElem?.1 hr
     have hil : i < n := by have := (List.getElem?_eq_some_iff.1 hi).1; omega
     have hlr := h.2 r hr
     have hre : r = r.take k ++ r.getD k 0 :: r.drop (k + 1) := by
      conv => lhs; rw [<- List.take_append_drop k r]
      congr 1
      rw [List.drop_eq_getElem_cons (by omega)]
      congr 1
      rw [List.getD, List.getElem?_eq_getElem (by omega)]; rfl
     have hrep : (List.replicate m (0 : Rat) ++ [0]) = List.replicate (m + 1) 0 := by rw [List.replicate_succ']
     have hlt : (r.take k).length = ((a.take k).map (fun r => -(r.getD k 0))).length := by simp; omega
     rw [hre, List.append_assoc, dotQ_append _ _ _ _ hlt]
     show _ + (r.getD k 0 * 1 + dotQ (r.drop (k + 1)) (List.replicate m 0 ++ [0])) = 0
     rw [hrep, dotQ_comm (r.drop (k + 1)), dotQ_zero _ _ (fun x hx => (List.mem_replicate.1 hx).2), Rat.mul_one, Rat.add_zero]
     have hun : ∀ j x, (r.take k)[j]? = some x -> x = if i = j then 1 else 0 := fun j x hj => by
      have hjk : j < k := by have := (List.getElem?_eq_some_iff.1 hj).1; simp at this; omega
      rw [List.getElem?_take_of_lt hjk, getD_get (by omega)] at hj
      injection hj with hj
      rw [<- hj, <- ent_of hi, hu i j hil hjk]
     by_cases hik : i < k
     · rw [dotQ_unit _ _ i hlt hun, List.getD, List.getElem?_map, List.getElem?_take_of_lt hik, hi]
       show -(r.getD k 0) + r.getD k 0 = 0
       exact Rat.neg_add_cancel _
     · rw [dotQ_zero _ _ (fun x hx => by
        obtain ⟨j, hj⟩ := List.mem_iff_getElem?.1 hx
        have hjk : j < k := by have := (List.getElem?_eq_some_iff.1 hj).1; simp at this; omega
        rw [hun j x hj, if_neg (by omega)]), Rat.zero_add, <- ent_of hi]
       exact hz i (by omega) (by omega)
def lastQ (a : List (List Rat)) (n : Nat) : List Rat := a.map (fun r => r.getD n 0)
theorem last_solves {a : List (List Rat)} {n : Nat} (h : Rows a n (n + 1)) (hu : Unit' a n n) (x : List Rat) (hx : x.length = n) : Kills a (x ++ [-1]) ↔ x = lastQ a n := by
 have hrow : ∀ i r, a[i]? = some r -> dotQ r (x ++ [-1]) = x.getD i 0 - r.getD n 0 := by
  intro i r hi
  have hil : i < n := by have := (List.getElem?_eq_some_iff.1 hi).1; rw [h.1] at this; exact this
  have hlr := h.2 r (List.mem_of_getElem? hi)
  have hre : r = r.take n ++ [r.getD n 0] := by
   conv => lhs; rw [<- List.take_append_drop n r]
   congr 1
   rw [List.drop_eq_getElem_cons (by omega), List.drop_eq_nil_of_le (by omega)]
   congr 1
   rw [List.getD, List.getElem?_eq_getElem (by omega)]; rfl
  have hlt : (r.take n).length = x.length := by simp; omega
  have hun : ∀ j u, (r.take n)[j]? = some u -> u = if i = j then 1 else 0 := fun j u hj => by
   have hjk : j < n := by have := (List.getElem?_eq_some_iff.1 hj).1; simp at this; omega
   rw [List.getElem?_take_of_lt hjk, getD_get (by omega)] at hj
   injection hj with hj
   rw [<- hj, <- ent_of hi, hu i j hil hjk]
  conv => lhs; rw [hre]
  rw [dotQ_append _ _ _ _ hlt, dotQ_unit _ _ i hlt hun]
  simp only [dotQ]; grind
 constructor
 · intro hh
   refine List.ext_getElem? fun i => ?_
   unfold lastQ
   rw [List.getElem?_map]
   rcases Nat.lt_or_ge i n with hi | hi
   · obtain ⟨r, gi, -, -, mi⟩ := h.get hi
     have := hh r mi
     rw [hrow i r gi] at this
     rw [gi, getD_get (by omega)]
     show some _ = some _
     congr 1; grind
   · rw [List.getElem?_eq_none (by omega), List.getElem?_eq_none (by rw [h.1]; exact hi)]; rfl
 · intro hh r hr
   obtain ⟨i, hi⟩ := List.mem_iff_getElem?.1 hr
   rw [hrow i r hi, hh]
   unfold lastQ
   rw [List.getD, List.getElem?_map, hi]
   show r.getD n 0 - r.getD n 0 = 0
   exact Rat.sub_self
end Go.Proofs.YtdpjdifoonfcdaaGreatDoor

namespace Go.Proofs.YtdpjdifoonfcdaaGreatDoor
def prI : List Int -> List Int -> Int
 | x :: xs, y :: ys => x * y + prI xs ys
 | _, _ => 0
theorem prI_snoc : ∀ (xs ys : List Int) (x y : Int), xs.length = ys.length -> prI (xs ++ [x]) (ys ++ [y]) = prI xs ys + x * y
 | [], [], x, y, _ => by simp [prI]
 | a :: xs, b :: ys, x, y, h => by
   have := prI_snoc xs ys x y (by simpa using h)
   simp only [List.cons_append, prI, this, Int.add_assoc]
theorem prI_comm : ∀ (xs ys : List Int), prI xs ys = prI ys xs
 | [], [] => rfl
 | [], _ :: _ => rfl
 | _ :: _, [] => rfl
 | a :: xs, b :: ys => by simp only [prI, prI_comm xs ys, Int.mul_comm]
def ints' (l : List Int) : List Rat := l.map (fun n : Int => (n : Rat))
theorem prI_rat : ∀ (xs ys : List Int), ((prI xs ys : Int) : Rat) = dotQ (ints' xs) (ints' ys)
 | [], ys => by cases ys <;> rfl
 | _ :: _, [] => rfl
 | a :: xs, b :: ys => by
   have := prI_rat xs ys
   unfold ints' at this ⊢
   simp only [prI, List.map_cons, dotQ, <- this, Rat.intCast_add, Rat.intCast_mul]
def fitM (w : List (List Int)) (y : List Int) : List (List Rat) := w.map (fun a => w.map (fun b => ((prI a b : Int) : Rat)) ++ [((prI a y : Int) : Rat)])
theorem fitM_rows (w : List (List Int)) (y : List Int) : Rows (fitM w y) w.length (w.length + 1) := by
 refine ⟨by simp [fitM], fun r hr => ?_⟩
 obtain ⟨a, -, rfl⟩ := List.mem_map.1 hr
 simp
def fitQ (w : List (List Int)) (y : List Int) : Option (List Rat) := (elimQ 0 w.length (fitM w y)).map (fun a => lastQ a w.length)
def colQ (w : List (List Int)) (t : Nat) : List Rat := w.map (fun a => ((a.getD t 0 : Int) : Rat))
def leftQ (w : List (List Int)) (y : List Int) (f : List Rat) (t : Nat) : Rat := ((y.getD t 0 : Int) : Rat) - dotQ (colQ w t) f
def cleanQ (w : List (List Int)) (y : List Int) (f : List Rat) : List Rat := (List.range y.length).map (leftQ w y f)
def restQ (w : List (List Int)) (y : List Int) (f : List Rat) : Rat := dotQ (cleanQ w y f) (cleanQ w y f)
theorem Unit'_zero (a : List (List Rat)) (n : Nat) : Unit' a n 0 := fun _ _ _ h => by omega
theorem fitQ_some {w : List (List Int)} {y : List Int} {f : List Rat} (h : fitQ w y = some f) : f.length = w.length /\ ∀ a ∈ w, dotQ (w.map (fun b => ((prI a b : Int) : Rat))) f = ((prI a y : Int) : Rat) := by
 unfold fitQ at h
 cases he : elimQ 0 w.length (fitM w y) with
 | none => rw [he] at h; cases h
 | some a' =>
   rw [he] at h
   injection h with h
   obtain ⟨h1, h2, h3⟩ := elimQ_some w.length 0 (fitM_rows w y) (by omega) (Unit'_zero _ _) he
   have hl : f.length = w.length := by rw [<- h]; unfold lastQ; rw [List.length_map, h1.1]
   refine ⟨hl, fun a ha => ?_⟩
   have hk := (h3 _).1 ((last_solves h1 h2 f hl).2 h.symm) _ (List.mem_map.2 ⟨a, ha, rfl⟩)
   rw [dotQ_snoc _ _ _ _ (by simp [hl])] at hk
   grind
theorem fitQ_is {w : List (List Int)} {y : List Int} {f x : List Rat} (h : fitQ w y = some f) (hx : x.length = w.length) (hs : ∀ a ∈ w, dotQ (w.map (fun b => ((prI a b : Int) : Rat))) x = ((prI a y : Int) : Rat)) : x = f := by
 unfold fitQ at h
 cases he : elimQ 0 w.length (fitM w y) with
 | none => rw [he] at h; cases h
 | some a' =>
   rw [he] at h
   injection h with h
   obtain ⟨h1, h2, h3⟩ := elimQ_some w.length 0 (fitM_rows w y) (by omega) (Unit'_zero _ _) he
   rw [<- h]
   refine (last_solves h1 h2 x hx).1 ((h3 _).2 ?_)
   intro r hr
   obtain ⟨a, ha, rfl⟩ := List.mem_map.1 hr
   rw [dotQ_snoc _ _ _ _ (by simp [hx]), hs a ha]
   grind
theorem fitQ_none {w : List (List Int)} {y : List Int} (h : fitQ w y = none) : ∃ z : List Rat, z.length = w.length /\ (∃ x ∈ z, x ≠ 0) /\ ∀ a ∈ w, dotQ (w.map (fun b => ((prI a b : Int) : Rat))) z = 0 := by
 unfold fitQ at h
 cases he : elimQ 0 w.length (fitM w y) with
 | some a' => rw [he] at h; cases h
 | none =>
   obtain ⟨z, h1, h2, h3⟩ := elimQ_none w.length 0 (fitM_rows w y) (by omega) (Unit'_zero _ _) he
   refine ⟨z, h1, h2, fun a ha => ?_⟩
   have := h3 _ (List.mem_map.2 ⟨a, ha, rfl⟩)
   rw [dotQ_snoc _ _ _ _ (by simp [h1]), Rat.mul_zero, Rat.add_zero] at this
   exact this
def sumT (g : Nat -> Rat) : Nat -> Rat
 | 0 => 0
 | n + 1 => sumT g n + g n
theorem sumT_congr {g h : Nat -> Rat} : ∀ {n : Nat}, (∀ t, t < n -> g t = h t) -> sumT g n = sumT h n
 | 0, _ => rfl
 | n + 1, hh => by unfold sumT; rw [sumT_congr (fun t ht => hh t (by omega)), hh n (by omega)]
theorem sumT_add (g h : Nat -> Rat) : ∀ n, sumT (fun t => g t + h t) n = sumT g n + sumT h n
 | 0 => by simp [sumT, Rat.add_zero]
 | n + 1 => by simp only [sumT, sumT_add g h n]; grind
theorem sumT_mul (c : Rat) (g : Nat -> Rat) : ∀ n, sumT (fun t => c * g t) n = c * sumT g n
 | 0 => by simp [sumT, Rat.mul_zero]
 | n + 1 => by simp only [sumT, sumT_mul c g n, Rat.mul_add]
theorem sumT_zero : ∀ n, sumT (fun _ => 0) n = 0
 | 0 => rfl
 | n + 1 => by simp only [sumT, sumT_zero n, Rat.add_zero]
theorem dotQ_range (g h : Nat -> Rat) : ∀ n, dotQ ((List.range n).map g) ((List.range n).map h) = sumT (fun t => g t * h t) n
 | 0 => by simp [dotQ, sumT]
 | n + 1 => by
   rw [List.range_succ, List.map_append, List.map_append]
   show dotQ (_ ++ [g n]) (_ ++ [h n]) = _
   rw [dotQ_snoc _ _ _ _ (by simp), dotQ_range g h n]; rfl
theorem range_getD {α : Type} (l : List α) (d : α) : (List.range l.length).map (fun t => l.getD t d) = l := by
 refine List.ext_getElem? fun i => ?_
 rw [List.getElem?_map]
 rcases Nat.lt_or_ge i l.length with h | h
 · rw [List.getElem?_range h, List.getElem?_eq_getElem h]
   simp [List.getD, List.getElem?_eq_getElem h]
 · rw [List.getElem?_eq_none (by simpa using h), List.getElem?_eq_none h]; rfl
theorem prI_sumT (a b : List Int) (h : a.length = b.length) : ((prI a b : Int) : Rat) = sumT (fun t => ((a.getD t 0 : Int) : Rat) * ((b.getD t 0 : Int) : Rat)) a.length := by
 rw [prI_rat, <- dotQ_range]
 have e : ∀ l : List Int, ints' l = (List.range l.length).map (fun t => ((l.getD t 0 : Int) : Rat)) := fun l => by
  have := congrArg (List.map (fun n : Int => (n : Rat))) (range_getD l 0)
  rw [List.map_map] at this
  exact this.symm
 rw [e a, e b, h]
theorem dotQ_col : ∀ (w : List (List Int)) (f : List Rat) (a : List Int) (n : Nat), (∀ b ∈ w, b.length = n) -> a.length = n ->
 dotQ (w.map (fun b => ((prI a b : Int) : Rat))) f = sumT (fun t => ((a.getD t 0 : Int) : Rat) * dotQ (colQ w t) f) n
 | [], f, a, n, _, _ => by
   have : ∀ t, ((a.getD t 0 : Int) : Rat) * dotQ (colQ [] t) f = 0 := fun t => by unfold colQ; simp [dotQ_nil, Rat.mul_zero]
   rw [sumT_congr (fun t _ => this t), sumT_zero]; exact dotQ_nil _
 | b :: w, [], a, n, _, _ => by
   have : ∀ t, ((a.getD t 0 : Int) : Rat) * dotQ (colQ (b :: w) t) [] = 0 := fun t => by unfold colQ; simp [dotQ, Rat.mul_zero]
   rw [sumT_congr (fun t _ => this t), sumT_zero]; rfl
 | b :: w, x :: f, a, n, h, ha => by
   have h1 := dotQ_col w f a n (fun c hc => h c (by simp [hc])) ha
   have h2 : b.length = n := h b (by simp)
   simp only [List.map_cons, dotQ, h1]
   rw [prI_sumT a b (by omega), ha, Rat.mul_comm, <- sumT_mul, <- sumT_add]
   refine sumT_congr fun t _ => ?_
   unfold colQ
   simp only [List.map_cons, dotQ]; grind
theorem left_normal {w : List (List Int)} {y : List Int} {f : List Rat} (h : fitQ w y = some f) (hw : ∀ a ∈ w, a.length = y.length) : ∀ a ∈ w, dotQ (cleanQ w y f) (ints' a) = 0 := by
 intro a ha
 obtain ⟨-, h2⟩ := fitQ_some h
 have h3 := h2 a ha
 rw [dotQ_col w f a y.length hw (hw a ha)] at h3
 have e : ints' a = (List.range y.length).map (fun t => ((a.getD t 0 : Int) : Rat)) := by
  have := congrArg (List.map (fun n : Int => (n : Rat))) (range_getD a 0)
  rw [List.map_map, hw a ha] at this
  exact this.symm
 rw [e]
 unfold cleanQ
 rw [dotQ_range, prI_sumT a y (hw a ha)] at *
 rw [hw a ha] at h3
 have h4 : sumT (fun t => leftQ w y f t * ((a.getD t 0 : Int) : Rat)) y.length = sumT (fun t => ((a.getD t 0 : Int) : Rat) * ((y.getD t 0 : Int) : Rat) + (-1) * (((a.getD t 0 : Int) : Rat) * dotQ (colQ w t) f)) y.length := sumT_congr fun t _ => by unfold leftQ; grind
 rw [h4, sumT_add, sumT_mul, h3]; grind
theorem rest_is {w : List (List Int)} {y : List Int} {f : List Rat} (h : fitQ w y = some f) (hw : ∀ a ∈ w, a.length = y.length) : restQ w y f = ((prI y y : Int) : Rat) - dotQ (w.map (fun a => ((prI y a : Int) : Rat))) f := by
 have h0 : restQ w y f = sumT (fun t => leftQ w y f t * leftQ w y f t) y.length := dotQ_range _ _ _
 have h1 : ∀ a ∈ w, sumT (fun t => leftQ w y f t * ((a.getD t 0 : Int) : Rat)) y.length = 0 := fun a ha => by
  have := left_normal h hw a ha
  have e : ints' a = (List.range y.length).map (fun t => ((a.getD t 0 : Int) : Rat)) := by
   have := congrArg (List.map (fun n : Int => (n : Rat))) (range_getD a 0)
   rw [List.map_map, hw a ha] at this
   exact this.symm
  rw [e] at this
  unfold cleanQ at this
  rwa [dotQ_range] at this
 have h2 : ∀ (v : List (List Int)) (g : List Rat), (∀ a ∈ v, sumT (fun t => leftQ w y f t * ((a.getD t 0 : Int) : Rat)) y.length = 0) -> sumT (fun t => leftQ w y f t * dotQ (colQ v t) g) y.length = 0 := by
  intro v
  induction v with
  | nil => intro g _; rw [sumT_congr (fun t _ => show _ = (0 : Rat) by unfold colQ; simp [dotQ_nil, Rat.mul_zero]), sumT_zero]
  | cons b v ih =>
    intro g hv
    cases g with
    | nil => rw [sumT_congr (fun t _ => show _ = (0 : Rat) by unfold colQ; simp [dotQ, Rat.mul_zero]), sumT_zero]
    | cons x g =>
      have i1 := ih g (fun a ha => hv a (by simp [ha]))
      have i2 := hv b (by simp)
      rw [sumT_congr (h := fun t => x * (leftQ w y f t * ((b.getD t 0 : Int) : Rat)) + leftQ w y f t * dotQ (colQ v t) g) (fun t _ => by unfold colQ; simp only [List.map_cons, dotQ]; grind), sumT_add, sumT_mul, i1, i2, Rat.mul_zero, Rat.add_zero]
 have h3 := h2 w f h1
 have h4 := dotQ_col w f y y.length hw rfl
 rw [h0, h4, prI_sumT y y rfl]
 have h5 : ∀ t, leftQ w y f t * leftQ w y f t = (((y.getD t 0 : Int) : Rat) * ((y.getD t 0 : Int) : Rat) + (-1) * (((y.getD t 0 : Int) : Rat) * dotQ (colQ w t) f)) + (-1) * (leftQ w y f t * dotQ (colQ w t) f) := fun t => by unfold leftQ; grind
 rw [sumT_congr (fun t _ => h5 t), sumT_add, sumT_add, sumT_mul, sumT_mul, h3]; grind
end Go.Proofs.YtdpjdifoonfcdaaGreatDoor

namespace Go.Proofs.YtdpjdifoonfcdaaGreatDoor
open Go.RowKit
def RQ (w : World) (v : Value) (q : Rat) : Prop := RatV w v (qS q) (qN q) (qD q)
def VQ (w : World) (v : Value) (q : Rat) : Prop := ValV w v (qS q) (qN q) (qD q) false 0 1
def RQRes (q : Rat) (w : World) (e : Ending) (w' : World) : Prop := (∃ v, e = .returned v /\ RQ w' v q) /\ Below w.heap.size w w'
def VQRes (q : Rat) (w : World) (e : Ending) (w' : World) : Prop := (∃ v, e = .returned v /\ VQ w' v q) /\ Below w.heap.size w w'
theorem RQ.below {w w' : World} {B : Nat} {v : Value} {q : Rat} (h : RQ w v q) (hb : Below B w w') (hB : w.heap.size <= B) : RQ w' v q := RatV.below h hb hB
theorem VQ.below {w w' : World} {B : Nat} {v : Value} {q : Rat} (h : VQ w v q) (hb : Below B w w') (hB : w.heap.size <= B) : VQ w' v q := ValV.below h hb hB
theorem ratPlusQ (v1 v2 : Value) (a b : Rat) (w : World) (h1 : RQ w v1 a) (h2 : RQ w v2 b) (l1 : hgt a <= 1000000000) (l2 : hgt b <= 1000000000) :
 Calls Tryz.prog 162 #[v1, v2] w (RQRes (a + b) w) := by
 obtain ⟨e1, e2, e3⟩ := rp_q a b
 have := ratPlus_any v1 v2 _ _ _ _ _ _ w h1 h2 (qD_ne a) (qD_ne b) (Nat.le_trans (hgt_n a) l1) (Nat.le_trans (hgt_d a) l1) (Nat.le_trans (hgt_n b) l2) (Nat.le_trans (hgt_d b) l2)
 rw [e1, e2, e3] at this; exact this
theorem valPlusQ (v1 v2 : Value) (a b : Rat) (w : World) (h1 : VQ w v1 a) (h2 : VQ w v2 b) (l1 : hgt a <= 1000000000) (l2 : hgt b <= 1000000000) :
 Calls Tryz.prog 138 #[v1, v2] w (VQRes (a + b) w) := by
 obtain ⟨e1, e2, e3⟩ := rp_q a b
 have := valPlus_any v1 v2 _ _ _ _ _ _ w h1 h2 (qD_ne a) (qD_ne b) (Nat.le_trans (hgt_n a) l1) (Nat.le_trans (hgt_d a) l1) (Nat.le_trans (hgt_n b) l2) (Nat.le_trans (hgt_d b) l2)
 rw [e1, e2, e3] at this; exact this
theorem ratNegQ (v : Value) (a : Rat) (w : World) (h : RQ w v a) :
 Calls Tryz.prog 163 #[v] w (RQRes (-a) w) := by
 obtain ⟨e1, e2, e3⟩ := neg_q a
 have := negative_any v _ _ _ w h
 rw [e1] at this
 unfold RQRes RQ
 rw [e2, e3]; exact this
theorem RQ.zero {w : World} {v : Value} (h : RatV w v false 0 1) : RQ w v 0 := h
theorem RQ.slices {w : World} {v : Value} {q : Rat} (h : RQ w v q) : ∃ a1 c1 a2 c2, v = .agg #[.bool (qS q), .slice a1 (dig (qN q)).length c1, .slice a2 (dig (qD q)).length c2] /\ NatV w (.slice a1 (dig (qN q)).length c1) (qN q) /\ NatV w (.slice a2 (dig (qD q)).length c2) (qD q) := RatV.slices h
theorem RQ.slices0 {w : World} {v : Value} (h : RQ w v 0) : ∃ a1 c1 a2 c2, v = .agg #[.bool false, .slice a1 (dig 0).length c1, .slice a2 (dig 1).length c2] /\ NatV w (.slice a1 (dig 0).length c1) 0 /\ NatV w (.slice a2 (dig 1).length c2) 1 := RatV.slices h
theorem VQ.slices {w : World} {v : Value} {q : Rat} (h : VQ w v q) : ∃ a1 c1 a2 c2 a3 c3 a4 c4, v = .agg #[.bool (qS q), .slice a1 (dig (qN q)).length c1, .slice a2 (dig (qD q)).length c2, .bool false, .slice a3 (dig 0).length c3, .slice a4 (dig 1).length c4] /\ NatV w (.slice a1 (dig (qN q)).length c1) (qN q) /\ NatV w (.slice a2 (dig (qD q)).length c2) (qD q) /\ NatV w (.slice a3 (dig 0).length c3) 0 /\ NatV w (.slice a4 (dig 1).length c4) 1 := ValV.slices h
theorem VQ.parts {w : World} {q : Rat} {a1 a2 a3 a4 : Option Addr} {c1 c2 c3 c4 : Nat} (h : VQ w (.agg #[.bool (qS q), .slice a1 (dig (qN q)).length c1, .slice a2 (dig (qD q)).length c2, .bool false, .slice a3 (dig 0).length c3, .slice a4 (dig 1).length c4]) q) : RQ w (.agg #[.bool (qS q), .slice a1 (dig (qN q)).length c1, .slice a2 (dig (qD q)).length c2]) q /\ RQ w (.agg #[.bool false, .slice a3 (dig 0).length c3, .slice a4 (dig 1).length c4]) 0 := by
 obtain ⟨b1, b2, b3, b4, e, k1, k2, k3, k4⟩ := h
 injection e with e
 simp only [Array.mk.injEq, List.cons.injEq, and_true, true_and] at e
 obtain ⟨rfl, rfl, rfl, rfl⟩ := e
 exact ⟨⟨_, _, rfl, k1, k2⟩, ⟨_, _, rfl, k3, k4⟩⟩
theorem boxes2 {w w1 : World} {A1 A2 : Array Value} {T1 T2 : TypeId} {B : Nat} (hb : Below B ((w.alloc (.cells A1 T1)).alloc (.cells A2 T2)) w1) (hB : w.heap.size + 1 < B) :
 (∀ i, w1.cell? ⟨w.heap.size, i, none⟩ = A1[i]?) /\ (∀ i, w1.cell? ⟨w.heap.size + 1, i, none⟩ = A2[i]?) /\ (∀ i, w1.frozen? ⟨w.heap.size + 1, i, none⟩ = false) :=
 ⟨fun i => box_keep2 hb (by omega) i, fun i => box_keep1 hb hB i, fun i => box_free1 hb hB i⟩
theorem RQ.box3 {w : World} {v : Value} {q : Rat} {b : Nat} {x0 x1 x2 u0 u1 u2 : Value} (h : RQ w v q) (q0 : w.cell? ⟨b, 0, none⟩ = some x0) (q1 : w.cell? ⟨b, 1, none⟩ = some x1) (q2 : w.cell? ⟨b, 2, none⟩ = some x2)
 (n0 : NoNum x0) (n1 : NoNum x1) (n2 : NoNum x2) : RQ (((w.setCell ⟨b, 0, none⟩ u0).setCell ⟨b, 1, none⟩ u1).setCell ⟨b, 2, none⟩ u2) v q := by
 obtain ⟨va, vb, rfl, ha, hb⟩ := h
 exact ⟨va, vb, rfl, ha.box3 q0 q1 q2 n0 n1 n2, hb.box3 q0 q1 q2 n0 n1 n2⟩
theorem VQ.box6 {w : World} {v : Value} {q : Rat} {b : Nat} {x0 x1 x2 x3 x4 x5 u0 u1 u2 u3 u4 u5 : Value} (h : VQ w v q) (q0 : w.cell? ⟨b, 0, none⟩ = some x0) (q1 : w.cell? ⟨b, 1, none⟩ = some x1) (q2 : w.cell? ⟨b, 2, none⟩ = some x2)
 (q3 : w.cell? ⟨b, 3, none⟩ = some x3) (q4 : w.cell? ⟨b, 4, none⟩ = some x4) (q5 : w.cell? ⟨b, 5, none⟩ = some x5)
 (n0 : NoNum x0) (n1 : NoNum x1) (n2 : NoNum x2) (n3 : NoNum x3) (n4 : NoNum x4) (n5 : NoNum x5) :
 VQ ((((((w.setCell ⟨b, 0, none⟩ u0).setCell ⟨b, 1, none⟩ u1).setCell ⟨b, 2, none⟩ u2).setCell ⟨b, 3, none⟩ u3).setCell ⟨b, 4, none⟩ u4).setCell ⟨b, 5, none⟩ u5) v q := by
 obtain ⟨va, vb, vc, vd, rfl, ha, hb, hc, hd⟩ := h
 exact ⟨va, vb, vc, vd, rfl, ha.box6 q0 q1 q2 q3 q4 q5 n0 n1 n2 n3 n4 n5, hb.box6 q0 q1 q2 q3 q4 q5 n0 n1 n2 n3 n4 n5, hc.box6 q0 q1 q2 q3 q4 q5 n0 n1 n2 n3 n4 n5, hd.box6 q0 q1 q2 q3 q4 q5 n0 n1 n2 n3 n4 n5⟩
theorem VQ.join {w : World} {q : Rat} {a1 a2 a3 a4 : Option Addr} {c1 c2 c3 c4 : Nat} (h1 : RQ w (.agg #[.bool (qS q), .slice a1 (dig (qN q)).length c1, .slice a2 (dig (qD q)).length c2]) q) (h2 : RQ w (.agg #[.bool false, .slice a3 (dig 0).length c3, .slice a4 (dig 1).length c4]) 0) : VQ w (.agg #[.bool (qS q), .slice a1 (dig (qN q)).length c1, .slice a2 (dig (qD q)).length c2, .bool false, .slice a3 (dig 0).length c3, .slice a4 (dig 1).length c4]) q := by
 obtain ⟨b1, b2, e, k1, k2⟩ := h1
 injection e with e
 simp only [Array.mk.injEq, List.cons.injEq, and_true, true_and] at e
 obtain ⟨rfl, rfl⟩ := e
 obtain ⟨b3, b4, e, k3, k4⟩ := h2
 injection e with e
 simp only [Array.mk.injEq, List.cons.injEq, and_true] at e
 obtain ⟨-, rfl, rfl⟩ := e
 exact ⟨_, _, _, _, rfl, k1, k2, k3, k4⟩
set_option maxRecDepth 100000 in
set_option maxHeartbeats 8000000 in
theorem ratTimesQ (v0 v1 : Value) (a b : Rat) (w : World) (h0 : RQ w v0 a) (h1 : RQ w v1 b) (l1 : hgt a <= 100000000) (l2 : hgt b <= 100000000) :
 Calls Tryz.prog 245 #[v0, v1] w (RQRes (a * b) w) := by
 have H0 := Lib.hid h0
 obtain ⟨a1, ac1, a2, ac2, rfl, na1, na2⟩ := h0.slices
 have H1 := Lib.hid h1
 obtain ⟨b1, bc1, b2, bc2, rfl, nb1, nb2⟩ := h1.slices
 obtain ⟨W0, hW0⟩ : ∃ W0, W0 = (((w.alloc (.cells #[.bool (qS a), .slice a1 (dig (qN a)).length ac1, .slice a2 (dig (qD a)).length ac2] 146)).alloc (.cells #[.bool (qS b), .slice b1 (dig (qN b)).length bc1, .slice b2 (dig (qD b)).length bc2] 146)).alloc (.cells #[.bool false, .slice none 0 0, .slice none 0 0] 146)) := ⟨_, rfl⟩
 have hbx := fun (B : Nat) (w1 : World) (h1 : Below B W0 w1) (h2 : w.heap.size + 2 < B) => boxes3 (w := w) (by rw [hW0] at h1; exact h1) h2
 have hB0 : Below w.heap.size w W0 := by rw [hW0]; exact ((((Below.refl w.heap.size w).alloc (Nat.le_refl _) _).alloc (by simp; try omega) _).alloc (by simp; try omega) _)
 have hz0 : W0.heap.size = w.heap.size + 3 := by rw [hW0]; simp
 obtain ⟨k0, k1, -, -⟩ := hbx (w.heap.size + 3) W0 (Below.refl _ W0) (by omega)
 have x00 : W0.cell? ⟨w.heap.size, 0, none⟩ = some (.bool (qS a)) := k0 0
 have x01 : W0.cell? ⟨w.heap.size, 1, none⟩ = some (.slice a1 (dig (qN a)).length ac1) := k0 1
 have x02 : W0.cell? ⟨w.heap.size, 2, none⟩ = some (.slice a2 (dig (qD a)).length ac2) := k0 2
 have x10 : W0.cell? ⟨w.heap.size + 1, 0, none⟩ = some (.bool (qS b)) := k1 0
 have x11 : W0.cell? ⟨w.heap.size + 1, 1, none⟩ = some (.slice b1 (dig (qN b)).length bc1) := k1 1
 have x12 : W0.cell? ⟨w.heap.size + 1, 2, none⟩ = some (.slice b2 (dig (qD b)).length bc2) := k1 2
 have dx00 : W0.drew.cell? ⟨w.heap.size, 0, none⟩ = some (.bool (qS a)) := x00
 have dx01 : W0.drew.cell? ⟨w.heap.size, 1, none⟩ = some (.slice a1 (dig (qN a)).length ac1) := x01
 have dx02 : W0.drew.cell? ⟨w.heap.size, 2, none⟩ = some (.slice a2 (dig (qD a)).length ac2) := x02
 have dx10 : W0.drew.cell? ⟨w.heap.size + 1, 0, none⟩ = some (.bool (qS b)) := x10
 have dx11 : W0.drew.cell? ⟨w.heap.size + 1, 1, none⟩ = some (.slice b1 (dig (qN b)).length bc1) := x11
 have dx12 : W0.drew.cell? ⟨w.heap.size + 1, 2, none⟩ = some (.slice b2 (dig (qD b)).length bc2) := x12
 have HBX := Lib.hid hbx; have HB0 := Lib.hid hB0
 have HPW : Hid (∀ W, Below W0.heap.size W0 W -> Below w.heap.size w W) := fun W h => HB0.out.trans (h.mono HB0.out.size)
 have hT1 : ∀ W, Below w.heap.size w W -> Calls Tryz.prog 221 #[.slice a1 (dig (qN a)).length ac1, .slice b1 (dig (qN b)).length bc1] W fun e w' => (∃ v, e = .returned v /\ NatV w' v (qN a * qN b)) /\ Below W.heap.size W w' := fun W hb => natTimes_any _ _ _ _ W (na1.below hb (Nat.le_refl _)) (nb1.below hb (Nat.le_refl _)) (by have := hgt_n a; have := hgt_n b; omega)
 have hT2 : ∀ W, Below w.heap.size w W -> Calls Tryz.prog 221 #[.slice a2 (dig (qD a)).length ac2, .slice b2 (dig (qD b)).length bc2] W fun e w' => (∃ v, e = .returned v /\ NatV w' v (qD a * qD b)) /\ Below W.heap.size W w' := fun W hb => natTimes_any _ _ _ _ W (na2.below hb (Nat.le_refl _)) (nb2.below hb (Nat.le_refl _)) (by have := hgt_d a; have := hgt_d b; omega)
 have hRD : ∀ va vb W, NatV W va (qN a * qN b) -> NatV W vb (qD a * qD b) -> Calls Tryz.prog 85 #[.bool (!(qS a == qS b)), va, vb] W (RQRes (a * b) W) := fun va vb W ha hb => by
  obtain ⟨e1, e2, e3⟩ := rt_q a b
  have m1 := dig_mul_len (qN a) (qN b)
  have m2 := dig_mul_len (qD a) (qD b)
  have g1 := hgt_n a; have g2 := hgt_n b; have g3 := hgt_d a; have g4 := hgt_d b
  have := reduced_any (qD a * qD b + 1) (overOK_all _) (qS a != qS b) va vb _ _ W ha hb (by omega) (by omega) (by omega) (Nat.mul_ne_zero (qD_ne a) (qD_ne b))
  rw [e1, e2, e3] at this; exact this
 have HT1 := Lib.hid hT1; have HT2 := Lib.hid hT2; have HRD := Lib.hid hRD
 have HBC := Lib.hid ((Below.refl W0.heap.size W0).drew)
 obtain ⟨wc, hwc⟩ : ∃ wc, wc = W0.drew := ⟨_, rfl⟩
 rw [<- hwc] at HBC
 clear hbx hB0 k0 k1 hT1 hT2 hRD na1 na2 nb1 nb2 l1 l2 h0 h1
 go_enter Tryz.func245, Tryz.ntmps245
 go_wp2_with fail
 rw [<- hW0]
 clear hW0
 go_region_held3 (fun w' => w'.cell? ⟨w.heap.size, 0, none⟩ = some (.bool (qS a)) /\ w'.cell? ⟨w.heap.size, 1, none⟩ = some (.slice a1 (dig (qN a)).length ac1) /\ w'.cell? ⟨w.heap.size, 2, none⟩ = some (.slice a2 (dig (qD a)).length ac2) /\ w'.cell? ⟨w.heap.size + 1, 0, none⟩ = some (.bool (qS b)) /\ w'.cell? ⟨w.heap.size + 1, 1, none⟩ = some (.slice b1 (dig (qN b)).length bc1) /\ w'.cell? ⟨w.heap.size + 1, 2, none⟩ = some (.slice b2 (dig (qD b)).length bc2))
  (first | with_reducible exact ⟨px00, px01, px02, px10, px11, px12⟩ | with_reducible exact ⟨x00, x01, x02, x10, x11, x12⟩ | with_reducible exact ⟨dx00, dx01, dx02, dx10, dx11, dx12⟩ | (refine ⟨?_, ?_, ?_, ?_, ?_, ?_⟩ <;> (repeat rw [World.cell?_setCell_other _ _ _ _ (by simp)]) <;> assumption) | go_keep)
  (first
   | (go_at_call 221; (try rw [<- hwc]); (with_reducible refine Calls.mono (HT1.out wc (HPW.out _ HBC.out)) ?_); rintro e wc ⟨⟨u0, rfl, hv0⟩, hbc⟩; (try have HV1 := Lib.hid (HV1.out.below hbc (Nat.le_refl _))); (try have HV2 := Lib.hid (HV2.out.below hbc (Nat.le_refl _))); have HV0 := Lib.hid hv0; clear hv0; have HBC := Lib.hid (HBC.out.trans (hbc.mono HBC.out.size)); have px00 := cell_keep x00 HBC.out (Nat.le_refl _); have px01 := cell_keep x01 HBC.out (Nat.le_refl _); have px02 := cell_keep x02 HBC.out (Nat.le_refl _); have px10 := cell_keep x10 HBC.out (Nat.le_refl _); have px11 := cell_keep x11 HBC.out (Nat.le_refl _); have px12 := cell_keep x12 HBC.out (Nat.le_refl _); obtain ⟨-, -, f2, ff⟩ := HBX.out _ _ HBC.out (by omega); have z0 := f2 0; have z1 := f2 1; have z2 := f2 2; simp only [List.getElem?_toArray, List.getElem?_cons_succ, List.getElem?_cons_zero] at z0 z1 z2; have t0 := ff 0; have t1 := ff 1; have t2 := ff 2; clear f2 ff; clear hbc)
   | (go_at_call 221; (try rw [<- hwc]); (with_reducible refine Calls.mono (HT2.out wc (HPW.out _ HBC.out)) ?_); rintro e wc ⟨⟨u1, rfl, hv1⟩, hbc⟩; (try have HV0 := Lib.hid (HV0.out.below hbc (Nat.le_refl _))); (try have HV2 := Lib.hid (HV2.out.below hbc (Nat.le_refl _))); have HV1 := Lib.hid hv1; clear hv1; have HBC := Lib.hid (HBC.out.trans (hbc.mono HBC.out.size)); have px00 := cell_keep x00 HBC.out (Nat.le_refl _); have px01 := cell_keep x01 HBC.out (Nat.le_refl _); have px02 := cell_keep x02 HBC.out (Nat.le_refl _); have px10 := cell_keep x10 HBC.out (Nat.le_refl _); have px11 := cell_keep x11 HBC.out (Nat.le_refl _); have px12 := cell_keep x12 HBC.out (Nat.le_refl _); obtain ⟨-, -, f2, ff⟩ := HBX.out _ _ HBC.out (by omega); have z0 := f2 0; have z1 := f2 1; have z2 := f2 2; simp only [List.getElem?_toArray, List.getElem?_cons_succ, List.getElem?_cons_zero] at z0 z1 z2; have t0 := ff 0; have t1 := ff 1; have t2 := ff 2; clear f2 ff; clear hbc)
   | (go_at_call 85; (try rw [<- hwc]); (with_reducible refine Calls.mono (HRD.out _ _ wc HV0.out HV1.out) ?_); rintro e wc ⟨⟨u2, rfl, hv2⟩, hbc⟩; (try have HV0 := Lib.hid (HV0.out.below hbc (Nat.le_refl _))); (try have HV1 := Lib.hid (HV1.out.below hbc (Nat.le_refl _))); have HV2 := Lib.hid hv2; obtain ⟨g21, g2c1, g22, g2c2, rfl, _, _⟩ := hv2.slices; clear hv2; have HBC := Lib.hid (HBC.out.trans (hbc.mono HBC.out.size)); have px00 := cell_keep x00 HBC.out (Nat.le_refl _); have px01 := cell_keep x01 HBC.out (Nat.le_refl _); have px02 := cell_keep x02 HBC.out (Nat.le_refl _); have px10 := cell_keep x10 HBC.out (Nat.le_refl _); have px11 := cell_keep x11 HBC.out (Nat.le_refl _); have px12 := cell_keep x12 HBC.out (Nat.le_refl _); obtain ⟨-, -, f2, ff⟩ := HBX.out _ _ HBC.out (by omega); have z0 := f2 0; have z1 := f2 1; have z2 := f2 2; simp only [List.getElem?_toArray, List.getElem?_cons_succ, List.getElem?_cons_zero] at z0 z1 z2; have t0 := ff 0; have t1 := ff 1; have t2 := ff 2; clear f2 ff; clear hbc))
 all_goals
  have hbw := HPW.out _ HBC.out
  have hle : w.heap.size <= w.heap.size + 1 + 1 := by omega
  go_wp2_with fail
  refine bodyPost_ret (v := .agg #[.bool (qS (a * b)), .slice g21 (dig (qN (a * b))).length g2c1, .slice g22 (dig (qD (a * b))).length g2c2]) (by simp [results, Tryz.results245, go_sem, z0, z1, z2]) rfl ?_
  exact ⟨⟨_, rfl, HV2.out.box3 z0 z1 z2 trivial trivial trivial⟩, (((hbw.setCell hle _).setCell hle _).setCell hle _)⟩
set_option maxRecDepth 100000 in
theorem ratInvQ (v : Value) (a : Rat) (w : World) (h : RQ w v a) (ha : a ≠ 0) :
 Calls Tryz.prog 248 #[v] w (RQRes a⁻¹ w) := by
 obtain ⟨e1, e2, e3⟩ := inv_q ha
 unfold RQRes RQ
 rw [e1, e2, e3]
 obtain ⟨a1, c1, a2, c2, rfl, k1, k2⟩ := h.slices
 have hbw : Below w.heap.size w ((w.alloc (.cells #[.bool (qS a), .slice a1 (dig (qN a)).length c1, .slice a2 (dig (qD a)).length c2] 146)).alloc (.cells #[.bool (qS a), .slice a2 (dig (qD a)).length c2, .slice a1 (dig (qN a)).length c1] 146)) := ((Below.refl _ _).alloc (Nat.le_refl _) _).alloc (by simp) _
 have K1 := Lib.hid (k1.below hbw (Nat.le_refl _)); have K2 := Lib.hid (k2.below hbw (Nat.le_refl _)); have HB := Lib.hid hbw
 clear h k1 k2 hbw
 go_enter Tryz.func248, Tryz.ntmps248
 go_wp2
 refine bodyPost_ret (v := .agg #[.bool (qS a), .slice a2 (dig (qD a)).length c2, .slice a1 (dig (qN a)).length c1]) (by simp [results, Tryz.results248, go_sem]) rfl ?_
 exact ⟨⟨_, rfl, _, _, rfl, K2.out, K1.out⟩, HB.out⟩
set_option maxRecDepth 100000 in
set_option maxHeartbeats 8000000 in
theorem conjQ (v0 : Value) (a : Rat) (w : World) (h0 : VQ w v0 a) :
 Calls Tryz.prog 246 #[v0] w (VQRes (a) w) := by
 have H0 := Lib.hid h0
 obtain ⟨a1, ac1, a2, ac2, a3, ac3, a4, ac4, rfl, _, _, _, _⟩ := h0.slices
 obtain ⟨W0, hW0⟩ : ∃ W0, W0 = ((w.alloc (.cells #[.bool (qS a), .slice a1 (dig (qN a)).length ac1, .slice a2 (dig (qD a)).length ac2, .bool false, .slice a3 (dig 0).length ac3, .slice a4 (dig 1).length ac4] 148)).alloc (.cells #[.bool false, .slice none 0 0, .slice none 0 0, .bool false, .slice none 0 0, .slice none 0 0] 148)) := ⟨_, rfl⟩
 have hbx := fun (B : Nat) (w1 : World) (h1 : Below B W0 w1) (h2 : w.heap.size + 1 < B) => boxes2 (w := w) (by rw [hW0] at h1; exact h1) h2
 have hB0 : Below w.heap.size w W0 := by rw [hW0]; exact (((Below.refl w.heap.size w).alloc (Nat.le_refl _) _).alloc (by simp; try omega) _)
 have hz0 : W0.heap.size = w.heap.size + 2 := by rw [hW0]; simp
 obtain ⟨k0, -, -⟩ := hbx (w.heap.size + 2) W0 (Below.refl _ W0) (by omega)
 have x00 : W0.cell? ⟨w.heap.size, 0, none⟩ = some (.bool (qS a)) := k0 0
 have x01 : W0.cell? ⟨w.heap.size, 1, none⟩ = some (.slice a1 (dig (qN a)).length ac1) := k0 1
 have x02 : W0.cell? ⟨w.heap.size, 2, none⟩ = some (.slice a2 (dig (qD a)).length ac2) := k0 2
 have x03 : W0.cell? ⟨w.heap.size, 3, none⟩ = some (.bool false) := k0 3
 have x04 : W0.cell? ⟨w.heap.size, 4, none⟩ = some (.slice a3 (dig 0).length ac3) := k0 4
 have x05 : W0.cell? ⟨w.heap.size, 5, none⟩ = some (.slice a4 (dig 1).length ac4) := k0 5
 have dx00 : W0.drew.cell? ⟨w.heap.size, 0, none⟩ = some (.bool (qS a)) := x00
 have dx01 : W0.drew.cell? ⟨w.heap.size, 1, none⟩ = some (.slice a1 (dig (qN a)).length ac1) := x01
 have dx02 : W0.drew.cell? ⟨w.heap.size, 2, none⟩ = some (.slice a2 (dig (qD a)).length ac2) := x02
 have dx03 : W0.drew.cell? ⟨w.heap.size, 3, none⟩ = some (.bool false) := x03
 have dx04 : W0.drew.cell? ⟨w.heap.size, 4, none⟩ = some (.slice a3 (dig 0).length ac3) := x04
 have dx05 : W0.drew.cell? ⟨w.heap.size, 5, none⟩ = some (.slice a4 (dig 1).length ac4) := x05
 have HBX := Lib.hid hbx; have HB0 := Lib.hid hB0
 have HPW : Hid (∀ W, Below W0.heap.size W0 W -> Below w.heap.size w W) := fun W h => HB0.out.trans (h.mono HB0.out.size)
 have hN : ∀ W, Below w.heap.size w W -> Calls Tryz.prog 163 #[.agg #[.bool false, .slice a3 (dig 0).length ac3, .slice a4 (dig 1).length ac4]] W (RQRes 0 W) := fun W hb => by
  have := ratNegQ _ 0 W (H0.out.parts.2.below hb (Nat.le_refl _))
  rw [Rat.neg_zero] at this; exact this
 have hX : ∀ W, Below w.heap.size w W -> RQ W (.agg #[.bool (qS a), .slice a1 (dig (qN a)).length ac1, .slice a2 (dig (qD a)).length ac2]) a := fun W hb => H0.out.parts.1.below hb (Nat.le_refl _)
 have HN := Lib.hid hN; have HX := Lib.hid hX
 have HBC := Lib.hid ((Below.refl W0.heap.size W0).drew)
 obtain ⟨wc, hwc⟩ : ∃ wc, wc = W0.drew := ⟨_, rfl⟩
 rw [<- hwc] at HBC
 clear hbx hB0 k0 hN hX h0
 go_enter Tryz.func246, Tryz.ntmps246
 go_wp2_with fail
 rw [<- hW0]
 clear hW0
 go_region_held3 (fun w' => w'.cell? ⟨w.heap.size, 0, none⟩ = some (.bool (qS a)) /\ w'.cell? ⟨w.heap.size, 1, none⟩ = some (.slice a1 (dig (qN a)).length ac1) /\ w'.cell? ⟨w.heap.size, 2, none⟩ = some (.slice a2 (dig (qD a)).length ac2) /\ w'.cell? ⟨w.heap.size, 3, none⟩ = some (.bool false) /\ w'.cell? ⟨w.heap.size, 4, none⟩ = some (.slice a3 (dig 0).length ac3) /\ w'.cell? ⟨w.heap.size, 5, none⟩ = some (.slice a4 (dig 1).length ac4))
  (first | with_reducible exact ⟨px00, px01, px02, px03, px04, px05⟩ | with_reducible exact ⟨x00, x01, x02, x03, x04, x05⟩ | with_reducible exact ⟨dx00, dx01, dx02, dx03, dx04, dx05⟩ | (refine ⟨?_, ?_, ?_, ?_, ?_, ?_⟩ <;> (repeat rw [World.cell?_setCell_other _ _ _ _ (by simp)]) <;> assumption) | go_keep)
  (first
   | (go_at_call 163; (try rw [<- hwc]); (with_reducible refine Calls.mono (HN.out wc (HPW.out _ HBC.out)) ?_); rintro e wc ⟨⟨u0, rfl, hv0⟩, hbc⟩; have HV0 := Lib.hid hv0; obtain ⟨g01, g0c1, g02, g0c2, rfl, _, _⟩ := hv0.slices0; clear hv0; have HBC := Lib.hid (HBC.out.trans (hbc.mono HBC.out.size)); have px00 := cell_keep x00 HBC.out (Nat.le_refl _); have px01 := cell_keep x01 HBC.out (Nat.le_refl _); have px02 := cell_keep x02 HBC.out (Nat.le_refl _); have px03 := cell_keep x03 HBC.out (Nat.le_refl _); have px04 := cell_keep x04 HBC.out (Nat.le_refl _); have px05 := cell_keep x05 HBC.out (Nat.le_refl _); obtain ⟨-, f2, ff⟩ := HBX.out _ _ HBC.out (by omega); have z0 := f2 0; have z1 := f2 1; have z2 := f2 2; have z3 := f2 3; have z4 := f2 4; have z5 := f2 5; simp only [List.getElem?_toArray, List.getElem?_cons_succ, List.getElem?_cons_zero] at z0 z1 z2 z3 z4 z5; have t0 := ff 0; have t1 := ff 1; have t2 := ff 2; have t3 := ff 3; have t4 := ff 4; have t5 := ff 5; clear f2 ff; clear hbc))
 all_goals
  have hbw := HPW.out _ HBC.out
  have hle : w.heap.size <= w.heap.size + 1 := by omega
  go_wp2_with fail
  refine bodyPost_ret (v := .agg #[.bool (qS a), .slice a1 (dig (qN a)).length ac1, .slice a2 (dig (qD a)).length ac2, .bool false, .slice g01 (dig 0).length g0c1, .slice g02 (dig 1).length g0c2]) (by simp [results, Tryz.results246, go_sem, z0, z1, z2, z3, z4, z5]) rfl ?_
  exact ⟨⟨_, rfl, (VQ.join (HX.out _ hbw) HV0.out).box6 z0 z1 z2 z3 z4 z5 trivial trivial trivial trivial trivial trivial⟩, ((((((hbw.setCell hle _).setCell hle _).setCell hle _).setCell hle _).setCell hle _).setCell hle _)⟩
set_option maxRecDepth 100000 in
set_option maxHeartbeats 8000000 in
theorem valNegQ (v0 : Value) (a : Rat) (w : World) (h0 : VQ w v0 a) :
 Calls Tryz.prog 111 #[v0] w (VQRes (-a) w) := by
 have H0 := Lib.hid h0
 obtain ⟨a1, ac1, a2, ac2, a3, ac3, a4, ac4, rfl, _, _, _, _⟩ := h0.slices
 obtain ⟨W0, hW0⟩ : ∃ W0, W0 = ((w.alloc (.cells #[.bool (qS a), .slice a1 (dig (qN a)).length ac1, .slice a2 (dig (qD a)).length ac2, .bool false, .slice a3 (dig 0).length ac3, .slice a4 (dig 1).length ac4] 148)).alloc (.cells #[.bool false, .slice none 0 0, .slice none 0 0, .bool false, .slice none 0 0, .slice none 0 0] 148)) := ⟨_, rfl⟩
 have hbx := fun (B : Nat) (w1 : World) (h1 : Below B W0 w1) (h2 : w.heap.size + 1 < B) => boxes2 (w := w) (by rw [hW0] at h1; exact h1) h2
 have hB0 : Below w.heap.size w W0 := by rw [hW0]; exact (((Below.refl w.heap.size w).alloc (Nat.le_refl _) _).alloc (by simp; try omega) _)
 have hz0 : W0.heap.size = w.heap.size + 2 := by rw [hW0]; simp
 obtain ⟨k0, -, -⟩ := hbx (w.heap.size + 2) W0 (Below.refl _ W0) (by omega)
 have x00 : W0.cell? ⟨w.heap.size, 0, none⟩ = some (.bool (qS a)) := k0 0
 have x01 : W0.cell? ⟨w.heap.size, 1, none⟩ = some (.slice a1 (dig (qN a)).length ac1) := k0 1
 have x02 : W0.cell? ⟨w.heap.size, 2, none⟩ = some (.slice a2 (dig (qD a)).length ac2) := k0 2
 have x03 : W0.cell? ⟨w.heap.size, 3, none⟩ = some (.bool false) := k0 3
 have x04 : W0.cell? ⟨w.heap.size, 4, none⟩ = some (.slice a3 (dig 0).length ac3) := k0 4
 have x05 : W0.cell? ⟨w.heap.size, 5, none⟩ = some (.slice a4 (dig 1).length ac4) := k0 5
 have dx00 : W0.drew.cell? ⟨w.heap.size, 0, none⟩ = some (.bool (qS a)) := x00
 have dx01 : W0.drew.cell? ⟨w.heap.size, 1, none⟩ = some (.slice a1 (dig (qN a)).length ac1) := x01
 have dx02 : W0.drew.cell? ⟨w.heap.size, 2, none⟩ = some (.slice a2 (dig (qD a)).length ac2) := x02
 have dx03 : W0.drew.cell? ⟨w.heap.size, 3, none⟩ = some (.bool false) := x03
 have dx04 : W0.drew.cell? ⟨w.heap.size, 4, none⟩ = some (.slice a3 (dig 0).length ac3) := x04
 have dx05 : W0.drew.cell? ⟨w.heap.size, 5, none⟩ = some (.slice a4 (dig 1).length ac4) := x05
 have HBX := Lib.hid hbx; have HB0 := Lib.hid hB0
 have HPW : Hid (∀ W, Below W0.heap.size W0 W -> Below w.heap.size w W) := fun W h => HB0.out.trans (h.mono HB0.out.size)
 have hN1 : ∀ W, Below w.heap.size w W -> Calls Tryz.prog 163 #[.agg #[.bool (qS a), .slice a1 (dig (qN a)).length ac1, .slice a2 (dig (qD a)).length ac2]] W (RQRes (-a) W) := fun W hb => ratNegQ _ a W (H0.out.parts.1.below hb (Nat.le_refl _))
 have hN2 : ∀ W, Below w.heap.size w W -> Calls Tryz.prog 163 #[.agg #[.bool false, .slice a3 (dig 0).length ac3, .slice a4 (dig 1).length ac4]] W (RQRes 0 W) := fun W hb => by
  have := ratNegQ _ 0 W (H0.out.parts.2.below hb (Nat.le_refl _))
  rw [Rat.neg_zero] at this; exact this
 have HN1 := Lib.hid hN1; have HN2 := Lib.hid hN2
 have HBC := Lib.hid ((Below.refl W0.heap.size W0).drew)
 obtain ⟨wc, hwc⟩ : ∃ wc, wc = W0.drew := ⟨_, rfl⟩
 rw [<- hwc] at HBC
 clear hbx hB0 k0 hN1 hN2 h0
 go_enter Tryz.func111, Tryz.ntmps111
 go_wp2_with fail
 rw [<- hW0]
 clear hW0
 go_region_held3 (fun w' => w'.cell? ⟨w.heap.size, 0, none⟩ = some (.bool (qS a)) /\ w'.cell? ⟨w.heap.size, 1, none⟩ = some (.slice a1 (dig (qN a)).length ac1) /\ w'.cell? ⟨w.heap.size, 2, none⟩ = some (.slice a2 (dig (qD a)).length ac2) /\ w'.cell? ⟨w.heap.size, 3, none⟩ = some (.bool false) /\ w'.cell? ⟨w.heap.size, 4, none⟩ = some (.slice a3 (dig 0).length ac3) /\ w'.cell? ⟨w.heap.size, 5, none⟩ = some (.slice a4 (dig 1).length ac4))
  (first | with_reducible exact ⟨px00, px01, px02, px03, px04, px05⟩ | with_reducible exact ⟨x00, x01, x02, x03, x04, x05⟩ | with_reducible exact ⟨dx00, dx01, dx02, dx03, dx04, dx05⟩ | (refine ⟨?_, ?_, ?_, ?_, ?_, ?_⟩ <;> (repeat rw [World.cell?_setCell_other _ _ _ _ (by simp)]) <;> assumption) | go_keep)
  (first
   | (go_at_call 163; (try rw [<- hwc]); (with_reducible refine Calls.mono (HN1.out wc (HPW.out _ HBC.out)) ?_); rintro e wc ⟨⟨u0, rfl, hv0⟩, hbc⟩; (try have HV1 := Lib.hid (HV1.out.below hbc (Nat.le_refl _))); have HV0 := Lib.hid hv0; obtain ⟨g01, g0c1, g02, g0c2, rfl, _, _⟩ := hv0.slices; clear hv0; have HBC := Lib.hid (HBC.out.trans (hbc.mono HBC.out.size)); have px00 := cell_keep x00 HBC.out (Nat.le_refl _); have px01 := cell_keep x01 HBC.out (Nat.le_refl _); have px02 := cell_keep x02 HBC.out (Nat.le_refl _); have px03 := cell_keep x03 HBC.out (Nat.le_refl _); have px04 := cell_keep x04 HBC.out (Nat.le_refl _); have px05 := cell_keep x05 HBC.out (Nat.le_refl _); obtain ⟨-, f2, ff⟩ := HBX.out _ _ HBC.out (by omega); have z0 := f2 0; have z1 := f2 1; have z2 := f2 2; have z3 := f2 3; have z4 := f2 4; have z5 := f2 5; simp only [List.getElem?_toArray, List.getElem?_cons_succ, List.getElem?_cons_zero] at z0 z1 z2 z3 z4 z5; have t0 := ff 0; have t1 := ff 1; have t2 := ff 2; have t3 := ff 3; have t4 := ff 4; have t5 := ff 5; clear f2 ff; clear hbc)
   | (go_at_call 163; (try rw [<- hwc]); (with_reducible refine Calls.mono (HN2.out wc (HPW.out _ HBC.out)) ?_); rintro e wc ⟨⟨u1, rfl, hv1⟩, hbc⟩; (try have HV0 := Lib.hid (HV0.out.below hbc (Nat.le_refl _))); have HV1 := Lib.hid hv1; obtain ⟨g11, g1c1, g12, g1c2, rfl, _, _⟩ := hv1.slices0; clear hv1; have HBC := Lib.hid (HBC.out.trans (hbc.mono HBC.out.size)); have px00 := cell_keep x00 HBC.out (Nat.le_refl _); have px01 := cell_keep x01 HBC.out (Nat.le_refl _); have px02 := cell_keep x02 HBC.out (Nat.le_refl _); have px03 := cell_keep x03 HBC.out (Nat.le_refl _); have px04 := cell_keep x04 HBC.out (Nat.le_refl _); have px05 := cell_keep x05 HBC.out (Nat.le_refl _); obtain ⟨-, f2, ff⟩ := HBX.out _ _ HBC.out (by omega); have z0 := f2 0; have z1 := f2 1; have z2 := f2 2; have z3 := f2 3; have z4 := f2 4; have z5 := f2 5; simp only [List.getElem?_toArray, List.getElem?_cons_succ, List.getElem?_cons_zero] at z0 z1 z2 z3 z4 z5; have t0 := ff 0; have t1 := ff 1; have t2 := ff 2; have t3 := ff 3; have t4 := ff 4; have t5 := ff 5; clear f2 ff; clear hbc))
 all_goals
  have hbw := HPW.out _ HBC.out
  have hle : w.heap.size <= w.heap.size + 1 := by omega
  go_wp2_with fail
  refine bodyPost_ret (v := .agg #[.bool (qS (-a)), .slice g01 (dig (qN (-a))).length g0c1, .slice g02 (dig (qD (-a))).length g0c2, .bool false, .slice g11 (dig 0).length g1c1, .slice g12 (dig 1).length g1c2]) (by simp [results, Tryz.results111, go_sem, z0, z1, z2, z3, z4, z5]) rfl ?_
  exact ⟨⟨_, rfl, (VQ.join HV0.out HV1.out).box6 z0 z1 z2 z3 z4 z5 trivial trivial trivial trivial trivial trivial⟩, ((((((hbw.setCell hle _).setCell hle _).setCell hle _).setCell hle _).setCell hle _).setCell hle _)⟩
set_option maxRecDepth 100000 in
set_option maxHeartbeats 8000000 in
theorem lessQ (v0 v1 : Value) (a b : Rat) (w : World) (h0 : VQ w v0 a) (h1 : VQ w v1 b) (l1 : hgt a <= 100000000) (l2 : hgt b <= 100000000) :
 Calls Tryz.prog 72 #[v0, v1] w (VQRes (a - b) w) := by
 have H0 := Lib.hid h0
 obtain ⟨a1, ac1, a2, ac2, a3, ac3, a4, ac4, rfl, _, _, _, _⟩ := h0.slices
 have H1 := Lib.hid h1
 obtain ⟨b1, bc1, b2, bc2, b3, bc3, b4, bc4, rfl, _, _, _, _⟩ := h1.slices
 obtain ⟨W0, hW0⟩ : ∃ W0, W0 = (((w.alloc (.cells #[.bool (qS a), .slice a1 (dig (qN a)).length ac1, .slice a2 (dig (qD a)).length ac2, .bool false, .slice a3 (dig 0).length ac3, .slice a4 (dig 1).length ac4] 148)).alloc (.cells #[.bool (qS b), .slice b1 (dig (qN b)).length bc1, .slice b2 (dig (qD b)).length bc2, .bool false, .slice b3 (dig 0).length bc3, .slice b4 (dig 1).length bc4] 148)).alloc (.cells #[.bool false, .slice none 0 0, .slice none 0 0, .bool false, .slice none 0 0, .slice none 0 0] 148)) := ⟨_, rfl⟩
 have hbx := fun (B : Nat) (w1 : World) (h1 : Below B W0 w1) (h2 : w.heap.size + 2 < B) => boxes3 (w := w) (by rw [hW0] at h1; exact h1) h2
 have hB0 : Below w.heap.size w W0 := by rw [hW0]; exact ((((Below.refl w.heap.size w).alloc (Nat.le_refl _) _).alloc (by simp; try omega) _).alloc (by simp; try omega) _)
 have hz0 : W0.heap.size = w.heap.size + 3 := by rw [hW0]; simp
 obtain ⟨k0, k1, -, -⟩ := hbx (w.heap.size + 3) W0 (Below.refl _ W0) (by omega)
 have x00 : W0.cell? ⟨w.heap.size, 0, none⟩ = some (.bool (qS a)) := k0 0
 have x01 : W0.cell? ⟨w.heap.size, 1, none⟩ = some (.slice a1 (dig (qN a)).length ac1) := k0 1
 have x02 : W0.cell? ⟨w.heap.size, 2, none⟩ = some (.slice a2 (dig (qD a)).length ac2) := k0 2
 have x03 : W0.cell? ⟨w.heap.size, 3, none⟩ = some (.bool false) := k0 3
 have x04 : W0.cell? ⟨w.heap.size, 4, none⟩ = some (.slice a3 (dig 0).length ac3) := k0 4
 have x05 : W0.cell? ⟨w.heap.size, 5, none⟩ = some (.slice a4 (dig 1).length ac4) := k0 5
 have x10 : W0.cell? ⟨w.heap.size + 1, 0, none⟩ = some (.bool (qS b)) := k1 0
 have x11 : W0.cell? ⟨w.heap.size + 1, 1, none⟩ = some (.slice b1 (dig (qN b)).length bc1) := k1 1
 have x12 : W0.cell? ⟨w.heap.size + 1, 2, none⟩ = some (.slice b2 (dig (qD b)).length bc2) := k1 2
 have x13 : W0.cell? ⟨w.heap.size + 1, 3, none⟩ = some (.bool false) := k1 3
 have x14 : W0.cell? ⟨w.heap.size + 1, 4, none⟩ = some (.slice b3 (dig 0).length bc3) := k1 4
 have x15 : W0.cell? ⟨w.heap.size + 1, 5, none⟩ = some (.slice b4 (dig 1).length bc4) := k1 5
 have dx00 : W0.drew.cell? ⟨w.heap.size, 0, none⟩ = some (.bool (qS a)) := x00
 have dx01 : W0.drew.cell? ⟨w.heap.size, 1, none⟩ = some (.slice a1 (dig (qN a)).length ac1) := x01
 have dx02 : W0.drew.cell? ⟨w.heap.size, 2, none⟩ = some (.slice a2 (dig (qD a)).length ac2) := x02
 have dx03 : W0.drew.cell? ⟨w.heap.size, 3, none⟩ = some (.bool false) := x03
 have dx04 : W0.drew.cell? ⟨w.heap.size, 4, none⟩ = some (.slice a3 (dig 0).length ac3) := x04
 have dx05 : W0.drew.cell? ⟨w.heap.size, 5, none⟩ = some (.slice a4 (dig 1).length ac4) := x05
 have dx10 : W0.drew.cell? ⟨w.heap.size + 1, 0, none⟩ = some (.bool (qS b)) := x10
 have dx11 : W0.drew.cell? ⟨w.heap.size + 1, 1, none⟩ = some (.slice b1 (dig (qN b)).length bc1) := x11
 have dx12 : W0.drew.cell? ⟨w.heap.size + 1, 2, none⟩ = some (.slice b2 (dig (qD b)).length bc2) := x12
 have dx13 : W0.drew.cell? ⟨w.heap.size + 1, 3, none⟩ = some (.bool false) := x13
 have dx14 : W0.drew.cell? ⟨w.heap.size + 1, 4, none⟩ = some (.slice b3 (dig 0).length bc3) := x14
 have dx15 : W0.drew.cell? ⟨w.heap.size + 1, 5, none⟩ = some (.slice b4 (dig 1).length bc4) := x15
 have HBX := Lib.hid hbx; have HB0 := Lib.hid hB0
 have HPW : Hid (∀ W, Below W0.heap.size W0 W -> Below w.heap.size w W) := fun W h => HB0.out.trans (h.mono HB0.out.size)
 have hN1 : ∀ W, Below w.heap.size w W -> Calls Tryz.prog 111 #[.agg #[.bool (qS b), .slice b1 (dig (qN b)).length bc1, .slice b2 (dig (qD b)).length bc2, .bool false, .slice b3 (dig 0).length bc3, .slice b4 (dig 1).length bc4]] W (VQRes (-b) W) := fun W hb => valNegQ _ b W (H1.out.below hb (Nat.le_refl _))
 have hN2 : ∀ v W, Below w.heap.size w W -> VQ W v (-b) -> Calls Tryz.prog 138 #[.agg #[.bool (qS a), .slice a1 (dig (qN a)).length ac1, .slice a2 (dig (qD a)).length ac2, .bool false, .slice a3 (dig 0).length ac3, .slice a4 (dig 1).length ac4], v] W (VQRes (a - b) W) := fun v W hb hv => by
  have := valPlusQ _ v a (-b) W (H0.out.below hb (Nat.le_refl _)) hv (by omega) (by rw [hgt_neg]; omega)
  rw [<- Rat.sub_eq_add_neg] at this; exact this
 have HN1 := Lib.hid hN1; have HN2 := Lib.hid hN2
 have HBC := Lib.hid ((Below.refl W0.heap.size W0).drew)
 obtain ⟨wc, hwc⟩ : ∃ wc, wc = W0.drew := ⟨_, rfl⟩
 rw [<- hwc] at HBC
 clear hbx hB0 k0 k1 hN1 hN2 l1 l2 h0 h1
 go_enter Tryz.func72, Tryz.ntmps72
 go_wp2_with fail
 rw [<- hW0]
 clear hW0
 go_region_held3 (fun w' => w'.cell? ⟨w.heap.size, 0, none⟩ = some (.bool (qS a)) /\ w'.cell? ⟨w.heap.size, 1, none⟩ = some (.slice a1 (dig (qN a)).length ac1) /\ w'.cell? ⟨w.heap.size, 2, none⟩ = some (.slice a2 (dig (qD a)).length ac2) /\ w'.cell? ⟨w.heap.size, 3, none⟩ = some (.bool false) /\ w'.cell? ⟨w.heap.size, 4, none⟩ = some (.slice a3 (dig 0).length ac3) /\ w'.cell? ⟨w.heap.size, 5, none⟩ = some (.slice a4 (dig 1).length ac4) /\ w'.cell? ⟨w.heap.size + 1, 0, none⟩ = some (.bool (qS b)) /\ w'.cell? ⟨w.heap.size + 1, 1, none⟩ = some (.slice b1 (dig (qN b)).length bc1) /\ w'.cell? ⟨w.heap.size + 1, 2, none⟩ = some (.slice b2 (dig (qD b)).length bc2) /\ w'.cell? ⟨w.heap.size + 1, 3, none⟩ = some (.bool false) /\ w'.cell? ⟨w.heap.size + 1, 4, none⟩ = some (.slice b3 (dig 0).length bc3) /\ w'.cell? ⟨w.heap.size + 1, 5, none⟩ = some (.slice b4 (dig 1).length bc4))
  (first | with_reducible exact ⟨px00, px01, px02, px03, px04, px05, px10, px11, px12, px13, px14, px15⟩ | with_reducible exact ⟨x00, x01, x02, x03, x04, x05, x10, x11, x12, x13, x14, x15⟩ | with_reducible exact ⟨dx00, dx01, dx02, dx03, dx04, dx05, dx10, dx11, dx12, dx13, dx14, dx15⟩ | (refine ⟨?_, ?_, ?_, ?_, ?_, ?_, ?_, ?_, ?_, ?_, ?_, ?_⟩ <;> (repeat rw [World.cell?_setCell_other _ _ _ _ (by simp)]) <;> assumption) | go_keep)
  (first
   | (go_at_call 111; (try rw [<- hwc]); (with_reducible refine Calls.mono (HN1.out wc (HPW.out _ HBC.out)) ?_); rintro e wc ⟨⟨u0, rfl, hv0⟩, hbc⟩; (try have HV1 := Lib.hid (HV1.out.below hbc (Nat.le_refl _))); have HV0 := Lib.hid hv0; clear hv0; have HBC := Lib.hid (HBC.out.trans (hbc.mono HBC.out.size)); have px00 := cell_keep x00 HBC.out (Nat.le_refl _); have px01 := cell_keep x01 HBC.out (Nat.le_refl _); have px02 := cell_keep x02 HBC.out (Nat.le_refl _); have px03 := cell_keep x03 HBC.out (Nat.le_refl _); have px04 := cell_keep x04 HBC.out (Nat.le_refl _); have px05 := cell_keep x05 HBC.out (Nat.le_refl _); have px10 := cell_keep x10 HBC.out (Nat.le_refl _); have px11 := cell_keep x11 HBC.out (Nat.le_refl _); have px12 := cell_keep x12 HBC.out (Nat.le_refl _); have px13 := cell_keep x13 HBC.out (Nat.le_refl _); have px14 := cell_keep x14 HBC.out (Nat.le_refl _); have px15 := cell_keep x15 HBC.out (Nat.le_refl _); obtain ⟨-, -, f2, ff⟩ := HBX.out _ _ HBC.out (by omega); have z0 := f2 0; have z1 := f2 1; have z2 := f2 2; have z3 := f2 3; have z4 := f2 4; have z5 := f2 5; simp only [List.getElem?_toArray, List.getElem?_cons_succ, List.getElem?_cons_zero] at z0 z1 z2 z3 z4 z5; have t0 := ff 0; have t1 := ff 1; have t2 := ff 2; have t3 := ff 3; have t4 := ff 4; have t5 := ff 5; clear f2 ff; clear hbc)
   | (go_at_call 138; (try rw [<- hwc]); (with_reducible refine Calls.mono (HN2.out _ wc (HPW.out _ HBC.out) HV0.out) ?_); rintro e wc ⟨⟨u1, rfl, hv1⟩, hbc⟩; (try have HV0 := Lib.hid (HV0.out.below hbc (Nat.le_refl _))); have HV1 := Lib.hid hv1; obtain ⟨g11, g1c1, g12, g1c2, g13, g1c3, g14, g1c4, rfl, _, _, _, _⟩ := hv1.slices; clear hv1; have HBC := Lib.hid (HBC.out.trans (hbc.mono HBC.out.size)); have px00 := cell_keep x00 HBC.out (Nat.le_refl _); have px01 := cell_keep x01 HBC.out (Nat.le_refl _); have px02 := cell_keep x02 HBC.out (Nat.le_refl _); have px03 := cell_keep x03 HBC.out (Nat.le_refl _); have px04 := cell_keep x04 HBC.out (Nat.le_refl _); have px05 := cell_keep x05 HBC.out (Nat.le_refl _); have px10 := cell_keep x10 HBC.out (Nat.le_refl _); have px11 := cell_keep x11 HBC.out (Nat.le_refl _); have px12 := cell_keep x12 HBC.out (Nat.le_refl _); have px13 := cell_keep x13 HBC.out (Nat.le_refl _); have px14 := cell_keep x14 HBC.out (Nat.le_refl _); have px15 := cell_keep x15 HBC.out (Nat.le_refl _); obtain ⟨-, -, f2, ff⟩ := HBX.out _ _ HBC.out (by omega); have z0 := f2 0; have z1 := f2 1; have z2 := f2 2; have z3 := f2 3; have z4 := f2 4; have z5 := f2 5; simp only [List.getElem?_toArray, List.getElem?_cons_succ, List.getElem?_cons_zero] at z0 z1 z2 z3 z4 z5; have t0 := ff 0; have t1 := ff 1; have t2 := ff 2; have t3 := ff 3; have t4 := ff 4; have t5 := ff 5; clear f2 ff; clear hbc))
 all_goals
  have hbw := HPW.out _ HBC.out
  have hle : w.heap.size <= w.heap.size + 1 + 1 := by omega
  go_wp2_with fail
  refine bodyPost_ret (v := .agg #[.bool (qS (a - b)), .slice g11 (dig (qN (a - b))).length g1c1, .slice g12 (dig (qD (a - b))).length g1c2, .bool false, .slice g13 (dig 0).length g1c3, .slice g14 (dig 1).length g1c4]) (by simp [results, Tryz.results72, go_sem, z0, z1, z2, z3, z4, z5]) rfl ?_
  exact ⟨⟨_, rfl, HV1.out.box6 z0 z1 z2 z3 z4 z5 trivial trivial trivial trivial trivial trivial⟩, ((((((hbw.setCell hle _).setCell hle _).setCell hle _).setCell hle _).setCell hle _).setCell hle _)⟩
set_option maxRecDepth 100000 in
set_option maxHeartbeats 4000000 in
theorem timesQ (v0 v1 : Value) (a b : Rat) (w : World) (h0 : VQ w v0 a) (h1 : VQ w v1 b) (l1 : hgt a <= 100000000) (l2 : hgt b <= 100000000) :
 Calls Tryz.prog 201 #[v0, v1] w (VQRes (a * b) w) := by
 have H0 := Lib.hid h0; have H1 := Lib.hid h1
 obtain ⟨a1, ac1, a2, ac2, a3, ac3, a4, ac4, rfl, _, _, _, _⟩ := h0.slices
 obtain ⟨b1, bc1, b2, bc2, b3, bc3, b4, bc4, rfl, _, _, _, _⟩ := h1.slices
 obtain ⟨W0, hW0⟩ : ∃ W0, W0 = (((w.alloc (.cells #[.bool (qS a), .slice a1 (dig (qN a)).length ac1, .slice a2 (dig (qD a)).length ac2, .bool false, .slice a3 (dig 0).length ac3, .slice a4 (dig 1).length ac4] 148)).alloc (.cells #[.bool (qS b), .slice b1 (dig (qN b)).length bc1, .slice b2 (dig (qD b)).length bc2, .bool false, .slice b3 (dig 0).length bc3, .slice b4 (dig 1).length bc4] 148)).alloc (.cells #[.bool false, .slice none 0 0, .slice none 0 0, .bool false, .slice none 0 0, .slice none 0 0] 148)) := ⟨_, rfl⟩
 have hbx := fun (B : Nat) (w1 : World) (h1 : Below B W0 w1) (h2 : w.heap.size + 2 < B) => boxes3 (w := w) (by rw [hW0] at h1; exact h1) h2
 have hB0 : Below w.heap.size w W0 := by rw [hW0]; exact ((((Below.refl w.heap.size w).alloc (Nat.le_refl _) _).alloc (by simp) _).alloc (by simp; omega) _)
 have hz0 : W0.heap.size = w.heap.size + 3 := by rw [hW0]; simp
 have hI1 : ∀ W, Below w.heap.size w W -> Calls Tryz.prog 161 #[.agg #[.bool (qS a), .slice a1 (dig (qN a)).length ac1, .slice a2 (dig (qD a)).length ac2, .bool false, .slice a3 (dig 0).length ac3, .slice a4 (dig 1).length ac4]] W fun e w' => e = .returned (.bool true) /\ Below W.heap.size W w' := fun W hb => isReal_any _ _ _ _ _ _ _ W (H0.out.below hb (Nat.le_refl _))
 have hI2 : ∀ W, Below w.heap.size w W -> Calls Tryz.prog 161 #[.agg #[.bool (qS b), .slice b1 (dig (qN b)).length bc1, .slice b2 (dig (qD b)).length bc2, .bool false, .slice b3 (dig 0).length bc3, .slice b4 (dig 1).length bc4]] W fun e w' => e = .returned (.bool true) /\ Below W.heap.size W w' := fun W hb => isReal_any _ _ _ _ _ _ _ W (H1.out.below hb (Nat.le_refl _))
 have hTI : ∀ W, Below w.heap.size w W -> Calls Tryz.prog 245 #[.agg #[.bool (qS a), .slice a1 (dig (qN a)).length ac1, .slice a2 (dig (qD a)).length ac2], .agg #[.bool (qS b), .slice b1 (dig (qN b)).length bc1, .slice b2 (dig (qD b)).length bc2]] W (RQRes (a * b) W) := fun W hb => ratTimesQ _ _ a b W (H0.out.parts.1.below hb (Nat.le_refl _)) (H1.out.parts.1.below hb (Nat.le_refl _)) l1 l2
 have HI1 := Lib.hid hI1; have HI2 := Lib.hid hI2; have HTI := Lib.hid hTI; have HBX := Lib.hid hbx; have HB0 := Lib.hid hB0
 clear h0 h1 hI1 hI2 hTI hbx hB0 l1 l2
 obtain ⟨k0, k1, -, -⟩ := HBX.out (w.heap.size + 3) W0 (Below.refl _ W0) (by omega)
 have x0 := k0 0
 have y0 := k1 0
 have x1 := k0 1
 have y1 := k1 1
 have x2 := k0 2
 have y2 := k1 2
 have x3 := k0 3
 have y3 := k1 3
 have x4 := k0 4
 have y4 := k1 4
 have x5 := k0 5
 have y5 := k1 5
 simp only [List.getElem?_toArray, List.getElem?_cons_succ, List.getElem?_cons_zero] at x0 y0 x1 y1 x2 y2 x3 y3 x4 y4 x5 y5
 clear k0 k1
 go_enter Tryz.func201, Tryz.ntmps201
 go_wp2_with fail
 rw [<- hW0]
 have HW0 := Lib.hid hW0
 clear hW0
 refine (HI1.out _ HB0.out).mono ?_
 rintro e w1 ⟨rfl, hb1⟩
 have HB1 := Lib.hid ((Below.refl W0.heap.size W0).trans hb1)
 have HP1 := Lib.hid (HB0.out.trans (hb1.mono HB0.out.size))
 have px0 := cell_keep x0 hb1 (Nat.le_refl _)
 have py0 := cell_keep y0 hb1 (Nat.le_refl _)
 have px1 := cell_keep x1 hb1 (Nat.le_refl _)
 have py1 := cell_keep y1 hb1 (Nat.le_refl _)
 have px2 := cell_keep x2 hb1 (Nat.le_refl _)
 have py2 := cell_keep y2 hb1 (Nat.le_refl _)
 have px3 := cell_keep x3 hb1 (Nat.le_refl _)
 have py3 := cell_keep y3 hb1 (Nat.le_refl _)
 have px4 := cell_keep x4 hb1 (Nat.le_refl _)
 have py4 := cell_keep y4 hb1 (Nat.le_refl _)
 have px5 := cell_keep x5 hb1 (Nat.le_refl _)
 have py5 := cell_keep y5 hb1 (Nat.le_refl _)
 clear hb1
 go_wp2_with fail
 refine (HI2.out _ HP1.out).mono ?_
 rintro e w2 ⟨rfl, hb2⟩
 have HB2 := Lib.hid (HB1.out.trans (hb2.mono HB1.out.size))
 have HP2 := Lib.hid (HP1.out.trans (hb2.mono HP1.out.size))
 have qx0 := cell_keep x0 HB2.out (Nat.le_refl _)
 have qy0 := cell_keep y0 HB2.out (Nat.le_refl _)
 have qx1 := cell_keep x1 HB2.out (Nat.le_refl _)
 have qy1 := cell_keep y1 HB2.out (Nat.le_refl _)
 have qx2 := cell_keep x2 HB2.out (Nat.le_refl _)
 have qy2 := cell_keep y2 HB2.out (Nat.le_refl _)
 have qx3 := cell_keep x3 HB2.out (Nat.le_refl _)
 have qy3 := cell_keep y3 HB2.out (Nat.le_refl _)
 have qx4 := cell_keep x4 HB2.out (Nat.le_refl _)
 have qy4 := cell_keep y4 HB2.out (Nat.le_refl _)
 have qx5 := cell_keep x5 HB2.out (Nat.le_refl _)
 have qy5 := cell_keep y5 HB2.out (Nat.le_refl _)
 clear hb2
 go_wp2_with fail
 refine (HTI.out _ HP2.out).mono ?_
 rintro e w3 ⟨⟨u3, rfl, hv3⟩, hb3⟩
 have HV3 := Lib.hid hv3
 have HB3 := Lib.hid (HB2.out.trans (hb3.mono HB2.out.size))
 have HP3 := Lib.hid (HP2.out.trans (hb3.mono HP2.out.size))
 obtain ⟨r1, rc1, r2, rc2, rfl, _, _⟩ := hv3.slices
 clear hb3
 go_wp2_with fail
 refine (plain_any _ _ _ _ _ HV3.out).mono ?_
 rintro e w4 ⟨⟨u4, rfl, hv4⟩, hb4⟩
 have HV4 : Hid (VQ w4 u4 (a * b)) := Lib.hid hv4
 have HB4 := Lib.hid (HB3.out.trans (hb4.mono HB3.out.size))
 have HP4 := Lib.hid (HP3.out.trans (hb4.mono HP3.out.size))
 obtain ⟨g1, gc1, g2, gc2, g3, gc3, g4, gc4, rfl, _, _, _, _⟩ := HV4.out.slices
 clear hb4 hv4
 obtain ⟨-, -, f2, ff⟩ := HBX.out _ _ HB4.out (by omega)
 have z0 := f2 0
 have t0 := ff 0
 have z1 := f2 1
 have t1 := ff 1
 have z2 := f2 2
 have t2 := ff 2
 have z3 := f2 3
 have t3 := ff 3
 have z4 := f2 4
 have t4 := ff 4
 have z5 := f2 5
 have t5 := ff 5
 simp only [List.getElem?_toArray, List.getElem?_cons_succ, List.getElem?_cons_zero] at z0 z1 z2 z3 z4 z5
 clear f2 ff
 have hbw := HP4.out
 have hle : w.heap.size <= w.heap.size + 1 + 1 := by omega
 go_wp2_with fail
 refine bodyPost_ret (v := .agg #[.bool (qS (a * b)), .slice g1 (dig (qN (a * b))).length gc1, .slice g2 (dig (qD (a * b))).length gc2, .bool false, .slice g3 (dig 0).length gc3, .slice g4 (dig 1).length gc4]) (by simp [results, Tryz.results201, go_sem, z0, z1, z2, z3, z4, z5]) rfl ?_
 exact ⟨⟨_, rfl, HV4.out.box6 z0 z1 z2 z3 z4 z5 trivial trivial trivial trivial trivial trivial⟩, ((((((hbw.setCell hle _).setCell hle _).setCell hle _).setCell hle _).setCell hle _).setCell hle _)⟩
end Go.Proofs.YtdpjdifoonfcdaaGreatDoor

namespace Go.Proofs.YtdpjdifoonfcdaaGreatDoor
open Go.RowKit
def txQ (q : Rat) : ByteArray := ratT (qS q) (qN q) (qD q)
def okQ (q : Rat) : Bool := !bigQ (qN q) (qD q)
def ptQ (q : Rat) : ByteArray := putT (qS q) (qN q) (qD q)
def peQ (q : Rat) : Int := putE (qN q) (qD q)
theorem big_ok {q : Rat} (h : okQ q = true) : bigQ (qN q) (qD q) = false := by unfold okQ at h; simpa using h
theorem ptQ_ok {q : Rat} (h : okQ q = true) : ptQ q = txQ q /\ peQ q = 0 := by
 unfold ptQ peQ putT putE; rw [big_ok h]; exact ⟨rfl, rfl⟩
theorem ptQ_big {q : Rat} (h : okQ q = false) : ptQ q = ⟨#[]⟩ /\ peQ q = 11 := by
 have hb : bigQ (qN q) (qD q) = true := by unfold okQ at h; simpa using h
 unfold ptQ peQ putT putE; rw [hb]; exact ⟨rfl, rfl⟩
theorem q_cop (q : Rat) : Nat.gcd (qN q) (qD q) = 1 := q.reduced
theorem q_zs (q : Rat) (h : qN q = 0) : qS q = false := by unfold qN at h; unfold qS; rw [decide_eq_false_iff_not]; omega
theorem getR_tx {q : Rat} (h : okQ q = true) : getR (txQ q) = some (qS q, qN q, qD q) := getR_own (qD_ne q) (q_cop q) (q_zs q) (big_ok h)
def pq (q : Rat) : Bool × Nat × Nat := (qS q, qN q, qD q)
theorem getL_tx : ∀ l : List Rat, (∀ q ∈ l, okQ q = true) -> getL (l.map txQ) = some (l.map pq)
 | [], _ => rfl
 | q :: l, h => by
   simp only [List.map_cons, getL]
   rw [getR_tx (h q (by simp)), getL_tx l (fun x hx => h x (by simp [hx]))]
   rfl
theorem ok_hgt {q : Rat} (h : okQ q = true) : hgt q <= 300 := by
 obtain ⟨h1, h2, -⟩ := bigQ_short (s := qS q) (big_ok h) (qD_ne q)
 exact hgt_le h1 h2
theorem dig_digits {n k : Nat} (h : (dig n).length <= k) (hk : 1 <= k) : Lib.nDigits n <= 9 * k := by
 by_cases h0 : n = 0
 · subst h0; rw [Lib.nDigits_small (by decide)]; omega
 · have hp : 0 < (dig n).length := by have := mt dig_len_pos.1 h0; omega
   have := nDigits_val (sm_dig n) hp
   rw [val_dig] at this; omega
theorem ok_small {q : Rat} (h : hgt q <= 222) : okQ q = true := by
 have h1 := dig_digits (Nat.le_trans (hgt_n q) h) (by decide)
 have h2 := dig_digits (Nat.le_trans (hgt_d q) h) (by decide)
 unfold okQ bigQ
 rw [Bool.not_eq_true', Bool.or_eq_false_iff, decide_eq_false_iff_not, decide_eq_false_iff_not]
 omega
theorem tx_fit {q : Rat} (h : okQ q = true) : (txQ q).size <= 1099511627776 /\ Lib.hasSuffix (txQ q).data.toList [105] = false := by
 refine ⟨?_, ratT_noI _ _ _⟩
 have h1 := ratT_size (qS q) (qN q) (qD q)
 have hb := big_ok h
 unfold bigQ at hb
 rw [Bool.or_eq_false_iff, decide_eq_false_iff_not, decide_eq_false_iff_not] at hb
 unfold txQ; omega
theorem tx_fits {l : List Rat} (h : ∀ q ∈ l, okQ q = true) : ∀ s ∈ l.map txQ, s.size <= 1099511627776 /\ Lib.hasSuffix s.data.toList [105] = false := by
 intro s hs
 obtain ⟨q, hq, rfl⟩ := List.mem_map.1 hs
 exact tx_fit (h q hq)
theorem of_rat (n : Int) {d : Int} (hd : 0 < d) : ofS n d = qS ((n : Rat) / (d : Rat)) /\ ofN n d = qN ((n : Rat) / (d : Rat)) /\ ofD n d = qD ((n : Rat) / (d : Rat)) := by
 obtain ⟨k, rfl⟩ : ∃ k : Nat, d = k := ⟨d.toNat, by omega⟩
 have hk : k ≠ 0 := by omega
 have he : ((n : Rat) / ((k : Int) : Rat)) = mkRat n k := (Rat.mkRat_eq_div n k).symm
 rw [he]
 have h := red_q n hk
 unfold redI at h
 have h1 : decide (n < 0) = qS (mkRat n k) := (Prod.ext_iff.1 h).1
 refine ⟨?_, (Prod.ext_iff.1 (Prod.ext_iff.1 h).2).1, (Prod.ext_iff.1 (Prod.ext_iff.1 h).2).2⟩
 rw [<- h1]
 unfold ofS
 rw [show decide ((k : Int) < 0) = false by rw [decide_eq_false_iff_not]; omega, Bool.bne_false, Bool.eq_iff_iff, Bool.and_eq_true, decide_eq_true_iff, decide_eq_true_iff]
 omega
theorem of_tx (n : Int) {d : Int} (hd : 0 < d) : ratT (ofS n d) (ofN n d) (ofD n d) = txQ ((n : Rat) / (d : Rat)) := by
 obtain ⟨h1, h2, h3⟩ := of_rat n hd
 unfold txQ; rw [h1, h2, h3]
theorem of_one (n : Int) : ratT (ofS n 1) (ofN n 1) (ofD n 1) = txQ (n : Rat) := by
 rw [of_tx n (by decide)]
 congr 1
 show (n : Rat) / 1 = n
 rw [Rat.div_def, show (1 : Rat)⁻¹ = 1 from Rat.inv_eq_of_mul_eq_one (Rat.mul_one 1), Rat.mul_one]
theorem hgt_int {n : Int} (h : n.natAbs < 1000000000000000000000000000) : hgt (n : Rat) <= 3 := by
 refine hgt_le ?_ ?_
 · show (dig (n : Rat).num.natAbs).length <= 3
   exact dig_len_lt (by rw [Rat.num_intCast]; have : B ^ 3 = 1000000000000000000000000000 := rfl; omega)
 · show (dig 1).length <= 3
   rw [dig_1]; decide
end Go.Proofs.YtdpjdifoonfcdaaGreatDoor
