/- Parts of a proof, in build order: Z0, Z1, Z2, Z3, Z4, Z5, Z6, Z7, Z8, Z9. -/
import Derived.Test.YtdpjdifoonfcdaaGreatDoorKr4
import Derived.Lib.ItoaNum
import Derived.Lib.ItoaLen

namespace Go.Proofs.YtdpjdifoonfcdaaGreatDoor.Z4
def B : Nat := 10000
def val : List Nat -> Nat
 | [] => 0
 | d :: ds => d + B * val ds
def dig (n : Nat) : List Nat := if n = 0 then [] else n % B :: dig (n / B)
termination_by n
decreasing_by exact Nat.div_lt_self (Nat.pos_of_ne_zero ‹_›) (by decide)
theorem B_pos : 0 < B := by decide
theorem dig_zero : dig 0 = [] := by rw [dig]; simp
theorem dig_pos {n : Nat} (h : n ≠ 0) : dig n = n % B :: dig (n / B) := by rw [dig]; simp [h]
theorem val_dig (n : Nat) : val (dig n) = n := by
 induction n using Nat.strongRecOn with
 | _ n ih =>
   by_cases h : n = 0
   · subst h; simp [dig_zero, val]
   · rw [dig_pos h, val, ih _ (Nat.div_lt_self (Nat.pos_of_ne_zero h) (by decide))]
     exact Nat.mod_add_div n B
def Sm (xs : List Nat) : Prop := ∀ d ∈ xs, d < B
theorem sm_dig (n : Nat) : Sm (dig n) := by
 induction n using Nat.strongRecOn with
 | _ n ih =>
   by_cases h : n = 0
   · subst h; simp [dig_zero, Sm]
   · rw [dig_pos h]
     intro d hd
     rcases List.mem_cons.1 hd with rfl | hd
     · exact Nat.mod_lt _ B_pos
     · exact ih _ (Nat.div_lt_self (Nat.pos_of_ne_zero h) (by decide)) d hd
theorem val_nil : val [] = 0 := rfl
theorem val_cons (d : Nat) (ds : List Nat) : val (d :: ds) = d + B * val ds := rfl
theorem val_append (xs ys : List Nat) : val (xs ++ ys) = val xs + B ^ xs.length * val ys := by
 induction xs with
 | nil => simp [val]
 | cons d ds ih => simp only [List.cons_append, val_cons, ih, List.length_cons, Nat.pow_succ]; rw [Nat.mul_add, Nat.add_assoc, Nat.mul_comm (B ^ ds.length) B, Nat.mul_assoc]
theorem val_snoc (xs : List Nat) (d : Nat) : val (xs ++ [d]) = val xs + B ^ xs.length * d := by
 rw [val_append]; simp [val]
theorem val_lt {xs : List Nat} (h : Sm xs) : val xs < B ^ xs.length := by
 induction xs with
 | nil => simp [val]
 | cons d ds ih =>
   have h1 : d < B := h d (by simp)
   have h2 := ih (fun x hx => h x (by simp [hx]))
   simp only [val_cons, List.length_cons, Nat.pow_succ]
   have : B * (val ds + 1) <= B * B ^ ds.length := Nat.mul_le_mul_left _ h2
   rw [Nat.mul_add, Nat.mul_one] at this
   rw [Nat.mul_comm (B ^ ds.length) B]; omega
theorem val_eq_zero {xs : List Nat} : val xs = 0 ↔ ∀ d ∈ xs, d = 0 := by
 induction xs with
 | nil => simp [val]
 | cons d ds ih =>
   simp only [val_cons, List.mem_cons, forall_eq_or_imp, <- ih]
   constructor
   · intro h
     have h1 : d = 0 := by omega
     have h2 : B * val ds = 0 := by omega
     refine ⟨h1, ?_⟩
     rcases Nat.mul_eq_zero.1 h2 with h | h
     · exact absurd h (by decide)
     · exact h
   · rintro ⟨rfl, h⟩; simp [h]
theorem dig_val {xs : List Nat} (h : Sm xs) (hl : xs.getLast? ≠ some 0) : dig (val xs) = xs := by
 induction xs with
 | nil => simp [val, dig_zero]
 | cons d ds ih =>
   have h1 : d < B := h d (by simp)
   have hs : Sm ds := fun x hx => h x (by simp [hx])
   have hne : val (d :: ds) ≠ 0 := by
    intro h0
    have h0' := val_eq_zero.1 h0
    have : ((d :: ds).getLast (by simp)) = 0 := h0' _ (List.getLast_mem _)
    exact hl (by rw [List.getLast?_eq_some_getLast (by simp), this])
   rw [dig_pos hne, val_cons]
   have e1 : (d + B * val ds) % B = d := by rw [Nat.add_mul_mod_self_left, Nat.mod_eq_of_lt h1]
   have e2 : (d + B * val ds) / B = val ds := by rw [Nat.add_mul_div_left _ _ B_pos, Nat.div_eq_of_lt h1, Nat.zero_add]
   rw [e1, e2, ih hs]
   cases ds with
   | nil => simp
   | cons x xs => simpa [List.getLast?_cons_cons] using hl
theorem last_dig (n : Nat) : (dig n).getLast? ≠ some 0 := by
 induction n using Nat.strongRecOn with
 | _ n ih =>
   by_cases h : n = 0
   · subst h; simp [dig_zero]
   · rw [dig_pos h]
     have := ih (n / B) (Nat.div_lt_self (Nat.pos_of_ne_zero h) (by decide))
     by_cases h2 : n / B = 0
     · rw [h2, dig_zero]; simp
       have h3 : n < B := by
        rcases Nat.div_eq_zero_iff.1 h2 with h | h
        · exact absurd h (by decide)
        · exact h
       rw [Nat.mod_eq_of_lt h3]; exact h
     · rw [dig_pos h2] at this ⊢
       simpa [List.getLast?_cons_cons] using this
theorem dig_len_pos {n : Nat} : (dig n).length = 0 ↔ n = 0 := by
 by_cases h : n = 0
 · subst h; simp [dig_zero]
 · rw [dig_pos h]; simp [h]
theorem dig_small {n : Nat} (h : n < B) (h0 : n ≠ 0) : dig n = [n] := by
 rw [dig_pos h0, Nat.mod_eq_of_lt h, Nat.div_eq_of_lt h, dig_zero]
theorem lt_pow_len (n : Nat) : n < B ^ (dig n).length := by
 have := val_lt (sm_dig n); rwa [val_dig] at this
theorem pow_len_le {n : Nat} (h : n ≠ 0) : B ^ ((dig n).length - 1) <= n := by
 induction n using Nat.strongRecOn with
 | _ n ih =>
   rw [dig_pos h]
   by_cases h2 : n / B = 0
   · rw [h2, dig_zero]; simp; omega
   · have := ih _ (Nat.div_lt_self (Nat.pos_of_ne_zero h) (by decide)) h2
     have hl : (dig (n / B)).length ≠ 0 := by rw [Ne, dig_len_pos]; exact h2
     simp only [List.length_cons, Nat.add_sub_cancel]
     obtain ⟨k, hk⟩ : ∃ k, (dig (n / B)).length = k + 1 := ⟨(dig (n/B)).length - 1, by omega⟩
     rw [hk, Nat.add_sub_cancel] at this
     rw [hk, Nat.pow_succ]
     calc B ^ k * B <= n / B * B := Nat.mul_le_mul_right _ this
      _ <= n := Nat.div_mul_le_self n B
theorem lt_of_len {m n : Nat} (h : (dig m).length < (dig n).length) : m < n := by
 have hn : n ≠ 0 := by rintro rfl; simp [dig_zero] at h
 have h1 := lt_pow_len m
 have h2 := pow_len_le hn
 have h3 : B ^ (dig m).length <= B ^ ((dig n).length - 1) := Nat.pow_le_pow_right B_pos (by omega)
 omega
theorem dig_len_mono {m n : Nat} (h : m <= n) : (dig m).length <= (dig n).length := by
 apply Nat.le_of_not_lt
 intro hc
 have := lt_of_len hc
 omega
end Go.Proofs.YtdpjdifoonfcdaaGreatDoor.Z4

namespace Go.Proofs.YtdpjdifoonfcdaaGreatDoor.Z4
theorem val_split {l : List Nat} {j x : Nat} (hx : l[j]? = some x) : val l = val (l.take j) + B ^ j * (x + B * val (l.drop (j + 1))) := by
 have hj : j < l.length := (List.getElem?_eq_some_iff.1 hx).1
 have h1 : l = l.take j ++ (x :: l.drop (j + 1)) := by
  have := (List.take_append_drop j l).symm
  rw [List.drop_eq_getElem_cons hj, (List.getElem?_eq_some_iff.1 hx).2] at this
  exact this
 have h2 := congrArg val h1
 rw [val_append, val_cons, List.length_take, Nat.min_eq_left (by omega)] at h2
 exact h2
theorem cmp_digit {l1 l2 : List Nat} (h1 : Sm l1) {j x y : Nat} (hx : l1[j]? = some x) (hy : l2[j]? = some y) (hd : l1.drop (j + 1) = l2.drop (j + 1)) (hlt : x < y) : val l1 < val l2 := by
 rw [val_split hx, val_split hy, hd]
 have hj : j < l1.length := (List.getElem?_eq_some_iff.1 hx).1
 have h3 : val (l1.take j) < B ^ j := by
  have := val_lt (xs := l1.take j) (fun d hd => h1 d (List.mem_of_mem_take hd))
  rwa [List.length_take, Nat.min_eq_left (by omega)] at this
 have h4 : B ^ j * (x + 1 + B * val (l2.drop (j + 1))) <= B ^ j * (y + B * val (l2.drop (j + 1))) := Nat.mul_le_mul_left _ (by omega)
 have h5 : B ^ j * (x + 1 + B * val (l2.drop (j + 1))) = B ^ j * (x + B * val (l2.drop (j + 1))) + B ^ j := by
  rw [show x + 1 + B * val (l2.drop (j + 1)) = (x + B * val (l2.drop (j + 1))) + 1 from by omega, Nat.mul_add, Nat.mul_one]
 omega
def cmpN (m n : Nat) : Int := if m < n then -1 else if n < m then 1 else 0
theorem cmpN_lt {m n : Nat} (h : m < n) : cmpN m n = -1 := by simp [cmpN, h]
theorem cmpN_gt {m n : Nat} (h : n < m) : cmpN m n = 1 := by simp [cmpN, h]; omega
theorem cmpN_eq (n : Nat) : cmpN n n = 0 := by simp [cmpN]
theorem short_step {H d x : Nat} (hd : 0 < d) : ((H % d) * B + x) / d + B * (H / d) = (x + B * H) / d /\ ((H % d) * B + x) % d = (x + B * H) % d := by
 have h : x + B * H = ((H % d) * B + x) + d * (B * (H / d)) := by
  have h1 : d * (H / d) + H % d = H := Nat.div_add_mod H d
  have h2 : B * H = B * (d * (H / d)) + B * (H % d) := by rw [<- Nat.mul_add, h1]
  rw [h2, Nat.mul_comm (H % d) B, Nat.mul_left_comm d B]; omega
 rw [h, Nat.add_mul_div_left _ _ hd, Nat.add_mul_mod_self_left]
 exact ⟨rfl, rfl⟩
theorem short_dig {r d x : Nat} (hr : r < d) (hx : x < B) : (r * B + x) / d < B := by
 apply Nat.div_lt_of_lt_mul
 have : (r + 1) * B <= d * B := Nat.mul_le_mul_right _ hr
 rw [Nat.add_mul] at this; omega
theorem dig_len_val {l : List Nat} (h : Sm l) : (dig (val l)).length <= l.length := by
 have h1 := val_lt h
 apply Nat.le_of_not_lt
 intro hc
 have hne : val l ≠ 0 := by
  intro h0; rw [h0, dig_zero] at hc; simp at hc
 have h2 := pow_len_le hne
 have h3 : B ^ l.length <= B ^ ((dig (val l)).length - 1) := Nat.pow_le_pow_right B_pos (by omega)
 omega
end Go.Proofs.YtdpjdifoonfcdaaGreatDoor.Z4

namespace Go.Proofs.YtdpjdifoonfcdaaGreatDoor.Z4
open Go.RowKit
def zs (l : List Nat) : List Value := l.map fun d => Value.int .i64 (d : Nat)
theorem zs_length (l : List Nat) : (zs l).length = l.length := by simp [zs]
theorem zs_ne {l : List Nat} (h : 0 < l.length) : zs l ≠ [] := by
 intro h2; have := congrArg List.length h2; rw [zs_length, List.length_nil] at this; omega
theorem zs_get {l : List Nat} {i d : Nat} (hd : l[i]? = some d) : (zs l)[i]? = some (.int .i64 (d : Nat)) := by simp [zs, hd]
theorem zcell {w : World} {b off : Nat} {l : List Nat} (h : Cells w (some ⟨b, off, none⟩) (zs l)) {i d : Nat} (hd : l[i]? = some d) : w.cell? ⟨b, off + i, none⟩ = some (.int .i64 (d : Nat)) :=
 h.at (zs_get hd)
theorem sm_get {l : List Nat} (h : Sm l) {i d : Nat} (hd : l[i]? = some d) : d <= 9999 := by
 have := h d (List.mem_of_getElem? hd); simp only [B] at this; omega
theorem val_take_zero {l : List Nat} {k : Nat} (h0 : l[k]? = some 0) : val (l.take (k + 1)) = val (l.take k) := by
 rw [take_get h0, val_snoc]; simp
def ZV (w : World) (v : Value) (n : Int) : Prop := ∃ a c, v = .agg #[.bool (decide (n < 0)), .slice a (dig n.natAbs).length c] /\ Cells w a (zs (dig n.natAbs)) /\ (dig n.natAbs).length <= c /\ c <= 9223372036854775807
theorem ZV.below {w w' : World} {B : Nat} {v : Value} {n : Int} (h : ZV w v n) (hb : Below B w w') (hB : w.heap.size <= B) : ZV w' v n := by
 obtain ⟨a, c, h1, h2, h3⟩ := h
 exact ⟨a, c, h1, h2.below hb hB, h3⟩
def sg (s : Bool) (k : Nat) : Int := if s then -(k : Int) else (k : Int)
end Go.Proofs.YtdpjdifoonfcdaaGreatDoor.Z4

namespace Go.Proofs.YtdpjdifoonfcdaaGreatDoor.Z4
open Go.RowKit
theorem drop_of_len {l1 l2 : List Nat} (h : l1.length = l2.length) : l1.drop l1.length = l2.drop l1.length := by
 rw [List.drop_length, h, List.drop_length]
set_option maxRecDepth 100000 in
theorem compare_any (aa ab : Option Addr) (m n : Nat) (ca cb : Nat) (w : World) (ha : Cells w aa (zs (dig m))) (hb : Cells w ab (zs (dig n))) (hm : (dig m).length <= 4611686018427387904) (hn : (dig n).length <= 4611686018427387904) :
 Calls Tryz.prog 352 #[.slice aa (dig m).length ca, .slice ab (dig n).length cb] w fun e w' => e = .returned (.int .i64 (cmpN m n)) /\ Below w.heap.size w w' := by
 have HA := Lib.hid ha; clear ha
 have HB := Lib.hid hb; clear hb
 by_cases hlen : (dig m).length = (dig n).length
 · have h1 : (((dig m).length : Int) != (dig n).length) = false := by simp [hlen]
   have HL := Lib.hid hlen; clear hlen
   go_enter Tryz.func352, Tryz.ntmps352
   go_wp2
   go_loopw [5] (fun i wr => ∃ k : Nat, k <= (dig m).length /\ i = .int .i64 ((k : Int) - 1) /\ (dig m).drop k = (dig n).drop k /\ Below w.heap.size w wr) (fun i _ => (intOf i + 1).toNat)
   case atStart => exact ⟨(dig m).length, Nat.le_refl _, rfl, drop_of_len HL.out, Below.refl _ _⟩
   case round =>
    obtain ⟨k, hk, rfl, hd, hbe⟩ := hrel
    have HD := Lib.hid hd; clear hd
    by_cases h0 : k = 0
    · subst h0
      have he : cmpN m n = 0 := by
       have := HD.out
       simp only [List.drop_zero] at this
       have h2 := congrArg val this
       rw [val_dig, val_dig] at h2
       rw [h2, cmpN_eq]
      have HE := Lib.hid he; clear he
      go_wp2
      go_ret
      exact ⟨ret_int HE.out.symm, hbe⟩
    · obtain ⟨j, rfl⟩ : ∃ j, k = j + 1 := ⟨k - 1, by omega⟩
      have hj2 : j < (dig n).length := by have := HL.out; omega
      obtain ⟨x, hx⟩ := get_of_lt (show j < (dig m).length by omega)
      obtain ⟨y, hy⟩ := get_of_lt hj2
      obtain ⟨b, off, rfl⟩ := HA.out.addr (zs_ne (by omega))
      obtain ⟨b2, off2, rfl⟩ := HB.out.addr (zs_ne (by omega))
      have c1 := cell_keep (zcell HA.out hx) hbe (Nat.le_refl _)
      have c2 := cell_keep (zcell HB.out hy) hbe (Nat.le_refl _)
      have e1 : (((j + 1 : Nat) : Int) - 1) = (j : Int) := by omega
      rw [e1]
      have i1 : (j : Int) < (dig m).length := by omega
      have i2 : (j : Int) < (dig n).length := by omega
      have i3 : (0 : Int) <= j := by omega
      have HX := Lib.hid (sm_get (sm_dig m) hx)
      have HY := Lib.hid (sm_get (sm_dig n) hy)
      have hxy : x < y ∨ y < x ∨ x = y := by omega
      rcases hxy with hlt | hgt | heq
      · have he : cmpN m n = -1 := cmpN_lt (by have := cmp_digit (sm_dig m) hx hy HD.out hlt; rwa [val_dig, val_dig] at this)
        have HE := Lib.hid he; clear he hx hy e1
        have hne : ((x : Int) != y) = true := by simp; omega
        have hxb : x <= 9999 := HX.out
        have hyb : y <= 9999 := HY.out
        have hw : IntKind.i64.wrap ((x : Int) - y) = (x : Int) - y := IntWalk.i64_in _ (by omega)
        have hm : max (-1) (min 1 ((x : Int) - y)) = -1 := by omega
        go_wp2
        go_quiet (fail)
        go_wp2
        go_quiet (fail)
        go_wp2
        go_ret
        exact ⟨ret_int HE.out.symm, bel_drewN (bel_drewN hbe _) _⟩
      · have he : cmpN m n = 1 := cmpN_gt (by have := cmp_digit (sm_dig n) hy hx HD.out.symm hgt; rwa [val_dig, val_dig] at this)
        have HE := Lib.hid he; clear he hx hy e1
        have hne : ((x : Int) != y) = true := by simp; omega
        have hxb : x <= 9999 := HX.out
        have hyb : y <= 9999 := HY.out
        have hw : IntKind.i64.wrap ((x : Int) - y) = (x : Int) - y := IntWalk.i64_in _ (by omega)
        have hm : max (-1) (min 1 ((x : Int) - y)) = 1 := by omega
        go_wp2
        go_quiet (fail)
        go_wp2
        go_quiet (fail)
        go_wp2
        go_ret
        exact ⟨ret_int HE.out.symm, bel_drewN (bel_drewN hbe _) _⟩
      · subst heq
        have he : (dig m).drop j = (dig n).drop j := by
         rw [List.drop_eq_getElem_cons (show j < (dig m).length by omega), List.drop_eq_getElem_cons hj2, HD.out, (List.getElem?_eq_some_iff.1 hx).2, (List.getElem?_eq_some_iff.1 hy).2]
        have HE := Lib.hid he; clear he hx hy e1
        have hne : ((x : Int) != x) = false := by simp
        go_wp2
        go_quiet (fail)
        go_wp2
        go_roundw
        case rel => exact ⟨j, by omega, by go_num, HE.out, bel_drewN hbe _⟩
        case measure => simp [intOf]
 · rcases Nat.lt_or_gt_of_ne hlen with hlt | hgt
   · have he : cmpN m n = -1 := cmpN_lt (lt_of_len hlt)
     have HE := Lib.hid he; clear he
     have h1 : (((dig m).length : Int) != (dig n).length) = true := by simp; omega
     have hw : IntKind.i64.wrap (((dig m).length : Int) - (dig n).length) = ((dig m).length : Int) - (dig n).length := IntWalk.i64_in _ (by omega)
     have hmx : max (-1) (min 1 (((dig m).length : Int) - (dig n).length)) = -1 := by omega
     go_enter Tryz.func352, Tryz.ntmps352
     go_wp2
     go_ret
     exact ⟨ret_int HE.out.symm, Below.refl _ _⟩
   · have he : cmpN m n = 1 := cmpN_gt (lt_of_len hgt)
     have HE := Lib.hid he; clear he
     have h1 : (((dig m).length : Int) != (dig n).length) = true := by simp; omega
     have hw : IntKind.i64.wrap (((dig m).length : Int) - (dig n).length) = ((dig m).length : Int) - (dig n).length := IntWalk.i64_in _ (by omega)
     have hmx : max (-1) (min 1 (((dig m).length : Int) - (dig n).length)) = 1 := by omega
     go_enter Tryz.func352, Tryz.ntmps352
     go_wp2
     go_ret
     exact ⟨ret_int HE.out.symm, Below.refl _ _⟩
end Go.Proofs.YtdpjdifoonfcdaaGreatDoor.Z4

namespace Go.Proofs.YtdpjdifoonfcdaaGreatDoor.Z4
open Go.RowKit
def MV (w : World) (v : Value) (n : Nat) : Prop := ∃ a c, v = .slice a (dig n).length c /\ Cells w a (zs (dig n)) /\ (dig n).length <= c /\ c <= 9223372036854775807
theorem MV.below {w w' : World} {B : Nat} {v : Value} {n : Nat} (h : MV w v n) (hb : Below B w w') (hB : w.heap.size <= B) : MV w' v n := by
 obtain ⟨a, c, h1, h2, h3⟩ := h
 exact ⟨a, c, h1, h2.below hb hB, h3⟩
def RV (w : World) (v : Value) (n : Nat) : Prop := (∃ ad c, v = .slice (some ad) (dig n).length c /\ Cells w (some ad) (zs (dig n)) /\ (dig n).length <= c /\ c <= 9223372036854775807) ∨ (v = .slice none 0 0 /\ n = 0)
theorem RV.below {w w' : World} {B : Nat} {v : Value} {n : Nat} (h : RV w v n) (hb : Below B w w') (hB : w.heap.size <= B) : RV w' v n := by
 rcases h with ⟨ad, c, h1, h2, h3⟩ | h
 · exact .inl ⟨ad, c, h1, h2.below hb hB, h3⟩
 · exact .inr h
theorem val_take_succ (l : List Nat) (i : Nat) : val (l.take (i + 1)) = val (l.take i) + B ^ i * l.getD i 0 := by
 rcases Nat.lt_or_ge i l.length with h | h
 · obtain ⟨x, hx⟩ := get_of_lt h
   rw [take_get hx, val_snoc, List.length_take, Nat.min_eq_left (by omega)]
   simp [List.getD, hx]
 · rw [List.take_of_length_le (by omega), List.take_of_length_le h]
   simp [List.getD, List.getElem?_eq_none h]
end Go.Proofs.YtdpjdifoonfcdaaGreatDoor.Z4

namespace Go.Proofs.YtdpjdifoonfcdaaGreatDoor.Z4
open Go.RowKit
theorem val_zeros (n : Nat) : val (List.replicate n 0) = 0 := by
 rw [val_eq_zero]; intro d hd; exact (List.mem_replicate.1 hd).2
theorem sm_zeros (n : Nat) : Sm (List.replicate n 0) := by intro d hd; rw [(List.mem_replicate.1 hd).2]; exact B_pos
theorem zs_set (l : List Nat) (j d : Nat) : (zs l).set j (.int .i64 (d : Nat)) = zs (l.set j d) := by
 unfold zs; rw [List.map_set]
theorem boxes3 {w w1 : World} {A1 A2 A3 : Array Value} {T1 T2 T3 : TypeId} {B : Nat} (hb : Below B (((w.alloc (.cells A1 T1)).alloc (.cells A2 T2)).alloc (.cells A3 T3)) w1) (hB : w.heap.size + 2 < B) :
 (∀ i, w1.cell? ⟨w.heap.size, i, none⟩ = A1[i]?) /\ (∀ i, w1.cell? ⟨w.heap.size + 1, i, none⟩ = A2[i]?) /\ (∀ i, w1.cell? ⟨w.heap.size + 2, i, none⟩ = A3[i]?) /\ (∀ i, w1.frozen? ⟨w.heap.size + 2, i, none⟩ = false) := by
 refine ⟨fun i => ?_, fun i => ?_, fun i => ?_, fun i => ?_⟩
 · rw [hb.cell (p := ⟨w.heap.size, i, none⟩) (show w.heap.size < B by omega), World.cell?_alloc_old _ _ _ (by simp; omega), World.cell?_alloc_old _ _ _ (by simp)]; simp
 · rw [hb.cell (p := ⟨w.heap.size + 1, i, none⟩) (show w.heap.size + 1 < B by omega)]
   have := box_keep (w := w.alloc (.cells A1 T1)) (B := w.heap.size + 3) (Below.refl _ ((((w.alloc (.cells A1 T1)).alloc (.cells A2 T2)))) ) (by simp) i
   rw [World.cell?_alloc_old _ _ _ (by simp)]
   rw [World.size_alloc] at this
   exact this
 · have := box_keep (w := (w.alloc (.cells A1 T1)).alloc (.cells A2 T2)) hb (by simp; omega) i
   simpa using this
 · have := box_free (w := (w.alloc (.cells A1 T1)).alloc (.cells A2 T2)) hb (by simp; omega) i
   simpa using this
theorem dig_take : ∀ (n : Nat) (l : List Nat), l.length = n -> Sm l -> dig (val l) = l.take (dig (val l)).length := by
 intro n
 induction n with
 | zero => intro l hl _; rw [List.length_eq_zero_iff.1 hl]; simp [val, dig_zero]
 | succ n ih =>
   intro l hl hs
   by_cases h : l.getLast? = some 0
   · obtain ⟨l', rfl⟩ : ∃ l', l = l' ++ [0] := by
      rcases List.eq_nil_or_concat l with rfl | ⟨l', b, rfl⟩
      · simp at hl
      · simp at h; exact ⟨l', by simp [h]⟩
     have hs' : Sm l' := fun d hd => hs d (by simp [hd])
     have hv : val (l' ++ [0]) = val l' := by rw [val_snoc]; simp
     have h1 := ih l' (by simpa using hl) hs'
     have h2 := dig_len_val hs'
     rw [hv, List.take_append_of_le_length h2]; exact h1
   · rw [dig_val hs h, List.take_length]
theorem mul_dig {x y : Nat} (hx : x <= 9999) (hy : y <= 9999) : x * y <= 99980001 := Nat.mul_le_mul hx hy
theorem MV.cases {w : World} {v : Value} {n : Nat} (h : MV w v n) : ∃ a c, v = .slice a (dig n).length c := by
 obtain ⟨a, c, h1, _⟩ := h; exact ⟨a, c, h1⟩
end Go.Proofs.YtdpjdifoonfcdaaGreatDoor.Z4

namespace Go.Proofs.YtdpjdifoonfcdaaGreatDoor.Z4
open Go.RowKit
theorem dig_len_lt {n k : Nat} (h : n < B ^ k) : (dig n).length <= k := by
 rcases Nat.lt_or_ge k (dig n).length with h1 | h1
 · exfalso
   have hn : n ≠ 0 := by rintro rfl; rw [dig_zero] at h1; simp at h1
   have h2 := pow_len_le hn
   have h3 : B ^ k <= B ^ ((dig n).length - 1) := Nat.pow_le_pow_right B_pos (by omega)
   omega
 · exact h1
end Go.Proofs.YtdpjdifoonfcdaaGreatDoor.Z4

namespace Go.Proofs.YtdpjdifoonfcdaaGreatDoor.Z4
open Go.RowKit
theorem set_zeros (k q : Nat) (qs : List Nat) : (zs (List.replicate (k + 1) 0 ++ qs)).set k (.int .i64 (q : Nat)) = zs (List.replicate k 0 ++ (q :: qs)) := by
 rw [zs_set]
 congr 1
 rw [List.replicate_succ', List.append_assoc, List.set_append_right _ _ (by simp)]
 simp
end Go.Proofs.YtdpjdifoonfcdaaGreatDoor.Z4

namespace Go.Proofs.YtdpjdifoonfcdaaGreatDoor.Z4
open Go.RowKit
theorem ZV.of {w : World} {vd : Value} {n : Int} (h : MV w vd n.natAbs) : ZV w (.agg #[.bool (decide (n < 0)), vd]) n := by
 obtain ⟨a, c, h1, h2, h3⟩ := h
 exact ⟨a, c, by rw [h1], h2, h3⟩
end Go.Proofs.YtdpjdifoonfcdaaGreatDoor.Z4

namespace Go.Proofs.YtdpjdifoonfcdaaGreatDoor.Z4
open Go.RowKit
def QV (w : World) (v : Value) (s : Bool) (n d : Nat) : Prop := ∃ vn vd, v = .agg #[.bool s, vn, .bool false, vd] /\ MV w vn n /\ MV w vd d
theorem QV.below {w w' : World} {B : Nat} {v : Value} {s : Bool} {n d : Nat} (h : QV w v s n d) (hb : Below B w w') (hB : w.heap.size <= B) : QV w' v s n d := by
 obtain ⟨a, c, h1, h2, h3⟩ := h
 exact ⟨a, c, h1, h2.below hb hB, h3.below hb hB⟩
end Go.Proofs.YtdpjdifoonfcdaaGreatDoor.Z4
