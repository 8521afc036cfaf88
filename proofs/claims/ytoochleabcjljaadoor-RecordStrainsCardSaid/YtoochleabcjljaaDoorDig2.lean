/- Digits: order, quotients. -/
import Derived.Test.YtoochleabcjljaaDoorDig
namespace Go.Proofs.YtoochleabcjljaaDoor

theorem val_split {l : List Nat} {j x : Nat} (hx : l[j]? = some x) : val l = val (l.take j) + B ^ j * (x + B * val (l.drop (j + 1))) := by
  have hj : j < l.length := (List.getElem?_eq_some_iff.1 hx).1
  have h1 : l = l.take j ++ (x :: l.drop (j + 1)) := by
    have := (List.take_append_drop j l).symm
    rw [List.drop_eq_getElem_cons hj, (List.getElem?_eq_some_iff.1 hx).2] at this
    exact this
  have h2 := congrArg val h1
  rw [val_append, val_cons, List.length_take, Nat.min_eq_left (by omega)] at h2
  exact h2

theorem cmp_digit {l1 l2 : List Nat} (h1 : Sm l1) {j x y : Nat} (hx : l1[j]? = some x) (hy : l2[j]? = some y) (hd : l1.drop (j + 1) = l2.drop (j + 1)) (hlt : x < y) : val l1 < val l2 := by
  rw [val_split hx, val_split hy, hd]
  have hj : j < l1.length := (List.getElem?_eq_some_iff.1 hx).1
  have h3 : val (l1.take j) < B ^ j := by
    have := val_lt (xs := l1.take j) (fun d hd => h1 d (List.mem_of_mem_take hd))
    rwa [List.length_take, Nat.min_eq_left (by omega)] at this
  have h4 : B ^ j * (x + 1 + B * val (l2.drop (j + 1))) ≤ B ^ j * (y + B * val (l2.drop (j + 1))) := Nat.mul_le_mul_left _ (by omega)
  have h5 : B ^ j * (x + 1 + B * val (l2.drop (j + 1))) = B ^ j * (x + B * val (l2.drop (j + 1))) + B ^ j := by
    rw [show x + 1 + B * val (l2.drop (j + 1)) = (x + B * val (l2.drop (j + 1))) + 1 from by omega, Nat.mul_add, Nat.mul_one]
  omega

/-- the order, as Go's compare says it -/
def cmpN (m n : Nat) : Int := if m < n then -1 else if n < m then 1 else 0
theorem cmpN_lt {m n : Nat} (h : m < n) : cmpN m n = -1 := by simp [cmpN, h]
theorem cmpN_gt {m n : Nat} (h : n < m) : cmpN m n = 1 := by simp [cmpN, h]; omega
theorem cmpN_eq (n : Nat) : cmpN n n = 0 := by simp [cmpN]

/-- a step of a division by one digit: r the rest of what lies above -/
theorem short_step {H d x : Nat} (hd : 0 < d) : ((H % d) * B + x) / d + B * (H / d) = (x + B * H) / d ∧ ((H % d) * B + x) % d = (x + B * H) % d := by
  have h : x + B * H = ((H % d) * B + x) + d * (B * (H / d)) := by
    have h1 : d * (H / d) + H % d = H := Nat.div_add_mod H d
    have h2 : B * H = B * (d * (H / d)) + B * (H % d) := by rw [← Nat.mul_add, h1]
    rw [h2, Nat.mul_comm (H % d) B, Nat.mul_left_comm d B]; omega
  rw [h, Nat.add_mul_div_left _ _ hd, Nat.add_mul_mod_self_left]
  exact ⟨rfl, rfl⟩

theorem short_dig {r d x : Nat} (hr : r < d) (hx : x < B) : (r * B + x) / d < B := by
  apply Nat.div_lt_of_lt_mul
  have : (r + 1) * B ≤ d * B := Nat.mul_le_mul_right _ hr
  rw [Nat.add_mul] at this; omega
theorem dig_len_val {l : List Nat} (h : Sm l) : (dig (val l)).length ≤ l.length := by
  have h1 := val_lt h
  apply Nat.le_of_not_lt
  intro hc
  have hne : val l ≠ 0 := by
    intro h0; rw [h0, dig_zero] at hc; simp at hc
  have h2 := pow_len_le hne
  have h3 : B ^ l.length ≤ B ^ ((dig (val l)).length - 1) := Nat.pow_le_pow_right B_pos (by omega)
  omega
end Go.Proofs.YtoochleabcjljaaDoor
