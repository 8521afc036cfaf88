/- Codes: whole bytes; the code of a frame in plain words. -/
import Derived.Test.YtoochleabcjljaaDoorE8
namespace Go.Proofs.YtoochleabcjljaaDoor
open Go.RowKit

theorem octs_append (a : List Nat) (h : a.length % 8 = 0) (b : List Nat) : octs (a ++ b) = octs a ++ octs b := by
  suffices ∀ r : List Nat, octs (a ++ r.reverse) = octs a ++ octs r.reverse by simpa using this b.reverse
  intro r
  induction r with
  | nil => simp [octs_nil]
  | cons x r ih =>
    rw [List.reverse_cons, ← List.append_assoc, octs_snoc, octs_snoc, ih, List.length_append]
    generalize r.reverse = q
    have hl := octs_len q
    unfold pushBit
    by_cases h0 : q.length % 8 = 0
    · rw [if_pos (by omega), if_pos h0, List.append_assoc]
    · rw [if_neg (by omega), if_neg h0]
      have hp : 0 < (octs q).length := by omega
      have hm : (a.length + q.length) % 8 = q.length % 8 := by omega
      rw [hm, List.length_append, List.set_append_right _ _ (by omega), List.getD_eq_getElem?_getD, List.getD_eq_getElem?_getD, List.getElem?_append_right (by omega)]
      rw [show (octs a).length + (octs q).length - 1 - (octs a).length = (octs q).length - 1 by omega]

theorem octs_byte : ∀ b : Fin 256, octs (binL (b.val : Int) 8) = [b.val] := by decide +kernel
/-- the bits of bytes -/
def unB (l : List Nat) : List Nat := l.flatMap fun (b : Nat) => binL (b : Int) 8
theorem unB_length (l : List Nat) : (unB l).length = 8 * l.length := by
  induction l with
  | nil => rfl
  | cons b l ih => rw [unB, List.flatMap_cons, List.length_append, binL_length, List.length_cons]; rw [unB] at ih; omega
theorem unB_bits (l : List Nat) : ∀ b ∈ unB l, b ≤ 1 := by
  intro b hb
  obtain ⟨x, _, hx⟩ := List.mem_flatMap.1 hb
  exact binL_bits _ _ b hx
theorem octs_unB (l : List Nat) (hl : ∀ d ∈ l, d < 256) : octs (unB l) = l := by
  induction l with
  | nil => rfl
  | cons b l ih =>
    rw [unB, List.flatMap_cons, octs_append _ (by rw [binL_length]), octs_byte ⟨b, hl b (by simp)⟩]
    have := ih fun d hd => hl d (by simp [hd])
    rw [unB] at this
    rw [this]; rfl

/-- the way of a channel's samples, their bits; the bits of a frame; its code -/
def wayOf (x : List Int) : Nat × Nat := (bestF x (wvs 124)).1
def encC (x : List Int) : List Nat := encL (wayOf x).1 (wayOf x).2 (resid x (wayOf x).1)
def frBits (st : Int) (xss : List (List Int)) : List Nat := binL st 32 ++ xss.flatMap encC
def hdB (body : List Nat) : List Nat := [165, 90] ++ octs (binL (body.length : Nat) 16) ++ body
def encB (st : Int) (xss : List (List Int)) : List Nat := hdB (octs (frBits st xss)) ++ octs (binL (chkL (hdB (octs (frBits st xss))) : Nat) 24)

theorem way_bd (x : Way) : x.1.1 ≤ 3 ∧ x.1.2 ≤ 30 := by have := x.2; omega
theorem bestF_bd (xs : List Int) (pre : List Way) : (bestF xs pre).1.1 ≤ 3 ∧ (bestF xs pre).1.2 ≤ 30 := by
  suffices ∀ b : (Nat × Nat) × Nat, b.1.1 ≤ 3 ∧ b.1.2 ≤ 30 → (pre.foldl (stepB xs) b).1.1 ≤ 3 ∧ (pre.foldl (stepB xs) b).1.2 ≤ 30 from this _ ⟨by simp, by simp⟩
  induction pre with
  | nil => intro b h; exact h
  | cons x l ih =>
    intro b h
    rw [List.foldl_cons]
    refine ih _ ?_
    unfold stepB
    split
    · exact way_bd x
    · exact h
theorem wayOf_bd (x : List Int) : (wayOf x).1 ≤ 3 ∧ (wayOf x).2 ≤ 30 := by
  have h := bestF_bd x (wvs 124)
  unfold wayOf
  generalize wvs 124 = q at *
  exact h
theorem encC_length (x : List Int) : (encC x).length ≤ 7 + 52 * x.length := cost_le x _ _ (wayOf_bd x).2
theorem encU_bits (u : Int) (sh : Nat) : ∀ b ∈ encU u sh, b ≤ 1 := by
  intro b hb
  unfold encU at hb
  split at hb
  · rcases List.mem_append.1 hb with h | h <;> exact binL_bits _ _ b h
  · rcases List.mem_append.1 hb with h | h <;> exact binL_bits _ _ b h
theorem flat_encC (xss : List (List Int)) (n : Nat) (h : ∀ xs ∈ xss, xs.length ≤ n) : (xss.flatMap encC).length ≤ (7 + 52 * n) * xss.length := by
  induction xss with
  | nil => simp
  | cons x l ih =>
    have h1 := ih fun y hy => h y (by simp [hy])
    have h2 := encC_length x
    have h3 := h x (by simp)
    rw [List.flatMap_cons, List.length_append, List.length_cons, Nat.mul_succ]
    omega
end Go.Proofs.YtoochleabcjljaaDoor
