/- Codes: bits in bytes. -/
import Derived.Test.YtoochleabcjljaaDoorE3
import Derived.Laws.BitsLemmas
namespace Go.Proofs.YtoochleabcjljaaDoor
open Go.RowKit

/-- one bit more behind n bits -/
def pushBit (l : List Nat) (n b : Nat) : List Nat := if n % 8 = 0 then l ++ [b * 128] else l.set (l.length - 1) (l.getD (l.length - 1) 0 + b * 2 ^ (7 - n % 8))
def octsP (l : List Nat) : List Nat × Nat := l.foldl (fun p b => (pushBit p.1 p.2 b, p.2 + 1)) ([], 0)
/-- bits as bytes, with bits 0 behind them -/
def octs (l : List Nat) : List Nat := (octsP l).1
theorem octsP_snd (l : List Nat) : (octsP l).2 = l.length := by
  suffices ∀ (p : List Nat × Nat), (l.foldl (fun p b => (pushBit p.1 p.2 b, p.2 + 1)) p).2 = p.2 + l.length by
    have := this ([], 0); simpa [octsP] using this
  induction l with
  | nil => intro p; simp
  | cons b l ih => intro p; rw [List.foldl_cons, ih]; simp; omega
theorem octs_snoc (l : List Nat) (b : Nat) : octs (l ++ [b]) = pushBit (octs l) l.length b := by
  have h := octsP_snd l
  unfold octs octsP at *
  rw [List.foldl_append, List.foldl_cons, List.foldl_nil, h]
theorem octs_nil : octs [] = [] := rfl

/-- the free bits of the last byte -/
def freeOf (n : Nat) : Nat := (8 - n % 8) % 8
theorem octs_len (l : List Nat) : (octs l).length = (l.length + 7) / 8 := by
  suffices ∀ n (l : List Nat), l.length = n → (octs l).length = (n + 7) / 8 from this _ l rfl
  intro n
  induction n with
  | zero => intro l hl; rw [List.length_eq_zero_iff.1 hl]; rfl
  | succ n ih =>
    intro l hl
    obtain ⟨l', b, rfl⟩ : ∃ l' b, l = l' ++ [b] := by
      rcases List.eq_nil_or_concat l with rfl | ⟨l', b, rfl⟩
      · simp at hl
      · exact ⟨l', b, by simp⟩
    simp at hl
    have h := ih l' hl
    rw [octs_snoc, pushBit, hl]
    split
    · rw [List.length_append, h]; simp; omega
    · rw [List.length_set, h]; omega

/-- the bytes are bytes; the free bits of the last one are 0 -/
theorem octs_ok (l : List Nat) (hl : ∀ b ∈ l, b ≤ 1) : (∀ d ∈ octs l, d < 256) ∧ (l.length % 8 ≠ 0 → (octs l).getD ((octs l).length - 1) 0 % 2 ^ (8 - l.length % 8) = 0) := by
  suffices ∀ n (l : List Nat), l.length = n → (∀ b ∈ l, b ≤ 1) → (∀ d ∈ octs l, d < 256) ∧ (n % 8 ≠ 0 → (octs l).getD ((octs l).length - 1) 0 % 2 ^ (8 - n % 8) = 0) from this _ l rfl hl
  intro n
  induction n with
  | zero => intro l hl _; rw [List.length_eq_zero_iff.1 hl, octs_nil]; simp
  | succ n ih =>
    intro l hl hb
    obtain ⟨l', b, rfl⟩ : ∃ l' b, l = l' ++ [b] := by
      rcases List.eq_nil_or_concat l with rfl | ⟨l', b, rfl⟩
      · simp at hl
      · exact ⟨l', b, by simp⟩
    simp at hl
    obtain ⟨h1, h2⟩ := ih l' hl (fun x hx => hb x (by simp [hx]))
    have hb1 : b ≤ 1 := hb b (by simp)
    have hlen := octs_len l'
    rw [hl] at hlen
    rw [octs_snoc, pushBit, hl]
    by_cases h0 : n % 8 = 0
    · rw [if_pos h0]
      refine ⟨?_, fun _ => ?_⟩
      · intro d hd
        rcases List.mem_append.1 hd with h | h
        · exact h1 d h
        · simp at h; subst h; omega
      · have e1 : (n + 1) % 8 = 1 := by omega
        rw [e1, List.length_append, List.length_singleton, Nat.add_sub_cancel, List.getD_eq_getElem?_getD, List.getElem?_append_right (Nat.le_refl _), Nat.sub_self]
        simp
    · rw [if_neg h0]
      have hpos : 0 < (octs l').length := by omega
      have hx := h2 h0
      obtain ⟨x, hxx⟩ := get_of_lt (show (octs l').length - 1 < (octs l').length by omega)
      have hgx : (octs l').getD ((octs l').length - 1) 0 = x := by rw [List.getD_eq_getElem?_getD, hxx]; rfl
      have hx256 := h1 x (List.mem_of_getElem? hxx)
      rw [hgx] at hx ⊢
      have hm : n % 8 < 8 := Nat.mod_lt _ (by decide)
      have key : ∀ r : Fin 8, r.val ≠ 0 → ∀ y : Fin 256, y.val % 2 ^ (8 - r.val) = 0 → ∀ c : Fin 2, y.val + c.val * 2 ^ (7 - r.val) < 256 ∧ (y.val + c.val * 2 ^ (7 - r.val)) % 2 ^ (7 - r.val) = 0 := by decide +kernel
      have hk := key ⟨n % 8, hm⟩ h0 ⟨x, hx256⟩ hx ⟨b, by omega⟩
      simp only at hk
      refine ⟨?_, fun hne => ?_⟩
      · intro d hd
        rcases List.mem_or_eq_of_mem_set hd with h | h
        · exact h1 d h
        · rw [h]; exact hk.1
      · rw [List.length_set, List.getD_eq_getElem?_getD, List.getElem?_set_self (by omega)]
        have e1 : 8 - (n + 1) % 8 = 7 - n % 8 := by omega
        rw [e1]; simpa using hk.2

theorem i64_wrap_nat (n : Int) (h0 : 0 ≤ n) (h1 : n < 2 ^ 63) : IntKind.i64.wrap n = n := IntWalk.i64_in n ⟨by omega, by omega⟩
theorem bit_and {x : Int} (h0 : 0 ≤ x) (h1 : x ≤ 4294967295) : bits BinOp.and IntKind.i64 x 1 = x % 2 := by
  obtain ⟨n, rfl⟩ := Int.eq_ofNat_of_zero_le h0
  have h := (bits_nat .i64 63 (by decide) i64_wrap_nat n 1 (by omega) (by decide)).1
  rw [show ((1 : Nat) : Int) = 1 from rfl] at h
  rw [h, Nat.and_one_is_mod]; simp
theorem u8_wrap_nat (n : Int) (h0 : 0 ≤ n) (h1 : n < 2 ^ 8) : IntKind.u8.wrap n = n := IntWalk.u8_in n ⟨by omega, by omega⟩
theorem or_add (x f b : Nat) (hx : x < 256) (hf : f ≤ 7) (hb : b ≤ 1) (h0 : x % 2 ^ (f + 1) = 0) : bits BinOp.or IntKind.u8 (x : Int) ((b * 2 ^ f : Nat) : Int) = ((x + b * 2 ^ f : Nat) : Int) := by
  have key : ∀ f : Fin 8, ∀ x : Fin 256, x.val % 2 ^ (f.val + 1) = 0 → ∀ c : Fin 2, c.val * 2 ^ f.val < 256 ∧ (x.val ||| c.val * 2 ^ f.val) = x.val + c.val * 2 ^ f.val := by decide +kernel
  have hk := key ⟨f, by omega⟩ ⟨x, hx⟩ h0 ⟨b, by omega⟩
  simp only at hk
  have h := (bits_nat .u8 8 (by decide) u8_wrap_nat x (b * 2 ^ f) (by omega) (by omega)).2
  rw [h, hk.2]
end Go.Proofs.YtoochleabcjljaaDoor
