/- Parts of a proof, in build order: E4, E5, E6, E7, E8, E9, C0, C1. -/
import Derived.Test.YtmafjfhnejeogaaGreatDoorKi7
import Derived.Laws.BitsLemmas
import Derived.RangeFuncNested
import Derived.RangeFuncBound
import Derived.RangeFuncCalls
import Derived.RangeFuncLeaves
import Derived.Shelf.Abstract
import Derived.Shelf.RegionOpen
import Derived.WalkKit
import Derived.OwnWalkIn
import Derived.TacticsInMore
import Derived.LoopNIn
import Derived.LoopIn

/- Codes: bits in bytes. -/
namespace Go.Proofs.YtmafjfhnejeogaaGreatDoor
open Go.RowKit

/-- one bit more behind n bits -/
def pushBit (l : List Nat) (n b : Nat) : List Nat := if n % 8 = 0 then l ++ [b * 128] else l.set (l.length - 1) (l.getD (l.length - 1) 0 + b * 2 ^ (7 - n % 8))
def octsP (l : List Nat) : List Nat × Nat := l.foldl (fun p b => (pushBit p.1 p.2 b, p.2 + 1)) ([], 0)
/-- bits as bytes, with bits 0 behind them -/
def octs (l : List Nat) : List Nat := (octsP l).1
theorem octsP_snd (l : List Nat) : (octsP l).2 = l.length := by
  suffices ∀ (p : List Nat × Nat), (l.foldl (fun p b => (pushBit p.1 p.2 b, p.2 + 1)) p).2 = p.2 + l.length by
    have := this ([], 0); simpa [octsP] using this
  induction l with
  | nil => intro p; simp
  | cons b l ih => intro p; rw [List.foldl_cons, ih]; simp; omega
theorem octs_snoc (l : List Nat) (b : Nat) : octs (l ++ [b]) = pushBit (octs l) l.length b := by
  have h := octsP_snd l
  unfold octs octsP at *
  rw [List.foldl_append, List.foldl_cons, List.foldl_nil, h]
theorem octs_nil : octs [] = [] := rfl

/-- the free bits of the last byte -/
def freeOf (n : Nat) : Nat := (8 - n % 8) % 8
theorem octs_len (l : List Nat) : (octs l).length = (l.length + 7) / 8 := by
  suffices ∀ n (l : List Nat), l.length = n → (octs l).length = (n + 7) / 8 from this _ l rfl
  intro n
  induction n with
  | zero => intro l hl; rw [List.length_eq_zero_iff.1 hl]; rfl
  | succ n ih =>
    intro l hl
    obtain ⟨l', b, rfl⟩ : ∃ l' b, l = l' ++ [b] := by
      rcases List.eq_nil_or_concat l with rfl | ⟨l', b, rfl⟩
      · simp at hl
      · exact ⟨l', b, by simp⟩
    simp at hl
    have h := ih l' hl
    rw [octs_snoc, pushBit, hl]
    split
    · rw [List.length_append, h]; simp; omega
    · rw [List.length_set, h]; omega

/-- the bytes are bytes; the free bits of the last one are 0 -/
theorem octs_ok (l : List Nat) (hl : ∀ b ∈ l, b ≤ 1) : (∀ d ∈ octs l, d < 256) ∧ (l.length % 8 ≠ 0 → (octs l).getD ((octs l).length - 1) 0 % 2 ^ (8 - l.length % 8) = 0) := by
  suffices ∀ n (l : List Nat), l.length = n → (∀ b ∈ l, b ≤ 1) → (∀ d ∈ octs l, d < 256) ∧ (n % 8 ≠ 0 → (octs l).getD ((octs l).length - 1) 0 % 2 ^ (8 - n % 8) = 0) from this _ l rfl hl
  intro n
  induction n with
  | zero => intro l hl _; rw [List.length_eq_zero_iff.1 hl, octs_nil]; simp
  | succ n ih =>
    intro l hl hb
    obtain ⟨l', b, rfl⟩ : ∃ l' b, l = l' ++ [b] := by
      rcases List.eq_nil_or_concat l with rfl | ⟨l', b, rfl⟩
      · simp at hl
      · exact ⟨l', b, by simp⟩
    simp at hl
    obtain ⟨h1, h2⟩ := ih l' hl (fun x hx => hb x (by simp [hx]))
    have hb1 : b ≤ 1 := hb b (by simp)
    have hlen := octs_len l'
    rw [hl] at hlen
    rw [octs_snoc, pushBit, hl]
    by_cases h0 : n % 8 = 0
    · rw [if_pos h0]
      refine ⟨?_, fun _ => ?_⟩
      · intro d hd
        rcases List.mem_append.1 hd with h | h
        · exact h1 d h
        · simp at h; subst h; omega
      · have e1 : (n + 1) % 8 = 1 := by omega
        rw [e1, List.length_append, List.length_singleton, Nat.add_sub_cancel, List.getD_eq_getElem?_getD, List.getElem?_append_right (Nat.le_refl _), Nat.sub_self]
        simp
    · rw [if_neg h0]
      have hpos : 0 < (octs l').length := by omega
      have hx := h2 h0
      obtain ⟨x, hxx⟩ := get_of_lt (show (octs l').length - 1 < (octs l').length by omega)
      have hgx : (octs l').getD ((octs l').length - 1) 0 = x := by rw [List.getD_eq_getElem?_getD, hxx]; rfl
      have hx256 := h1 x (List.mem_of_getElem? hxx)
      rw [hgx] at hx ⊢
      have hm : n % 8 < 8 := Nat.mod_lt _ (by decide)
      have key : ∀ r : Fin 8, r.val ≠ 0 → ∀ y : Fin 256, y.val % 2 ^ (8 - r.val) = 0 → ∀ c : Fin 2, y.val + c.val * 2 ^ (7 - r.val) < 256 ∧ (y.val + c.val * 2 ^ (7 - r.val)) % 2 ^ (7 - r.val) = 0 := by decide +kernel
      have hk := key ⟨n % 8, hm⟩ h0 ⟨x, hx256⟩ hx ⟨b, by omega⟩
      simp only at hk
      refine ⟨?_, fun hne => ?_⟩
      · intro d hd
        rcases List.mem_or_eq_of_mem_set hd with h | h
        · exact h1 d h
        · rw [h]; exact hk.1
      · rw [List.length_set, List.getD_eq_getElem?_getD, List.getElem?_set_self (by omega)]
        have e1 : 8 - (n + 1) % 8 = 7 - n % 8 := by omega
        rw [e1]; simpa using hk.2

theorem i64_wrap_nat (n : Int) (h0 : 0 ≤ n) (h1 : n < 2 ^ 63) : IntKind.i64.wrap n = n := IntWalk.i64_in n ⟨by omega, by omega⟩
theorem bit_and {x : Int} (h0 : 0 ≤ x) (h1 : x ≤ 4294967295) : bits BinOp.and IntKind.i64 x 1 = x % 2 := by
  obtain ⟨n, rfl⟩ := Int.eq_ofNat_of_zero_le h0
  have h := (bits_nat .i64 63 (by decide) i64_wrap_nat n 1 (by omega) (by decide)).1
  rw [show ((1 : Nat) : Int) = 1 from rfl] at h
  rw [h, Nat.and_one_is_mod]; simp
theorem u8_wrap_nat (n : Int) (h0 : 0 ≤ n) (h1 : n < 2 ^ 8) : IntKind.u8.wrap n = n := IntWalk.u8_in n ⟨by omega, by omega⟩
theorem or_add (x f b : Nat) (hx : x < 256) (hf : f ≤ 7) (hb : b ≤ 1) (h0 : x % 2 ^ (f + 1) = 0) : bits BinOp.or IntKind.u8 (x : Int) ((b * 2 ^ f : Nat) : Int) = ((x + b * 2 ^ f : Nat) : Int) := by
  have key : ∀ f : Fin 8, ∀ x : Fin 256, x.val % 2 ^ (f.val + 1) = 0 → ∀ c : Fin 2, c.val * 2 ^ f.val < 256 ∧ (x.val ||| c.val * 2 ^ f.val) = x.val + c.val * 2 ^ f.val := by decide +kernel
  have hk := key ⟨f, by omega⟩ ⟨x, hx⟩ h0 ⟨b, by omega⟩
  simp only at hk
  have h := (bits_nat .u8 8 (by decide) u8_wrap_nat x (b * 2 ^ f) (by omega) (by omega)).2
  rw [h, hk.2]
end Go.Proofs.YtmafjfhnejeogaaGreatDoor

/- Codes: the writer is a sink. -/
namespace Go.Proofs.YtmafjfhnejeogaaGreatDoor
open Go.RowKit

theorem binL_get (n : Int) : ∀ (k j : Nat), j < k → (binL n k)[k - 1 - j]? = some (n / 2 ^ j % 2).toNat := by
  intro k
  induction k with
  | zero => intro j hj; omega
  | succ k ih =>
    intro j hj
    by_cases h : j = k
    · subst h; simp [binL]
    · have e : k + 1 - 1 - j = (k - 1 - j) + 1 := by omega
      rw [e, binL, List.getElem?_cons_succ]; exact ih j (by omega)
theorem binL_bits (n : Int) (k : Nat) : ∀ b ∈ binL n k, b ≤ 1 := by
  induction k with
  | zero => intro b hb; simp [binL] at hb
  | succ k ih =>
    intro b hb
    rcases List.mem_cons.1 hb with rfl | hb
    · omega
    · exact ih b hb

/-- a writer at block bW that has written bs -/
def WrS (B bW : Nat) (S : Nat → Prop) (w : World) (bs : List Nat) : Prop :=
  B ≤ bW ∧ (∀ b ∈ bs, b ≤ 1) ∧ ∃ v, w.heap[bW]? = some (.cells #[v, .int .i64 (freeOf bs.length : Nat)] 231 (0, 0)) ∧ w.ownsRow B 5 1 v (octs bs).length (bys (octs bs)) ∧ v.ownBlock ≠ some bW ∧ ∀ k, S k → k < w.heap.size ∧ k ≠ bW ∧ v.ownBlock ≠ some k

theorem grown_set (w : World) (p : Addr) (u : Value) : w.grownBy (w.setCell p u) (some p.block) :=
  ⟨rfl, rfl, rfl, by simp [World.setCell], fun k _ hk => Below.heap_setCell _ _ _ _ (fun e => hk (by rw [e]))⟩
theorem own_set_other {w : World} {B : Nat} {e : TypeId} {s : Nat} {v : Value} {n : Nat} {xs : List Value} (h : w.ownsRow B e s v n xs) {p : Addr} {u : Value} (hp : v.ownBlock ≠ some p.block) : (w.setCell p u).ownsRow B e s v n xs :=
  h.kept (grown_set w p u) (.inr hp)
theorem heap_set0 {w : World} {b : Nat} {a c u : Value} {T : TypeId} (h : w.heap[b]? = some (.cells #[a, c] T (0, 0))) : (w.setCell ⟨b, 0, none⟩ u).heap[b]? = some (.cells #[u, c] T (0, 0)) := by
  rw [heap_setCell_same w b 0 _ _ u h]; rfl
theorem heap_set1 {w : World} {b : Nat} {a c u : Value} {T : TypeId} (h : w.heap[b]? = some (.cells #[a, c] T (0, 0))) : (w.setCell ⟨b, 1, none⟩ u).heap[b]? = some (.cells #[a, u] T (0, 0)) := by
  rw [heap_setCell_same w b 1 _ _ u h]; rfl
theorem KeepS.set {S : Nat → Prop} {B : Nat} {a w : World} (h : KeepS S B a w) {p : Addr} {u : Value} (hB : B ≤ p.block) (hS : ∀ k, S k → k ≠ p.block) : KeepS S B a (w.setCell p u) :=
  h.trans ⟨(Below.refl _ _).setCell hB _, fun k hk => Below.heap_setCell _ _ _ _ (hS k hk)⟩

theorem WrS.size {B bW : Nat} {S : Nat → Prop} {w : World} {bs : List Nat} (h : WrS B bW S w bs) : B ≤ w.heap.size := by
  obtain ⟨h1, _, v, h2, _⟩ := h
  have := heap_lt h2; omega

set_option maxRecDepth 100000 in
set_option maxHeartbeats 2000000 in
theorem writer_put (B bW : Nat) (S : Nat → Prop) (bs : List Nat) (n : Int) (k : Nat) (w : World) (h : WrS B bW S w bs) (hn0 : 0 ≤ n) (hn1 : n ≤ 4294967295) (hk : k ≤ 32) (hbs : bs.length ≤ 1099511627776) :
    Calls Tryz.prog 176 #[.pointer (some ⟨bW, 0, none⟩), .int .i64 n, .int .i64 (k : Nat)] w fun e w' => e = .returned (.tuple #[]) ∧ WrS B bW S w' (bs ++ binL n k) ∧ KeepS S B w w' := by
  have H := Lib.hid h; clear h
  obtain ⟨i0, hi, hz0, hz1, hz2⟩ := info_parts Tryz.infoByte
  go_enter Tryz.func176, Tryz.ntmps176
  go_wp2
  go_loopw [6] (fun i wr => ∃ j : Nat, j ≤ k ∧ i = .int .i64 ((j : Int) - 1) ∧ WrS B bW S wr (bs ++ (binL n k).take (k - j)) ∧ KeepS S B w wr) (fun i _ => (intOf i + 1).toNat)
  case atStart => exact ⟨k, Nat.le_refl _, rfl, by simpa using H.out, KeepS.refl _ _ _⟩
  case round =>
    obtain ⟨j, hj, rfl, hw, hks⟩ := hrel
    by_cases h0 : j = 0
    · subst h0
      rw [Nat.sub_zero, List.take_of_length_le (by rw [binL_length]; omega)] at hw
      have HW := Lib.hid hw; clear hw
      go_wp2
      go_end0
      exact ⟨rfl, HW.out, hks⟩
    · obtain ⟨q, rfl⟩ : ∃ q, j = q + 1 := ⟨j - 1, by omega⟩
      have e1 : (((q + 1 : Nat) : Int) - 1) = (q : Int) := by omega
      rw [e1]
      have hget := binL_get n k q (by omega)
      have hnext : bs ++ (binL n k).take (k - q) = (bs ++ (binL n k).take (k - (q + 1))) ++ [(n / 2 ^ q % 2).toNat] := by
        rw [show k - q = (k - (q + 1)) + 1 from by omega, take_get (show (binL n k)[k - (q + 1)]? = _ from by rw [show k - (q + 1) = k - 1 - q from by omega]; exact hget), List.append_assoc]
      have hlenc : (bs ++ (binL n k).take (k - (q + 1))).length ≤ 1099511627776 + 32 := by
        rw [List.length_append, List.length_take, binL_length]; omega
      have HNX := Lib.hid hnext
      clear hnext hget e1
      generalize bs ++ (binL n k).take (k - (q + 1)) = cs at *
      obtain ⟨b, hbdef⟩ : ∃ b, b = (n / 2 ^ q % 2).toNat := ⟨_, rfl⟩
      rw [← hbdef] at HNX
      have hb1 : b ≤ 1 := by omega
      have hx0 : 0 ≤ n / 2 ^ q := Int.ediv_nonneg hn0 (Int.le_of_lt (Int.pow_pos (by decide)))
      have hx1 : n / 2 ^ q ≤ 4294967295 := by have := Int.ediv_le_self (2 ^ q) hn0; omega
      have hand : bits BinOp.and IntKind.i64 (n / 2 ^ q) 1 = (b : Int) := by rw [bit_and hx0 hx1, hbdef]; omega
      have hcv : IntKind.u8.wrap (b : Int) = (b : Int) := IntWalk.u8_in _ (by omega)
      have hmq : min q 64 = q := by omega
      clear hbdef
      obtain ⟨hB, hbits, v, hbk, hown, hne, hS⟩ := hw
      have hok := octs_ok cs hbits
      have hol := octs_len cs
      have hol2 : (octs cs).length ≤ 137438953480 := by omega
      have HOL := Lib.hid hol; clear hol
      obtain ⟨g, cg, hv⟩ : ∃ g cg, v = .slice g (octs cs).length cg := by
        obtain ⟨a, c, h, _⟩ := own_cells hown; exact ⟨a, c, h⟩
      have c0 : wr.cell? ⟨bW, 0, none⟩ = some v := by rw [Lib.cell_of_heap hbk]; rfl
      have c1 : wr.cell? ⟨bW, 1, none⟩ = some (.int .i64 (freeOf cs.length : Nat)) := by rw [Lib.cell_of_heap hbk]; rfl
      have f0 : wr.frozen? ⟨bW, 0, none⟩ = false := Lib.frozen_of_heap hbk 0
      have f1 : wr.frozen? ⟨bW, 1, none⟩ = false := Lib.frozen_of_heap hbk 1
      by_cases hm : cs.length % 8 = 0
      · have hfr : freeOf cs.length = 0 := by unfold freeOf; omega
        rw [hfr] at c1 hbk
        subst hv
        have hnx2 : octs (cs ++ [b]) = octs cs ++ [b * 128] := by rw [octs_snoc, pushBit, if_pos hm]
        have hfr2 : freeOf (cs ++ [b]).length = 7 := by unfold freeOf; rw [List.length_append, List.length_singleton]; omega
        have hsz := hks.below.size
        have hszB : B ≤ wr.heap.size := by have := heap_lt hbk; omega
        have HNX2 := Lib.hid hnx2; have HFR2 := Lib.hid hfr2; have HO := Lib.hid hown; have HS := Lib.hid hS; have HBK := Lib.hid hbk; have HNE := Lib.hid hne; have HB2 := Lib.hid hbits
        clear hnx2 hfr2 hS hbk hok hbits hfr
        go_wp2_with (at_builtin; refine wpList_append_lies _ rfl _ _ _ rfl B 5 i0 (.int .u8 0) 1 1 Tryz.underlying81 hi hz0 hz1 hz2 rfl (by decide) _ _ _ rfl (hown.alloc _) ⟨wr.heap.size, 0, none⟩ 1 1 [.int .u8 0] rfl rfl (news1 _ _ _) (by simp [Value.oneCell']) (by omega) (by unfold maxLen; omega) (by omega) (by simp; omega) (wr.heap.size + 1) (by simp) ?_)
        intro g1 cg1 w1 hown1 hgrow hat hlt1
        have hbW : bW < wr.heap.size := heap_lt HBK.out
        have hbk1 : w1.heap[bW]? = some (.cells #[.slice g (octs cs).length cg, .int .i64 0] 231 (0, 0)) := by
          rw [hgrow.block bW (by simp; omega) (fun e => HNE.out e.symm), Below.heap_alloc _ _ _ hbW]; exact HBK.out
        have hg1 : g1 ≠ bW := by
          rintro rfl
          rcases hown1.2 with ⟨h, _⟩ | ⟨g2, cg2, cur, h, _, hh, _⟩
          · simp at h
          · simp at h; obtain ⟨rfl, rfl⟩ := h; rw [hbk1] at hh; simp at hh
        have d0 : w1.cell? ⟨bW, 0, none⟩ = some (.slice g (octs cs).length cg) := by rw [Lib.cell_of_heap hbk1]; rfl
        have d1 : w1.cell? ⟨bW, 1, none⟩ = some (.int .i64 0) := by rw [Lib.cell_of_heap hbk1]; rfl
        have e0 : w1.frozen? ⟨bW, 0, none⟩ = false := Lib.frozen_of_heap hbk1 0
        have e1 : w1.frozen? ⟨bW, 1, none⟩ = false := Lib.frozen_of_heap hbk1 1
        have HAT := Lib.hid hat; clear hat hlt1
        have HO1 := Lib.hid hown1; have HG := Lib.hid hgrow; have HK1 := Lib.hid hbk1
        clear hown1 hgrow hbk1 hown c0 c1 f0 f1
        go_wp2
        have hbB : B ≤ bW := hB
        have hz1 := heap_set1 (u := .int .i64 7) (heap_set1 (u := .int .i64 8) (heap_set0 (u := .slice (some ⟨g1, 0, none⟩) ((octs cs).length + 1) cg1) HK1.out))
        have hz2 := own_set_other (p := ⟨bW, 1, none⟩) (u := .int .i64 7) (own_set_other (p := ⟨bW, 1, none⟩) (u := .int .i64 8) (own_set_other (p := ⟨bW, 0, none⟩) (u := .slice (some ⟨g1, 0, none⟩) ((octs cs).length + 1) cg1) HO1.out (by simpa [Value.ownBlock] using hg1)) (by simpa [Value.ownBlock] using hg1)) (by simpa [Value.ownBlock] using hg1)
        have hks1 : KeepS S B w w1 := hks.trans ⟨((Below.refl _ _).alloc hszB _).grown HG.out (by simp; omega) (fun j e => (HO.out.lt j e).1), fun j hj => by
          have := HS.out j hj
          rw [HG.out.block j (by simp; omega) (fun e => this.2.2 e.symm), Below.heap_alloc _ _ _ this.1]⟩
        have hz4 := ((hks1.set (p := ⟨bW, 0, none⟩) (u := .slice (some ⟨g1, 0, none⟩) ((octs cs).length + 1) cg1) hbB (fun k hk => (HS.out k hk).2.1)).set (p := ⟨bW, 1, none⟩) (u := .int .i64 8) hbB (fun k hk => (HS.out k hk).2.1)).set (p := ⟨bW, 1, none⟩) (u := .int .i64 7) hbB (fun k hk => (HS.out k hk).2.1)
        have hz3 : ∀ k, S k → k < (((w1.setCell ⟨bW, 0, none⟩ (.slice (some ⟨g1, 0, none⟩) ((octs cs).length + 1) cg1)).setCell ⟨bW, 1, none⟩ (.int .i64 8)).setCell ⟨bW, 1, none⟩ (.int .i64 7)).heap.size ∧ k ≠ bW ∧ g1 ≠ k := by
          intro j hj
          obtain ⟨s1, s2, s3⟩ := HS.out j hj
          refine ⟨by have := HG.out.size; simp at this ⊢; omega, s2, ?_⟩
          rintro rfl
          rcases HAT.out with h | h
          · exact s3 h
          · omega
        generalize (((w1.setCell ⟨bW, 0, none⟩ (.slice (some ⟨g1, 0, none⟩) ((octs cs).length + 1) cg1)).setCell ⟨bW, 1, none⟩ (.int .i64 8)).setCell ⟨bW, 1, none⟩ (.int .i64 7)) = wz at *
        obtain ⟨ds, hdsd⟩ : ∃ ds, ds = octs cs ++ [0] := ⟨_, rfl⟩
        obtain ⟨N, hN⟩ : ∃ N, N = (octs cs).length + 1 := ⟨_, rfl⟩
        obtain ⟨f, hf⟩ : ∃ f, f = 7 := ⟨_, rfl⟩
        have hNd : N = ds.length := by rw [hdsd, hN]; simp
        have hN1 : 1 ≤ N := by omega
        have hN2 : N ≤ 137438953481 := by omega
        have hf7 : f ≤ 7 := by omega
        have hds : ∀ d ∈ ds, d < 256 := by
          rw [hdsd]; intro d hd
          rcases List.mem_append.1 hd with h | h
          · exact (octs_ok cs HB2.out).1 d h
          · simp at h; omega
        have hdm : ds.getD (N - 1) 0 % 2 ^ (f + 1) = 0 := by
          rw [hdsd, hN, Nat.add_sub_cancel, List.getD_eq_getElem?_getD, List.getElem?_append_right (Nat.le_refl _), Nat.sub_self]; simp
        have hfin : ∀ {x}, ds[N - 1]? = some x → octs (cs ++ [b]) = ds.set (N - 1) (x + b * 2 ^ f) := by
          intro x hx
          rw [hdsd, hN, Nat.add_sub_cancel] at hx ⊢
          rw [List.getElem?_append_right (Nat.le_refl _), Nat.sub_self] at hx
          simp at hx; subst hx
          rw [HNX2.out, List.set_append_right _ _ (Nat.le_refl _), Nat.sub_self, hf]; simp
        have hfrf : freeOf (cs ++ [b]).length = f := by rw [HFR2.out, hf]
        have e7 : (7 : Int) = (f : Nat) := by omega
        rw [e7] at hz1
        rw [← hN] at hz1 hz2
        have hz2' : wz.ownsRow B 5 1 (.slice (some ⟨g1, 0, none⟩) N cg1) N (bys ds) := by rw [hdsd, bys_append]; exact hz2
        clear hz2
        have hz2 := hz2'
        rw [e7, ← hN]
        clear hz2' e7 hdsd hN hf d0 d1 e0 e1
        obtain ⟨x, hx⟩ := get_of_lt (show N - 1 < ds.length by omega)
        have hx256 := hds x (List.mem_of_getElem? hx)
        have hxm : x % 2 ^ (f + 1) = 0 := by
          have := hdm
          rw [List.getD_eq_getElem?_getD, hx] at this; exact this
        have ho := or_add x f b hx256 hf7 hb1 hxm
        have d0 : wz.cell? ⟨bW, 0, none⟩ = some (.slice (some ⟨g1, 0, none⟩) N cg1) := by rw [Lib.cell_of_heap hz1]; rfl
        have d1 : wz.cell? ⟨bW, 1, none⟩ = some (.int .i64 (f : Nat)) := by rw [Lib.cell_of_heap hz1]; rfl
        have d2 : wz.cell? ⟨g1, N - 1, none⟩ = some (.int .u8 (x : Nat)) := by rw [hz2.cellAt (N - 1) (by omega)]; exact bys_get hx
        have e2 := hz2.frozenAt (N - 1)
        have hsto := (hz2.stored (N - 1) (.int .u8 ((x + b * 2 ^ f : Nat) : Int))).1
        rw [show (bys ds).set (N - 1) (.int .u8 ((x + b * 2 ^ f : Nat) : Int)) = bys (ds.set (N - 1) (x + b * 2 ^ f)) from by rw [bys, bys, List.map_set]] at hsto
        have hgB : B ≤ g1 := (hz2.lt g1 rfl).1
        have hbk2 : (wz.setCell ⟨g1, N - 1, none⟩ (.int .u8 ((x + b * 2 ^ f : Nat) : Int))).heap[bW]? = some (.cells #[.slice (some ⟨g1, 0, none⟩) N cg1, .int .i64 (f : Nat)] 231 (0, 0)) := by
          rw [Below.heap_setCell _ _ _ _ (fun e => hg1 e.symm)]; exact hz1
        have hksz := hz4.set (p := ⟨g1, N - 1, none⟩) (u := .int .u8 ((x + b * 2 ^ f : Nat) : Int)) hgB (fun k hk e => (hz3 k hk).2.2 e.symm)
        have hfinal : WrS B bW S (wz.setCell ⟨g1, N - 1, none⟩ (.int .u8 ((x + b * 2 ^ f : Nat) : Int))) (cs ++ [b]) := by
          refine ⟨hB, ?_, .slice (some ⟨g1, 0, none⟩) N cg1, by rw [hfrf]; exact hbk2, ?_, by simpa [Value.ownBlock] using hg1, fun k hk => ?_⟩
          · intro y hy
            rcases List.mem_append.1 hy with h | h
            · exact HB2.out y h
            · simp at h; omega
          · rw [hfin hx, List.length_set, ← hNd]; exact hsto
          · have := hz3 k hk; exact ⟨by simpa [World.setCell] using this.1, this.2.1, by simpa [Value.ownBlock] using this.2.2⟩
        have HF := Lib.hid hfinal; have HKS := Lib.hid hksz
        have HOR : Hid (bits BinOp.or IntKind.u8 (x : Int) ((b : Int) * 2 ^ f) = ((x + b * 2 ^ f : Nat) : Int)) := by
          show _ = _
          rw [show (b : Int) * 2 ^ f = ((b * 2 ^ f : Nat) : Int) from by simp]; exact ho
        have t1 : IntKind.i64.wrap ((N : Int) - 1) = (N : Int) - 1 := IntWalk.i64_in _ (by omega)
        have t2 : ((N : Int) - 1).toNat = N - 1 := by omega
        have t3 : (0 : Int) ≤ (N : Int) - 1 := by omega
        have t4 : (N : Int) - 1 < (N : Int) := by omega
        have t7 : (1 : Int) ≤ (N : Int) := by omega
        have t8 : (0 : Int) < (N : Int) := by omega
        have t5 : min f 8 = f := by omega
        have t6 : IntKind.u8.wrap ((b : Int) * 2 ^ f) = ((b * 2 ^ f : Nat) : Int) := by
          have h9 : b * 2 ^ f ≤ 1 * 2 ^ f := Nat.mul_le_mul_right _ hb1
          have h10 : 2 ^ f ≤ 2 ^ 7 := Nat.pow_le_pow_right (by decide) hf7
          rw [show (b : Int) * 2 ^ f = ((b * 2 ^ f : Nat) : Int) from by simp]
          exact IntWalk.u8_in _ (by omega)
        clear hx hxm hsto hz1 hz2 hz3 hz4 hbk2 hfinal hksz hds hdm hfin hNd hks
        go_still_tail 24, (by kernel_rfl)
        change wpList _ _ _ _ _ wz.drew
        have d2d : wz.drew.cell? ⟨g1, N - 1, none⟩ = some (.int .u8 (x : Nat)) := d2
        have e2d : wz.drew.frozen? ⟨g1, N - 1, none⟩ = false := e2
        have HFd : Hid (WrS B bW S (wz.drew.setCell ⟨g1, N - 1, none⟩ (.int .u8 ((x + b * 2 ^ f : Nat) : Int))) (cs ++ [b])) := HF.out
        have HKSd : Hid (KeepS S B w (wz.drew.setCell ⟨g1, N - 1, none⟩ (.int .u8 ((x + b * 2 ^ f : Nat) : Int)))) := ⟨⟨HKS.out.below.os, HKS.out.below.tape, HKS.out.below.output, HKS.out.below.size, HKS.out.below.block⟩, HKS.out.same⟩
        clear t1 t2 t3 t4 t5 t6 t7 t8 d0 d1 d2 e2 HF HKS ho
        generalize wz.drew = wd at *
        go_wp2
        go_roundw
        case rel => exact ⟨q, by omega, by go_num, by rw [HNX.out, HOR.out]; exact HFd.out, by rw [HOR.out]; exact HKSd.out⟩
        case measure => simp [intOf]
      · have hfr : freeOf cs.length = 8 - cs.length % 8 := by unfold freeOf; omega
        have hmlt : cs.length % 8 < 8 := Nat.mod_lt _ (by decide)
        obtain ⟨f, hf⟩ : ∃ f, f = 7 - cs.length % 8 := ⟨_, rfl⟩
        have hfr1 : freeOf cs.length = f + 1 := by omega
        rw [hfr1] at c1 hbk
        have hne1 : (((f + 1 : Nat) : Int) == 0) = false := by rw [beq_eq_false_iff_ne]; omega
        have hf7 : f ≤ 7 := by omega
        obtain ⟨g1, cg1, hv1⟩ : ∃ g1 cg1, v = .slice (some ⟨g1, 0, none⟩) (octs cs).length cg1 := by
          rcases hown.2 with ⟨_, h⟩ | ⟨g1, cg1, _, h, _⟩
          · have := HOL.out; omega
          · exact ⟨g1, cg1, h⟩
        clear hv
        subst hv1
        have hg1 : g1 ≠ bW := by simpa [Value.ownBlock] using hne
        have hbB : B ≤ bW := hB
        have HS := Lib.hid hS
        have e8 : (((f + 1 : Nat) : Int) - 1) = (f : Int) := by omega
        have e9 : ((f : Int) + 1 - 1) = (f : Int) := by omega
        have hnat : ((f + 1 : Nat) : Int) = (f : Int) + 1 := by omega
        rw [hnat] at c1 hbk hne1
        have hz1 := heap_set1 (u := .int .i64 (f : Nat)) hbk
        have hz2 := own_set_other (p := ⟨bW, 1, none⟩) (u := .int .i64 (f : Nat)) hown (by simpa [Value.ownBlock] using hg1)
        have hz4 := hks.set (p := ⟨bW, 1, none⟩) (u := .int .i64 (f : Nat)) hbB (fun k hk => (hS k hk).2.1)
        have hz3 : ∀ k, S k → k < (wr.setCell ⟨bW, 1, none⟩ (.int .i64 (f : Nat))).heap.size ∧ k ≠ bW ∧ g1 ≠ k := by
          intro j hj
          obtain ⟨s1, s2, s3⟩ := hS j hj
          exact ⟨by simpa [World.setCell] using s1, s2, by simpa [Value.ownBlock] using s3⟩
        have hdm0 := hok.2 hm
        have HB2 := Lib.hid hbits; have HOK := Lib.hid hok.1
        have HZ1 := Lib.hid hz1; have HZ2 := Lib.hid hz2; have HZ3 := Lib.hid hz3; have HZ4 := Lib.hid hz4; have HDM := Lib.hid hdm0
        clear hS hbk hok hbits hz1 hz2 hz3 hz4 hdm0 hown e8 e9 hnat hne hfr hfr1
        have HFF := Lib.hid hf; clear hf
        go_wp2
        have hz1 := HZ1.out
        have hz2 := HZ2.out
        have hz3 := HZ3.out
        have hz4 := HZ4.out
        clear HZ1 HZ2 HZ3 HZ4 c0 c1 f0 f1
        generalize wr.setCell ⟨bW, 1, none⟩ (.int .i64 (f : Nat)) = wz at *
        obtain ⟨ds, hdsd⟩ : ∃ ds, ds = octs cs := ⟨_, rfl⟩
        obtain ⟨N, hN⟩ : ∃ N, N = (octs cs).length := ⟨_, rfl⟩
        have hNd : N = ds.length := by rw [hdsd, hN]
        have hN1 : 1 ≤ N := by have := HOL.out; omega
        have hN2 : N ≤ 137438953481 := by omega
        have hds : ∀ d ∈ ds, d < 256 := by rw [hdsd]; exact HOK.out
        have hdm : ds.getD (N - 1) 0 % 2 ^ (f + 1) = 0 := by
          rw [hdsd, hN, show f + 1 = 8 - cs.length % 8 from by have := HFF.out; omega]; exact HDM.out
        have hfin : ∀ {x}, ds[N - 1]? = some x → octs (cs ++ [b]) = ds.set (N - 1) (x + b * 2 ^ f) := by
          intro x hx
          rw [hdsd, hN] at hx ⊢
          rw [octs_snoc, pushBit, if_neg hm, HFF.out, List.getD_eq_getElem?_getD, hx]; rfl
        have hfrf : freeOf (cs ++ [b]).length = f := by unfold freeOf; rw [List.length_append, List.length_singleton, HFF.out]; omega
        rw [← hN] at hz1 hz2
        rw [← hdsd] at hz2
        clear hdsd hN
        obtain ⟨x, hx⟩ := get_of_lt (show N - 1 < ds.length by omega)
        have hx256 := hds x (List.mem_of_getElem? hx)
        have hxm : x % 2 ^ (f + 1) = 0 := by
          have := hdm
          rw [List.getD_eq_getElem?_getD, hx] at this; exact this
        have ho := or_add x f b hx256 hf7 hb1 hxm
        have d0 : wz.cell? ⟨bW, 0, none⟩ = some (.slice (some ⟨g1, 0, none⟩) N cg1) := by rw [Lib.cell_of_heap hz1]; rfl
        have d1 : wz.cell? ⟨bW, 1, none⟩ = some (.int .i64 (f : Nat)) := by rw [Lib.cell_of_heap hz1]; rfl
        have d2 : wz.cell? ⟨g1, N - 1, none⟩ = some (.int .u8 (x : Nat)) := by rw [hz2.cellAt (N - 1) (by omega)]; exact bys_get hx
        have e2 := hz2.frozenAt (N - 1)
        have hsto := (hz2.stored (N - 1) (.int .u8 ((x + b * 2 ^ f : Nat) : Int))).1
        rw [show (bys ds).set (N - 1) (.int .u8 ((x + b * 2 ^ f : Nat) : Int)) = bys (ds.set (N - 1) (x + b * 2 ^ f)) from by rw [bys, bys, List.map_set]] at hsto
        have hgB : B ≤ g1 := (hz2.lt g1 rfl).1
        have hbk2 : (wz.setCell ⟨g1, N - 1, none⟩ (.int .u8 ((x + b * 2 ^ f : Nat) : Int))).heap[bW]? = some (.cells #[.slice (some ⟨g1, 0, none⟩) N cg1, .int .i64 (f : Nat)] 231 (0, 0)) := by
          rw [Below.heap_setCell _ _ _ _ (fun e => hg1 e.symm)]; exact hz1
        have hksz := hz4.set (p := ⟨g1, N - 1, none⟩) (u := .int .u8 ((x + b * 2 ^ f : Nat) : Int)) hgB (fun k hk e => (hz3 k hk).2.2 e.symm)
        have hfinal : WrS B bW S (wz.setCell ⟨g1, N - 1, none⟩ (.int .u8 ((x + b * 2 ^ f : Nat) : Int))) (cs ++ [b]) := by
          refine ⟨hB, ?_, .slice (some ⟨g1, 0, none⟩) N cg1, by rw [hfrf]; exact hbk2, ?_, by simpa [Value.ownBlock] using hg1, fun k hk => ?_⟩
          · intro y hy
            rcases List.mem_append.1 hy with h | h
            · exact HB2.out y h
            · simp at h; omega
          · rw [hfin hx, List.length_set, ← hNd]; exact hsto
          · have := hz3 k hk; exact ⟨by simpa [World.setCell] using this.1, this.2.1, by simpa [Value.ownBlock] using this.2.2⟩
        have HF := Lib.hid hfinal; have HKS := Lib.hid hksz
        have HOR : Hid (bits BinOp.or IntKind.u8 (x : Int) ((b : Int) * 2 ^ f) = ((x + b * 2 ^ f : Nat) : Int)) := by
          show _ = _
          rw [show (b : Int) * 2 ^ f = ((b * 2 ^ f : Nat) : Int) from by simp]; exact ho
        have t1 : IntKind.i64.wrap ((N : Int) - 1) = (N : Int) - 1 := IntWalk.i64_in _ (by omega)
        have t2 : ((N : Int) - 1).toNat = N - 1 := by omega
        have t3 : (0 : Int) ≤ (N : Int) - 1 := by omega
        have t4 : (N : Int) - 1 < (N : Int) := by omega
        have t7 : (1 : Int) ≤ (N : Int) := by omega
        have t8 : (0 : Int) < (N : Int) := by omega
        have t5 : min f 8 = f := by omega
        have t6 : IntKind.u8.wrap ((b : Int) * 2 ^ f) = ((b * 2 ^ f : Nat) : Int) := by
          have h9 : b * 2 ^ f ≤ 1 * 2 ^ f := Nat.mul_le_mul_right _ hb1
          have h10 : 2 ^ f ≤ 2 ^ 7 := Nat.pow_le_pow_right (by decide) hf7
          rw [show (b : Int) * 2 ^ f = ((b * 2 ^ f : Nat) : Int) from by simp]
          exact IntWalk.u8_in _ (by omega)
        clear hx hxm hsto hz1 hz2 hz3 hz4 hbk2 hfinal hksz hds hdm hfin hNd hks
        go_still_tail 24, (by kernel_rfl)
        change wpList _ _ _ _ _ wz.drew
        have d2d : wz.drew.cell? ⟨g1, N - 1, none⟩ = some (.int .u8 (x : Nat)) := d2
        have e2d : wz.drew.frozen? ⟨g1, N - 1, none⟩ = false := e2
        have HFd : Hid (WrS B bW S (wz.drew.setCell ⟨g1, N - 1, none⟩ (.int .u8 ((x + b * 2 ^ f : Nat) : Int))) (cs ++ [b])) := HF.out
        have HKSd : Hid (KeepS S B w (wz.drew.setCell ⟨g1, N - 1, none⟩ (.int .u8 ((x + b * 2 ^ f : Nat) : Int)))) := ⟨⟨HKS.out.below.os, HKS.out.below.tape, HKS.out.below.output, HKS.out.below.size, HKS.out.below.block⟩, HKS.out.same⟩
        clear t1 t2 t3 t4 t5 t6 t7 t8 d0 d1 d2 e2 HF HKS ho
        generalize wz.drew = wd at *
        go_wp2
        go_roundw
        case rel => exact ⟨q, by omega, by go_num, by rw [HNX.out, HOR.out]; exact HFd.out, by rw [HOR.out]; exact HKSd.out⟩
        case measure => simp [intOf]
end Go.Proofs.YtmafjfhnejeogaaGreatDoor

/- Codes: the writer is a sink. -/
namespace Go.Proofs.YtmafjfhnejeogaaGreatDoor
open Go.RowKit

theorem writer_ok (B bW : Nat) : SinkOK 229 (.pointer (some ⟨bW, 0, none⟩)) 176 B (WrS B bW) where
  alloc := by
    rintro S w bs o ⟨h1, h2, v, h3, h4, h5, h6⟩
    have hl := heap_lt h3
    refine ⟨h1, h2, v, by rw [Below.heap_alloc _ _ _ hl]; exact h3, h4.alloc _, h5, fun k hk => ?_⟩
    rcases hk with hk | rfl
    · have := h6 k hk; exact ⟨by simp; omega, this.2⟩
    · exact ⟨by simp, by omega, fun e => by have := (h4.lt _ e).2; omega⟩
  drew := fun S w bs h => h
  mono := fun S S' w bs hs h => by
    obtain ⟨h1, h2, v, h3, h4, h5, h6⟩ := h
    exact ⟨h1, h2, v, h3, h4, h5, fun k hk => h6 k (hs k hk)⟩
  size := fun S w bs h => h.size
  lt := fun S w bs k h hk => by
    obtain ⟨h1, h2, v, h3, h4, h5, h6⟩ := h
    exact (h6 k hk).1
  put := fun S w bs n k h hn0 hn1 hk hl => writer_put B bW S bs n k w h hn0 hn1 hk hl
  meth := fun w d => by kernel_rfl
  ahead := fun w d => by kernel_rfl
  enter := fun vs w => by kernel_rfl
end Go.Proofs.YtmafjfhnejeogaaGreatDoor

/- Codes: the ways, by an iterator. -/
namespace Go.Proofs.YtmafjfhnejeogaaGreatDoor
open Go.RowKit Go.Shelf
attribute [local go_sem] Oper.semAt_some

/-- a way: an order and a shift -/
abbrev Way := { p : Nat × Nat // p.1 < 4 ∧ p.2 < 31 }
def wy (k : Nat) : Way := ⟨(k / 31 % 4, k % 31), Nat.mod_lt _ (by decide), Nat.mod_lt _ (by decide)⟩
def wvs (k : Nat) : List Way := (List.range k).map wy
theorem wvs_succ (k : Nat) : wvs (k + 1) = wvs k ++ [wy k] := by simp [wvs, List.range_succ]
theorem wvs_length (k : Nat) : (wvs k).length = k := by simp [wvs]
theorem wvs_prefix {k m : Nat} (h : k ≤ m) : wvs k <+: wvs m := by
  obtain ⟨d, rfl⟩ : ∃ d, m = k + d := ⟨m - k, by omega⟩
  induction d with
  | zero => exact List.prefix_refl _
  | succ d ih => exact (ih (by omega)).trans (by rw [← Nat.add_assoc, wvs_succ]; exact List.prefix_append _ _)
def wayV (x : Way) : Value := .agg #[.int .i64 (x.1.1 : Nat), .int .i64 (x.1.2 : Nat)]

set_option maxRecDepth 100000 in
set_option maxHeartbeats 1000000 in
theorem ways1_in (F : Fence) (n : Nat) (hF : F.fn 217) (hro : F.round = none) (hn : 1 ≤ n) (l : Nat) (Kp : World → World → Prop) (J Jx : List Way → World → Prop)
    (hY : ∀ pre x W, J pre W → pre.length < 124 → YieldAt F (n - 1) Tryz.prog l #[wayV x] W fun e W' =>
      (e = .returned (.bool true) ∧ J (pre ++ [x]) W' ∧ Kp W W') ∨ (e = .returned (.bool false) ∧ Jx (pre ++ [x]) W'))
    (W : World) (h0 : J [] W) :
    CallsIn F n Tryz.prog 217 #[.func (.yield l) #[] #[]] W fun e W' => (∃ v, e = .returned v) ∧
      ((∃ ys, ys = wvs 124 ∧ J ys W') ∨ (∃ pre, pre <+: wvs 124 ∧ Jx pre W')) := by
  refine callsIn_of_wp Tryz.func217 rfl hF ?_ hro
  simp only [Tryz.ntmps217, List.size_toArray, List.length_cons, List.length_nil, Nat.reduceAdd, Nat.reduceSub, Array.replicate_succ, Array.replicate_zero, List.push_toArray, List.append_toArray, List.nil_append, List.cons_append]
  gi_wp2
  gi_loopw [4] (fun p wr => ∃ o : Nat, o ≤ 4 ∧ p = .int .i64 (o : Nat) ∧ J (wvs (31 * o)) wr) (fun p _ => 4 - (intOf p).toNat)
  case atStart => exact ⟨0, by omega, rfl, h0⟩
  case round =>
    obtain ⟨o, ho, rfl, hJo⟩ := hrel
    by_cases hlt : o < 4
    · have hlt' : (o : Int) < 4 := by omega
      gi_wp2
      gi_loopw [7] (fun p wi => ∃ s : Nat, s ≤ 31 ∧ p = .int .i64 (s : Nat) ∧ J (wvs (31 * o + s)) wi) (fun p _ => 31 - (intOf p).toNat)
      case atStart => exact ⟨0, by omega, rfl, hJo⟩
      case round =>
        obtain ⟨s, hs, rfl, hJs⟩ := hrel
        by_cases hls : s < 31
        · have hls' : (s : Int) < 31 := by omega
          have ew : wayV (wy (31 * o + s)) = .agg #[.int .i64 (o : Nat), .int .i64 (s : Nat)] := by
            have e1 : (31 * o + s) / 31 % 4 = o := by omega
            have e2 : (31 * o + s) % 31 = s := by omega
            simp only [wayV, wy, e1, e2]
          have hy0 := hY (wvs (31 * o + s)) (wy (31 * o + s)) _ hJs (by rw [wvs_length]; omega)
          rw [ew] at hy0
          obtain ⟨fn, tmps, assign, body, hy, hR⟩ := hy0
          gi_wp2
          refine hR.mono ?_
          rintro e W3 (⟨rfl, hJ3, hk3⟩ | ⟨rfl, hJx3⟩)
          · gi_wp2
            go_roundw
            case rel => exact ⟨s + 1, by omega, by go_num, by rw [← Nat.add_assoc, wvs_succ]; exact hJ3⟩
            case measure => simp [intOf]; omega
          · gi_wp2
            refine bodyPost_ret (results_none rfl _ _ _) rfl ?_
            exact ⟨⟨_, rfl⟩, .inr ⟨_, by rw [← wvs_succ]; exact wvs_prefix (by omega), hJx3⟩⟩
        · obtain rfl : s = 31 := by omega
          gi_wp2
          go_roundw
          case rel => exact ⟨o + 1, by omega, by go_num, by rw [Nat.mul_add]; exact hJs⟩
          case measure => simp [intOf]; omega
    · obtain rfl : o = 4 := by omega
      gi_wp2
      go_end0
      exact ⟨⟨_, rfl⟩, .inl ⟨_, rfl, hJo⟩⟩

theorem ways_stops (F : Fence) (n : Nat) (hF : F.fn 217) (hro : F.round = none) (hn : 1 ≤ n) (Kp : World → World → Prop) (w : World) :
    SeqStopsK F n Tryz.prog 217 #[] (fun x : Way => #[wayV x]) Kp (fun ys => ys = wvs 124) (fun pre => pre <+: wvs 124) 124 w := fun l J Jx W _ _ _ hY h0 =>
  ways1_in F n hF hro hn l Kp J Jx hY W h0
end Go.Proofs.YtmafjfhnejeogaaGreatDoor

/- Codes: the best way. -/
namespace Go.Proofs.YtmafjfhnejeogaaGreatDoor
open Go.RowKit Go.Shelf
attribute [local go_sem] Oper.semAt_some

theorem blk_own {β : Type} (B : Nat) (t : TypeId) (f : β → Array Value) : Own (fun s W => Blk W B t (f s)) := fun s X Y row hs hg hrow =>
  hs.kept hg (fun e' => by obtain ⟨o, ho, hc⟩ := hrow B e'.symm; rw [show X.heap[B]? = _ from hs] at ho; cases ho; cases hc)
theorem keepsFrom_below {W W' : World} (B : Nat) (h : Below W.heap.size W W') : KeepsFrom B W W' := ⟨h.size, fun k _ _ ho _ => (h.block k (Array.getElem?_eq_some_iff.1 ho).1).trans ho⟩


/-- how many bits a way takes; the best way -/
def cost (xs : List Int) (o s : Nat) : Nat := (encL o s (resid xs o)).length
def stepB (xs : List Int) (b : (Nat × Nat) × Nat) (x : Way) : (Nat × Nat) × Nat := if x.1 = (0, 0) ∨ cost xs x.1.1 x.1.2 < b.2 then (x.1, cost xs x.1.1 x.1.2) else b
def bestF (xs : List Int) (pre : List Way) : (Nat × Nat) × Nat := pre.foldl (stepB xs) ((0, 0), 0)
theorem bestF_snoc (xs : List Int) (pre : List Way) (x : Way) : bestF xs (pre ++ [x]) = stepB xs (bestF xs pre) x := by simp [bestF]

theorem flat_le (l : List Int) (s : Nat) (hs : s ≤ 30) : (l.flatMap fun r => encU (foldU r) s).length ≤ 52 * l.length := flat_length l s hs
theorem cost_le (xs : List Int) (o s : Nat) (hs : s ≤ 30) : cost xs o s ≤ 7 + 52 * xs.length := by
  have := flat_le (resid xs o) s hs
  rw [resid_length] at this
  rw [cost, encL, List.length_append, List.length_append, binL_length, binL_length]; omega

theorem write_ct (bc : Nat) (o sh : Nat) (ho : o ≤ 3) (hsh : sh ≤ 30) (al : Option Addr) (l : List Int) (cl : Nat) (w : World) (h9 : Blk w bc 266 #[.int .i64 0]) (hna : ∀ b off, al = some ⟨b, off, none⟩ → bc < b)
    (hc : Cells w al (l.map (Value.int .i64))) (hlen : l.length ≤ 4096) (hr : ∀ r ∈ l, -67108864 ≤ r ∧ r ≤ 67108864) :
    Calls Tryz.prog 178 #[.agg #[.int .i64 (o : Nat), .int .i64 (sh : Nat)], .iface 267 (.pointer (some ⟨bc, 0, none⟩)), .slice al l.length cl] w fun e w' => e = .returned (.tuple #[]) ∧ Blk w' bc 266 #[.int .i64 ((encL o sh l).length : Nat)] ∧ Below bc w w' := by
  refine (write_any (counter_ok bc bc) (fun k => k < w.heap.size ∧ k ≠ bc) o sh ho hsh al l cl [] w ⟨Nat.le_refl _, h9, fun k hk => hk⟩ (fun b off hb hne => ?_) hc hlen (by simp) hr).mono ?_
  · subst hb
    refine ⟨?_, Nat.ne_of_gt (hna b off rfl)⟩
    obtain ⟨r, hr0⟩ := get_of_lt (List.length_pos_iff.2 hne)
    exact World.block_lt_of_cell? w _ (hc.at (j := 0) (by rw [List.getElem?_map, hr0]; rfl))
  · rintro e w' ⟨rfl, h, hk⟩
    exact ⟨rfl, h.2.1, hk.below⟩

set_option maxRecDepth 100000 in
set_option maxHeartbeats 4000000 in
theorem best_any (ao : Option Addr) (xs : List Int) (cap : Nat) (w : World) (hc : Cells w ao (xs.map (Value.int .i64))) (hl : xs.length ≤ 4096) (hx : ∀ x ∈ xs, -8388608 ≤ x ∧ x ≤ 8388608) :
    Calls Tryz.prog 177 #[.slice ao xs.length cap] w fun e w' => e = .returned (.agg #[.int .i64 ((bestF xs (wvs 124)).1.1 : Nat), .int .i64 ((bestF xs (wvs 124)).1.2 : Nat)]) ∧ Below w.heap.size w w' := by
  have HC := Lib.hid hc; have HX := Lib.hid hx; clear hc hx
  refine (callsIn_wide (n := 8)).1 ?_
  refine callsIn_of_wp_marks Tryz.func177 rfl trivial ?_ rfl
  simp only [Tryz.ntmps177, List.size_toArray, List.length_cons, List.length_nil, Nat.reduceAdd, Nat.reduceSub, Array.replicate_succ, Array.replicate_zero, List.push_toArray, List.append_toArray, List.nil_append, List.cons_append]
  gi_wp2
  have b0 := (((Blk.new w 22 #[.slice ao xs.length cap]).alloc (.cells #[.int .i64 0, .int .i64 0] 234)).alloc (.cells #[.int .i64 0, .int .i64 0] 234)).alloc (.cells #[.int .i64 0] 3)
  have b1 := ((Blk.new (w.alloc (.cells #[.slice ao xs.length cap] 22)) 234 #[.int .i64 0, .int .i64 0]).alloc (.cells #[.int .i64 0, .int .i64 0] 234)).alloc (.cells #[.int .i64 0] 3)
  have b2 := (Blk.new ((w.alloc (.cells #[.slice ao xs.length cap] 22)).alloc (.cells #[.int .i64 0, .int .i64 0] 234)) 234 #[.int .i64 0, .int .i64 0]).alloc (.cells #[.int .i64 0] 3)
  have b3 := Blk.new (((w.alloc (.cells #[.slice ao xs.length cap] 22)).alloc (.cells #[.int .i64 0, .int .i64 0] 234)).alloc (.cells #[.int .i64 0, .int .i64 0] 234)) 3 #[.int .i64 0]
  simp only [World.size_alloc] at b1 b2 b3
  have hB0 := ((((Below.refl w.heap.size w).alloc (Nat.le_refl _) (.cells #[.slice ao xs.length cap] 22)).alloc (by simp) (.cells #[.int .i64 0, .int .i64 0] 234)).alloc (by simp; omega) (.cells #[.int .i64 0, .int .i64 0] 234)).alloc (by simp; omega) (.cells #[.int .i64 0] 3)
  have hsz : ((((w.alloc (.cells #[.slice ao xs.length cap] 22)).alloc (.cells #[.int .i64 0, .int .i64 0] 234)).alloc (.cells #[.int .i64 0, .int .i64 0] 234)).alloc (.cells #[.int .i64 0] 3)).heap.size = w.heap.size + 4 := by simp
  obtain ⟨W0, hW0⟩ : ∃ W0, ((((w.alloc (.cells #[.slice ao xs.length cap] 22)).alloc (.cells #[.int .i64 0, .int .i64 0] 234)).alloc (.cells #[.int .i64 0, .int .i64 0] 234)).alloc (.cells #[.int .i64 0] 3)) = W0 := ⟨_, rfl⟩
  rw [hW0] at b0 b1 b2 b3 hB0 hsz ⊢
  clear hW0
  refine wpIn_rangeFunc_ownH rfl (by decide) (gf := 217) (lb := #[]) rfl trivial (enters_of Tryz.func217 (by kernel_rfl) rfl)
    (ways_stops _ _ trivial rfl (by decide) (Below w.heap.size) W0) belowK_t (belowK_b (by omega)) (Below.refl _ _) (fun _ => rfl)
    (fun pre W => (((Blk W w.heap.size 22 #[.slice ao xs.length cap] ∧ Blk W (w.heap.size + 1) 234 #[.int .i64 0, .int .i64 0]) ∧
      Blk W (w.heap.size + 1 + 1) 234 #[.int .i64 ((bestF xs pre).1.1 : Nat), .int .i64 ((bestF xs pre).1.2 : Nat)]) ∧ Blk W (w.heap.size + 1 + 1 + 1) 3 #[.int .i64 ((bestF xs pre).2 : Nat)]) ∧ Below w.heap.size w W)
    (fun _ _ _ => False)
    (OwnFrom.and (OwnFrom.and (OwnFrom.and (OwnFrom.and (Own.from (blk_own _ _ _) _) (Own.from (blk_own _ _ _) _)) (Own.from (blk_own _ _ (fun pre => #[.int .i64 ((bestF xs pre).1.1 : Nat), .int .i64 ((bestF xs pre).1.2 : Nat)])) _)) (Own.from (blk_own _ _ (fun pre => #[.int .i64 ((bestF xs pre).2 : Nat)])) _)) (ownFrom_below (Nat.le_refl _) (by omega)))
    (fun _ _ _ _ _ hs _ _ => hs)
    ⟨⟨⟨⟨b0, b1⟩, b2⟩, b3⟩, hB0⟩
    (fun x a' W => ∃ Bx, w.heap.size + 1 + 1 + 1 < Bx ∧ Blk W Bx 234 #[.int .i64 (x.1.1 : Nat), .int .i64 (x.1.2 : Nat)] ∧ a' = { tmps := #[.slice ao xs.length cap, .pointer (some ⟨w.heap.size, 0, none⟩), .pointer (some ⟨w.heap.size + 1, 0, none⟩), .pointer (some ⟨w.heap.size + 1 + 1, 0, none⟩), .pointer (some ⟨w.heap.size + 1 + 1 + 1, 0, none⟩), .pointer (some ⟨Bx, 0, none⟩), undef, wayV x, undef, undef, undef, undef, undef, undef, undef, undef, undef, undef, undef, undef, undef, undef, undef, undef, undef, undef], defers := [] })
    (fun x a' _ X Y row hs hg hr => by obtain ⟨Bx, h1, h2, h3⟩ := hs; exact ⟨Bx, h1, blk_own Bx _ (fun (_ : Unit) => #[Value.int .i64 (x.1.1 : Nat), .int .i64 (x.1.2 : Nat)]) () X Y row h2 hg (fun r e => (hr r e).2), h3⟩)
    ?assign ?body ?done ?stop
  case assign =>
    rintro l pre x W K ⟨⟨⟨⟨c0, c1⟩, c2⟩, c3⟩, hB1⟩ hK
    simp only [wayV] at hK ⊢
    gi_wp2
    exact hK _ _ ((KeepsOthers.alloc _ _).from _) ((Below.refl _ W).alloc hB1.size _) ⟨⟨⟨⟨c0.alloc _, c1.alloc _⟩, c2.alloc _⟩, c3.alloc _⟩, hB1.alloc hB1.size _⟩ ⟨W.heap.size, c3.lt, Blk.new W _ _, rfl⟩
  case body =>
    rintro l pre x a' W hl2 ⟨r, hr⟩ ⟨⟨⟨⟨c0, c1⟩, c2⟩, c3⟩, hB1⟩ ⟨Bx, hBx, cx, rfl⟩ hlt
    have hn := hB1.size
    have hcl := cost_le xs x.1.1 x.1.2 (by have := x.2.2; omega)
    have hx1 : x.1.1 ≤ 3 := by have := x.2.1; omega
    have hx2 : x.1.2 ≤ 30 := by have := x.2.2; omega
    have HCw : Hid (Cells (W.alloc (.cells #[.int .i64 0] 266)) ao (xs.map (Value.int .i64))) := Lib.hid ((HC.out.below hB1 (Nat.le_refl _)).below ((Below.refl _ W).alloc (Nat.le_refl _) _) (Nat.le_refl _))
    have hmx : Tryz.prog.follows .mixedOrders = true := by kernel_rfl
    simp only [wayV]
    clear hr
    gi_wp2
    have d0 := c0.alloc (.cells #[.int .i64 0] 266)
    have dx := cx.alloc (.cells #[.int .i64 0] 266)
    have d9 := Blk.new W 266 #[.int .i64 0]
    have hBc := (Below.refl W.heap.size W).alloc (Nat.le_refl _) (.cells #[.int .i64 0] 266)
    have hsc : (W.alloc (.cells #[.int .i64 0] 266)).heap.size = W.heap.size + 1 := by simp
    have hlx := cx.lt
    generalize (W.alloc (.cells #[.int .i64 0] 266)) = Wc at *
    have HCd : Cells Wc.drew ao (xs.map (Value.int .i64)) := HCw.out.below ((Below.refl Wc.heap.size Wc).drew) (Nat.le_refl _)
    replace HCd := Lib.hid HCd
    have d00 := d0.c0
    have e0 := dx.c0
    have e1 := dx.c1
    refine wpIn_mono (Q := fun e a w3 => e = .normal ∧ ∃ (a1 : Option Addr) (k1 : Nat), a = { tmps := #[.slice ao xs.length cap, .pointer (some ⟨w.heap.size, 0, none⟩), .pointer (some ⟨w.heap.size + 1, 0, none⟩), .pointer (some ⟨w.heap.size + 1 + 1, 0, none⟩), .pointer (some ⟨w.heap.size + 1 + 1 + 1, 0, none⟩), .pointer (some ⟨Bx, 0, none⟩), .pointer (some ⟨W.heap.size, 0, none⟩), .agg #[.int .i64 (x.1.1 : Nat), .int .i64 (x.1.2 : Nat)], .agg #[.int .i64 (x.1.1 : Nat), .int .i64 (x.1.2 : Nat)], .iface 267 (.pointer (some ⟨W.heap.size, 0, none⟩)), .slice ao xs.length cap, .pointer (some ⟨Bx, 0, none⟩), .int .i64 (x.1.1 : Nat), .slice a1 (resid xs x.1.1).length k1, .tuple #[], undef, undef, undef, undef, undef, undef, undef, undef, undef, undef, undef], defers := [] } ∧ Blk w3 W.heap.size 266 #[.int .i64 (cost xs x.1.1 x.1.2 : Nat)] ∧ Below W.heap.size W w3) ?reg ?after
    case reg =>
      gi_region_with_o (first
        | (refine ⟨trivial, ?_⟩; gi_at_call 179; refine (CallsIn.inRound l (callsIn_wide.2 (residues_any ao xs cap x.1.1 Wc.drew HCd.out hl hx1 HX.out))).mono ?_; rintro e w1 ⟨⟨a1, k1, rfl, hca, hna⟩, hb1⟩; have HCA := Lib.hid hca; have HNA := Lib.hid hna; clear hca hna; have dx1 := dx.drew.below hb1 (show Bx < Wc.heap.size by omega); have e10 := dx1.c0; have e11 := dx1.c1)
        | (refine ⟨trivial, ?_⟩; gi_at_call 178; refine (CallsIn.inRound l (callsIn_wide.2 (write_ct W.heap.size x.1.1 x.1.2 hx1 hx2 a1 (resid xs x.1.1) k1 w1 (d9.drew.below hb1 (show W.heap.size < Wc.heap.size by omega)) (fun b off hb => Nat.lt_of_lt_of_le (show W.heap.size < Wc.heap.size by omega) (HNA.out b off hb)) HCA.out (by rw [resid_length]; exact hl) (resid_bd HX.out x.1.1 hx1)))).mono ?_; rintro e w3 ⟨rfl, d93, hb3⟩; have dx3 := dx1.below hb3 hlx; have e30 := dx3.c0; have e31 := dx3.c1))
      all_goals exact ⟨rfl, a1, k1, rfl, d93, (hBc.drew.trans (hb1.mono (show W.heap.size ≤ Wc.heap.size by omega))).trans hb3⟩
    case after =>
      rintro e aa w3 ⟨rfl, a1, k1, rfl, d93, hW3⟩
      have q0 := c0.below hW3 c0.lt
      have q1 := c1.below hW3 c1.lt
      have q2 := c2.below hW3 c2.lt
      have q3 := c3.below hW3 c3.lt
      have q5 := cx.below hW3 hlx
      have q30 := q3.c0
      have q90 := d93.c0
      have q50 := q5.c0
      have q51 := q5.c1
      have hB3 : Below w.heap.size w w3 := hB1.trans (hW3.mono hn)
      have hB4 : Below w.heap.size W w3 := hW3.mono hn
      have hK4 : KeepsFrom W0.heap.size W w3 := keepsFrom_below _ hW3
      clear HCw HCd d0 dx d9 hBc hsc d00 e0 e1 q50 q51 q90 q30
      have hst : bestF xs (pre ++ [x]) = if (x.1.1 = 0 ∧ x.1.2 = 0) ∨ cost xs x.1.1 x.1.2 < (bestF xs pre).2 then ((x.1.1, x.1.2), cost xs x.1.1 x.1.2) else bestF xs pre := by
        rw [bestF_snoc, stepB]
        have e0 : (x.1 = (0, 0)) ↔ (x.1.1 = 0 ∧ x.1.2 = 0) := by rw [Prod.ext_iff]
        simp only [e0]
      have HST := Lib.hid hst; clear hst
      have HI : Hid (∀ w4 : World, KeepsFrom W0.heap.size w3 w4 → Below w.heap.size w3 w4 → Blk w4 w.heap.size 22 #[.slice ao xs.length cap] → Blk w4 (w.heap.size + 1) 234 #[.int .i64 0, .int .i64 0] →
          Blk w4 (w.heap.size + 1 + 1) 234 #[.int .i64 ((bestF xs (pre ++ [x])).1.1 : Nat), .int .i64 ((bestF xs (pre ++ [x])).1.2 : Nat)] → Blk w4 (w.heap.size + 1 + 1 + 1) 3 #[.int .i64 ((bestF xs (pre ++ [x])).2 : Nat)] →
          KeepsFrom W0.heap.size W w4 ∧ Below w.heap.size W w4 ∧ (((Blk w4 w.heap.size 22 #[.slice ao xs.length cap] ∧ Blk w4 (w.heap.size + 1) 234 #[.int .i64 0, .int .i64 0]) ∧
      Blk w4 (w.heap.size + 1 + 1) 234 #[.int .i64 ((bestF xs (pre ++ [x])).1.1 : Nat), .int .i64 ((bestF xs (pre ++ [x])).1.2 : Nat)]) ∧ Blk w4 (w.heap.size + 1 + 1 + 1) 3 #[.int .i64 ((bestF xs (pre ++ [x])).2 : Nat)]) ∧ Below w.heap.size w w4) :=
        Lib.hid fun w4 k1 k2 k3 k4 k5 k6 => ⟨hK4.trans k1, hB4.trans k2, ⟨⟨⟨k3, k4⟩, k5⟩, k6⟩, hB3.trans k2⟩
      have n1 : Bx ≠ w.heap.size + 1 + 1 := by omega
      have n2 : Bx ≠ w.heap.size + 1 + 1 + 1 := by omega
      have n3 : W.heap.size ≠ w.heap.size + 1 + 1 := by omega
      have n4 : W.heap.size ≠ w.heap.size + 1 + 1 + 1 := by omega
      have n1' := n1.symm
      have n2' := n2.symm
      have n3' := n3.symm
      have n4' := n4.symm
      clear hK4 hB4 hB3 hB1 hW3 c0 c1 c2 c3 cx hcl hlt hn HC HX hlx hBx hsz
      generalize bestF xs pre = bo at *
      obtain ⟨⟨bo1, bo2⟩, m⟩ := bo
      generalize cost xs x.1.1 x.1.2 = c at *
      generalize (resid xs x.1.1).length = rl at *
      generalize x.1.1 = o at *
      generalize x.1.2 = sh at *
      dsimp only at q2 q3 HST
      have q30 := q3.c0
      have q90 := d93.c0
      have q50 := q5.c0
      have q51 := q5.c1
      have q20 := q2.c0
      have q21 := q2.c1
      have f20 := q2.free 0
      have f21 := q2.free 1
      have f30 := q3.free 0
      rcases Nat.eq_zero_or_pos o with rfl | ho0 <;> rcases Nat.eq_zero_or_pos sh with rfl | hs0 <;> by_cases hcm : c < m
      all_goals gi_wp2
      all_goals first
        | (have hst := HST.out
           rw [if_neg (by omega)] at hst
           exact HI.out w3 (KeepsFrom.refl _ _) (Below.refl _ _) q0 q1 (by rw [hst]; exact q2) (by rw [hst]; exact q3))
        | (have hst := HST.out
           rw [if_pos (by first | omega | simp)] at hst
           replace hst := Lib.hid hst
           refine wpIn_mono (Q := fun e _ w4 => e = .normal ∧ (KeepsFrom W0.heap.size W w4 ∧ Below w.heap.size W w4 ∧ (((Blk w4 w.heap.size 22 #[.slice ao xs.length cap] ∧ Blk w4 (w.heap.size + 1) 234 #[.int .i64 0, .int .i64 0]) ∧
      Blk w4 (w.heap.size + 1 + 1) 234 #[.int .i64 ((bestF xs (pre ++ [x])).1.1 : Nat), .int .i64 ((bestF xs (pre ++ [x])).1.2 : Nat)]) ∧ Blk w4 (w.heap.size + 1 + 1 + 1) 3 #[.int .i64 ((bestF xs (pre ++ [x])).2 : Nat)]) ∧ Below w.heap.size w w4)) ?_ ?_
           · gi_region_with_o fail
             all_goals (have hst := hst.out)
             all_goals exact ⟨rfl, HI.out _ ((((KeepsOthers.drew w3).trans (KeepsOthers.setCell _ _ _)).trans (KeepsOthers.setCell _ _ _)).trans (KeepsOthers.setCell _ _ _) |>.from _)
               (((((Below.refl w.heap.size w3).drew).setCell (p := ⟨w.heap.size + 1 + 1, 0, none⟩) (by simp; omega) _).setCell (p := ⟨w.heap.size + 1 + 1, 1, none⟩) (by simp; omega) _).setCell (p := ⟨w.heap.size + 1 + 1 + 1, 0, none⟩) (by simp; omega) _)
               (((q0.drew.other (by omega) _ _).other (by omega) _ _).other (by omega) _ _)
               (((q1.drew.other (by omega) _ _).other (by omega) _ _).other (by omega) _ _)
               (by rw [hst]; exact ((q2.drew.set0 _).set1 _).other (by omega) _ _)
               (by rw [hst]; exact ((q3.drew.other (by omega) _ _).other (by omega) _ _).set0 _)⟩
           · rintro e aa w4 ⟨rfl, h4⟩
             gi_wp2
             exact h4)
  case done =>
    rintro D zs W hD rfl ⟨⟨⟨⟨c0, c1⟩, c2⟩, c3⟩, hB1⟩ hK
    have d0 := c2.c0
    have d1 := c2.c1
    have f0 := c1.free 0
    have f1 := c1.free 1
    have r0 := c1.c0
    have r1 := c1.c1
    have g1 := (c1.set0 (.int .i64 ((bestF xs (wvs 124)).1.1 : Nat))).set1 (.int .i64 ((bestF xs (wvs 124)).1.2 : Nat))
    have hDn : w.heap.size + 1 ≠ D := by omega
    have hKd : ((W.setCell ⟨w.heap.size + 1, 0, none⟩ (.int .i64 ((bestF xs (wvs 124)).1.1 : Nat))).setCell ⟨w.heap.size + 1, 1, none⟩ (.int .i64 ((bestF xs (wvs 124)).1.2 : Nat))).heap[D]? = some (.deferred (some [])) := by
      rw [Below.heap_setCell _ _ _ _ (by simpa using hDn.symm), Below.heap_setCell _ _ _ _ (by simpa using hDn.symm)]; exact hK
    have hBd : Below w.heap.size w ((W.setCell ⟨w.heap.size + 1, 0, none⟩ (.int .i64 ((bestF xs (wvs 124)).1.1 : Nat))).setCell ⟨w.heap.size + 1, 1, none⟩ (.int .i64 ((bestF xs (wvs 124)).1.2 : Nat))) :=
      (hB1.setCell (p := ⟨w.heap.size + 1, 0, none⟩) (by simp) _).setCell (p := ⟨w.heap.size + 1, 1, none⟩) (by simp) _
    gi_wp2
    generalize ((W.setCell ⟨w.heap.size + 1, 0, none⟩ (.int .i64 ((bestF xs (wvs 124)).1.1 : Nat))).setCell ⟨w.heap.size + 1, 1, none⟩ (.int .i64 ((bestF xs (wvs 124)).1.2 : Nat))) = wd at *
    have g2 : Blk (wd.putObj D (.deferred none)) (w.heap.size + 1) _ _ := g1.kept (grownBy_putObj' _ D (.deferred none)) (by simpa using hDn)
    have s0 := g2.c0
    have s1 := g2.c1
    refine ⟨by simp, .inl ⟨_, _, rfl, run_takeDeferred hKd, ?_⟩⟩
    refine ⟨.agg #[.int .i64 ((bestF xs (wvs 124)).1.1 : Nat), .int .i64 ((bestF xs (wvs 124)).1.2 : Nat)], by simp [results, Tryz.results177, go_sem, s0, s1], rfl, ?_⟩
    exact hBd.trans (belowK_b (w := w) (Nat.le_refl _) wd D _ _ (by omega) hKd rfl rfl)
  case stop =>
    rintro D c pre W _ _ h _
    exact h.elim
end Go.Proofs.YtmafjfhnejeogaaGreatDoor

/- Codes: whole bytes; the code of a frame in plain words. -/
namespace Go.Proofs.YtmafjfhnejeogaaGreatDoor
open Go.RowKit

theorem octs_append (a : List Nat) (h : a.length % 8 = 0) (b : List Nat) : octs (a ++ b) = octs a ++ octs b := by
  suffices ∀ r : List Nat, octs (a ++ r.reverse) = octs a ++ octs r.reverse by simpa using this b.reverse
  intro r
  induction r with
  | nil => simp [octs_nil]
  | cons x r ih =>
    rw [List.reverse_cons, ← List.append_assoc, octs_snoc, octs_snoc, ih, List.length_append]
    generalize r.reverse = q
    have hl := octs_len q
    unfold pushBit
    by_cases h0 : q.length % 8 = 0
    · rw [if_pos (by omega), if_pos h0, List.append_assoc]
    · rw [if_neg (by omega), if_neg h0]
      have hp : 0 < (octs q).length := by omega
      have hm : (a.length + q.length) % 8 = q.length % 8 := by omega
      rw [hm, List.length_append, List.set_append_right _ _ (by omega), List.getD_eq_getElem?_getD, List.getD_eq_getElem?_getD, List.getElem?_append_right (by omega)]
      rw [show (octs a).length + (octs q).length - 1 - (octs a).length = (octs q).length - 1 by omega]

theorem octs_byte : ∀ b : Fin 256, octs (binL (b.val : Int) 8) = [b.val] := by decide +kernel
/-- the bits of bytes -/
def unB (l : List Nat) : List Nat := l.flatMap fun (b : Nat) => binL (b : Int) 8
theorem unB_length (l : List Nat) : (unB l).length = 8 * l.length := by
  induction l with
  | nil => rfl
  | cons b l ih => rw [unB, List.flatMap_cons, List.length_append, binL_length, List.length_cons]; rw [unB] at ih; omega
theorem unB_bits (l : List Nat) : ∀ b ∈ unB l, b ≤ 1 := by
  intro b hb
  obtain ⟨x, _, hx⟩ := List.mem_flatMap.1 hb
  exact binL_bits _ _ b hx
theorem octs_unB (l : List Nat) (hl : ∀ d ∈ l, d < 256) : octs (unB l) = l := by
  induction l with
  | nil => rfl
  | cons b l ih =>
    rw [unB, List.flatMap_cons, octs_append _ (by rw [binL_length]), octs_byte ⟨b, hl b (by simp)⟩]
    have := ih fun d hd => hl d (by simp [hd])
    rw [unB] at this
    rw [this]; rfl

/-- the way of a channel's samples, their bits; the bits of a frame; its code -/
def wayOf (x : List Int) : Nat × Nat := (bestF x (wvs 124)).1
def encC (x : List Int) : List Nat := encL (wayOf x).1 (wayOf x).2 (resid x (wayOf x).1)
def frBits (st : Int) (xss : List (List Int)) : List Nat := binL st 32 ++ xss.flatMap encC
def hdB (body : List Nat) : List Nat := [165, 90] ++ octs (binL (body.length : Nat) 16) ++ body
def encB (st : Int) (xss : List (List Int)) : List Nat := hdB (octs (frBits st xss)) ++ octs (binL (chkL (hdB (octs (frBits st xss))) : Nat) 24)

theorem way_bd (x : Way) : x.1.1 ≤ 3 ∧ x.1.2 ≤ 30 := by have := x.2; omega
theorem bestF_bd (xs : List Int) (pre : List Way) : (bestF xs pre).1.1 ≤ 3 ∧ (bestF xs pre).1.2 ≤ 30 := by
  suffices ∀ b : (Nat × Nat) × Nat, b.1.1 ≤ 3 ∧ b.1.2 ≤ 30 → (pre.foldl (stepB xs) b).1.1 ≤ 3 ∧ (pre.foldl (stepB xs) b).1.2 ≤ 30 from this _ ⟨by simp, by simp⟩
  induction pre with
  | nil => intro b h; exact h
  | cons x l ih =>
    intro b h
    rw [List.foldl_cons]
    refine ih _ ?_
    unfold stepB
    split
    · exact way_bd x
    · exact h
theorem wayOf_bd (x : List Int) : (wayOf x).1 ≤ 3 ∧ (wayOf x).2 ≤ 30 := by
  have h := bestF_bd x (wvs 124)
  unfold wayOf
  generalize wvs 124 = q at *
  exact h
theorem encC_length (x : List Int) : (encC x).length ≤ 7 + 52 * x.length := cost_le x _ _ (wayOf_bd x).2
theorem encU_bits (u : Int) (sh : Nat) : ∀ b ∈ encU u sh, b ≤ 1 := by
  intro b hb
  unfold encU at hb
  split at hb
  · rcases List.mem_append.1 hb with h | h <;> exact binL_bits _ _ b h
  · rcases List.mem_append.1 hb with h | h <;> exact binL_bits _ _ b h
theorem flat_encC (xss : List (List Int)) (n : Nat) (h : ∀ xs ∈ xss, xs.length ≤ n) : (xss.flatMap encC).length ≤ (7 + 52 * n) * xss.length := by
  induction xss with
  | nil => simp
  | cons x l ih =>
    have h1 := ih fun y hy => h y (by simp [hy])
    have h2 := encC_length x
    have h3 := h x (by simp)
    rw [List.flatMap_cons, List.length_append, List.length_cons, Nat.mul_succ]
    omega
end Go.Proofs.YtmafjfhnejeogaaGreatDoor

/- Names: num.IsName. -/
namespace Go.Proofs.YtmafjfhnejeogaaGreatDoor
open Go.RowKit

/-- may the byte c (a number) stand at the place i of a name? -/
def chOK (i : Nat) (c : Nat) : Bool := decide (97 ≤ c ∧ c ≤ 122 ∨ i ≠ 0 ∧ (c = 95 ∨ 48 ≤ c ∧ c ≤ 57))
def chAt (s : ByteArray) (i : Nat) : Nat := (s.data.toList.getD i 0).toNat
def nameTo (s : ByteArray) (k : Nat) : Bool := (List.range k).all fun i => chOK i (chAt s i)
def nameOK (s : ByteArray) : Bool := nameTo s s.size && (decide (1 ≤ s.size) && decide (s.size ≤ 16))
theorem nameTo_succ (s : ByteArray) (k : Nat) : nameTo s (k + 1) = (nameTo s k && chOK k (chAt s k)) := by simp [nameTo, List.range_succ, List.all_append]
theorem nameTo_false {s : ByteArray} {k : Nat} (h : chOK k (chAt s k) = false) (hk : k < s.size) : nameOK s = false := by
  have : nameTo s s.size = false := by
    rw [nameTo, List.all_eq_false]; exact ⟨k, by simpa using hk, by simp [h]⟩
  simp [nameOK, this]
theorem chAt_eq {s : ByteArray} {k : Nat} (h : k < s.size) : chAt s k = s[k].toNat := by
  unfold chAt
  rw [List.getD_eq_getElem?_getD, List.getElem?_eq_getElem (by simpa using h)]; rfl

set_option maxRecDepth 100000 in
theorem isName_any (s : ByteArray) (w : World) (hs : s.size ≤ 9223372036854775807) :
    Calls Tryz.prog 213 #[.string s] w fun e w' => e = .returned (.bool (nameOK s)) ∧ w = w' := by
  go_enter Tryz.func213, Tryz.ntmps213
  go_wp2
  go_loop [8] (fun i => ∃ k : Nat, k ≤ s.size ∧ i = .int .i64 k ∧ nameTo s k = true) (fun i => s.size - (intOf i).toNat)
  case atStart => exact ⟨0, Nat.zero_le _, rfl, rfl⟩
  case round =>
    obtain ⟨k, hk, rfl, hn⟩ := hrel
    by_cases hlt : k < s.size
    · have hsu := nameTo_succ s k
      rw [hn, Bool.true_and] at hsu
      have hfa := fun h => nameTo_false (s := s) (k := k) h hlt
      rw [chAt_eq hlt] at hsu hfa
      have HSU := Lib.hid hsu; have HFA := Lib.hid hfa; clear hsu hfa hn
      have hc : chOK k s[k].toNat = true ∨ chOK k s[k].toNat = false := by cases chOK k s[k].toNat <;> simp
      rcases hc with hc | hc
      · have HSU2 : Hid (nameTo s (k + 1) = true) := by show nameTo s (k + 1) = true; rw [HSU.out, hc]
        simp only [chOK, decide_eq_true_eq] at hc
        rcases hc with ⟨h1, h2⟩ | ⟨h0, h3 | ⟨h1, h2⟩⟩
        · have g1 : (97 : Int) ≤ s[k].toNat := by omega
          have g2 : (s[k].toNat : Int) ≤ 122 := by omega
          clear h1 h2
          go_wp2
          go_round
          case rel => exact ⟨k + 1, by omega, by go_num, HSU2.out⟩
          case measure => simp [intOf]; omega
        · have g0 : ((k : Int) == 0) = false := by rw [beq_eq_false_iff_ne]; omega
          have g1 : ¬ (97 : Int) ≤ s[k].toNat := by omega
          have g2 : ((s[k].toNat : Int) != 95) = false := by simp [h3]
          clear h3 h0
          go_wp2
          go_round
          case rel => exact ⟨k + 1, by omega, by go_num, HSU2.out⟩
          case measure => simp [intOf]; omega
        · have g0 : ((k : Int) == 0) = false := by rw [beq_eq_false_iff_ne]; omega
          have g1 : ¬ (97 : Int) ≤ s[k].toNat := by omega
          have g2 : ((s[k].toNat : Int) != 95) = true := by rw [bne_iff_ne]; omega
          have g3 : ¬ (s[k].toNat : Int) < 48 := by omega
          have g4 : ¬ (57 : Int) < s[k].toNat := by omega
          clear h1 h2 h0
          go_wp2
          go_round
          case rel => exact ⟨k + 1, by omega, by go_num, HSU2.out⟩
          case measure => simp [intOf]; omega
      · have HF : Hid (nameOK s = false) := HFA.out hc
        simp only [chOK, decide_eq_false_iff_not] at hc
        have g1 : (s[k].toNat : Int) < 97 ∨ (122 : Int) < s[k].toNat := by omega
        have g2 : k = 0 ∨ 0 < k := by omega
        rcases g1 with g1 | g1
        all_goals
          try have g5 : decide ((s[k].toNat : Int) ≤ 122) = false := by rw [decide_eq_false_iff_not]; omega
          rcases g2 with g2 | g2
          · subst g2
            clear hc
            go_wp2
            go_ret
            exact ⟨ret_bool HF.out.symm, rfl⟩
          · have g0 : ((k : Int) == 0) = false := by rw [beq_eq_false_iff_ne]; omega
            have g4 : ((s[k].toNat : Int) != 95) = true := by rw [bne_iff_ne]; omega
            have g3 : (s[k].toNat : Int) < 48 ∨ 57 < (s[k].toNat : Int) := by omega
            clear hc g2
            rcases g3 with g3 | g3
            all_goals first | (exfalso; omega) | (go_wp2; go_ret; exact ⟨ret_bool HF.out.symm, rfl⟩)
    · obtain rfl : k = s.size := by omega
      have hf : nameOK s = (decide (1 ≤ s.size) && decide (s.size ≤ 16)) := by rw [nameOK, hn, Bool.true_and]
      have HF := Lib.hid hf; clear hf hn
      by_cases h1 : (1 : Int) ≤ s.size
      · go_wp2
        go_ret
        exact ⟨ret_bool (by rw [HF.out, Bool.eq_iff_iff]; simp; omega), rfl⟩
      · go_wp2
        go_ret
        exact ⟨ret_bool (by rw [HF.out, Bool.eq_iff_iff]; simp; omega), rfl⟩
end Go.Proofs.YtmafjfhnejeogaaGreatDoor

/- Books: slices of channels; slices.IndexFunc and ContainsFunc over them. -/
namespace Go.Proofs.YtmafjfhnejeogaaGreatDoor
open Go.RowKit

structure Chan where
  name : ByteArray
  rate : Int
  bits : Int

/-- channels, cell by cell -/
def chs (l : List Chan) : List Value := l.flatMap fun t => [.string t.name, .int .i64 t.rate, .int .i64 t.bits]
theorem chs_cons (t : Chan) (l : List Chan) : chs (t :: l) = .string t.name :: .int .i64 t.rate :: .int .i64 t.bits :: chs l := rfl
theorem chs_append (a b : List Chan) : chs (a ++ b) = chs a ++ chs b := by simp [chs]
theorem chs_length (l : List Chan) : (chs l).length = l.length * 3 := by
  induction l with
  | nil => rfl
  | cons t l ih => simp only [chs_cons, List.length_cons, ih]; omega
theorem chs_get {l : List Chan} {i : Nat} {t : Chan} (h : l[i]? = some t) : (chs l)[i * 3]? = some (.string t.name) ∧ (chs l)[i * 3 + 1]? = some (.int .i64 t.rate) ∧ (chs l)[i * 3 + 2]? = some (.int .i64 t.bits) := by
  induction l generalizing i with
  | nil => simp at h
  | cons s l ih =>
    cases i with
    | zero => simp at h; subst h; simp [chs_cons]
    | succ i =>
      have e : (i + 1) * 3 = i * 3 + 1 + 1 + 1 := by omega
      have e1 : (i + 1) * 3 + 1 = i * 3 + 1 + 1 + 1 + 1 := by omega
      have e2 : (i + 1) * 3 + 2 = i * 3 + 2 + 1 + 1 + 1 := by omega
      rw [chs_cons, e2, e1, e]
      simp only [List.getElem?_cons_succ]
      exact ih (by simpa using h)
theorem chs_ne {l : List Chan} (h : 0 < l.length) : chs l ≠ [] := by
  intro e; have := chs_length l; rw [e] at this; simp at this; omega
theorem chs_take (l : List Chan) (i : Nat) : chs (l.take i) = (chs l).take (i * 3) := by
  induction l generalizing i with
  | nil => simp [chs]
  | cons t l ih =>
    cases i with
    | zero => simp [chs]
    | succ i =>
      have e : (i + 1) * 3 = i * 3 + 1 + 1 + 1 := by omega
      rw [List.take_succ_cons, chs_cons, chs_cons, e, List.take_succ_cons, List.take_succ_cons, List.take_succ_cons, ih]
theorem Cells.take' {w : World} {ao : Option Addr} {cs : List Value} (h : Cells w ao cs) (n : Nat) : Cells w ao (cs.take n) := by
  rcases h with h | ⟨b, off, h1, h2⟩
  · exact .inl (by simp [h])
  · refine .inr ⟨b, off, h1, fun j u hu => h2 j u ?_⟩
    rw [List.getElem?_take] at hu
    split at hu
    · exact hu
    · simp at hu

set_option maxRecDepth 100000 in
/-- slices.IndexFunc over channels -/
theorem indexFunc_chans (F : FuncId) (capd : Array Value) (p : Chan → Bool) (ao : Option Addr) (xs : List Chan) (cap : Nat) (w : World) (hc : Cells w ao (chs xs)) (hl : xs.length ≤ 9223372036854775807)
    (hcf : ∀ (vs : Array Value) (wx : World), Sem.run Tryz.prog (callFunc F vs) wx = .ok (.enter F vs) wx)
    (hF : ∀ x wx, x ∈ xs → Below w.heap.size w wx → Calls Tryz.prog F (#[.agg #[.string x.name, .int .i64 x.rate, .int .i64 x.bits]] ++ capd) wx fun e w' => e = .returned (.bool (p x)) ∧ Below wx.heap.size wx w') :
    Calls Tryz.prog 238 #[.slice ao xs.length cap, .func (.func F) #[] capd] w fun e w' => (∃ r : Int, e = .returned (.int .i64 r) ∧ (0 ≤ r ↔ xs.any p = true) ∧ (∀ i : Nat, r = i → ∃ x, xs[i]? = some x ∧ p x = true ∧ (xs.take i).any p = false)) ∧ Below w.heap.size w w' := by
  go_enter Tryz.func238, Tryz.ntmps238
  go_wp2
  go_loopw [8] (fun i wr => ∃ k : Nat, k ≤ xs.length ∧ i = .int .i64 k ∧ (xs.take k).any p = false ∧ Below w.heap.size w wr) (fun i _ => xs.length - (intOf i).toNat)
  case atStart => exact ⟨0, Nat.zero_le _, rfl, rfl, Below.refl _ _⟩
  case round =>
    obtain ⟨k, hk, rfl, hany, hb⟩ := hrel
    by_cases hlt : k < xs.length
    · obtain ⟨x, hx⟩ := get_of_lt hlt
      obtain ⟨b, off, rfl⟩ := hc.addr (chs_ne (by omega))
      obtain ⟨g0, g1, g2⟩ := chs_get hx
      have hcell1 := cell_keep (hc.at g0) hb (Nat.le_refl _)
      have hcell2 := cell_keep (hc.at g1) hb (Nat.le_refl _)
      have hcell3 := cell_keep (hc.at g2) hb (Nat.le_refl _)
      rw [← Nat.add_assoc] at hcell2 hcell3
      clear g0 g1 g2
      have HX := Lib.hid hx; clear hx
      have HC := Lib.hid hc; clear hc
      have HF := Lib.hid hF; clear hF
      have HA := Lib.hid hany; clear hany
      go_wp2_with fail
      refine (HF.out x wr (List.mem_of_getElem? HX.out) hb).mono ?_
      rintro e w1 ⟨rfl, hb1⟩
      have hb2 := hb.trans (hb1.mono hb.size)
      clear hb1
      by_cases hp : p x = true
      · go_wp2
        go_ret
        refine ⟨⟨_, rfl, ?_, ?_⟩, hb2⟩
        · simp only [Int.natCast_nonneg, true_iff, List.any_eq_true]
          exact ⟨x, List.mem_of_getElem? HX.out, hp⟩
        · intro i hi
          obtain rfl : k = i := by omega
          exact ⟨x, HX.out, hp, HA.out⟩
      · simp only [Bool.not_eq_true] at hp
        go_wp2
        go_roundw
        case rel => exact ⟨k + 1, by omega, by go_num, by rw [take_get HX.out, List.any_append, HA.out]; simp [hp], hb2⟩
        case measure => simp [intOf]; omega
    · obtain rfl : k = xs.length := by omega
      rw [List.take_length] at hany
      have HA := Lib.hid hany; clear hany
      go_wp2
      go_ret
      exact ⟨⟨_, rfl, by rw [HA.out]; simp, fun i hi => by omega⟩, hb⟩

set_option maxRecDepth 100000 in
theorem containsFunc_chans (F : FuncId) (capd : Array Value) (p : Chan → Bool) (ao : Option Addr) (xs : List Chan) (cap : Nat) (w : World) (hc : Cells w ao (chs xs)) (hl : xs.length ≤ 9223372036854775807)
    (hcf : ∀ (vs : Array Value) (wx : World), Sem.run Tryz.prog (callFunc F vs) wx = .ok (.enter F vs) wx)
    (hF : ∀ x wx, x ∈ xs → Below w.heap.size w wx → Calls Tryz.prog F (#[.agg #[.string x.name, .int .i64 x.rate, .int .i64 x.bits]] ++ capd) wx fun e w' => e = .returned (.bool (p x)) ∧ Below wx.heap.size wx w') :
    Calls Tryz.prog 214 #[.slice ao xs.length cap, .func (.func F) #[] capd] w fun e w' => e = .returned (.bool (xs.any p)) ∧ Below w.heap.size w w' := by
  have HC := Lib.hid hc; clear hc
  have HF := Lib.hid hF; clear hF
  have HCF := Lib.hid hcf; clear hcf
  go_enter Tryz.func214, Tryz.ntmps214
  go_wp2_with fail
  refine (indexFunc_chans F capd p ao xs cap w HC.out hl HCF.out HF.out).mono ?_
  rintro e w1 ⟨⟨r, rfl, hr, _⟩, hb⟩
  have HR := Lib.hid hr; clear hr
  go_wp2
  go_ret
  exact ⟨ret_bool (by rw [Bool.eq_iff_iff, decide_eq_true_iff]; exact HR.out), hb⟩

/-- have two channels the same name? -/
def sameName (a b : ByteArray) : Bool := a.toList == b.toList

theorem checkBook1_any (x : Chan) (bc : Nat) (t : ByteArray) (w : World) (hc : w.cell? ⟨bc, 0, none⟩ = some (.string t)) :
    Calls Tryz.prog 215 #[.agg #[.string x.name, .int .i64 x.rate, .int .i64 x.bits], .pointer (some ⟨bc, 0, none⟩)] w fun e w' => e = .returned (.bool (sameName x.name t)) ∧ Below w.heap.size w w' := by
  have hc1 := cell_keep hc ((Below.refl _ _).alloc (Nat.le_refl _) (.cells #[.string x.name, .int .i64 x.rate, .int .i64 x.bits] 172)) (Nat.le_refl _)
  go_enter Tryz.func215, Tryz.ntmps215
  go_wp2
  go_ret
  exact ⟨rfl, (Below.refl _ _).alloc (Nat.le_refl _) _⟩
end Go.Proofs.YtmafjfhnejeogaaGreatDoor
