/- Codes: the writer is a sink. -/
import Derived.Test.YtoochleabcjljaaDoorE4
import Derived.Test.YtoochleabcjljaaDoorSb
namespace Go.Proofs.YtoochleabcjljaaDoor
open Go.RowKit

theorem binL_get (n : Int) : ∀ (k j : Nat), j < k → (binL n k)[k - 1 - j]? = some (n / 2 ^ j % 2).toNat := by
  intro k
  induction k with
  | zero => intro j hj; omega
  | succ k ih =>
    intro j hj
    by_cases h : j = k
    · subst h; simp [binL]
    · have e : k + 1 - 1 - j = (k - 1 - j) + 1 := by omega
      rw [e, binL, List.getElem?_cons_succ]; exact ih j (by omega)
theorem binL_bits (n : Int) (k : Nat) : ∀ b ∈ binL n k, b ≤ 1 := by
  induction k with
  | zero => intro b hb; simp [binL] at hb
  | succ k ih =>
    intro b hb
    rcases List.mem_cons.1 hb with rfl | hb
    · omega
    · exact ih b hb

/-- a writer at block bW that has written bs -/
def WrS (B bW : Nat) (S : Nat → Prop) (w : World) (bs : List Nat) : Prop :=
  B ≤ bW ∧ (∀ b ∈ bs, b ≤ 1) ∧ ∃ v, w.heap[bW]? = some (.cells #[v, .int .i64 (freeOf bs.length : Nat)] 91 (0, 0)) ∧ w.ownsRow B 5 1 v (octs bs).length (bys (octs bs)) ∧ v.ownBlock ≠ some bW ∧ ∀ k, S k → k < w.heap.size ∧ k ≠ bW ∧ v.ownBlock ≠ some k

theorem grown_set (w : World) (p : Addr) (u : Value) : w.grownBy (w.setCell p u) (some p.block) :=
  ⟨rfl, rfl, rfl, by simp [World.setCell], fun k _ hk => Below.heap_setCell _ _ _ _ (fun e => hk (by rw [e]))⟩
theorem own_set_other {w : World} {B : Nat} {e : TypeId} {s : Nat} {v : Value} {n : Nat} {xs : List Value} (h : w.ownsRow B e s v n xs) {p : Addr} {u : Value} (hp : v.ownBlock ≠ some p.block) : (w.setCell p u).ownsRow B e s v n xs :=
  h.kept (grown_set w p u) (.inr hp)
theorem heap_set0 {w : World} {b : Nat} {a c u : Value} {T : TypeId} (h : w.heap[b]? = some (.cells #[a, c] T (0, 0))) : (w.setCell ⟨b, 0, none⟩ u).heap[b]? = some (.cells #[u, c] T (0, 0)) := by
  rw [heap_setCell_same w b 0 _ _ u h]; rfl
theorem heap_set1 {w : World} {b : Nat} {a c u : Value} {T : TypeId} (h : w.heap[b]? = some (.cells #[a, c] T (0, 0))) : (w.setCell ⟨b, 1, none⟩ u).heap[b]? = some (.cells #[a, u] T (0, 0)) := by
  rw [heap_setCell_same w b 1 _ _ u h]; rfl
theorem KeepS.set {S : Nat → Prop} {B : Nat} {a w : World} (h : KeepS S B a w) {p : Addr} {u : Value} (hB : B ≤ p.block) (hS : ∀ k, S k → k ≠ p.block) : KeepS S B a (w.setCell p u) :=
  h.trans ⟨(Below.refl _ _).setCell hB _, fun k hk => Below.heap_setCell _ _ _ _ (hS k hk)⟩

theorem WrS.size {B bW : Nat} {S : Nat → Prop} {w : World} {bs : List Nat} (h : WrS B bW S w bs) : B ≤ w.heap.size := by
  obtain ⟨h1, _, v, h2, _⟩ := h
  have := heap_lt h2; omega

set_option maxRecDepth 100000 in
set_option maxHeartbeats 2000000 in
theorem writer_put (B bW : Nat) (S : Nat → Prop) (bs : List Nat) (n : Int) (k : Nat) (w : World) (h : WrS B bW S w bs) (hn0 : 0 ≤ n) (hn1 : n ≤ 4294967295) (hk : k ≤ 32) (hbs : bs.length ≤ 1099511627776) :
    Calls Tryd.prog 46 #[.pointer (some ⟨bW, 0, none⟩), .int .i64 n, .int .i64 (k : Nat)] w fun e w' => e = .returned (.tuple #[]) ∧ WrS B bW S w' (bs ++ binL n k) ∧ KeepS S B w w' := by
  have H := Lib.hid h; clear h
  obtain ⟨i0, hi, hz0, hz1, hz2⟩ := info_parts Tryd.infoByte
  go_enter Tryd.func46, Tryd.ntmps46
  go_wp2
  go_loopw [6] (fun i wr => ∃ j : Nat, j ≤ k ∧ i = .int .i64 ((j : Int) - 1) ∧ WrS B bW S wr (bs ++ (binL n k).take (k - j)) ∧ KeepS S B w wr) (fun i _ => (intOf i + 1).toNat)
  case atStart => exact ⟨k, Nat.le_refl _, rfl, by simpa using H.out, KeepS.refl _ _ _⟩
  case round =>
    obtain ⟨j, hj, rfl, hw, hks⟩ := hrel
    by_cases h0 : j = 0
    · subst h0
      rw [Nat.sub_zero, List.take_of_length_le (by rw [binL_length]; omega)] at hw
      have HW := Lib.hid hw; clear hw
      go_wp2
      go_end0
      exact ⟨rfl, HW.out, hks⟩
    · obtain ⟨q, rfl⟩ : ∃ q, j = q + 1 := ⟨j - 1, by omega⟩
      have e1 : (((q + 1 : Nat) : Int) - 1) = (q : Int) := by omega
      rw [e1]
      have hget := binL_get n k q (by omega)
      have hnext : bs ++ (binL n k).take (k - q) = (bs ++ (binL n k).take (k - (q + 1))) ++ [(n / 2 ^ q % 2).toNat] := by
        rw [show k - q = (k - (q + 1)) + 1 from by omega, take_get (show (binL n k)[k - (q + 1)]? = _ from by rw [show k - (q + 1) = k - 1 - q from by omega]; exact hget), List.append_assoc]
      have hlenc : (bs ++ (binL n k).take (k - (q + 1))).length ≤ 1099511627776 + 32 := by
        rw [List.length_append, List.length_take, binL_length]; omega
      have HNX := Lib.hid hnext
      clear hnext hget e1
      generalize bs ++ (binL n k).take (k - (q + 1)) = cs at *
      obtain ⟨b, hbdef⟩ : ∃ b, b = (n / 2 ^ q % 2).toNat := ⟨_, rfl⟩
      rw [← hbdef] at HNX
      have hb1 : b ≤ 1 := by omega
      have hx0 : 0 ≤ n / 2 ^ q := Int.ediv_nonneg hn0 (Int.le_of_lt (Int.pow_pos (by decide)))
      have hx1 : n / 2 ^ q ≤ 4294967295 := by have := Int.ediv_le_self (2 ^ q) hn0; omega
      have hand : bits BinOp.and IntKind.i64 (n / 2 ^ q) 1 = (b : Int) := by rw [bit_and hx0 hx1, hbdef]; omega
      have hcv : IntKind.u8.wrap (b : Int) = (b : Int) := IntWalk.u8_in _ (by omega)
      have hmq : min q 64 = q := by omega
      clear hbdef
      obtain ⟨hB, hbits, v, hbk, hown, hne, hS⟩ := hw
      have hok := octs_ok cs hbits
      have hol := octs_len cs
      have hol2 : (octs cs).length ≤ 137438953480 := by omega
      have HOL := Lib.hid hol; clear hol
      obtain ⟨g, cg, hv⟩ : ∃ g cg, v = .slice g (octs cs).length cg := by
        obtain ⟨a, c, h, _⟩ := own_cells hown; exact ⟨a, c, h⟩
      have c0 : wr.cell? ⟨bW, 0, none⟩ = some v := by rw [Lib.cell_of_heap hbk]; rfl
      have c1 : wr.cell? ⟨bW, 1, none⟩ = some (.int .i64 (freeOf cs.length : Nat)) := by rw [Lib.cell_of_heap hbk]; rfl
      have f0 : wr.frozen? ⟨bW, 0, none⟩ = false := Lib.frozen_of_heap hbk 0
      have f1 : wr.frozen? ⟨bW, 1, none⟩ = false := Lib.frozen_of_heap hbk 1
      by_cases hm : cs.length % 8 = 0
      · have hfr : freeOf cs.length = 0 := by unfold freeOf; omega
        rw [hfr] at c1 hbk
        subst hv
        have hnx2 : octs (cs ++ [b]) = octs cs ++ [b * 128] := by rw [octs_snoc, pushBit, if_pos hm]
        have hfr2 : freeOf (cs ++ [b]).length = 7 := by unfold freeOf; rw [List.length_append, List.length_singleton]; omega
        have hsz := hks.below.size
        have hszB : B ≤ wr.heap.size := by have := heap_lt hbk; omega
        have HNX2 := Lib.hid hnx2; have HFR2 := Lib.hid hfr2; have HO := Lib.hid hown; have HS := Lib.hid hS; have HBK := Lib.hid hbk; have HNE := Lib.hid hne; have HB2 := Lib.hid hbits
        clear hnx2 hfr2 hS hbk hok hbits hfr
        go_wp2_with (at_builtin; refine wpList_append_lies _ rfl _ _ _ rfl B 5 i0 (.int .u8 0) 1 1 Tryd.underlying64 hi hz0 hz1 hz2 rfl (by decide) _ _ _ rfl (hown.alloc _) ⟨wr.heap.size, 0, none⟩ 1 1 [.int .u8 0] rfl rfl (news1 _ _ _) (by simp [Value.oneCell']) (by omega) (by unfold maxLen; omega) (by omega) (by simp; omega) (wr.heap.size + 1) (by simp) ?_)
        intro g1 cg1 w1 hown1 hgrow hat hlt1
        have hbW : bW < wr.heap.size := heap_lt HBK.out
        have hbk1 : w1.heap[bW]? = some (.cells #[.slice g (octs cs).length cg, .int .i64 0] 91 (0, 0)) := by
          rw [hgrow.block bW (by simp; omega) (fun e => HNE.out e.symm), Below.heap_alloc _ _ _ hbW]; exact HBK.out
        have hg1 : g1 ≠ bW := by
          rintro rfl
          rcases hown1.2 with ⟨h, _⟩ | ⟨g2, cg2, cur, h, _, hh, _⟩
          · simp at h
          · simp at h; obtain ⟨rfl, rfl⟩ := h; rw [hbk1] at hh; simp at hh
        have d0 : w1.cell? ⟨bW, 0, none⟩ = some (.slice g (octs cs).length cg) := by rw [Lib.cell_of_heap hbk1]; rfl
        have d1 : w1.cell? ⟨bW, 1, none⟩ = some (.int .i64 0) := by rw [Lib.cell_of_heap hbk1]; rfl
        have e0 : w1.frozen? ⟨bW, 0, none⟩ = false := Lib.frozen_of_heap hbk1 0
        have e1 : w1.frozen? ⟨bW, 1, none⟩ = false := Lib.frozen_of_heap hbk1 1
        have HAT := Lib.hid hat; clear hat hlt1
        have HO1 := Lib.hid hown1; have HG := Lib.hid hgrow; have HK1 := Lib.hid hbk1
        clear hown1 hgrow hbk1 hown c0 c1 f0 f1
        go_wp2
        have hbB : B ≤ bW := hB
        have hz1 := heap_set1 (u := .int .i64 7) (heap_set1 (u := .int .i64 8) (heap_set0 (u := .slice (some ⟨g1, 0, none⟩) ((octs cs).length + 1) cg1) HK1.out))
        have hz2 := own_set_other (p := ⟨bW, 1, none⟩) (u := .int .i64 7) (own_set_other (p := ⟨bW, 1, none⟩) (u := .int .i64 8) (own_set_other (p := ⟨bW, 0, none⟩) (u := .slice (some ⟨g1, 0, none⟩) ((octs cs).length + 1) cg1) HO1.out (by simpa [Value.ownBlock] using hg1)) (by simpa [Value.ownBlock] using hg1)) (by simpa [Value.ownBlock] using hg1)
        have hks1 : KeepS S B w w1 := hks.trans ⟨((Below.refl _ _).alloc hszB _).grown HG.out (by simp; omega) (fun j e => (HO.out.lt j e).1), fun j hj => by
          have := HS.out j hj
          rw [HG.out.block j (by simp; omega) (fun e => this.2.2 e.symm), Below.heap_alloc _ _ _ this.1]⟩
        have hz4 := ((hks1.set (p := ⟨bW, 0, none⟩) (u := .slice (some ⟨g1, 0, none⟩) ((octs cs).length + 1) cg1) hbB (fun k hk => (HS.out k hk).2.1)).set (p := ⟨bW, 1, none⟩) (u := .int .i64 8) hbB (fun k hk => (HS.out k hk).2.1)).set (p := ⟨bW, 1, none⟩) (u := .int .i64 7) hbB (fun k hk => (HS.out k hk).2.1)
        have hz3 : ∀ k, S k → k < (((w1.setCell ⟨bW, 0, none⟩ (.slice (some ⟨g1, 0, none⟩) ((octs cs).length + 1) cg1)).setCell ⟨bW, 1, none⟩ (.int .i64 8)).setCell ⟨bW, 1, none⟩ (.int .i64 7)).heap.size ∧ k ≠ bW ∧ g1 ≠ k := by
          intro j hj
          obtain ⟨s1, s2, s3⟩ := HS.out j hj
          refine ⟨by have := HG.out.size; simp at this ⊢; omega, s2, ?_⟩
          rintro rfl
          rcases HAT.out with h | h
          · exact s3 h
          · omega
        generalize (((w1.setCell ⟨bW, 0, none⟩ (.slice (some ⟨g1, 0, none⟩) ((octs cs).length + 1) cg1)).setCell ⟨bW, 1, none⟩ (.int .i64 8)).setCell ⟨bW, 1, none⟩ (.int .i64 7)) = wz at *
        obtain ⟨ds, hdsd⟩ : ∃ ds, ds = octs cs ++ [0] := ⟨_, rfl⟩
        obtain ⟨N, hN⟩ : ∃ N, N = (octs cs).length + 1 := ⟨_, rfl⟩
        obtain ⟨f, hf⟩ : ∃ f, f = 7 := ⟨_, rfl⟩
        have hNd : N = ds.length := by rw [hdsd, hN]; simp
        have hN1 : 1 ≤ N := by omega
        have hN2 : N ≤ 137438953481 := by omega
        have hf7 : f ≤ 7 := by omega
        have hds : ∀ d ∈ ds, d < 256 := by
          rw [hdsd]; intro d hd
          rcases List.mem_append.1 hd with h | h
          · exact (octs_ok cs HB2.out).1 d h
          · simp at h; omega
        have hdm : ds.getD (N - 1) 0 % 2 ^ (f + 1) = 0 := by
          rw [hdsd, hN, Nat.add_sub_cancel, List.getD_eq_getElem?_getD, List.getElem?_append_right (Nat.le_refl _), Nat.sub_self]; simp
        have hfin : ∀ {x}, ds[N - 1]? = some x → octs (cs ++ [b]) = ds.set (N - 1) (x + b * 2 ^ f) := by
          intro x hx
          rw [hdsd, hN, Nat.add_sub_cancel] at hx ⊢
          rw [List.getElem?_append_right (Nat.le_refl _), Nat.sub_self] at hx
          simp at hx; subst hx
          rw [HNX2.out, List.set_append_right _ _ (Nat.le_refl _), Nat.sub_self, hf]; simp
        have hfrf : freeOf (cs ++ [b]).length = f := by rw [HFR2.out, hf]
        have e7 : (7 : Int) = (f : Nat) := by omega
        rw [e7] at hz1
        rw [← hN] at hz1 hz2
        have hz2' : wz.ownsRow B 5 1 (.slice (some ⟨g1, 0, none⟩) N cg1) N (bys ds) := by rw [hdsd, bys_append]; exact hz2
        clear hz2
        have hz2 := hz2'
        rw [e7, ← hN]
        clear hz2' e7 hdsd hN hf d0 d1 e0 e1
        obtain ⟨x, hx⟩ := get_of_lt (show N - 1 < ds.length by omega)
        have hx256 := hds x (List.mem_of_getElem? hx)
        have hxm : x % 2 ^ (f + 1) = 0 := by
          have := hdm
          rw [List.getD_eq_getElem?_getD, hx] at this; exact this
        have ho := or_add x f b hx256 hf7 hb1 hxm
        have d0 : wz.cell? ⟨bW, 0, none⟩ = some (.slice (some ⟨g1, 0, none⟩) N cg1) := by rw [Lib.cell_of_heap hz1]; rfl
        have d1 : wz.cell? ⟨bW, 1, none⟩ = some (.int .i64 (f : Nat)) := by rw [Lib.cell_of_heap hz1]; rfl
        have d2 : wz.cell? ⟨g1, N - 1, none⟩ = some (.int .u8 (x : Nat)) := by rw [hz2.cellAt (N - 1) (by omega)]; exact bys_get hx
        have e2 := hz2.frozenAt (N - 1)
        have hsto := (hz2.stored (N - 1) (.int .u8 ((x + b * 2 ^ f : Nat) : Int))).1
        rw [show (bys ds).set (N - 1) (.int .u8 ((x + b * 2 ^ f : Nat) : Int)) = bys (ds.set (N - 1) (x + b * 2 ^ f)) from by rw [bys, bys, List.map_set]] at hsto
        have hgB : B ≤ g1 := (hz2.lt g1 rfl).1
        have hbk2 : (wz.setCell ⟨g1, N - 1, none⟩ (.int .u8 ((x + b * 2 ^ f : Nat) : Int))).heap[bW]? = some (.cells #[.slice (some ⟨g1, 0, none⟩) N cg1, .int .i64 (f : Nat)] 91 (0, 0)) := by
          rw [Below.heap_setCell _ _ _ _ (fun e => hg1 e.symm)]; exact hz1
        have hksz := hz4.set (p := ⟨g1, N - 1, none⟩) (u := .int .u8 ((x + b * 2 ^ f : Nat) : Int)) hgB (fun k hk e => (hz3 k hk).2.2 e.symm)
        have hfinal : WrS B bW S (wz.setCell ⟨g1, N - 1, none⟩ (.int .u8 ((x + b * 2 ^ f : Nat) : Int))) (cs ++ [b]) := by
          refine ⟨hB, ?_, .slice (some ⟨g1, 0, none⟩) N cg1, by rw [hfrf]; exact hbk2, ?_, by simpa [Value.ownBlock] using hg1, fun k hk => ?_⟩
          · intro y hy
            rcases List.mem_append.1 hy with h | h
            · exact HB2.out y h
            · simp at h; omega
          · rw [hfin hx, List.length_set, ← hNd]; exact hsto
          · have := hz3 k hk; exact ⟨by simpa [World.setCell] using this.1, this.2.1, by simpa [Value.ownBlock] using this.2.2⟩
        have HF := Lib.hid hfinal; have HKS := Lib.hid hksz
        have HOR : Hid (bits BinOp.or IntKind.u8 (x : Int) ((b : Int) * 2 ^ f) = ((x + b * 2 ^ f : Nat) : Int)) := by
          show _ = _
          rw [show (b : Int) * 2 ^ f = ((b * 2 ^ f : Nat) : Int) from by simp]; exact ho
        have t1 : IntKind.i64.wrap ((N : Int) - 1) = (N : Int) - 1 := IntWalk.i64_in _ (by omega)
        have t2 : ((N : Int) - 1).toNat = N - 1 := by omega
        have t3 : (0 : Int) ≤ (N : Int) - 1 := by omega
        have t4 : (N : Int) - 1 < (N : Int) := by omega
        have t7 : (1 : Int) ≤ (N : Int) := by omega
        have t8 : (0 : Int) < (N : Int) := by omega
        have t5 : min f 8 = f := by omega
        have t6 : IntKind.u8.wrap ((b : Int) * 2 ^ f) = ((b * 2 ^ f : Nat) : Int) := by
          have h9 : b * 2 ^ f ≤ 1 * 2 ^ f := Nat.mul_le_mul_right _ hb1
          have h10 : 2 ^ f ≤ 2 ^ 7 := Nat.pow_le_pow_right (by decide) hf7
          rw [show (b : Int) * 2 ^ f = ((b * 2 ^ f : Nat) : Int) from by simp]
          exact IntWalk.u8_in _ (by omega)
        clear hx hxm hsto hz1 hz2 hz3 hz4 hbk2 hfinal hksz hds hdm hfin hNd hks
        go_still_tail 24, (by kernel_rfl)
        change wpList _ _ _ _ _ wz.drew
        have d2d : wz.drew.cell? ⟨g1, N - 1, none⟩ = some (.int .u8 (x : Nat)) := d2
        have e2d : wz.drew.frozen? ⟨g1, N - 1, none⟩ = false := e2
        have HFd : Hid (WrS B bW S (wz.drew.setCell ⟨g1, N - 1, none⟩ (.int .u8 ((x + b * 2 ^ f : Nat) : Int))) (cs ++ [b])) := HF.out
        have HKSd : Hid (KeepS S B w (wz.drew.setCell ⟨g1, N - 1, none⟩ (.int .u8 ((x + b * 2 ^ f : Nat) : Int)))) := ⟨⟨HKS.out.below.os, HKS.out.below.tape, HKS.out.below.output, HKS.out.below.size, HKS.out.below.block⟩, HKS.out.same⟩
        clear t1 t2 t3 t4 t5 t6 t7 t8 d0 d1 d2 e2 HF HKS ho
        generalize wz.drew = wd at *
        go_wp2
        go_roundw
        case rel => exact ⟨q, by omega, by go_num, by rw [HNX.out, HOR.out]; exact HFd.out, by rw [HOR.out]; exact HKSd.out⟩
        case measure => simp [intOf]
      · have hfr : freeOf cs.length = 8 - cs.length % 8 := by unfold freeOf; omega
        have hmlt : cs.length % 8 < 8 := Nat.mod_lt _ (by decide)
        obtain ⟨f, hf⟩ : ∃ f, f = 7 - cs.length % 8 := ⟨_, rfl⟩
        have hfr1 : freeOf cs.length = f + 1 := by omega
        rw [hfr1] at c1 hbk
        have hne1 : (((f + 1 : Nat) : Int) == 0) = false := by rw [beq_eq_false_iff_ne]; omega
        have hf7 : f ≤ 7 := by omega
        obtain ⟨g1, cg1, hv1⟩ : ∃ g1 cg1, v = .slice (some ⟨g1, 0, none⟩) (octs cs).length cg1 := by
          rcases hown.2 with ⟨_, h⟩ | ⟨g1, cg1, _, h, _⟩
          · have := HOL.out; omega
          · exact ⟨g1, cg1, h⟩
        clear hv
        subst hv1
        have hg1 : g1 ≠ bW := by simpa [Value.ownBlock] using hne
        have hbB : B ≤ bW := hB
        have HS := Lib.hid hS
        have e8 : (((f + 1 : Nat) : Int) - 1) = (f : Int) := by omega
        have e9 : ((f : Int) + 1 - 1) = (f : Int) := by omega
        have hnat : ((f + 1 : Nat) : Int) = (f : Int) + 1 := by omega
        rw [hnat] at c1 hbk hne1
        have hz1 := heap_set1 (u := .int .i64 (f : Nat)) hbk
        have hz2 := own_set_other (p := ⟨bW, 1, none⟩) (u := .int .i64 (f : Nat)) hown (by simpa [Value.ownBlock] using hg1)
        have hz4 := hks.set (p := ⟨bW, 1, none⟩) (u := .int .i64 (f : Nat)) hbB (fun k hk => (hS k hk).2.1)
        have hz3 : ∀ k, S k → k < (wr.setCell ⟨bW, 1, none⟩ (.int .i64 (f : Nat))).heap.size ∧ k ≠ bW ∧ g1 ≠ k := by
          intro j hj
          obtain ⟨s1, s2, s3⟩ := hS j hj
          exact ⟨by simpa [World.setCell] using s1, s2, by simpa [Value.ownBlock] using s3⟩
        have hdm0 := hok.2 hm
        have HB2 := Lib.hid hbits; have HOK := Lib.hid hok.1
        have HZ1 := Lib.hid hz1; have HZ2 := Lib.hid hz2; have HZ3 := Lib.hid hz3; have HZ4 := Lib.hid hz4; have HDM := Lib.hid hdm0
        clear hS hbk hok hbits hz1 hz2 hz3 hz4 hdm0 hown e8 e9 hnat hne hfr hfr1
        have HFF := Lib.hid hf; clear hf
        go_wp2
        have hz1 := HZ1.out
        have hz2 := HZ2.out
        have hz3 := HZ3.out
        have hz4 := HZ4.out
        clear HZ1 HZ2 HZ3 HZ4 c0 c1 f0 f1
        generalize wr.setCell ⟨bW, 1, none⟩ (.int .i64 (f : Nat)) = wz at *
        obtain ⟨ds, hdsd⟩ : ∃ ds, ds = octs cs := ⟨_, rfl⟩
        obtain ⟨N, hN⟩ : ∃ N, N = (octs cs).length := ⟨_, rfl⟩
        have hNd : N = ds.length := by rw [hdsd, hN]
        have hN1 : 1 ≤ N := by have := HOL.out; omega
        have hN2 : N ≤ 137438953481 := by omega
        have hds : ∀ d ∈ ds, d < 256 := by rw [hdsd]; exact HOK.out
        have hdm : ds.getD (N - 1) 0 % 2 ^ (f + 1) = 0 := by
          rw [hdsd, hN, show f + 1 = 8 - cs.length % 8 from by have := HFF.out; omega]; exact HDM.out
        have hfin : ∀ {x}, ds[N - 1]? = some x → octs (cs ++ [b]) = ds.set (N - 1) (x + b * 2 ^ f) := by
          intro x hx
          rw [hdsd, hN] at hx ⊢
          rw [octs_snoc, pushBit, if_neg hm, HFF.out, List.getD_eq_getElem?_getD, hx]; rfl
        have hfrf : freeOf (cs ++ [b]).length = f := by unfold freeOf; rw [List.length_append, List.length_singleton, HFF.out]; omega
        rw [← hN] at hz1 hz2
        rw [← hdsd] at hz2
        clear hdsd hN
        obtain ⟨x, hx⟩ := get_of_lt (show N - 1 < ds.length by omega)
        have hx256 := hds x (List.mem_of_getElem? hx)
        have hxm : x % 2 ^ (f + 1) = 0 := by
          have := hdm
          rw [List.getD_eq_getElem?_getD, hx] at this; exact this
        have ho := or_add x f b hx256 hf7 hb1 hxm
        have d0 : wz.cell? ⟨bW, 0, none⟩ = some (.slice (some ⟨g1, 0, none⟩) N cg1) := by rw [Lib.cell_of_heap hz1]; rfl
        have d1 : wz.cell? ⟨bW, 1, none⟩ = some (.int .i64 (f : Nat)) := by rw [Lib.cell_of_heap hz1]; rfl
        have d2 : wz.cell? ⟨g1, N - 1, none⟩ = some (.int .u8 (x : Nat)) := by rw [hz2.cellAt (N - 1) (by omega)]; exact bys_get hx
        have e2 := hz2.frozenAt (N - 1)
        have hsto := (hz2.stored (N - 1) (.int .u8 ((x + b * 2 ^ f : Nat) : Int))).1
        rw [show (bys ds).set (N - 1) (.int .u8 ((x + b * 2 ^ f : Nat) : Int)) = bys (ds.set (N - 1) (x + b * 2 ^ f)) from by rw [bys, bys, List.map_set]] at hsto
        have hgB : B ≤ g1 := (hz2.lt g1 rfl).1
        have hbk2 : (wz.setCell ⟨g1, N - 1, none⟩ (.int .u8 ((x + b * 2 ^ f : Nat) : Int))).heap[bW]? = some (.cells #[.slice (some ⟨g1, 0, none⟩) N cg1, .int .i64 (f : Nat)] 91 (0, 0)) := by
          rw [Below.heap_setCell _ _ _ _ (fun e => hg1 e.symm)]; exact hz1
        have hksz := hz4.set (p := ⟨g1, N - 1, none⟩) (u := .int .u8 ((x + b * 2 ^ f : Nat) : Int)) hgB (fun k hk e => (hz3 k hk).2.2 e.symm)
        have hfinal : WrS B bW S (wz.setCell ⟨g1, N - 1, none⟩ (.int .u8 ((x + b * 2 ^ f : Nat) : Int))) (cs ++ [b]) := by
          refine ⟨hB, ?_, .slice (some ⟨g1, 0, none⟩) N cg1, by rw [hfrf]; exact hbk2, ?_, by simpa [Value.ownBlock] using hg1, fun k hk => ?_⟩
          · intro y hy
            rcases List.mem_append.1 hy with h | h
            · exact HB2.out y h
            · simp at h; omega
          · rw [hfin hx, List.length_set, ← hNd]; exact hsto
          · have := hz3 k hk; exact ⟨by simpa [World.setCell] using this.1, this.2.1, by simpa [Value.ownBlock] using this.2.2⟩
        have HF := Lib.hid hfinal; have HKS := Lib.hid hksz
        have HOR : Hid (bits BinOp.or IntKind.u8 (x : Int) ((b : Int) * 2 ^ f) = ((x + b * 2 ^ f : Nat) : Int)) := by
          show _ = _
          rw [show (b : Int) * 2 ^ f = ((b * 2 ^ f : Nat) : Int) from by simp]; exact ho
        have t1 : IntKind.i64.wrap ((N : Int) - 1) = (N : Int) - 1 := IntWalk.i64_in _ (by omega)
        have t2 : ((N : Int) - 1).toNat = N - 1 := by omega
        have t3 : (0 : Int) ≤ (N : Int) - 1 := by omega
        have t4 : (N : Int) - 1 < (N : Int) := by omega
        have t7 : (1 : Int) ≤ (N : Int) := by omega
        have t8 : (0 : Int) < (N : Int) := by omega
        have t5 : min f 8 = f := by omega
        have t6 : IntKind.u8.wrap ((b : Int) * 2 ^ f) = ((b * 2 ^ f : Nat) : Int) := by
          have h9 : b * 2 ^ f ≤ 1 * 2 ^ f := Nat.mul_le_mul_right _ hb1
          have h10 : 2 ^ f ≤ 2 ^ 7 := Nat.pow_le_pow_right (by decide) hf7
          rw [show (b : Int) * 2 ^ f = ((b * 2 ^ f : Nat) : Int) from by simp]
          exact IntWalk.u8_in _ (by omega)
        clear hx hxm hsto hz1 hz2 hz3 hz4 hbk2 hfinal hksz hds hdm hfin hNd hks
        go_still_tail 24, (by kernel_rfl)
        change wpList _ _ _ _ _ wz.drew
        have d2d : wz.drew.cell? ⟨g1, N - 1, none⟩ = some (.int .u8 (x : Nat)) := d2
        have e2d : wz.drew.frozen? ⟨g1, N - 1, none⟩ = false := e2
        have HFd : Hid (WrS B bW S (wz.drew.setCell ⟨g1, N - 1, none⟩ (.int .u8 ((x + b * 2 ^ f : Nat) : Int))) (cs ++ [b])) := HF.out
        have HKSd : Hid (KeepS S B w (wz.drew.setCell ⟨g1, N - 1, none⟩ (.int .u8 ((x + b * 2 ^ f : Nat) : Int)))) := ⟨⟨HKS.out.below.os, HKS.out.below.tape, HKS.out.below.output, HKS.out.below.size, HKS.out.below.block⟩, HKS.out.same⟩
        clear t1 t2 t3 t4 t5 t6 t7 t8 d0 d1 d2 e2 HF HKS ho
        generalize wz.drew = wd at *
        go_wp2
        go_roundw
        case rel => exact ⟨q, by omega, by go_num, by rw [HNX.out, HOR.out]; exact HFd.out, by rw [HOR.out]; exact HKSd.out⟩
        case measure => simp [intOf]
end Go.Proofs.YtoochleabcjljaaDoor
