/- Parts of a proof, in build order: E5, E6, E7, E8, E9, F0, R1, R2, F1. -/
import Derived.Test.YtdpjdifoonfcdaaGreatDoorKr16
import Derived.RangeFuncNested
import Derived.RangeFuncBound
import Derived.RangeFuncCalls
import Derived.RangeFuncLeaves
import Derived.Shelf.Abstract
import Derived.Shelf.RegionOpen
import Derived.WalkKit
import Derived.OwnWalkIn
import Derived.TacticsInMore
import Derived.LoopNIn
import Derived.LoopIn

namespace Go.Proofs.YtdpjdifoonfcdaaGreatDoor
open Go.RowKit
theorem binL_get (n : Int) : ∀ (k j : Nat), j < k -> (binL n k)[k - 1 - j]? = some (n / 2 ^ j % 2).toNat := by
 intro k
 induction k with
 | zero => intro j hj; omega
 | succ k ih =>
   intro j hj
   by_cases h : j = k
   · subst h; simp [binL]
   · have e : k + 1 - 1 - j = (k - 1 - j) + 1 := by omega
     rw [e, binL, List.getElem?_cons_succ]; exact ih j (by omega)
theorem binL_bits (n : Int) (k : Nat) : ∀ b ∈ binL n k, b <= 1 := by
 induction k with
 | zero => intro b hb; simp [binL] at hb
 | succ k ih =>
   intro b hb
   rcases List.mem_cons.1 hb with rfl | hb
   · omega
   · exact ih b hb
def WrS (B bW : Nat) (S : Nat -> Prop) (w : World) (bs : List Nat) : Prop :=
 B <= bW /\ (∀ b ∈ bs, b <= 1) /\ ∃ v, w.heap[bW]? = some (.cells #[v, .int .i64 (freeOf bs.length : Nat)] 277 (0, 0)) /\ w.ownsRow B 5 1 v (octs bs).length (bys (octs bs)) /\ v.ownBlock ≠ some bW /\ ∀ k, S k -> k < w.heap.size /\ k ≠ bW /\ v.ownBlock ≠ some k
theorem grown_set (w : World) (p : Addr) (u : Value) : w.grownBy (w.setCell p u) (some p.block) :=
 ⟨rfl, rfl, rfl, by simp [World.setCell], fun k _ hk => Below.heap_setCell _ _ _ _ (fun e => hk (by rw [e]))⟩
theorem own_set_other {w : World} {B : Nat} {e : TypeId} {s : Nat} {v : Value} {n : Nat} {xs : List Value} (h : w.ownsRow B e s v n xs) {p : Addr} {u : Value} (hp : v.ownBlock ≠ some p.block) : (w.setCell p u).ownsRow B e s v n xs :=
 h.kept (grown_set w p u) (.inr hp)
theorem heap_set0 {w : World} {b : Nat} {a c u : Value} {T : TypeId} (h : w.heap[b]? = some (.cells #[a, c] T (0, 0))) : (w.setCell ⟨b, 0, none⟩ u).heap[b]? = some (.cells #[u, c] T (0, 0)) := by
 rw [heap_setCell_same w b 0 _ _ u h]; rfl
theorem heap_set1 {w : World} {b : Nat} {a c u : Value} {T : TypeId} (h : w.heap[b]? = some (.cells #[a, c] T (0, 0))) : (w.setCell ⟨b, 1, none⟩ u).heap[b]? = some (.cells #[a, u] T (0, 0)) := by
 rw [heap_setCell_same w b 1 _ _ u h]; rfl
theorem KeepS.set {S : Nat -> Prop} {B : Nat} {a w : World} (h : KeepS S B a w) {p : Addr} {u : Value} (hB : B <= p.block) (hS : ∀ k, S k -> k ≠ p.block) : KeepS S B a (w.setCell p u) :=
 h.trans ⟨(Below.refl _ _).setCell hB _, fun k hk => Below.heap_setCell _ _ _ _ (hS k hk)⟩
theorem WrS.size {B bW : Nat} {S : Nat -> Prop} {w : World} {bs : List Nat} (h : WrS B bW S w bs) : B <= w.heap.size := by
 obtain ⟨h1, _, v, h2, _⟩ := h
 have := heap_lt h2; omega
set_option maxRecDepth 100000 in
set_option maxHeartbeats 2000000 in
theorem writer_put (B bW : Nat) (S : Nat -> Prop) (bs : List Nat) (n : Int) (k : Nat) (w : World) (h : WrS B bW S w bs) (hn0 : 0 <= n) (hn1 : n <= 4294967295) (hk : k <= 32) (hbs : bs.length <= 1099511627776) :
 Calls Tryz.prog 180 #[.pointer (some ⟨bW, 0, none⟩), .int .i64 n, .int .i64 (k : Nat)] w fun e w' => e = .returned (.tuple #[]) /\ WrS B bW S w' (bs ++ binL n k) /\ KeepS S B w w' := by
 have H := Lib.hid h; clear h
 obtain ⟨i0, hi, hz0, hz1, hz2⟩ := info_parts Tryz.infoByte
 go_enter Tryz.func180, Tryz.ntmps180
 go_wp2
 go_loopw [6] (fun i wr => ∃ j : Nat, j <= k /\ i = .int .i64 ((j : Int) - 1) /\ WrS B bW S wr (bs ++ (binL n k).take (k - j)) /\ KeepS S B w wr) (fun i _ => (intOf i + 1).toNat)
 case atStart => exact ⟨k, Nat.le_refl _, rfl, by simpa using H.out, KeepS.refl _ _ _⟩
 case round =>
  obtain ⟨j, hj, rfl, hw, hks⟩ := hrel
  by_cases h0 : j = 0
  · subst h0
    rw [Nat.sub_zero, List.take_of_length_le (by rw [binL_length]; omega)] at hw
    have HW := Lib.hid hw; clear hw
    go_wp2
    go_end0
    exact ⟨rfl, HW.out, hks⟩
  · obtain ⟨q, rfl⟩ : ∃ q, j = q + 1 := ⟨j - 1, by omega⟩
    have e1 : (((q + 1 : Nat) : Int) - 1) = (q : Int) := by omega
    rw [e1]
    have hget := binL_get n k q (by omega)
    have hnext : bs ++ (binL n k).take (k - q) = (bs ++ (binL n k).take (k - (q + 1))) ++ [(n / 2 ^ q % 2).toNat] := by
     rw [show k - q = (k - (q + 1)) + 1 from by omega, take_get (show (binL n k)[k - (q + 1)]? = _ from by rw [show k - (q + 1) = k - 1 - q from by omega]; exact hget), List.append_assoc]
    have hlenc : (bs ++ (binL n k).take (k - (q + 1))).length <= 1099511627776 + 32 := by
     rw [List.length_append, List.length_take, binL_length]; omega
    have HNX := Lib.hid hnext
    clear hnext hget e1
    generalize bs ++ (binL n k).take (k - (q + 1)) = cs at *
    obtain ⟨b, hbdef⟩ : ∃ b, b = (n / 2 ^ q % 2).toNat := ⟨_, rfl⟩
    rw [<- hbdef] at HNX
    have hb1 : b <= 1 := by omega
    have hx0 : 0 <= n / 2 ^ q := Int.ediv_nonneg hn0 (Int.le_of_lt (Int.pow_pos (by decide)))
    have hx1 : n / 2 ^ q <= 4294967295 := by have := Int.ediv_le_self (2 ^ q) hn0; omega
    have hand : bits BinOp.and IntKind.i64 (n / 2 ^ q) 1 = (b : Int) := by rw [bit_and hx0 hx1, hbdef]; omega
    have hcv : IntKind.u8.wrap (b : Int) = (b : Int) := IntWalk.u8_in _ (by omega)
    have hmq : min q 64 = q := by omega
    clear hbdef
    obtain ⟨hB, hbits, v, hbk, hown, hne, hS⟩ := hw
    have hok := octs_ok cs hbits
    have hol := octs_len cs
    have hol2 : (octs cs).length <= 137438953480 := by omega
    have HOL := Lib.hid hol; clear hol
    obtain ⟨g, cg, hv⟩ : ∃ g cg, v = .slice g (octs cs).length cg := by
     obtain ⟨a, c, h, _⟩ := own_cells hown; exact ⟨a, c, h⟩
    have c0 : wr.cell? ⟨bW, 0, none⟩ = some v := by rw [Lib.cell_of_heap hbk]; rfl
    have c1 : wr.cell? ⟨bW, 1, none⟩ = some (.int .i64 (freeOf cs.length : Nat)) := by rw [Lib.cell_of_heap hbk]; rfl
    have f0 : wr.frozen? ⟨bW, 0, none⟩ = false := Lib.frozen_of_heap hbk 0
    have f1 : wr.frozen? ⟨bW, 1, none⟩ = false := Lib.frozen_of_heap hbk 1
    by_cases hm : cs.length % 8 = 0
    · have hfr : freeOf cs.length = 0 := by unfold freeOf; omega
      rw [hfr] at c1 hbk
      subst hv
      have hnx2 : octs (cs ++ [b]) = octs cs ++ [b * 128] := by rw [octs_snoc, pushBit, if_pos hm]
      have hfr2 : freeOf (cs ++ [b]).length = 7 := by unfold freeOf; rw [List.length_append, List.length_singleton]; omega
      have hsz := hks.below.size
      have hszB : B <= wr.heap.size := by have := heap_lt hbk; omega
      have HNX2 := Lib.hid hnx2; have HFR2 := Lib.hid hfr2; have HO := Lib.hid hown; have HS := Lib.hid hS; have HBK := Lib.hid hbk; have HNE := Lib.hid hne; have HB2 := Lib.hid hbits
      clear hnx2 hfr2 hS hbk hok hbits hfr
      go_wp2_with (at_builtin; refine wpList_append_lies _ rfl _ _ _ rfl B 5 i0 (.int .u8 0) 1 1 Tryz.underlying109 hi hz0 hz1 hz2 rfl (by decide) _ _ _ rfl (hown.alloc _) ⟨wr.heap.size, 0, none⟩ 1 1 [.int .u8 0] rfl rfl (news1 _ _ _) (by simp [Value.oneCell']) (by omega) (by unfold maxLen; omega) (by omega) (by simp; omega) (wr.heap.size + 1) (by simp) ?_)
      intro g1 cg1 w1 hown1 hgrow hat hlt1
      have hbW : bW < wr.heap.size := heap_lt HBK.out
      have hbk1 : w1.heap[bW]? = some (.cells #[.slice g (octs cs).length cg, .int .i64 0] 277 (0, 0)) := by
       rw [hgrow.block bW (by simp; omega) (fun e => HNE.out e.symm), Below.heap_alloc _ _ _ hbW]; exact HBK.out
      have hg1 : g1 ≠ bW := by
       rintro rfl
       rcases hown1.2 with ⟨h, _⟩ | ⟨g2, cg2, cur, h, _, hh, _⟩
       · simp at h
       · simp at h; obtain ⟨rfl, rfl⟩ := h; rw [hbk1] at hh; simp at hh
      have d0 : w1.cell? ⟨bW, 0, none⟩ = some (.slice g (octs cs).length cg) := by rw [Lib.cell_of_heap hbk1]; rfl
      have d1 : w1.cell? ⟨bW, 1, none⟩ = some (.int .i64 0) := by rw [Lib.cell_of_heap hbk1]; rfl
      have e0 : w1.frozen? ⟨bW, 0, none⟩ = false := Lib.frozen_of_heap hbk1 0
      have e1 : w1.frozen? ⟨bW, 1, none⟩ = false := Lib.frozen_of_heap hbk1 1
      have HAT := Lib.hid hat; clear hat hlt1
      have HO1 := Lib.hid hown1; have HG := Lib.hid hgrow; have HK1 := Lib.hid hbk1
      clear hown1 hgrow hbk1 hown c0 c1 f0 f1
      go_wp2
      have hbB : B <= bW := hB
      have hz1 := heap_set1 (u := .int .i64 7) (heap_set1 (u := .int .i64 8) (heap_set0 (u := .slice (some ⟨g1, 0, none⟩) ((octs cs).length + 1) cg1) HK1.out))
      have hz2 := own_set_other (p := ⟨bW, 1, none⟩) (u := .int .i64 7) (own_set_other (p := ⟨bW, 1, none⟩) (u := .int .i64 8) (own_set_other (p := ⟨bW, 0, none⟩) (u := .slice (some ⟨g1, 0, none⟩) ((octs cs).length + 1) cg1) HO1.out (by simpa [Value.ownBlock] using hg1)) (by simpa [Value.ownBlock] using hg1)) (by simpa [Value.ownBlock] using hg1)
      have hks1 : KeepS S B w w1 := hks.trans ⟨((Below.refl _ _).alloc hszB _).grown HG.out (by simp; omega) (fun j e => (HO.out.lt j e).1), fun j hj => by
       have := HS.out j hj
       rw [HG.out.block j (by simp; omega) (fun e => this.2.2 e.symm), Below.heap_alloc _ _ _ this.1]⟩
      have hz4 := ((hks1.set (p := ⟨bW, 0, none⟩) (u := .slice (some ⟨g1, 0, none⟩) ((octs cs).length + 1) cg1) hbB (fun k hk => (HS.out k hk).2.1)).set (p := ⟨bW, 1, none⟩) (u := .int .i64 8) hbB (fun k hk => (HS.out k hk).2.1)).set (p := ⟨bW, 1, none⟩) (u := .int .i64 7) hbB (fun k hk => (HS.out k hk).2.1)
      have hz3 : ∀ k, S k -> k < (((w1.setCell ⟨bW, 0, none⟩ (.slice (some ⟨g1, 0, none⟩) ((octs cs).length + 1) cg1)).setCell ⟨bW, 1, none⟩ (.int .i64 8)).setCell ⟨bW, 1, none⟩ (.int .i64 7)).heap.size /\ k ≠ bW /\ g1 ≠ k := by
       intro j hj
       obtain ⟨s1, s2, s3⟩ := HS.out j hj
       refine ⟨by have := HG.out.size; simp at this ⊢; omega, s2, ?_⟩
       rintro rfl
       rcases HAT.out with h | h
       · exact s3 h
       · omega
      generalize (((w1.setCell ⟨bW, 0, none⟩ (.slice (some ⟨g1, 0, none⟩) ((octs cs).length + 1) cg1)).setCell ⟨bW, 1, none⟩ (.int .i64 8)).setCell ⟨bW, 1, none⟩ (.int .i64 7)) = wz at *
      obtain ⟨ds, hdsd⟩ : ∃ ds, ds = octs cs ++ [0] := ⟨_, rfl⟩
      obtain ⟨N, hN⟩ : ∃ N, N = (octs cs).length + 1 := ⟨_, rfl⟩
      obtain ⟨f, hf⟩ : ∃ f, f = 7 := ⟨_, rfl⟩
      have hNd : N = ds.length := by rw [hdsd, hN]; simp
      have hN1 : 1 <= N := by omega
      have hN2 : N <= 137438953481 := by omega
      have hf7 : f <= 7 := by omega
      have hds : ∀ d ∈ ds, d < 256 := by
       rw [hdsd]; intro d hd
       rcases List.mem_append.1 hd with h | h
       · exact (octs_ok cs HB2.out).1 d h
       · simp at h; omega
      have hdm : ds.getD (N - 1) 0 % 2 ^ (f + 1) = 0 := by
       rw [hdsd, hN, Nat.add_sub_cancel, List.getD_eq_getElem?_getD, List.getElem?_append_right (Nat.le_refl _), Nat.sub_self]; simp
      have hfin : ∀ {x}, ds[N - 1]? = some x -> octs (cs ++ [b]) = ds.set (N - 1) (x + b * 2 ^ f) := by
       intro x hx
       rw [hdsd, hN, Nat.add_sub_cancel] at hx ⊢
       rw [List.getElem?_append_right (Nat.le_refl _), Nat.sub_self] at hx
       simp at hx; subst hx
       rw [HNX2.out, List.set_append_right _ _ (Nat.le_refl _), Nat.sub_self, hf]; simp
      have hfrf : freeOf (cs ++ [b]).length = f := by rw [HFR2.out, hf]
      have e7 : (7 : Int) = (f : Nat) := by omega
      rw [e7] at hz1
      rw [<- hN] at hz1 hz2
      have hz2' : wz.ownsRow B 5 1 (.slice (some ⟨g1, 0, none⟩) N cg1) N (bys ds) := by rw [hdsd, bys_append]; exact hz2
      clear hz2
      have hz2 := hz2'
      rw [e7, <- hN]
      clear hz2' e7 hdsd hN hf d0 d1 e0 e1
      obtain ⟨x, hx⟩ := get_of_lt (show N - 1 < ds.length by omega)
      have hx256 := hds x (List.mem_of_getElem? hx)
      have hxm : x % 2 ^ (f + 1) = 0 := by
       have := hdm
       rw [List.getD_eq_getElem?_getD, hx] at this; exact this
      have ho := or_add x f b hx256 hf7 hb1 hxm
      have d0 : wz.cell? ⟨bW, 0, none⟩ = some (.slice (some ⟨g1, 0, none⟩) N cg1) := by rw [Lib.cell_of_heap hz1]; rfl
      have d1 : wz.cell? ⟨bW, 1, none⟩ = some (.int .i64 (f : Nat)) := by rw [Lib.cell_of_heap hz1]; rfl
      have d2 : wz.cell? ⟨g1, N - 1, none⟩ = some (.int .u8 (x : Nat)) := by rw [hz2.cellAt (N - 1) (by omega)]; exact bys_get hx
      have e2 := hz2.frozenAt (N - 1)
      have hsto := (hz2.stored (N - 1) (.int .u8 ((x + b * 2 ^ f : Nat) : Int))).1
      rw [show (bys ds).set (N - 1) (.int .u8 ((x + b * 2 ^ f : Nat) : Int)) = bys (ds.set (N - 1) (x + b * 2 ^ f)) from by rw [bys, bys, List.map_set]] at hsto
      have hgB : B <= g1 := (hz2.lt g1 rfl).1
      have hbk2 : (wz.setCell ⟨g1, N - 1, none⟩ (.int .u8 ((x + b * 2 ^ f : Nat) : Int))).heap[bW]? = some (.cells #[.slice (some ⟨g1, 0, none⟩) N cg1, .int .i64 (f : Nat)] 277 (0, 0)) := by
       rw [Below.heap_setCell _ _ _ _ (fun e => hg1 e.symm)]; exact hz1
      have hksz := hz4.set (p := ⟨g1, N - 1, none⟩) (u := .int .u8 ((x + b * 2 ^ f : Nat) : Int)) hgB (fun k hk e => (hz3 k hk).2.2 e.symm)
      have hfinal : WrS B bW S (wz.setCell ⟨g1, N - 1, none⟩ (.int .u8 ((x + b * 2 ^ f : Nat) : Int))) (cs ++ [b]) := by
       refine ⟨hB, ?_, .slice (some ⟨g1, 0, none⟩) N cg1, by rw [hfrf]; exact hbk2, ?_, by simpa [Value.ownBlock] using hg1, fun k hk => ?_⟩
       · intro y hy
         rcases List.mem_append.1 hy with h | h
         · exact HB2.out y h
         · simp at h; omega
       · rw [hfin hx, List.length_set, <- hNd]; exact hsto
       · have := hz3 k hk; exact ⟨by simpa [World.setCell] using this.1, this.2.1, by simpa [Value.ownBlock] using this.2.2⟩
      have HF := Lib.hid hfinal; have HKS := Lib.hid hksz
      have HOR : Hid (bits BinOp.or IntKind.u8 (x : Int) ((b : Int) * 2 ^ f) = ((x + b * 2 ^ f : Nat) : Int)) := by
       show _ = _
       rw [show (b : Int) * 2 ^ f = ((b * 2 ^ f : Nat) : Int) from by simp]; exact ho
      have t1 : IntKind.i64.wrap ((N : Int) - 1) = (N : Int) - 1 := IntWalk.i64_in _ (by omega)
      have t2 : ((N : Int) - 1).toNat = N - 1 := by omega
      have t3 : (0 : Int) <= (N : Int) - 1 := by omega
      have t4 : (N : Int) - 1 < (N : Int) := by omega
      have t7 : (1 : Int) <= (N : Int) := by omega
      have t8 : (0 : Int) < (N : Int) := by omega
      have t5 : min f 8 = f := by omega
      have t6 : IntKind.u8.wrap ((b : Int) * 2 ^ f) = ((b * 2 ^ f : Nat) : Int) := by
       have h9 : b * 2 ^ f <= 1 * 2 ^ f := Nat.mul_le_mul_right _ hb1
       have h10 : 2 ^ f <= 2 ^ 7 := Nat.pow_le_pow_right (by decide) hf7
       rw [show (b : Int) * 2 ^ f = ((b * 2 ^ f : Nat) : Int) from by simp]
       exact IntWalk.u8_in _ (by omega)
      clear hx hxm hsto hz1 hz2 hz3 hz4 hbk2 hfinal hksz hds hdm hfin hNd hks
      go_still_tail 24, (by kernel_rfl)
      change wpList _ _ _ _ _ wz.drew
      have d2d : wz.drew.cell? ⟨g1, N - 1, none⟩ = some (.int .u8 (x : Nat)) := d2
      have e2d : wz.drew.frozen? ⟨g1, N - 1, none⟩ = false := e2
      have HFd : Hid (WrS B bW S (wz.drew.setCell ⟨g1, N - 1, none⟩ (.int .u8 ((x + b * 2 ^ f : Nat) : Int))) (cs ++ [b])) := HF.out
      have HKSd : Hid (KeepS S B w (wz.drew.setCell ⟨g1, N - 1, none⟩ (.int .u8 ((x + b * 2 ^ f : Nat) : Int)))) := ⟨⟨HKS.out.below.os, HKS.out.below.tape, HKS.out.below.output, HKS.out.below.size, HKS.out.below.block⟩, HKS.out.same⟩
      clear t1 t2 t3 t4 t5 t6 t7 t8 d0 d1 d2 e2 HF HKS ho
      generalize wz.drew = wd at *
      go_wp2
      go_roundw
      case rel => exact ⟨q, by omega, by go_num, by rw [HNX.out, HOR.out]; exact HFd.out, by rw [HOR.out]; exact HKSd.out⟩
      case measure => simp [intOf]
    · have hfr : freeOf cs.length = 8 - cs.length % 8 := by unfold freeOf; omega
      have hmlt : cs.length % 8 < 8 := Nat.mod_lt _ (by decide)
      obtain ⟨f, hf⟩ : ∃ f, f = 7 - cs.length % 8 := ⟨_, rfl⟩
      have hfr1 : freeOf cs.length = f + 1 := by omega
      rw [hfr1] at c1 hbk
      have hne1 : (((f + 1 : Nat) : Int) == 0) = false := by rw [beq_eq_false_iff_ne]; omega
      have hf7 : f <= 7 := by omega
      obtain ⟨g1, cg1, hv1⟩ : ∃ g1 cg1, v = .slice (some ⟨g1, 0, none⟩) (octs cs).length cg1 := by
       rcases hown.2 with ⟨_, h⟩ | ⟨g1, cg1, _, h, _⟩
       · have := HOL.out; omega
       · exact ⟨g1, cg1, h⟩
      clear hv
      subst hv1
      have hg1 : g1 ≠ bW := by simpa [Value.ownBlock] using hne
      have hbB : B <= bW := hB
      have HS := Lib.hid hS
      have e8 : (((f + 1 : Nat) : Int) - 1) = (f : Int) := by omega
      have e9 : ((f : Int) + 1 - 1) = (f : Int) := by omega
      have hnat : ((f + 1 : Nat) : Int) = (f : Int) + 1 := by omega
      rw [hnat] at c1 hbk hne1
      have hz1 := heap_set1 (u := .int .i64 (f : Nat)) hbk
      have hz2 := own_set_other (p := ⟨bW, 1, none⟩) (u := .int .i64 (f : Nat)) hown (by simpa [Value.ownBlock] using hg1)
      have hz4 := hks.set (p := ⟨bW, 1, none⟩) (u := .int .i64 (f : Nat)) hbB (fun k hk => (hS k hk).2.1)
      have hz3 : ∀ k, S k -> k < (wr.setCell ⟨bW, 1, none⟩ (.int .i64 (f : Nat))).heap.size /\ k ≠ bW /\ g1 ≠ k := by
       intro j hj
       obtain ⟨s1, s2, s3⟩ := hS j hj
       exact ⟨by simpa [World.setCell] using s1, s2, by simpa [Value.ownBlock] using s3⟩
      have hdm0 := hok.2 hm
      have HB2 := Lib.hid hbits; have HOK := Lib.hid hok.1
      have HZ1 := Lib.hid hz1; have HZ2 := Lib.hid hz2; have HZ3 := Lib.hid hz3; have HZ4 := Lib.hid hz4; have HDM := Lib.hid hdm0
      clear hS hbk hok hbits hz1 hz2 hz3 hz4 hdm0 hown e8 e9 hnat hne hfr hfr1
      have HFF := Lib.hid hf; clear hf
      go_wp2
      have hz1 := HZ1.out
      have hz2 := HZ2.out
      have hz3 := HZ3.out
      have hz4 := HZ4.out
      clear HZ1 HZ2 HZ3 HZ4 c0 c1 f0 f1
      generalize wr.setCell ⟨bW, 1, none⟩ (.int .i64 (f : Nat)) = wz at *
      obtain ⟨ds, hdsd⟩ : ∃ ds, ds = octs cs := ⟨_, rfl⟩
      obtain ⟨N, hN⟩ : ∃ N, N = (octs cs).length := ⟨_, rfl⟩
      have hNd : N = ds.length := by rw [hdsd, hN]
      have hN1 : 1 <= N := by have := HOL.out; omega
      have hN2 : N <= 137438953481 := by omega
      have hds : ∀ d ∈ ds, d < 256 := by rw [hdsd]; exact HOK.out
      have hdm : ds.getD (N - 1) 0 % 2 ^ (f + 1) = 0 := by
       rw [hdsd, hN, show f + 1 = 8 - cs.length % 8 from by have := HFF.out; omega]; exact HDM.out
      have hfin : ∀ {x}, ds[N - 1]? = some x -> octs (cs ++ [b]) = ds.set (N - 1) (x + b * 2 ^ f) := by
       intro x hx
       rw [hdsd, hN] at hx ⊢
       rw [octs_snoc, pushBit, if_neg hm, HFF.out, List.getD_eq_getElem?_getD, hx]; rfl
      have hfrf : freeOf (cs ++ [b]).length = f := by unfold freeOf; rw [List.length_append, List.length_singleton, HFF.out]; omega
      rw [<- hN] at hz1 hz2
      rw [<- hdsd] at hz2
      clear hdsd hN
      obtain ⟨x, hx⟩ := get_of_lt (show N - 1 < ds.length by omega)
      have hx256 := hds x (List.mem_of_getElem? hx)
      have hxm : x % 2 ^ (f + 1) = 0 := by
       have := hdm
       rw [List.getD_eq_getElem?_getD, hx] at this; exact this
      have ho := or_add x f b hx256 hf7 hb1 hxm
      have d0 : wz.cell? ⟨bW, 0, none⟩ = some (.slice (some ⟨g1, 0, none⟩) N cg1) := by rw [Lib.cell_of_heap hz1]; rfl
      have d1 : wz.cell? ⟨bW, 1, none⟩ = some (.int .i64 (f : Nat)) := by rw [Lib.cell_of_heap hz1]; rfl
      have d2 : wz.cell? ⟨g1, N - 1, none⟩ = some (.int .u8 (x : Nat)) := by rw [hz2.cellAt (N - 1) (by omega)]; exact bys_get hx
      have e2 := hz2.frozenAt (N - 1)
      have hsto := (hz2.stored (N - 1) (.int .u8 ((x + b * 2 ^ f : Nat) : Int))).1
      rw [show (bys ds).set (N - 1) (.int .u8 ((x + b * 2 ^ f : Nat) : Int)) = bys (ds.set (N - 1) (x + b * 2 ^ f)) from by rw [bys, bys, List.map_set]] at hsto
      have hgB : B <= g1 := (hz2.lt g1 rfl).1
      have hbk2 : (wz.setCell ⟨g1, N - 1, none⟩ (.int .u8 ((x + b * 2 ^ f : Nat) : Int))).heap[bW]? = some (.cells #[.slice (some ⟨g1, 0, none⟩) N cg1, .int .i64 (f : Nat)] 277 (0, 0)) := by
       rw [Below.heap_setCell _ _ _ _ (fun e => hg1 e.symm)]; exact hz1
      have hksz := hz4.set (p := ⟨g1, N - 1, none⟩) (u := .int .u8 ((x + b * 2 ^ f : Nat) : Int)) hgB (fun k hk e => (hz3 k hk).2.2 e.symm)
      have hfinal : WrS B bW S (wz.setCell ⟨g1, N - 1, none⟩ (.int .u8 ((x + b * 2 ^ f : Nat) : Int))) (cs ++ [b]) := by
       refine ⟨hB, ?_, .slice (some ⟨g1, 0, none⟩) N cg1, by rw [hfrf]; exact hbk2, ?_, by simpa [Value.ownBlock] using hg1, fun k hk => ?_⟩
       · intro y hy
         rcases List.mem_append.1 hy with h | h
         · exact HB2.out y h
         · simp at h; omega
       · rw [hfin hx, List.length_set, <- hNd]; exact hsto
       · have := hz3 k hk; exact ⟨by simpa [World.setCell] using this.1, this.2.1, by simpa [Value.ownBlock] using this.2.2⟩
      have HF := Lib.hid hfinal; have HKS := Lib.hid hksz
      have HOR : Hid (bits BinOp.or IntKind.u8 (x : Int) ((b : Int) * 2 ^ f) = ((x + b * 2 ^ f : Nat) : Int)) := by
       show _ = _
       rw [show (b : Int) * 2 ^ f = ((b * 2 ^ f : Nat) : Int) from by simp]; exact ho
      have t1 : IntKind.i64.wrap ((N : Int) - 1) = (N : Int) - 1 := IntWalk.i64_in _ (by omega)
      have t2 : ((N : Int) - 1).toNat = N - 1 := by omega
      have t3 : (0 : Int) <= (N : Int) - 1 := by omega
      have t4 : (N : Int) - 1 < (N : Int) := by omega
      have t7 : (1 : Int) <= (N : Int) := by omega
      have t8 : (0 : Int) < (N : Int) := by omega
      have t5 : min f 8 = f := by omega
      have t6 : IntKind.u8.wrap ((b : Int) * 2 ^ f) = ((b * 2 ^ f : Nat) : Int) := by
       have h9 : b * 2 ^ f <= 1 * 2 ^ f := Nat.mul_le_mul_right _ hb1
       have h10 : 2 ^ f <= 2 ^ 7 := Nat.pow_le_pow_right (by decide) hf7
       rw [show (b : Int) * 2 ^ f = ((b * 2 ^ f : Nat) : Int) from by simp]
       exact IntWalk.u8_in _ (by omega)
      clear hx hxm hsto hz1 hz2 hz3 hz4 hbk2 hfinal hksz hds hdm hfin hNd hks
      go_still_tail 24, (by kernel_rfl)
      change wpList _ _ _ _ _ wz.drew
      have d2d : wz.drew.cell? ⟨g1, N - 1, none⟩ = some (.int .u8 (x : Nat)) := d2
      have e2d : wz.drew.frozen? ⟨g1, N - 1, none⟩ = false := e2
      have HFd : Hid (WrS B bW S (wz.drew.setCell ⟨g1, N - 1, none⟩ (.int .u8 ((x + b * 2 ^ f : Nat) : Int))) (cs ++ [b])) := HF.out
      have HKSd : Hid (KeepS S B w (wz.drew.setCell ⟨g1, N - 1, none⟩ (.int .u8 ((x + b * 2 ^ f : Nat) : Int)))) := ⟨⟨HKS.out.below.os, HKS.out.below.tape, HKS.out.below.output, HKS.out.below.size, HKS.out.below.block⟩, HKS.out.same⟩
      clear t1 t2 t3 t4 t5 t6 t7 t8 d0 d1 d2 e2 HF HKS ho
      generalize wz.drew = wd at *
      go_wp2
      go_roundw
      case rel => exact ⟨q, by omega, by go_num, by rw [HNX.out, HOR.out]; exact HFd.out, by rw [HOR.out]; exact HKSd.out⟩
      case measure => simp [intOf]
end Go.Proofs.YtdpjdifoonfcdaaGreatDoor

namespace Go.Proofs.YtdpjdifoonfcdaaGreatDoor
open Go.RowKit
theorem writer_ok (B bW : Nat) : SinkOK 275 (.pointer (some ⟨bW, 0, none⟩)) 180 B (WrS B bW) where
 alloc := by
  rintro S w bs o ⟨h1, h2, v, h3, h4, h5, h6⟩
  have hl := heap_lt h3
  refine ⟨h1, h2, v, by rw [Below.heap_alloc _ _ _ hl]; exact h3, h4.alloc _, h5, fun k hk => ?_⟩
  rcases hk with hk | rfl
  · have := h6 k hk; exact ⟨by simp; omega, this.2⟩
  · exact ⟨by simp, by omega, fun e => by have := (h4.lt _ e).2; omega⟩
 drew := fun S w bs h => h
 mono := fun S S' w bs hs h => by
  obtain ⟨h1, h2, v, h3, h4, h5, h6⟩ := h
  exact ⟨h1, h2, v, h3, h4, h5, fun k hk => h6 k (hs k hk)⟩
 size := fun S w bs h => h.size
 lt := fun S w bs k h hk => by
  obtain ⟨h1, h2, v, h3, h4, h5, h6⟩ := h
  exact (h6 k hk).1
 put := fun S w bs n k h hn0 hn1 hk hl => writer_put B bW S bs n k w h hn0 hn1 hk hl
 meth := fun w d => by kernel_rfl
 ahead := fun w d => by kernel_rfl
 enter := fun vs w => by kernel_rfl
end Go.Proofs.YtdpjdifoonfcdaaGreatDoor

namespace Go.Proofs.YtdpjdifoonfcdaaGreatDoor
open Go.RowKit Go.Shelf
attribute [local go_sem] Oper.semAt_some
abbrev Way := { p : Nat × Nat // p.1 < 4 /\ p.2 < 31 }
def wy (k : Nat) : Way := ⟨(k / 31 % 4, k % 31), Nat.mod_lt _ (by decide), Nat.mod_lt _ (by decide)⟩
def ewvs (k : Nat) : List Way := (List.range k).map wy
theorem wvs_succ (k : Nat) : ewvs (k + 1) = ewvs k ++ [wy k] := by simp [ewvs, List.range_succ]
theorem wvs_length (k : Nat) : (ewvs k).length = k := by simp [ewvs]
theorem wvs_prefix {k m : Nat} (h : k <= m) : ewvs k <+: ewvs m := by
 obtain ⟨d, rfl⟩ : ∃ d, m = k + d := ⟨m - k, by omega⟩
 induction d with
 | zero => exact List.prefix_refl _
 | succ d ih => exact (ih (by omega)).trans (by rw [<- Nat.add_assoc, wvs_succ]; exact List.prefix_append _ _)
def wayV (x : Way) : Value := .agg #[.int .i64 (x.1.1 : Nat), .int .i64 (x.1.2 : Nat)]
set_option maxRecDepth 100000 in
set_option maxHeartbeats 1000000 in
theorem ways1_in (F : Fence) (n : Nat) (hF : F.fn 232) (hro : F.round = none) (hn : 1 <= n) (l : Nat) (Kp : World -> World -> Prop) (J Jx : List Way -> World -> Prop)
 (hY : ∀ pre x W, J pre W -> pre.length < 124 -> YieldAt F (n - 1) Tryz.prog l #[wayV x] W fun e W' =>
  (e = .returned (.bool true) /\ J (pre ++ [x]) W' /\ Kp W W') ∨ (e = .returned (.bool false) /\ Jx (pre ++ [x]) W'))
 (W : World) (h0 : J [] W) :
 CallsIn F n Tryz.prog 232 #[.func (.yield l) #[] #[]] W fun e W' => (∃ v, e = .returned v) /\
  ((∃ ys, ys = ewvs 124 /\ J ys W') ∨ (∃ pre, pre <+: ewvs 124 /\ Jx pre W')) := by
 refine callsIn_of_wp Tryz.func232 rfl hF ?_ hro
 simp only [Tryz.ntmps232, List.size_toArray, List.length_cons, List.length_nil, Nat.reduceAdd, Nat.reduceSub, Array.replicate_succ, Array.replicate_zero, List.push_toArray, List.append_toArray, List.nil_append, List.cons_append]
 gi_wp2
 gi_loopw [4] (fun p wr => ∃ o : Nat, o <= 4 /\ p = .int .i64 (o : Nat) /\ J (ewvs (31 * o)) wr) (fun p _ => 4 - (intOf p).toNat)
 case atStart => exact ⟨0, by omega, rfl, h0⟩
 case round =>
  obtain ⟨o, ho, rfl, hJo⟩ := hrel
  by_cases hlt : o < 4
  · have hlt' : (o : Int) < 4 := by omega
    gi_wp2
    gi_loopw [7] (fun p wi => ∃ s : Nat, s <= 31 /\ p = .int .i64 (s : Nat) /\ J (ewvs (31 * o + s)) wi) (fun p _ => 31 - (intOf p).toNat)
    case atStart => exact ⟨0, by omega, rfl, hJo⟩
    case round =>
     obtain ⟨s, hs, rfl, hJs⟩ := hrel
     by_cases hls : s < 31
     · have hls' : (s : Int) < 31 := by omega
       have ew : wayV (wy (31 * o + s)) = .agg #[.int .i64 (o : Nat), .int .i64 (s : Nat)] := by
        have e1 : (31 * o + s) / 31 % 4 = o := by omega
        have e2 : (31 * o + s) % 31 = s := by omega
        simp only [wayV, wy, e1, e2]
       have hy0 := hY (ewvs (31 * o + s)) (wy (31 * o + s)) _ hJs (by rw [wvs_length]; omega)
       rw [ew] at hy0
       obtain ⟨fn, tmps, assign, body, hy, hR⟩ := hy0
       gi_wp2
       refine hR.mono ?_
       rintro e W3 (⟨rfl, hJ3, hk3⟩ | ⟨rfl, hJx3⟩)
       · gi_wp2
         go_roundw
         case rel => exact ⟨s + 1, by omega, by go_num, by rw [<- Nat.add_assoc, wvs_succ]; exact hJ3⟩
         case measure => simp [intOf]; omega
       · gi_wp2
         refine bodyPost_ret (results_none rfl _ _ _) rfl ?_
         exact ⟨⟨_, rfl⟩, .inr ⟨_, by rw [<- wvs_succ]; exact wvs_prefix (by omega), hJx3⟩⟩
     · obtain rfl : s = 31 := by omega
       gi_wp2
       go_roundw
       case rel => exact ⟨o + 1, by omega, by go_num, by rw [Nat.mul_add]; exact hJs⟩
       case measure => simp [intOf]; omega
  · obtain rfl : o = 4 := by omega
    gi_wp2
    go_end0
    exact ⟨⟨_, rfl⟩, .inl ⟨_, rfl, hJo⟩⟩
theorem ways_stops (F : Fence) (n : Nat) (hF : F.fn 232) (hro : F.round = none) (hn : 1 <= n) (Kp : World -> World -> Prop) (w : World) :
 SeqStopsK F n Tryz.prog 232 #[] (fun x : Way => #[wayV x]) Kp (fun ys => ys = ewvs 124) (fun pre => pre <+: ewvs 124) 124 w := fun l J Jx W _ _ _ hY h0 =>
 ways1_in F n hF hro hn l Kp J Jx hY W h0
end Go.Proofs.YtdpjdifoonfcdaaGreatDoor

/- Codes: the best way. -/
namespace Go.Proofs.YtdpjdifoonfcdaaGreatDoor
open Go.RowKit Go.Shelf
attribute [local go_sem] Oper.semAt_some
theorem blk_own {β : Type} (B : Nat) (t : TypeId) (f : β → Array Value) : Own (fun s W => Blk W B t (f s)) := fun s X Y row hs hg hrow =>
  hs.kept hg (fun e' => by obtain ⟨o, ho, hc⟩ := hrow B e'.symm; rw [show X.heap[B]? = _ from hs] at ho; cases ho; cases hc)
theorem keepsFrom_below {W W' : World} (B : Nat) (h : Below W.heap.size W W') : KeepsFrom B W W' := ⟨h.size, fun k _ _ ho _ => (h.block k (Array.getElem?_eq_some_iff.1 ho).1).trans ho⟩
/-- how many bits a way takes; the best way -/
def cost (xs : List Int) (o s : Nat) : Nat := (encL o s (resid xs o)).length
def stepB (xs : List Int) (b : (Nat × Nat) × Nat) (x : Way) : (Nat × Nat) × Nat := if x.1 = (0, 0) ∨ cost xs x.1.1 x.1.2 < b.2 then (x.1, cost xs x.1.1 x.1.2) else b
def bestF (xs : List Int) (pre : List Way) : (Nat × Nat) × Nat := pre.foldl (stepB xs) ((0, 0), 0)
theorem bestF_snoc (xs : List Int) (pre : List Way) (x : Way) : bestF xs (pre ++ [x]) = stepB xs (bestF xs pre) x := by simp [bestF]
theorem flat_le (l : List Int) (s : Nat) (hs : s ≤ 30) : (l.flatMap fun r => encU (foldU r) s).length ≤ 52 * l.length := flat_length l s hs
theorem cost_le (xs : List Int) (o s : Nat) (hs : s ≤ 30) : cost xs o s ≤ 7 + 52 * xs.length := by
  have := flat_le (resid xs o) s hs
  rw [resid_length] at this
  rw [cost, encL, List.length_append, List.length_append, binL_length, binL_length]; omega
theorem write_ct (bc : Nat) (o sh : Nat) (ho : o ≤ 3) (hsh : sh ≤ 30) (al : Option Addr) (l : List Int) (cl : Nat) (w : World) (h9 : Blk w bc 335 #[.int .i64 0]) (hna : ∀ b off, al = some ⟨b, off, none⟩ → bc < b)
    (hc : Cells w al (l.map (Value.int .i64))) (hlen : l.length ≤ 4096) (hr : ∀ r ∈ l, -67108864 ≤ r ∧ r ≤ 67108864) :
    Calls Tryz.prog 182 #[.agg #[.int .i64 (o : Nat), .int .i64 (sh : Nat)], .iface 336 (.pointer (some ⟨bc, 0, none⟩)), .slice al l.length cl] w fun e w' => e = .returned (.tuple #[]) ∧ Blk w' bc 335 #[.int .i64 ((encL o sh l).length : Nat)] ∧ Below bc w w' := by
  refine (write_any (counter_ok bc bc) (fun k => k < w.heap.size ∧ k ≠ bc) o sh ho hsh al l cl [] w ⟨Nat.le_refl _, h9, fun k hk => hk⟩ (fun b off hb hne => ?_) hc hlen (by simp) hr).mono ?_
  · subst hb
    refine ⟨?_, Nat.ne_of_gt (hna b off rfl)⟩
    obtain ⟨r, hr0⟩ := get_of_lt (List.length_pos_iff.2 hne)
    exact World.block_lt_of_cell? w _ (hc.at (j := 0) (by rw [List.getElem?_map, hr0]; rfl))
  · rintro e w' ⟨rfl, h, hk⟩
    exact ⟨rfl, h.2.1, hk.below⟩
set_option maxRecDepth 100000 in
set_option maxHeartbeats 4000000 in
theorem ebest_any (ao : Option Addr) (xs : List Int) (cap : Nat) (w : World) (hc : Cells w ao (xs.map (Value.int .i64))) (hl : xs.length ≤ 4096) (hx : ∀ x ∈ xs, -8388608 ≤ x ∧ x ≤ 8388608) :
    Calls Tryz.prog 181 #[.slice ao xs.length cap] w fun e w' => e = .returned (.agg #[.int .i64 ((bestF xs (ewvs 124)).1.1 : Nat), .int .i64 ((bestF xs (ewvs 124)).1.2 : Nat)]) ∧ Below w.heap.size w w' := by
  have HC := Lib.hid hc; have HX := Lib.hid hx; clear hc hx
  refine (callsIn_wide (n := 8)).1 ?_
  refine callsIn_of_wp_marks Tryz.func181 rfl trivial ?_ rfl
  simp only [Tryz.ntmps181, List.size_toArray, List.length_cons, List.length_nil, Nat.reduceAdd, Nat.reduceSub, Array.replicate_succ, Array.replicate_zero, List.push_toArray, List.append_toArray, List.nil_append, List.cons_append]
  gi_wp2
  have b0 := (((Blk.new w 24 #[.slice ao xs.length cap]).alloc (.cells #[.int .i64 0, .int .i64 0] 280)).alloc (.cells #[.int .i64 0, .int .i64 0] 280)).alloc (.cells #[.int .i64 0] 3)
  have b1 := ((Blk.new (w.alloc (.cells #[.slice ao xs.length cap] 24)) 280 #[.int .i64 0, .int .i64 0]).alloc (.cells #[.int .i64 0, .int .i64 0] 280)).alloc (.cells #[.int .i64 0] 3)
  have b2 := (Blk.new ((w.alloc (.cells #[.slice ao xs.length cap] 24)).alloc (.cells #[.int .i64 0, .int .i64 0] 280)) 280 #[.int .i64 0, .int .i64 0]).alloc (.cells #[.int .i64 0] 3)
  have b3 := Blk.new (((w.alloc (.cells #[.slice ao xs.length cap] 24)).alloc (.cells #[.int .i64 0, .int .i64 0] 280)).alloc (.cells #[.int .i64 0, .int .i64 0] 280)) 3 #[.int .i64 0]
  simp only [World.size_alloc] at b1 b2 b3
  have hB0 := ((((Below.refl w.heap.size w).alloc (Nat.le_refl _) (.cells #[.slice ao xs.length cap] 24)).alloc (by simp) (.cells #[.int .i64 0, .int .i64 0] 280)).alloc (by simp; omega) (.cells #[.int .i64 0, .int .i64 0] 280)).alloc (by simp; omega) (.cells #[.int .i64 0] 3)
  have hsz : ((((w.alloc (.cells #[.slice ao xs.length cap] 24)).alloc (.cells #[.int .i64 0, .int .i64 0] 280)).alloc (.cells #[.int .i64 0, .int .i64 0] 280)).alloc (.cells #[.int .i64 0] 3)).heap.size = w.heap.size + 4 := by simp
  obtain ⟨W0, hW0⟩ : ∃ W0, ((((w.alloc (.cells #[.slice ao xs.length cap] 24)).alloc (.cells #[.int .i64 0, .int .i64 0] 280)).alloc (.cells #[.int .i64 0, .int .i64 0] 280)).alloc (.cells #[.int .i64 0] 3)) = W0 := ⟨_, rfl⟩
  rw [hW0] at b0 b1 b2 b3 hB0 hsz ⊢
  clear hW0
  refine wpIn_rangeFunc_ownH rfl (by decide) (gf := 232) (lb := #[]) rfl trivial (enters_of Tryz.func232 (by kernel_rfl) rfl)
    (ways_stops _ _ trivial rfl (by decide) (Below w.heap.size) W0) belowK_t (belowK_b (by omega)) (Below.refl _ _) (fun _ => rfl)
    (fun pre W => (((Blk W w.heap.size 24 #[.slice ao xs.length cap] ∧ Blk W (w.heap.size + 1) 280 #[.int .i64 0, .int .i64 0]) ∧
      Blk W (w.heap.size + 1 + 1) 280 #[.int .i64 ((bestF xs pre).1.1 : Nat), .int .i64 ((bestF xs pre).1.2 : Nat)]) ∧ Blk W (w.heap.size + 1 + 1 + 1) 3 #[.int .i64 ((bestF xs pre).2 : Nat)]) ∧ Below w.heap.size w W)
    (fun _ _ _ => False)
    (OwnFrom.and (OwnFrom.and (OwnFrom.and (OwnFrom.and (Own.from (blk_own _ _ _) _) (Own.from (blk_own _ _ _) _)) (Own.from (blk_own _ _ (fun pre => #[.int .i64 ((bestF xs pre).1.1 : Nat), .int .i64 ((bestF xs pre).1.2 : Nat)])) _)) (Own.from (blk_own _ _ (fun pre => #[.int .i64 ((bestF xs pre).2 : Nat)])) _)) (ownFrom_below (Nat.le_refl _) (by omega)))
    (fun _ _ _ _ _ hs _ _ => hs)
    ⟨⟨⟨⟨b0, b1⟩, b2⟩, b3⟩, hB0⟩
    (fun x a' W => ∃ Bx, w.heap.size + 1 + 1 + 1 < Bx ∧ Blk W Bx 280 #[.int .i64 (x.1.1 : Nat), .int .i64 (x.1.2 : Nat)] ∧ a' = { tmps := #[.slice ao xs.length cap, .pointer (some ⟨w.heap.size, 0, none⟩), .pointer (some ⟨w.heap.size + 1, 0, none⟩), .pointer (some ⟨w.heap.size + 1 + 1, 0, none⟩), .pointer (some ⟨w.heap.size + 1 + 1 + 1, 0, none⟩), .pointer (some ⟨Bx, 0, none⟩), undef, wayV x, undef, undef, undef, undef, undef, undef, undef, undef, undef, undef, undef, undef, undef, undef, undef, undef, undef, undef], defers := [] })
    (fun x a' _ X Y row hs hg hr => by obtain ⟨Bx, h1, h2, h3⟩ := hs; exact ⟨Bx, h1, blk_own Bx _ (fun (_ : Unit) => #[Value.int .i64 (x.1.1 : Nat), .int .i64 (x.1.2 : Nat)]) () X Y row h2 hg (fun r e => (hr r e).2), h3⟩)
    ?assign ?body ?done ?stop
  case assign =>
    rintro l pre x W K ⟨⟨⟨⟨c0, c1⟩, c2⟩, c3⟩, hB1⟩ hK
    simp only [wayV] at hK ⊢
    gi_wp2
    exact hK _ _ ((KeepsOthers.alloc _ _).from _) ((Below.refl _ W).alloc hB1.size _) ⟨⟨⟨⟨c0.alloc _, c1.alloc _⟩, c2.alloc _⟩, c3.alloc _⟩, hB1.alloc hB1.size _⟩ ⟨W.heap.size, c3.lt, Blk.new W _ _, rfl⟩
  case body =>
    rintro l pre x a' W hl2 ⟨r, hr⟩ ⟨⟨⟨⟨c0, c1⟩, c2⟩, c3⟩, hB1⟩ ⟨Bx, hBx, cx, rfl⟩ hlt
    have hn := hB1.size
    have hcl := cost_le xs x.1.1 x.1.2 (by have := x.2.2; omega)
    have hx1 : x.1.1 ≤ 3 := by have := x.2.1; omega
    have hx2 : x.1.2 ≤ 30 := by have := x.2.2; omega
    have HCw : Hid (Cells (W.alloc (.cells #[.int .i64 0] 335)) ao (xs.map (Value.int .i64))) := Lib.hid ((HC.out.below hB1 (Nat.le_refl _)).below ((Below.refl _ W).alloc (Nat.le_refl _) _) (Nat.le_refl _))
    have hmx : Tryz.prog.follows .mixedOrders = true := by kernel_rfl
    simp only [wayV]
    clear hr
    gi_wp2
    have d0 := c0.alloc (.cells #[.int .i64 0] 335)
    have dx := cx.alloc (.cells #[.int .i64 0] 335)
    have d9 := Blk.new W 335 #[.int .i64 0]
    have hBc := (Below.refl W.heap.size W).alloc (Nat.le_refl _) (.cells #[.int .i64 0] 335)
    have hsc : (W.alloc (.cells #[.int .i64 0] 335)).heap.size = W.heap.size + 1 := by simp
    have hlx := cx.lt
    generalize (W.alloc (.cells #[.int .i64 0] 335)) = Wc at *
    have HCd : Cells Wc.drew ao (xs.map (Value.int .i64)) := HCw.out.below ((Below.refl Wc.heap.size Wc).drew) (Nat.le_refl _)
    replace HCd := Lib.hid HCd
    have d00 := d0.c0
    have e0 := dx.c0
    have e1 := dx.c1
    refine wpIn_mono (Q := fun e a w3 => e = .normal ∧ ∃ (a1 : Option Addr) (k1 : Nat), a = { tmps := #[.slice ao xs.length cap, .pointer (some ⟨w.heap.size, 0, none⟩), .pointer (some ⟨w.heap.size + 1, 0, none⟩), .pointer (some ⟨w.heap.size + 1 + 1, 0, none⟩), .pointer (some ⟨w.heap.size + 1 + 1 + 1, 0, none⟩), .pointer (some ⟨Bx, 0, none⟩), .pointer (some ⟨W.heap.size, 0, none⟩), .agg #[.int .i64 (x.1.1 : Nat), .int .i64 (x.1.2 : Nat)], .agg #[.int .i64 (x.1.1 : Nat), .int .i64 (x.1.2 : Nat)], .iface 336 (.pointer (some ⟨W.heap.size, 0, none⟩)), .slice ao xs.length cap, .pointer (some ⟨Bx, 0, none⟩), .int .i64 (x.1.1 : Nat), .slice a1 (resid xs x.1.1).length k1, .tuple #[], undef, undef, undef, undef, undef, undef, undef, undef, undef, undef, undef], defers := [] } ∧ Blk w3 W.heap.size 335 #[.int .i64 (cost xs x.1.1 x.1.2 : Nat)] ∧ Below W.heap.size W w3) ?reg ?after
    case reg =>
      gi_region_with_o (first
        | (refine ⟨trivial, ?_⟩; gi_at_call 183; refine (CallsIn.inRound l (callsIn_wide.2 (residues_any ao xs cap x.1.1 Wc.drew HCd.out hl hx1 HX.out))).mono ?_; rintro e w1 ⟨⟨a1, k1, rfl, hca, hna⟩, hb1⟩; have HCA := Lib.hid hca; have HNA := Lib.hid hna; clear hca hna; have dx1 := dx.drew.below hb1 (show Bx < Wc.heap.size by omega); have e10 := dx1.c0; have e11 := dx1.c1)
        | (refine ⟨trivial, ?_⟩; gi_at_call 182; refine (CallsIn.inRound l (callsIn_wide.2 (write_ct W.heap.size x.1.1 x.1.2 hx1 hx2 a1 (resid xs x.1.1) k1 w1 (d9.drew.below hb1 (show W.heap.size < Wc.heap.size by omega)) (fun b off hb => Nat.lt_of_lt_of_le (show W.heap.size < Wc.heap.size by omega) (HNA.out b off hb)) HCA.out (by rw [resid_length]; exact hl) (resid_bd HX.out x.1.1 hx1)))).mono ?_; rintro e w3 ⟨rfl, d93, hb3⟩; have dx3 := dx1.below hb3 hlx; have e30 := dx3.c0; have e31 := dx3.c1))
      all_goals exact ⟨rfl, a1, k1, rfl, d93, (hBc.drew.trans (hb1.mono (show W.heap.size ≤ Wc.heap.size by omega))).trans hb3⟩
    case after =>
      rintro e aa w3 ⟨rfl, a1, k1, rfl, d93, hW3⟩
      have q0 := c0.below hW3 c0.lt
      have q1 := c1.below hW3 c1.lt
      have q2 := c2.below hW3 c2.lt
      have q3 := c3.below hW3 c3.lt
      have q5 := cx.below hW3 hlx
      have q30 := q3.c0
      have q90 := d93.c0
      have q50 := q5.c0
      have q51 := q5.c1
      have hB3 : Below w.heap.size w w3 := hB1.trans (hW3.mono hn)
      have hB4 : Below w.heap.size W w3 := hW3.mono hn
      have hK4 : KeepsFrom W0.heap.size W w3 := keepsFrom_below _ hW3
      clear HCw HCd d0 dx d9 hBc hsc d00 e0 e1 q50 q51 q90 q30
      have hst : bestF xs (pre ++ [x]) = if (x.1.1 = 0 ∧ x.1.2 = 0) ∨ cost xs x.1.1 x.1.2 < (bestF xs pre).2 then ((x.1.1, x.1.2), cost xs x.1.1 x.1.2) else bestF xs pre := by
        rw [bestF_snoc, stepB]
        have e0 : (x.1 = (0, 0)) ↔ (x.1.1 = 0 ∧ x.1.2 = 0) := by rw [Prod.ext_iff]
        simp only [e0]
      have HST := Lib.hid hst; clear hst
      have HI : Hid (∀ w4 : World, KeepsFrom W0.heap.size w3 w4 → Below w.heap.size w3 w4 → Blk w4 w.heap.size 24 #[.slice ao xs.length cap] → Blk w4 (w.heap.size + 1) 280 #[.int .i64 0, .int .i64 0] →
          Blk w4 (w.heap.size + 1 + 1) 280 #[.int .i64 ((bestF xs (pre ++ [x])).1.1 : Nat), .int .i64 ((bestF xs (pre ++ [x])).1.2 : Nat)] → Blk w4 (w.heap.size + 1 + 1 + 1) 3 #[.int .i64 ((bestF xs (pre ++ [x])).2 : Nat)] →
          KeepsFrom W0.heap.size W w4 ∧ Below w.heap.size W w4 ∧ (((Blk w4 w.heap.size 24 #[.slice ao xs.length cap] ∧ Blk w4 (w.heap.size + 1) 280 #[.int .i64 0, .int .i64 0]) ∧
      Blk w4 (w.heap.size + 1 + 1) 280 #[.int .i64 ((bestF xs (pre ++ [x])).1.1 : Nat), .int .i64 ((bestF xs (pre ++ [x])).1.2 : Nat)]) ∧ Blk w4 (w.heap.size + 1 + 1 + 1) 3 #[.int .i64 ((bestF xs (pre ++ [x])).2 : Nat)]) ∧ Below w.heap.size w w4) :=
        Lib.hid fun w4 k1 k2 k3 k4 k5 k6 => ⟨hK4.trans k1, hB4.trans k2, ⟨⟨⟨k3, k4⟩, k5⟩, k6⟩, hB3.trans k2⟩
      have n1 : Bx ≠ w.heap.size + 1 + 1 := by omega
      have n2 : Bx ≠ w.heap.size + 1 + 1 + 1 := by omega
      have n3 : W.heap.size ≠ w.heap.size + 1 + 1 := by omega
      have n4 : W.heap.size ≠ w.heap.size + 1 + 1 + 1 := by omega
      have n1' := n1.symm
      have n2' := n2.symm
      have n3' := n3.symm
      have n4' := n4.symm
      clear hK4 hB4 hB3 hB1 hW3 c0 c1 c2 c3 cx hcl hlt hn HC HX hlx hBx hsz
      generalize bestF xs pre = bo at *
      obtain ⟨⟨bo1, bo2⟩, m⟩ := bo
      generalize cost xs x.1.1 x.1.2 = c at *
      generalize (resid xs x.1.1).length = rl at *
      generalize x.1.1 = o at *
      generalize x.1.2 = sh at *
      dsimp only at q2 q3 HST
      have q30 := q3.c0
      have q90 := d93.c0
      have q50 := q5.c0
      have q51 := q5.c1
      have q20 := q2.c0
      have q21 := q2.c1
      have f20 := q2.free 0
      have f21 := q2.free 1
      have f30 := q3.free 0
      rcases Nat.eq_zero_or_pos o with rfl | ho0 <;> rcases Nat.eq_zero_or_pos sh with rfl | hs0 <;> by_cases hcm : c < m
      all_goals gi_wp2
      all_goals first
        | (have hst := HST.out
           rw [if_neg (by omega)] at hst
           exact HI.out w3 (KeepsFrom.refl _ _) (Below.refl _ _) q0 q1 (by rw [hst]; exact q2) (by rw [hst]; exact q3))
        | (have hst := HST.out
           rw [if_pos (by first | omega | simp)] at hst
           replace hst := Lib.hid hst
           refine wpIn_mono (Q := fun e _ w4 => e = .normal ∧ (KeepsFrom W0.heap.size W w4 ∧ Below w.heap.size W w4 ∧ (((Blk w4 w.heap.size 24 #[.slice ao xs.length cap] ∧ Blk w4 (w.heap.size + 1) 280 #[.int .i64 0, .int .i64 0]) ∧
      Blk w4 (w.heap.size + 1 + 1) 280 #[.int .i64 ((bestF xs (pre ++ [x])).1.1 : Nat), .int .i64 ((bestF xs (pre ++ [x])).1.2 : Nat)]) ∧ Blk w4 (w.heap.size + 1 + 1 + 1) 3 #[.int .i64 ((bestF xs (pre ++ [x])).2 : Nat)]) ∧ Below w.heap.size w w4)) ?_ ?_
           · gi_region_with_o fail
             all_goals (have hst := hst.out)
             all_goals exact ⟨rfl, HI.out _ ((((KeepsOthers.drew w3).trans (KeepsOthers.setCell _ _ _)).trans (KeepsOthers.setCell _ _ _)).trans (KeepsOthers.setCell _ _ _) |>.from _)
               (((((Below.refl w.heap.size w3).drew).setCell (p := ⟨w.heap.size + 1 + 1, 0, none⟩) (by simp; omega) _).setCell (p := ⟨w.heap.size + 1 + 1, 1, none⟩) (by simp; omega) _).setCell (p := ⟨w.heap.size + 1 + 1 + 1, 0, none⟩) (by simp; omega) _)
               (((q0.drew.other (by omega) _ _).other (by omega) _ _).other (by omega) _ _)
               (((q1.drew.other (by omega) _ _).other (by omega) _ _).other (by omega) _ _)
               (by rw [hst]; exact ((q2.drew.set0 _).set1 _).other (by omega) _ _)
               (by rw [hst]; exact ((q3.drew.other (by omega) _ _).other (by omega) _ _).set0 _)⟩
           · rintro e aa w4 ⟨rfl, h4⟩
             gi_wp2
             exact h4)
  case done =>
    rintro D zs W hD rfl ⟨⟨⟨⟨c0, c1⟩, c2⟩, c3⟩, hB1⟩ hK
    have d0 := c2.c0
    have d1 := c2.c1
    have f0 := c1.free 0
    have f1 := c1.free 1
    have r0 := c1.c0
    have r1 := c1.c1
    have g1 := (c1.set0 (.int .i64 ((bestF xs (ewvs 124)).1.1 : Nat))).set1 (.int .i64 ((bestF xs (ewvs 124)).1.2 : Nat))
    have hDn : w.heap.size + 1 ≠ D := by omega
    have hKd : ((W.setCell ⟨w.heap.size + 1, 0, none⟩ (.int .i64 ((bestF xs (ewvs 124)).1.1 : Nat))).setCell ⟨w.heap.size + 1, 1, none⟩ (.int .i64 ((bestF xs (ewvs 124)).1.2 : Nat))).heap[D]? = some (.deferred (some [])) := by
      rw [Below.heap_setCell _ _ _ _ (by simpa using hDn.symm), Below.heap_setCell _ _ _ _ (by simpa using hDn.symm)]; exact hK
    have hBd : Below w.heap.size w ((W.setCell ⟨w.heap.size + 1, 0, none⟩ (.int .i64 ((bestF xs (ewvs 124)).1.1 : Nat))).setCell ⟨w.heap.size + 1, 1, none⟩ (.int .i64 ((bestF xs (ewvs 124)).1.2 : Nat))) :=
      (hB1.setCell (p := ⟨w.heap.size + 1, 0, none⟩) (by simp) _).setCell (p := ⟨w.heap.size + 1, 1, none⟩) (by simp) _
    gi_wp2
    generalize ((W.setCell ⟨w.heap.size + 1, 0, none⟩ (.int .i64 ((bestF xs (ewvs 124)).1.1 : Nat))).setCell ⟨w.heap.size + 1, 1, none⟩ (.int .i64 ((bestF xs (ewvs 124)).1.2 : Nat))) = wd at *
    have g2 : Blk (wd.putObj D (.deferred none)) (w.heap.size + 1) _ _ := g1.kept (grownBy_putObj' _ D (.deferred none)) (by simpa using hDn)
    have s0 := g2.c0
    have s1 := g2.c1
    refine ⟨by simp, .inl ⟨_, _, rfl, run_takeDeferred hKd, ?_⟩⟩
    refine ⟨.agg #[.int .i64 ((bestF xs (ewvs 124)).1.1 : Nat), .int .i64 ((bestF xs (ewvs 124)).1.2 : Nat)], by simp [results, Tryz.results181, go_sem, s0, s1], rfl, ?_⟩
    exact hBd.trans (belowK_b (w := w) (Nat.le_refl _) wd D _ _ (by omega) hKd rfl rfl)
  case stop =>
    rintro D c pre W _ _ h _
    exact h.elim
end Go.Proofs.YtdpjdifoonfcdaaGreatDoor

namespace Go.Proofs.YtdpjdifoonfcdaaGreatDoor
open Go.RowKit
theorem octs_append (a : List Nat) (h : a.length % 8 = 0) (b : List Nat) : octs (a ++ b) = octs a ++ octs b := by
 suffices ∀ r : List Nat, octs (a ++ r.reverse) = octs a ++ octs r.reverse by simpa using this b.reverse
 intro r
 induction r with
 | nil => simp [octs_nil]
 | cons x r ih =>
   rw [List.reverse_cons, <- List.append_assoc, octs_snoc, octs_snoc, ih, List.length_append]
   generalize r.reverse = q
   have hl := octs_len q
   unfold pushBit
   by_cases h0 : q.length % 8 = 0
   · rw [if_pos (by omega), if_pos h0, List.append_assoc]
   · rw [if_neg (by omega), if_neg h0]
     have hp : 0 < (octs q).length := by omega
     have hm : (a.length + q.length) % 8 = q.length % 8 := by omega
     rw [hm, List.length_append, List.set_append_right _ _ (by omega), List.getD_eq_getElem?_getD, List.getD_eq_getElem?_getD, List.getElem?_append_right (by omega)]
     rw [show (octs a).length + (octs q).length - 1 - (octs a).length = (octs q).length - 1 by omega]
theorem octs_byte : ∀ b : Fin 256, octs (binL (b.val : Int) 8) = [b.val] := by decide +kernel
def unB (l : List Nat) : List Nat := l.flatMap fun (b : Nat) => binL (b : Int) 8
theorem unB_length (l : List Nat) : (unB l).length = 8 * l.length := by
 induction l with
 | nil => rfl
 | cons b l ih => rw [unB, List.flatMap_cons, List.length_append, binL_length, List.length_cons]; rw [unB] at ih; omega
theorem unB_bits (l : List Nat) : ∀ b ∈ unB l, b <= 1 := by
 intro b hb
 obtain ⟨x, _, hx⟩ := List.mem_flatMap.1 hb
 exact binL_bits _ _ b hx
theorem octs_unB (l : List Nat) (hl : ∀ d ∈ l, d < 256) : octs (unB l) = l := by
 induction l with
 | nil => rfl
 | cons b l ih =>
   rw [unB, List.flatMap_cons, octs_append _ (by rw [binL_length]), octs_byte ⟨b, hl b (by simp)⟩]
   have := ih fun d hd => hl d (by simp [hd])
   rw [unB] at this
   rw [this]; rfl
def wayOf (x : List Int) : Nat × Nat := (bestF x (ewvs 124)).1
def encC (x : List Int) : List Nat := encL (wayOf x).1 (wayOf x).2 (resid x (wayOf x).1)
def frBits (st : Int) (xss : List (List Int)) : List Nat := binL st 32 ++ xss.flatMap encC
def hdB (body : List Nat) : List Nat := [165, 90] ++ octs (binL (body.length : Nat) 16) ++ body
def encB (st : Int) (xss : List (List Int)) : List Nat := hdB (octs (frBits st xss)) ++ octs (binL (chkL (hdB (octs (frBits st xss))) : Nat) 24)
theorem way_bd (x : Way) : x.1.1 <= 3 /\ x.1.2 <= 30 := by have := x.2; omega
theorem bestF_bd (xs : List Int) (pre : List Way) : (bestF xs pre).1.1 <= 3 /\ (bestF xs pre).1.2 <= 30 := by
 suffices ∀ b : (Nat × Nat) × Nat, b.1.1 <= 3 /\ b.1.2 <= 30 -> (pre.foldl (stepB xs) b).1.1 <= 3 /\ (pre.foldl (stepB xs) b).1.2 <= 30 from this _ ⟨by simp, by simp⟩
 induction pre with
 | nil => intro b h; exact h
 | cons x l ih =>
   intro b h
   rw [List.foldl_cons]
   refine ih _ ?_
   unfold stepB
   split
   · exact way_bd x
   · exact h
theorem wayOf_bd (x : List Int) : (wayOf x).1 <= 3 /\ (wayOf x).2 <= 30 := by
 have h := bestF_bd x (ewvs 124)
 unfold wayOf
 generalize ewvs 124 = q at *
 exact h
theorem encC_length (x : List Int) : (encC x).length <= 7 + 52 * x.length := cost_le x _ _ (wayOf_bd x).2
theorem encU_bits (u : Int) (sh : Nat) : ∀ b ∈ encU u sh, b <= 1 := by
 intro b hb
 unfold encU at hb
 split at hb
 · rcases List.mem_append.1 hb with h | h <;> exact binL_bits _ _ b h
 · rcases List.mem_append.1 hb with h | h <;> exact binL_bits _ _ b h
theorem flat_encC (xss : List (List Int)) (n : Nat) (h : ∀ xs ∈ xss, xs.length <= n) : (xss.flatMap encC).length <= (7 + 52 * n) * xss.length := by
 induction xss with
 | nil => simp
 | cons x l ih =>
   have h1 := ih fun y hy => h y (by simp [hy])
   have h2 := encC_length x
   have h3 := h x (by simp)
   rw [List.flatMap_cons, List.length_append, List.length_cons, Nat.mul_succ]
   omega
end Go.Proofs.YtdpjdifoonfcdaaGreatDoor

namespace Go.Proofs.YtdpjdifoonfcdaaGreatDoor
open Go.RowKit Go.Shelf
theorem grown_of_below {n : Nat} {w w' : World} (hb : Below n w w') (hn : w.heap.size <= n) (row : Option Nat) : w.grownBy w' row := ⟨hb.os, hb.tape, hb.output, hb.size, fun k hk _ => hb.block k (by omega)⟩
theorem own_base {w : World} {B B' : Nat} {e : TypeId} {s : Nat} {v : Value} {n : Nat} {xs : List Value} (h : w.ownsRow B e s v n xs) (hB : B' <= B) : w.ownsRow B' e s v n xs := by
 refine ⟨h.1, h.2.imp id ?_⟩
 rintro ⟨g, cap, cur, h1, h2, h3⟩
 exact ⟨g, cap, cur, h1, by omega, h3⟩
theorem own_below {w w' : World} {B n : Nat} {e : TypeId} {s : Nat} {v : Value} {m : Nat} {xs : List Value} (h : w.ownsRow B e s v m xs) (hb : Below n w w') (hn : w.heap.size <= n) : w'.ownsRow B e s v m xs :=
 h.kept (row := none) (grown_of_below hb hn none) (by cases hv : v.ownBlock <;> simp)
theorem WrS.wide {B bW n : Nat} {S : Nat -> Prop} {w w' : World} {bs : List Nat} (h : WrS B bW S w bs) (hb : Below n w w') (hn : w.heap.size <= n) : WrS B bW (fun k => S k ∨ (w.heap.size <= k /\ k < w'.heap.size)) w' bs := by
 obtain ⟨h1, h2, v, h3, h4, h5, h6⟩ := h
 have hl := heap_lt h3
 refine ⟨h1, h2, v, by rw [hb.block _ (by omega)]; exact h3, own_below h4 hb hn, h5, fun k hk => ?_⟩
 have hs := hb.size
 rcases hk with hk | ⟨hk1, hk2⟩
 · have := h6 k hk; exact ⟨by omega, this.2⟩
 · exact ⟨hk2, by omega, fun e => by have := (h4.lt _ e).2; omega⟩
theorem WrS.new (B : Nat) (S : Nat -> Prop) (W : World) (hB : B <= W.heap.size) (hS : ∀ k, S k -> k < W.heap.size) : WrS B W.heap.size S (W.alloc (.cells #[.slice none 0 0, .int .i64 0] 277)) [] :=
 ⟨hB, by simp, .slice none 0 0, World.alloc_heap_new W _, by rw [octs_nil]; exact World.ownsRow_nil _ _ _ _, by simp [Value.ownBlock], fun k hk => ⟨by have := hS k hk; simp; omega, by have := hS k hk; omega, by simp [Value.ownBlock]⟩⟩
theorem frBits_bits (st : Int) (xss : List (List Int)) : ∀ b ∈ frBits st xss, b <= 1 := by
 intro b hb
 rcases List.mem_append.1 hb with h | h
 · exact binL_bits _ _ b h
 · obtain ⟨x, _, hx⟩ := List.mem_flatMap.1 h
   unfold encC encL at hx
   rcases List.mem_append.1 hx with h | h
   · rcases List.mem_append.1 h with h | h <;> exact binL_bits _ _ b h
   · obtain ⟨r, _, hr⟩ := List.mem_flatMap.1 h
     exact encU_bits _ _ b hr
theorem best_way (ao : Option Addr) (xs : List Int) (cap : Nat) (w : World) (hc : Cells w ao (xs.map (Value.int .i64))) (hl : xs.length <= 4096) (hx : ∀ x ∈ xs, -8388608 <= x /\ x <= 8388608) :
 Calls Tryz.prog 181 #[.slice ao xs.length cap] w fun e w' => ∃ o s : Nat, wayOf xs = (o, s) /\ e = .returned (.agg #[.int .i64 (o : Nat), .int .i64 (s : Nat)]) /\ Below w.heap.size w w' := by
 have h := ebest_any ao xs cap w hc hl hx
 unfold wayOf
 generalize ewvs 124 = q at *
 exact h.mono fun e w' h => ⟨_, _, rfl, h⟩
theorem enc_write {B bW : Nat} (S : Nat -> Prop) (o sh : Nat) (ho : o <= 3) (hsh : sh <= 30) (al : Option Addr) (l : List Int) (cl : Nat) (bs : List Nat) {n : Nat} (w : World)
 (hst : WrS B bW S w bs) (hS : ∀ b, n <= b /\ b < w.heap.size -> S b) (hl : ∀ b off, al = some ⟨b, off, none⟩ -> n <= b) (hc : Cells w al (l.map (Value.int .i64))) (hlen : l.length <= 4096) (hbs : bs.length <= 1000000) (hr : ∀ r ∈ l, -67108864 <= r /\ r <= 67108864) :
 Calls Tryz.prog 182 #[.agg #[.int .i64 (o : Nat), .int .i64 (sh : Nat)], .iface 275 (.pointer (some ⟨bW, 0, none⟩)), .slice al l.length cl] w fun e w' => e = .returned (.tuple #[]) /\ WrS B bW S w' (bs ++ encL o sh l) /\ KeepS S B w w' := by
 refine write_any (writer_ok B bW) S o sh ho hsh al l cl bs w hst (fun b off hb hne => hS b ⟨hl b off hb, ?_⟩) hc hlen hbs hr
 subst hb
 obtain ⟨r, hr0⟩ := get_of_lt (List.length_pos_iff.2 hne)
 exact World.block_lt_of_cell? w _ (hc.at (j := 0) (by rw [List.getElem?_map, hr0]; rfl))
theorem WrS.lit (w : World) : WrS w.heap.size (w.heap.size + 1) (fun k => k < w.heap.size) ((w.alloc (.cells #[.int .u8 165, .int .u8 90] 5)).alloc (.cells #[.slice (some ⟨w.heap.size, 0, none⟩) 2 2, .int .i64 0] 277)) (unB [165, 90]) := by
 refine ⟨by omega, unB_bits _, .slice (some ⟨w.heap.size, 0, none⟩) 2 2, ?_, ?_, by simp [Value.ownBlock], fun k hk => ⟨by simp; omega, by omega, by simp [Value.ownBlock]; omega⟩⟩
 · have h := World.alloc_heap_new (w.alloc (.cells #[.int .u8 165, .int .u8 90] 5)) (.cells #[.slice (some ⟨w.heap.size, 0, none⟩) 2 2, .int .i64 0] 277)
   rw [World.size_alloc] at h
   exact h
 · rw [octs_unB _ (by decide)]
   refine ⟨rfl, .inr ⟨w.heap.size, 2, #[.int .u8 165, .int .u8 90], rfl, Nat.le_refl _, ?_, by decide, by unfold maxLen; omega, rfl, rfl⟩⟩
   rw [Below.heap_alloc _ _ _ (by simp)]
   exact World.alloc_heap_new w _
set_option maxRecDepth 100000 in
set_option maxHeartbeats 2000000 in
theorem encode_any (ao : Option Addr) (nb : Nat) (cap : Nat) (st : Int) (asm : Option Addr) (vs : List Value) (xss : List (List Int)) (cs : Nat) (w : World) (hl : nb <= 16) (hnb : xss.length = nb) (hs : Cells w asm vs) (hr : RowsV w vs xss)
 (hst0 : 0 <= st) (hst1 : st <= 1073741824) (hxl : ∀ xs ∈ xss, xs.length <= 64) (hxb : ∀ xs ∈ xss, ∀ x ∈ xs, -8388608 <= x /\ x <= 8388608) :
 Calls Tryz.prog 115 #[.slice ao nb cap, .agg #[.int .i64 st, .slice asm nb cs]] w fun e w' => (∃ v, e = .returned v /\ w'.ownsRow w.heap.size 5 1 v (encB st xss).length (bys (encB st xss))) /\ Below w.heap.size w w' := by
 have HS := Lib.hid hs; have HR := Lib.hid hr; have HXL := Lib.hid hxl; have HXB := Lib.hid hxb; have HNB := Lib.hid hnb
 clear hs hr hxl hxb hnb
 go_enter Tryz.func115, Tryz.ntmps115
 go_wp2_with fail
 have hw0 := WrS.new (w.heap.size + 1) (fun _ => False) (w.alloc (.cells #[.int .i64 st, .slice asm nb cs] 108)) (by simp) (fun k h => h.elim)
 rw [World.size_alloc] at hw0
 refine (writer_put _ _ _ _ st 32 _ hw0 hst0 (by omega) (by omega) (by simp)).mono ?_
 rintro e w1 ⟨rfl, hw1, hk1⟩
 have hb1 : Below (w.heap.size + 1) (w.alloc (.cells #[.int .i64 st, .slice asm nb cs] 108)) w1 := ((Below.refl _ _).alloc (by simp) _).trans hk1.below
 have HW1 := Lib.hid hw1
 clear hw0 hw1 hk1
 go_wp2
 go_loopw [18] (fun i wr => ∃ k : Nat, k <= nb /\ i = .int .i64 k /\ WrS (w.heap.size + 1) (w.heap.size + 1) (fun _ => False) wr (frBits st (xss.take k)) /\ Below (w.heap.size + 1) (w.alloc (.cells #[.int .i64 st, .slice asm nb cs] 108)) wr) (fun i _ => nb - (intOf i).toNat)
 case atStart => exact ⟨0, Nat.zero_le _, rfl, by simpa [frBits] using HW1.out, hb1⟩
 case round =>
  clear hb1 HW1
  obtain ⟨k, hk, rfl, hwr, hb⟩ := hrel
  have HWR := Lib.hid hwr; clear hwr
  have hsz : w.heap.size + 1 <= wr.heap.size := by have := hb.size; simpa using this
  by_cases hlt : k < nb
  · obtain ⟨xs, hxs⟩ := get_of_lt (show k < xss.length by have := HNB.out; omega)
    obtain ⟨v, hv⟩ := get_of_lt (show k < vs.length by have := HR.out.1; have := HNB.out; omega)
    obtain ⟨b2, off2, rfl⟩ := HS.out.addr (List.ne_nil_of_length_pos (by have := HR.out.1; have := HNB.out; omega))
    have hbw : Below w.heap.size w wr := ((Below.refl _ _).alloc (Nat.le_refl _) _).trans (hb.mono (by omega))
    have c3 := cell_keep (HS.out.at hv) hbw (Nat.le_refl _)
    have p1 : wr.cell? ⟨w.heap.size, 1, none⟩ = some (.slice (some ⟨b2, off2, none⟩) nb cs) := box_keep hb (by simp) 1
    obtain ⟨ax, cx, rfl, hax, _⟩ := HR.out.2 k v xs hv hxs
    have hmem := List.mem_of_getElem? hxs
    have hxl := HXL.out xs hmem
    have hxb := HXB.out xs hmem
    have hax2 := hax.below hbw (Nat.le_refl _)
    have HXB2 := Lib.hid hxb; have HAX := Lib.hid hax2
    have HT : Hid (frBits st (xss.take (k + 1)) = frBits st (xss.take k) ++ encC xs) := Lib.hid (by
     rw [frBits, frBits, take_get hxs, List.flatMap_append]; simp)
    have HFL : Hid ((frBits st (xss.take k)).length <= 32 + 3335 * 16) := Lib.hid (by
     have h1 := flat_encC (xss.take k) 64 (fun y hy => HXL.out y (List.mem_of_mem_take hy))
     rw [List.length_take, Nat.min_eq_left (by have := HNB.out; omega)] at h1
     rw [frBits, List.length_append, binL_length]; omega)
    clear hv hxs hax hax2 hxb hmem
    go_wp2_with fail
    refine (best_way ax xs cx wr HAX.out (by omega) HXB2.out).mono ?_
    rintro e w1 ⟨o, sh, hwy, rfl, hb1⟩
    have hwb := wayOf_bd xs
    rw [hwy] at hwb
    obtain ⟨ho, hsh⟩ := hwb
    simp only at ho hsh
    have HE : Hid (encC xs = encL o sh (resid xs o)) := Lib.hid (by rw [encC, hwy])
    clear hwy
    have hb2 := hb.trans (hb1.mono hsz)
    have hbx := hb1.alloc hb1.size (.cells #[.int .i64 o, .int .i64 sh] 280)
    have HW2 := Lib.hid ((HWR.out.wide hbx (Nat.le_refl _)))
    have hn1 := hb1.size
    go_wp2
    have hax3 := HAX.out.below hbx.drew (Nat.le_refl _)
    have HAX3 := Lib.hid hax3
    have bw := (Blk.new w1 280 #[.int .i64 o, .int .i64 sh]).drew
    have HWd : Hid (WrS (w.heap.size + 1) (w.heap.size + 1) (fun k => False ∨ (wr.heap.size <= k /\ k < (w1.alloc (.cells #[.int .i64 o, .int .i64 sh] 280)).drew.heap.size)) (w1.alloc (.cells #[.int .i64 o, .int .i64 sh] 280)).drew (frBits st (xss.take k))) := Lib.hid HW2.out
    have hsc : (w1.alloc (.cells #[.int .i64 o, .int .i64 sh] 280)).drew.heap.size = w1.heap.size + 1 := by simp
    have hbd := hbx.drew
    clear hax3 HW2 HAX hb1 hbx c3 p1
    have e0 := bw.c0
    have e1 := bw.c1
    have HBW := Lib.hid bw; have HSC := Lib.hid hsc
    clear bw hsc
    generalize (w1.alloc (.cells #[.int .i64 o, .int .i64 sh] 280)) = Wc at *
    go_region_with (first
     | (go_at_call 183; refine (residues_any ax xs cx o Wc.drew HAX3.out (by omega) ho HXB2.out).mono ?_; rintro e w2 ⟨⟨a1, k1, rfl, hca, hna⟩, hb3⟩; have HCA := Lib.hid hca; have HNA := Lib.hid hna; clear hca hna; have d0 := cell_keep e0 hb3 (Nat.le_refl _); have d1 := cell_keep e1 hb3 (Nat.le_refl _))
     | (go_at_call 182; refine (enc_write _ o sh ho hsh a1 (resid xs o) k1 _ w2 (HWd.out.wide hb3 (Nat.le_refl _)) (fun b hb => .inr hb) HNA.out HCA.out (by rw [resid_length]; omega) (by have := HFL.out; omega) (resid_bd HXB2.out o ho)).mono ?_; rintro e w3 ⟨rfl, hw3, hk3⟩; have hb4 := hk3.below; have HW3 := Lib.hid hw3; clear hw3 hk3))
    all_goals
     have hbz := (hb.trans ((hbd.mono hsz).trans (hb3.mono (Nat.le_trans hsz hbd.size)))).trans hb4
     have HBZ := Lib.hid hbz
     clear hbz hb4 hb3 hbd hb
     go_wp2
     go_roundw
     case rel => exact ⟨k + 1, by omega, by go_num, by rw [HT.out, HE.out]; exact (writer_ok _ _).mono _ _ _ _ (fun k h => h.elim) HW3.out, HBZ.out⟩
     case measure => simp [intOf]; omega
  · obtain rfl : k = nb := by omega
    have ht : xss.take k = xss := by rw [List.take_of_length_le (by have := HNB.out; omega)]
    rw [ht] at HWR
    have hfl : (frBits st xss).length <= 32 + 3335 * 16 := by
     have h1 := flat_encC xss 64 HXL.out
     have := HNB.out
     rw [frBits, List.length_append, binL_length]; omega
    have hfl2 : 32 <= (frBits st xss).length := by rw [frBits, List.length_append, binL_length]; omega
    have HBI := Lib.hid (frBits_bits st xss)
    have hol := octs_len (frBits st xss)
    have hbw : Below w.heap.size w wr := ((Below.refl _ _).alloc (Nat.le_refl _) _).trans (hb.mono (by omega))
    clear ht hb
    have HENC : Hid (encB st xss = hdB (octs (frBits st xss)) ++ octs (binL (chkL (hdB (octs (frBits st xss))) : Nat) 24)) := Lib.hid rfl
    have hok := (octs_ok _ HBI.out).1
    obtain ⟨eb, heb⟩ : ∃ eb, eb = encB st xss := ⟨_, rfl⟩
    rw [<- heb] at HENC
    have HEB := Lib.hid heb
    clear heb
    generalize frBits st xss = fb at *
    have hn1 : 4 <= (octs fb).length := by omega
    have hn2 : (octs fb).length <= 6674 := by omega
    have HOK := Lib.hid hok
    clear hol hfl hfl2 hok
    obtain ⟨_, _, v1, hbk, hown, hne, _⟩ := HWR.out
    generalize octs fb = body at *
    obtain ⟨a1, c1, rfl, hca⟩ := own_cells hown
    obtain ⟨bv, ov, rfl⟩ := hca.addr (bys_ne (by omega))
    have p0 : wr.cell? ⟨w.heap.size + 1, 0, none⟩ = some (.slice (some ⟨bv, ov, none⟩) body.length c1) := by rw [Lib.cell_of_heap hbk]; rfl
    have hlt1 := heap_lt hbk
    have hlt2 := (hown.lt bv rfl).2
    have HBK := Lib.hid hbk; have HCA := Lib.hid hca; have HNE := Lib.hid hne
    have hba := (((Below.refl wr.heap.size wr).alloc (Nat.le_refl _) (.cells #[.int .u8 165, .int .u8 90] 5)).alloc (by simp) (.cells #[.slice (some ⟨wr.heap.size, 0, none⟩) 2 2, .int .i64 0] 277))
    have p1 := cell_keep p0 hba (Nat.le_refl _)
    have HPK := Lib.hid p0
    clear hbk hown hca hne HWR
    go_wp2_with fail
    have hw2 := WrS.lit wr
    clear p0 p1
    generalize ((wr.alloc (.cells #[.int .u8 165, .int .u8 90] 5)).alloc (.cells #[.slice (some ⟨wr.heap.size, 0, none⟩) 2 2, .int .i64 0] 277)) = wq at *
    refine (writer_put _ _ _ _ (body.length : Nat) 16 _ hw2 (by omega) (by omega) (by omega) (by rw [unB_length]; simp)).mono ?_
    rintro e w2 ⟨rfl, hw3, hk3⟩
    have hb3 := hba.trans hk3.below
    obtain ⟨_, hbits2, v2, hbk2, hown2, hne2, _⟩ := hw3
    have hoc : octs (unB [165, 90] ++ binL (body.length : Nat) 16) = [165, 90] ++ octs (binL (body.length : Nat) 16) := by
     rw [octs_append _ (by rw [unB_length]; rfl), octs_unB _ (by decide)]
    have hol := octs_len (binL (body.length : Nat) 16)
    rw [binL_length] at hol
    have hfr : freeOf (unB [165, 90] ++ binL (body.length : Nat) 16).length = 0 := by rw [List.length_append, unB_length, binL_length]; rfl
    rw [hoc] at hown2
    rw [hfr] at hbk2
    have hln : ([165, 90] ++ octs (binL (body.length : Nat) 16)).length = 4 := by rw [List.length_append, hol]; rfl
    rw [hln] at hown2
    have p2 := cell_keep HPK.out hb3 (Nat.le_refl _)
    have HC2 := Lib.hid hoc; have HLN := Lib.hid hln; have HBT := Lib.hid hbits2
    clear hoc hln hbits2 hol hfr hk3
    obtain ⟨g2, cg2, rfl, hg2, hg2l⟩ := hown2.form (by omega)
    have hne3 : g2 ≠ wr.heap.size + 1 := by simpa [Value.ownBlock] using hne2
    have q0 : w2.cell? ⟨wr.heap.size + 1, 0, none⟩ = some (.slice (some ⟨g2, 0, none⟩) 4 cg2) := by rw [Lib.cell_of_heap hbk2]; rfl
    have f0 : w2.frozen? ⟨wr.heap.size + 1, 0, none⟩ = false := Lib.frozen_of_heap hbk2 0
    have hl2 := heap_lt hbk2
    have hcb := HCA.out.below hb3 (Nat.le_refl _)
    have HCB := Lib.hid hcb; have HB2 := Lib.hid hbk2; have HO2 := Lib.hid hown2
    clear hne2 hcb hbk2 hown2 HNE HBK
    obtain ⟨i0, hi, hz0, hz1, hz2⟩ := info_parts Tryz.infoByte
    have hsz2 := hb3.size
    go_wp2
    have FA : ∀ (g : Nat) (wz : World), w2.drew.grownBy wz (some g2) -> wz.frozen? ⟨wr.heap.size + 1, 0, none⟩ = false /\ ∃ u, wz.cell? ⟨wr.heap.size + 1, 0, none⟩ = some u := fun g wz hg => by
     have e := hg.block (wr.heap.size + 1) hl2 (by simpa using Ne.symm hne3)
     have e2 := e.trans HB2.out
     exact ⟨Lib.frozen_of_heap e2 0, _, by rw [Lib.cell_of_heap e2]; rfl⟩
    replace FA := Lib.hid FA
    go_region_law (refine step_append_lies _ (by rfl) _ _ _ (by rfl) wr.heap.size 5 i0 _ 1 1 Tryz.underlying109 hi hz0 hz1 hz2 rfl (by omega) (.slice (some ⟨g2, 0, none⟩) 4 cg2) 4 _ (by rfl) (own_drewN HO2.out 1) ⟨bv, ov, none⟩ body.length c1 (bys body) (by rfl) (by simp [bys_length]) (fun j u hu => by rw [Addr.add_lit]; exact HCB.out.at hu) (by intro u hu; obtain ⟨d, _, rfl⟩ := List.mem_map.1 hu; rfl) (by omega) (by unfold maxLen; omega) (by omega) (by simp; omega) w2.heap.size (by simp) ?_; intro gg cp wz hown1 hgrow hat hlt1; obtain ⟨f9, u9, c9⟩ := FA.out gg wz hgrow)
    all_goals
     have hgne : gg ≠ wr.heap.size + 1 := by
      rcases hat with h | h
      · simp [Value.ownBlock] at h; omega
      · omega
     have hbz : wz.heap[wr.heap.size + 1]? = some (.cells #[.slice (some ⟨g2, 0, none⟩) 4 cg2, .int .i64 (0 : Nat)] 277 (0, 0)) := (hgrow.block (wr.heap.size + 1) hl2 (by simpa [Value.ownBlock] using Ne.symm hne3)).trans HB2.out
     have hbel : Below wr.heap.size wr wz := (hb3.drew).grown hgrow (by simpa using hsz2) (fun j e => by simp [Value.ownBlock] at e; omega)
     have hy1 := heap_set1 (u := .int .i64 0) (heap_set0 (u := .slice (some ⟨gg, 0, none⟩) (4 + body.length) cp) hbz)
     have hy2 := own_set_other (p := ⟨wr.heap.size + 1, 1, none⟩) (u := .int .i64 0) (own_set_other (p := ⟨wr.heap.size + 1, 0, none⟩) (u := .slice (some ⟨gg, 0, none⟩) (4 + body.length) cp) hown1 (by simpa [Value.ownBlock] using hgne)) (by simpa [Value.ownBlock] using hgne)
     have hy3 := (hbel.setCell (p := ⟨wr.heap.size + 1, 0, none⟩) (by simp) (.slice (some ⟨gg, 0, none⟩) (4 + body.length) cp)).setCell (p := ⟨wr.heap.size + 1, 1, none⟩) (by simp) (.int .i64 0)
     have f1 := Lib.frozen_of_heap hbz 1
     have c1' : ∃ u, wz.cell? ⟨wr.heap.size + 1, 1, none⟩ = some u := ⟨_, by rw [Lib.cell_of_heap hbz]; rfl⟩
     obtain ⟨_, c1'⟩ := c1'
     have HY1 := Lib.hid hy1; have HY2 := Lib.hid hy2; have HY3 := Lib.hid hy3
     clear hown1 hgrow hat hbz hbel hy1 hy2 hy3
     have hhd : bys ([165, 90] ++ octs (binL (body.length : Nat) 16)) ++ bys body = bys (hdB body) := by rw [hdB, bys_append (_ ++ _)]
     have hhl : (hdB body).length = 4 + body.length := by rw [hdB, List.length_append, HLN.out]
     have hhok : ∀ d ∈ hdB body, d < 256 := by
      intro d hd
      rcases List.mem_append.1 hd with h | h
      · have := (octs_ok (unB [165, 90] ++ binL (body.length : Nat) 16) HBT.out).1 d
        rw [HC2.out] at this
        exact this h
      · exact HOK.out d h
     have HHD := Lib.hid hhd; have HHL := Lib.hid hhl; have HHOK := Lib.hid hhok
     clear hhd hhl hhok
     go_wp2_with fail
     clear f1 f9 c9 c1'
     generalize ((wz.setCell ⟨wr.heap.size + 1, 0, none⟩ (.slice (some ⟨gg, 0, none⟩) (4 + body.length) cp)).setCell ⟨wr.heap.size + 1, 1, none⟩ (.int .i64 0)) = wx at *
     have hown4 := HY2.out
     rw [HHD.out] at hown4
     have hck := check_any (some ⟨gg, 0, none⟩) (hdB body) cp wx (by obtain ⟨a, c, h1, h2⟩ := own_cells hown4; simp at h1; rw [h1.1]; exact h2) HHOK.out (by rw [HHL.out]; omega)
     rw [HHL.out] at hck
     refine hck.mono ?_
     rintro e w4 ⟨rfl, rfl⟩
     clear hck
     go_wp2_with fail
     have hwx : WrS wr.heap.size (wr.heap.size + 1) (fun _ => False) wx (unB [165, 90] ++ binL (body.length : Nat) 16 ++ unB body) := by
      have ho : octs (unB [165, 90] ++ binL (body.length : Nat) 16 ++ unB body) = hdB body := by
       rw [octs_append _ (by rw [List.length_append, unB_length, binL_length]; rfl), HC2.out, octs_unB _ HOK.out]; rfl
      refine ⟨by omega, ?_, .slice (some ⟨gg, 0, none⟩) (4 + body.length) cp, ?_, ?_, by simpa [Value.ownBlock] using hgne, fun k h => h.elim⟩
      · intro b hb
        rcases List.mem_append.1 hb with h | h
        · exact HBT.out b h
        · exact unB_bits _ b h
      · have : freeOf (unB [165, 90] ++ binL (body.length : Nat) 16 ++ unB body).length = 0 := by
         unfold freeOf; rw [List.length_append, List.length_append, unB_length, unB_length, binL_length]; simp
        rw [this]; exact HY1.out
      · rw [ho, HHL.out]; exact hown4
     have hcl := chkL_lt (hdB body)
     have hpt := writer_put _ _ _ _ (chkL (hdB body) : Nat) 24 _ hwx (by omega) (by omega) (by omega) (by rw [List.length_append, List.length_append, unB_length, unB_length, binL_length]; simp <;> omega)
     have HPT := Lib.hid hpt
     clear hpt hwx hown4
     refine HPT.out.mono ?_
     rintro e w5 ⟨rfl, hw5, hk5⟩
     have hb5 := HY3.out.trans hk5.below
     obtain ⟨_, _, v5, hbk5, hown5, _, _⟩ := hw5
     have ho5 : octs (unB [165, 90] ++ binL (body.length : Nat) 16 ++ unB body ++ binL (chkL (hdB body) : Nat) 24) = eb := by
      rw [HENC.out, octs_append _ (by rw [List.length_append, List.length_append, unB_length, unB_length, binL_length]; simp <;> omega), octs_append _ (by rw [List.length_append, unB_length, binL_length]; rfl), HC2.out, octs_unB _ HOK.out]; rfl
     rw [ho5] at hown5
     have q5 : w5.cell? ⟨wr.heap.size + 1, 0, none⟩ = some v5 := by rw [Lib.cell_of_heap hbk5]; rfl
     have HO5 := Lib.hid (own_base hown5 (show w.heap.size <= wr.heap.size by omega))
     have hfin := hbw.trans (hb5.mono hbw.size)
     clear hbk5 hown5 ho5 hk5
     go_wp2_with fail
     go_ret
     exact ⟨⟨v5, rfl, by rw [<- HEB.out]; exact HO5.out⟩, hfin⟩
end Go.Proofs.YtdpjdifoonfcdaaGreatDoor

namespace Go.Proofs.YtdpjdifoonfcdaaGreatDoor
open Go.RowKit
def btwErr (bs : List Chan) (l : List Frm) (fr tt : Int) : Int := if recErr bs l ≠ 0 then recErr bs l else if fr < 0 ∨ tt < fr ∨ 1073741824 < tt then 8 else 0
set_option maxRecDepth 100000 in
theorem between_any (ao : Option Addr) (bs : List Chan) (cap : Nat) (al : Option Addr) (l : List Frm) (cl : Nat) (fr tt : Int) (w : World) (hb : BookIn w ao bs cap) (hr : RecIn w al l) :
 Calls Tryz.prog 120 #[.slice ao bs.length cap, .slice al l.length cl, .int .i64 fr, .int .i64 tt] w fun e w' => e = .returned (.int .i64 (btwErr bs l fr tt)) /\ Below w.heap.size w w' := by
 have hck := checkRecord_any ao bs cap al l cl w hb hr
 have HCK := Lib.hid hck
 clear hck hb hr
 by_cases h1 : recErr bs l = 0
 · have H1 := Lib.hid h1
   have he : btwErr bs l fr tt = if fr < 0 ∨ tt < fr ∨ 1073741824 < tt then 8 else 0 := by rw [btwErr, if_neg (by simpa using h1)]
   have HE := Lib.hid he
   clear h1 he
   by_cases h2 : fr < 0
   · go_enter Tryz.func120, Tryz.ntmps120
     go_wp2_with fail
     refine HCK.out.mono ?_
     rintro e w1 ⟨rfl, hb1⟩
     rw [H1.out]
     go_wp2
     go_ret
     exact ⟨ret_int (by rw [HE.out, if_pos (.inl h2)]), hb1⟩
   · by_cases h3 : tt < fr
     · go_enter Tryz.func120, Tryz.ntmps120
       go_wp2_with fail
       refine HCK.out.mono ?_
       rintro e w1 ⟨rfl, hb1⟩
       rw [H1.out]
       go_wp2
       go_ret
       exact ⟨ret_int (by rw [HE.out, if_pos (.inr (.inl h3))]), hb1⟩
     · by_cases h4 : 1073741824 < tt
       · go_enter Tryz.func120, Tryz.ntmps120
         go_wp2_with fail
         refine HCK.out.mono ?_
         rintro e w1 ⟨rfl, hb1⟩
         rw [H1.out]
         go_wp2
         go_ret
         exact ⟨ret_int (by rw [HE.out, if_pos (.inr (.inr h4))]), hb1⟩
       · go_enter Tryz.func120, Tryz.ntmps120
         go_wp2_with fail
         refine HCK.out.mono ?_
         rintro e w1 ⟨rfl, hb1⟩
         rw [H1.out]
         go_wp2
         go_ret
         exact ⟨ret_int (by rw [HE.out, if_neg (by omega)]), hb1⟩
 · have he : btwErr bs l fr tt = recErr bs l := by simp [btwErr, h1]
   have h3 : (recErr bs l != 0) = true := by simpa using h1
   have h4 : (recErr bs l == 0) = false := by simpa using h1
   have HE := Lib.hid he; clear he
   go_enter Tryz.func120, Tryz.ntmps120
   go_wp2_with fail
   refine HCK.out.mono ?_
   rintro e w1 ⟨rfl, hb1⟩
   go_wp2
   go_ret
   exact ⟨ret_int HE.out.symm, hb1⟩
theorem Tryz.infoSpan : (Tryz.prog.info? 287).map (fun i => (i.zero, i.size, i.bytes)) = some (some (.agg #[.int .i64 0, .int .i64 0]), 2, 16) := by kernel_rfl
theorem blk_own_ne {w : World} {b base : Nat} {T e : TypeId} {cs : Array Value} {s n : Nat} {v : Value} {xs : List Value} (h : Blk w b T cs) (ho : w.ownsRow base e s v n xs) (hT : T ≠ e) : v.ownBlock ≠ some b := by
 intro hv
 rcases ho.2 with ⟨rfl, _⟩ | ⟨g, cap, cur, rfl, _, hg, _⟩
 · simp [Value.ownBlock] at hv
 · simp [Value.ownBlock] at hv
   subst hv
   rw [show w.heap[g]? = _ from h] at hg
   simp at hg
   exact hT hg.2
end Go.Proofs.YtdpjdifoonfcdaaGreatDoor

namespace Go.Proofs.YtdpjdifoonfcdaaGreatDoor
open Go.RowKit
theorem recErr_zero {bs : List Chan} {l : List Frm} (h : recErr bs l = 0) : bookErr bs = 0 /\ l.length <= 64 /\ (∀ f ∈ l, frOK bs f.st f.xss = true) /\ upTo l l.length = true := by
 unfold recErr at h
 split at h
 · contradiction
 · rename_i h1
   split at h
   · contradiction
   · rename_i h2
     split at h
     · contradiction
     · rename_i h3
       split at h
       · contradiction
       · rename_i h4
         refine ⟨by simpa using h1, by omega, fun f hf => ?_, by simpa using h4⟩
         have h3 := (Bool.not_eq_true _).mp h3
         have := List.any_eq_false.1 h3 f hf
         simpa using this
theorem btwErr_zero {bs : List Chan} {l : List Frm} {fr tt : Int} (h : btwErr bs l fr tt = 0) : recErr bs l = 0 /\ 0 <= fr /\ fr <= tt /\ tt <= 1073741824 := by
 unfold btwErr at h
 split at h
 · contradiction
 · rename_i h1
   split at h
   · contradiction
   · exact ⟨by simpa using h1, by omega, by omega, by omega⟩
end Go.Proofs.YtdpjdifoonfcdaaGreatDoor

namespace Go.Proofs.YtdpjdifoonfcdaaGreatDoor
open Go.RowKit
theorem frTo_get {bs : List Chan} {xss : List (List Int)} {n : Nat} (h : frTo bs xss n = true) {i : Nat} {c : Chan} {xs : List Int} (hi : i < n) (hc : bs[i]? = some c) (hx : xss[i]? = some xs) : smpOK c xs = true := by
 induction n with
 | zero => omega
 | succ n ih =>
   simp only [frTo, Bool.and_eq_true] at h
   by_cases hin : i < n
   · exact ih h.1 hin
   · obtain rfl : i = n := by omega
     have := h.2
     rw [hc, hx] at this
     exact this
theorem frmErr_zero {bs : List Chan} {st : Int} {xss : List (List Int)} (h : frmErr bs st xss = 0) : bookOK bs = true /\ bs.length <= 16 /\ xss.length = bs.length /\ 0 <= st /\ st <= 1073741824 /\ (∀ xs ∈ xss, xs.length <= 64) /\ ∀ xs ∈ xss, ∀ x ∈ xs, -8388608 <= x /\ x <= 8388608 := by
 unfold frmErr at h
 split at h
 · contradiction
 · rename_i hb
   have hb : bookErr bs = 0 := by simpa using hb
   have hk := bookErr_zero hb
   split at h
   · rename_i hf
     simp only [frOK, Bool.and_eq_true, decide_eq_true_eq] at hf
     obtain ⟨h1, h2, h3⟩ := hf
     have hk2 := hk
     simp only [bookOK, inB, Bool.and_eq_true, decide_eq_true_eq] at hk2
     simp only [inB, decide_eq_true_eq] at h1
     have key : ∀ xs ∈ xss, ∃ c, (1 <= c.rate /\ c.rate <= 64 /\ 2 <= c.bits /\ c.bits <= 24) /\ smpOK c xs = true := by
      intro xs hxs
      obtain ⟨i, hi, hx⟩ := List.mem_iff_getElem.1 hxs
      obtain ⟨c, hc⟩ := get_of_lt (show i < bs.length by omega)
      exact ⟨c, book_get hk hc, frTo_get h3 (by omega) hc (by rw [List.getElem?_eq_getElem hi, hx])⟩
     refine ⟨hk, by omega, h2, h1.1, h1.2, fun xs hxs => ?_, fun xs hxs x hx => ?_⟩
     · obtain ⟨c, hc, hs⟩ := key xs hxs
       simp only [smpOK, Bool.and_eq_true, decide_eq_true_eq] at hs
       omega
     · obtain ⟨c, hc, hs⟩ := key xs hxs
       simp only [smpOK, Bool.and_eq_true] at hs
       have h4 := hs.2
       obtain ⟨m1, m2, _⟩ := most_bd hc.2.2.1 hc.2.2.2
       rw [Bool.not_eq_true'] at h4
       have h5 := List.any_eq_false.1 h4 x hx
       simp [inB] at h5
       omega
   · contradiction
end Go.Proofs.YtdpjdifoonfcdaaGreatDoor
