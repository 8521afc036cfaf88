/- Parts of a proof, in build order: B2, T7, D1, D2, D3, D4, D5, D7, D8, D9. -/
import Derived.Test.YtdpjdifoonfcdaaGreatDoorKr8
import Derived.Test.YtdpjdifoonfcdaaGreatDoorKr18
import Derived.Laws.IdiomStrings
import Derived.Lib.BufferRead
import Derived.Laws.ResultCell
import Derived.WalkMore

namespace Go.Proofs.YtdpjdifoonfcdaaGreatDoor
open Go.RowKit
def whole (sh xs : List Int) : Nat := xs.length / sh.length * sh.length
end Go.Proofs.YtdpjdifoonfcdaaGreatDoor

namespace Go.Proofs.YtdpjdifoonfcdaaGreatDoor
open Go.RowKit
theorem encB_lt (st : Int) (xss : List (List Int)) : ∀ d ∈ encB st xss, d < 256 := by
 intro d hd
 rw [encB] at hd
 rcases List.mem_append.1 hd with h | h
 · rw [hdB] at h
   rcases List.mem_append.1 h with h | h
   · rcases List.mem_append.1 h with h | h
     · simp at h; omega
     · exact (octs_ok _ (binL_bits _ _)).1 d h
   · exact (octs_ok _ (frBits_bits _ _)).1 d h
 · exact (octs_ok _ (binL_bits _ _)).1 d h
theorem packRes_lt (bs : List Chan) (l : List Frm) : ∀ d ∈ packRes bs l, d < 256 := by
 intro d hd; unfold packRes at hd; split at hd
 · obtain ⟨f, _, hf⟩ := List.mem_flatMap.1 hd; exact encB_lt _ _ d hf
 · simp at hd
end Go.Proofs.YtdpjdifoonfcdaaGreatDoor

namespace Go.Proofs.YtdpjdifoonfcdaaGreatDoor
open Go.RowKit
theorem unB_get (l : List Nat) (i d : Nat) (h : l[i / 8]? = some d) : (unB l)[i]? = some (d / 2 ^ (7 - i % 8) % 2) := by
 induction l generalizing i with
 | nil => simp at h
 | cons b l ih =>
   rw [unB_cons]
   by_cases hi : i < 8
   · rw [Nat.div_eq_of_lt hi] at h
     simp at h; subst h
     rw [List.getElem?_append_left (by rw [binL_length]; omega)]
     have hg := binL_get (b : Int) 8 (7 - i) (by omega)
     rw [show 8 - 1 - (7 - i) = i from by omega] at hg
     rw [hg, Nat.mod_eq_of_lt hi]
     have h2 : ((b / 2 ^ (7 - i) % 2 : Nat) : Int) = (b : Int) / 2 ^ (7 - i) % 2 := by simp
     have h3 : ((b : Int) / 2 ^ (7 - i) % 2).toNat = b / 2 ^ (7 - i) % 2 := by omega
     rw [h3]
   · rw [List.getElem?_append_right (by rw [binL_length]; omega), binL_length]
     have e : i / 8 = (i - 8) / 8 + 1 := by omega
     rw [e, List.getElem?_cons_succ] at h
     rw [ih (i - 8) h]
     rw [show (i - 8) % 8 = i % 8 from by omega]
theorem or_low (q s u : Nat) (h : u < 2 ^ s) (hb : q * 2 ^ s + u < 2 ^ 63) : bits BinOp.or IntKind.i64 ((q * 2 ^ s : Nat) : Int) (u : Int) = ((q * 2 ^ s + u : Nat) : Int) := by
 have h1 := (bits_nat .i64 63 (by decide) i64_wrap_nat (q * 2 ^ s) u (by omega) (by omega)).2
 rw [h1, Nat.mul_comm q, Nat.two_pow_add_eq_or_of_lt h]
theorem u8_and {x : Nat} (h : x < 256) : bits BinOp.and IntKind.u8 (x : Int) 1 = ((x % 2 : Nat) : Int) := by
 have h1 := (bits_nat .u8 8 (by decide) u8_wrap_nat x 1 (by omega) (by decide)).1
 rw [show ((1 : Nat) : Int) = 1 from rfl] at h1
 rw [h1, Nat.and_one_is_mod]
def RdS (B bR : Nat) (l : List Nat) (w : World) (r : List Nat) : Prop :=
 B <= bR /\ ∃ a cap at_, at_ <= 8 * l.length /\ r = (unB l).drop at_ /\ w.heap[bR]? = some (.cells #[.slice a l.length cap, .int .i64 (at_ : Nat)] 292 (0, 0)) /\ Cells w a (bys l) /\ ∀ b off, a = some ⟨b, off, none⟩ -> b < B
theorem RdS.lt {B bR : Nat} {l r : List Nat} {w : World} (h : RdS B bR l w r) : bR < w.heap.size := by
 obtain ⟨_, a, cap, at_, _, _, h3, _⟩ := h; exact heap_lt h3
theorem RdS.kept {B bR : Nat} {l r : List Nat} {w w' : World} {row : Option Nat} (h : RdS B bR l w r) (hg : w.grownBy w' row) (hr : ∀ k, row = some k -> B <= k /\ k ≠ bR) : RdS B bR l w' r := by
 have hlt := h.lt
 obtain ⟨h0, a, cap, at_, h1, h2, h3, h4, h5⟩ := h
 exact ⟨h0, a, cap, at_, h1, h2, (hg.block bR hlt (fun e => (hr bR e.symm).2 rfl)).trans h3, h4.grown hg (fun b off e _ hk => by have := h5 b off e; have := (hr b hk.symm).1; omega), h5⟩
theorem RdS.below {B bR : Nat} {l r : List Nat} {w w' : World} (h : RdS B bR l w r) (hb : Below w.heap.size w w') : RdS B bR l w' r := by
 have hlt := h.lt
 obtain ⟨h0, a, cap, at_, h1, h2, h3, h4, h5⟩ := h
 exact ⟨h0, a, cap, at_, h1, h2, (hb.block bR hlt).trans h3, h4.below hb (Nat.le_refl _), h5⟩
theorem RdS.bits {B bR : Nat} {l r : List Nat} {w : World} (h : RdS B bR l w r) : ∀ b ∈ r, b <= 1 := by
 obtain ⟨_, a, cap, at_, _, h2, _⟩ := h
 subst h2
 intro b hb
 exact unB_bits l b (List.mem_of_mem_drop hb)
set_option maxRecDepth 100000 in
set_option maxHeartbeats 2000000 in
theorem reader_take (B bR : Nat) (l r : List Nat) (k : Nat) (w : World) (h : RdS B bR l w r) (hd : ∀ d ∈ l, d < 256) (hl : l.length <= 1099511627776) (hk : k <= 32) :
 Calls Tryz.prog 189 #[.pointer (some ⟨bR, 0, none⟩), .int .i64 (k : Nat)] w fun e w' => e = .returned (.tuple #[.int .i64 ((takeR r k).1.1 : Nat), .bool (takeR r k).1.2]) /\ RdS B bR l w' (takeR r k).2 /\ w.grownBy w' (some bR) := by
 have HD := Lib.hid hd; have H := Lib.hid h
 have HB := Lib.hid h.bits
 clear hd h
 go_enter Tryz.func189, Tryz.ntmps189
 go_wp2
 go_loopw [6, 8] (fun n i wr => ∃ j : Nat, j <= k /\ j <= r.length /\ i = .int .i64 j /\ n = .int .i64 (valB (r.take j) : Nat) /\ RdS B bR l wr (r.drop j) /\ w.grownBy wr (some bR)) (fun _ i _ => k - (intOf i).toNat)
 case atStart => exact ⟨0, Nat.zero_le _, Nat.zero_le _, rfl, rfl, H.out, World.grownBy.refl _ _⟩
 case round =>
  obtain ⟨j, hj, hjr, rfl, rfl, hr, hg⟩ := hrel
  have HR := Lib.hid hr
  by_cases hlt : j < k
  · obtain ⟨h0, a, cap, at_, ha, hrd, hbk, hca, hab⟩ := hr
    have hul : (unB l).length = 8 * l.length := unB_length l
    have hrl : r.length - j = 8 * l.length - at_ := by have := congrArg List.length hrd; rw [List.length_drop, List.length_drop, hul] at this; exact this
    have c0 : wr.cell? ⟨bR, 0, none⟩ = some (.slice a l.length cap) := by rw [Lib.cell_of_heap hbk]; rfl
    have c1 : wr.cell? ⟨bR, 1, none⟩ = some (.int .i64 (at_ : Nat)) := by rw [Lib.cell_of_heap hbk]; rfl
    have f1 : wr.frozen? ⟨bR, 1, none⟩ = false := Lib.frozen_of_heap hbk 1
    have g1 : IntKind.i64.wrap (8 * (l.length : Int)) = 8 * (l.length : Int) := IntWalk.i64_in _ (by omega)
    by_cases hj2 : j < r.length
    · obtain ⟨d, hdd⟩ := get_of_lt (show at_ / 8 < l.length by omega)
      have hbit := unB_get l at_ d hdd
      have hd256 := HD.out d (List.mem_of_getElem? hdd)
      obtain ⟨x, hx⟩ : ∃ x, x = d / 2 ^ (7 - at_ % 8) % 2 := ⟨_, rfl⟩
      rw [<- hx] at hbit
      have hrj : r[j]? = some x := by
       have e1 : (r.drop j)[0]? = ((unB l).drop at_)[0]? := by rw [hrd]
       rw [List.getElem?_drop, List.getElem?_drop, Nat.add_zero, Nat.add_zero] at e1
       rw [e1]; exact hbit
      have hnv : valB (r.take (j + 1)) = 2 * valB (r.take j) + x := by rw [take_get hrj, valB_snoc]
      have hvl := valB_lt (l := r.take j) (fun b hb => HB.out b (List.mem_of_mem_take hb))
      rw [List.length_take, Nat.min_eq_left hjr] at hvl
      have hp31 : (2 : Nat) ^ j <= 2 ^ 31 := Nat.pow_le_pow_right (by decide) (by omega)
      have hx1 : x <= 1 := by omega
      obtain ⟨b, off, rfl⟩ := hca.addr (bys_ne (by omega))
      have c2 : wr.cell? ⟨b, off + at_ / 8, none⟩ = some (.int .u8 (d : Nat)) := hca.at (bys_get hdd)
      have hor : bits BinOp.or IntKind.i64 ((valB (r.take j) : Int) * 2) (x : Int) = ((2 * valB (r.take j) + x : Nat) : Int) := by
       have := or_low (valB (r.take j)) 1 x (by omega) (by omega)
       rw [show valB (r.take j) * 2 ^ 1 + x = 2 * valB (r.take j) + x from by omega] at this
       rw [<- this]; simp
      have hand : wrap64 (bits BinOp.and IntKind.u8 ((d : Int) / 2 ^ (7 - at_ % 8)) 1) = (x : Int) := by
       have h1 := u8_and (x := d / 2 ^ (7 - at_ % 8)) (Nat.lt_of_le_of_lt (Nat.div_le_self _ _) hd256)
       rw [<- hx] at h1
       have h2 : ((d / 2 ^ (7 - at_ % 8) : Nat) : Int) = (d : Int) / 2 ^ (7 - at_ % 8) := by simp
       rw [<- h2, h1]
       simp only [wrap64]
       omega
      have e1 : ((at_ + 1 : Nat) : Int) = (at_ : Int) + 1 := by omega
      have hx2 : RdS B bR l (wr.setCell ⟨bR, 1, none⟩ (.int .i64 ((at_ : Int) + 1))) (r.drop (j + 1)) := by
       refine ⟨h0, _, cap, at_ + 1, by omega, ?_, by rw [e1]; exact heap_set1 hbk, hca.grown (grown_set wr ⟨bR, 1, none⟩ _) (fun b' off' e _ hk => by have := hab b' off' e; simp at hk; omega), hab⟩
       rw [<- List.drop_drop, hrd, List.drop_drop]
      have hg2 : w.grownBy (wr.setCell ⟨bR, 1, none⟩ (.int .i64 ((at_ : Int) + 1))) (some bR) := hg.trans (grown_set wr ⟨bR, 1, none⟩ _)
      have HX2 := Lib.hid hx2; have HG2 := Lib.hid hg2; have HAND := Lib.hid hand; have HOR := Lib.hid hor
      clear hx2 hg2 hand e1 hor
      have HNV := Lib.hid hnv
      clear hnv hbit hrj
      generalize valB (r.take j) = v at *
      have hv31 : v < 2147483648 := by omega
      clear hvl hp31
      clear hrd hbk hca hab hdd HR
      go_wp2_with fail
      go_quiet (fail)
      go_wp2_with fail
      go_quiet (fail)
      go_wp2_with fail
      go_roundw
      case rel => exact ⟨j + 1, by omega, by omega, by go_num, by rw [HAND.out, HOR.out, HNV.out], HX2.out, by have h := HG2.out; exact ⟨h.os, h.tape, h.output, h.size, h.block⟩⟩
      case measure => simp [intOf]; omega
    · have hjr2 : r.length = j := by omega
      have ht : takeR r k = ((0, false), []) := by unfold takeR; rw [if_neg (by omega)]
      have HT := Lib.hid ht
      have hdr : r.drop j = [] := List.drop_eq_nil_of_le (by omega)
      rw [hdr] at HR
      have hge : 8 * (l.length : Int) <= at_ := by omega
      clear ht hdr hrd hbk hca hab
      go_wp2_with fail
      go_quiet (fail)
      go_wp2_with fail
      go_ret2
      exact ⟨by rw [HT.out]; rfl, by rw [HT.out]; exact HR.out, by have h := hg; exact ⟨h.os, h.tape, h.output, h.size, h.block⟩⟩
  · obtain rfl : j = k := by omega
    have ht : takeR r j = ((valB (r.take j), true), r.drop j) := by unfold takeR; rw [if_pos hjr]
    have HT := Lib.hid ht; clear ht
    go_wp2
    go_ret2
    exact ⟨by rw [HT.out]; rfl, by rw [HT.out]; exact HR.out, hg⟩
end Go.Proofs.YtdpjdifoonfcdaaGreatDoor

namespace Go.Proofs.YtdpjdifoonfcdaaGreatDoor
open Go.RowKit
theorem unfolded_any (u : Nat) (w : World) (hu : u <= 25769803776) :
 Calls Tryz.prog 235 #[.int .i64 (u : Nat)] w fun e w' => e = .returned (.int .i64 (unfU u)) /\ w' = w := by
 by_cases h : u % 2 = 1
 · have h1 : (u : Int).tmod 2 = 1 := by rw [Int.tmod_eq_emod_of_nonneg (by omega)]; omega
   have h2 : (-((u : Int) + 1)).tdiv 2 = -(((u : Int) + 1) / 2) := by
    rw [Int.neg_tdiv, Int.tdiv_eq_ediv_of_nonneg (by omega)]
   go_enter Tryz.func235, Tryz.ntmps235
   go_wp2
   go_ret
   exact ⟨ret_int (by rw [unfU, if_pos h]), rfl⟩
 · have h1 : (u : Int).tmod 2 = 0 := by rw [Int.tmod_eq_emod_of_nonneg (by omega)]; omega
   have h2 : (u : Int).tdiv 2 = (u : Int) / 2 := Int.tdiv_eq_ediv_of_nonneg (by omega)
   go_enter Tryz.func235, Tryz.ntmps235
   go_wp2
   go_ret
   exact ⟨ret_int (by rw [unfU, if_neg h]), rfl⟩
set_option maxRecDepth 100000 in
set_option maxHeartbeats 2000000 in
theorem value_any (B bR : Nat) (l r : List Nat) (o sh : Nat) (w : World) (h : RdS B bR l w r) (hd : ∀ d ∈ l, d < 256) (hl : l.length <= 1099511627776) (hsh : sh <= 30) :
 Calls Tryz.prog 234 #[.agg #[.int .i64 (o : Nat), .int .i64 (sh : Nat)], .iface 290 (.pointer (some ⟨bR, 0, none⟩))] w fun e w' => e = .returned (.tuple #[.int .i64 ((valueR sh 20 r).1.1 : Nat), .bool (valueR sh 20 r).1.2]) /\ RdS B bR l w' (valueR sh 20 r).2 /\ w.grownBy w' (some bR) := by
 have HT := fun r k w h hk => reader_take B bR l r k w h hd hl hk
 have hlt := h.lt
 have h1 := h.kept (World.grownBy_alloc w (.cells #[.int .i64 (o : Nat), .int .i64 (sh : Nat)] 280) none) (fun k e => by simp at e)
 have H1 := Lib.hid h1; have HTK := Lib.hid HT; have HBT := Lib.hid h.bits
 have hB := h.1
 have hg1 : w.grownBy (w.alloc (.cells #[.int .i64 (o : Nat), .int .i64 (sh : Nat)] 280)) (some bR) := World.grownBy_alloc w _ _
 have hbw := Blk.new w 280 #[.int .i64 (o : Nat), .int .i64 (sh : Nat)]
 have HBW := Lib.hid hbw
 clear hd HT h1 h hbw
 go_enter Tryz.func234, Tryz.ntmps234
 go_wp2
 go_loopw [6] (fun q wr => ∃ (n : Nat) (s : List Nat), n < 20 /\ q = .int .i64 n /\ valueR sh (20 - n) s = valueR sh 20 r /\ RdS B bR l wr s /\ Blk wr w.heap.size 280 #[.int .i64 (o : Nat), .int .i64 (sh : Nat)] /\ w.grownBy wr (some bR)) (fun q _ => 20 - (intOf q).toNat)
 case atStart => exact ⟨0, r, by omega, rfl, rfl, H1.out, HBW.out, hg1⟩
 case round =>
  clear H1 hg1 HBW
  obtain ⟨n, s, hn, rfl, hv, hs, hbw, hg⟩ := hrel
  obtain ⟨f, hf⟩ : ∃ f, 20 - n = f + 1 := ⟨19 - n, by omega⟩
  rw [hf] at hv
  have HV := Lib.hid hv
  have HBW := Lib.hid hbw
  clear hv hbw
  have ht := HTK.out s 1 wr hs (by omega)
  have HTT := Lib.hid ht
  have hbt := hs.bits
  clear ht hs
  cases s with
  | nil =>
    have hv := HV.out
    rw [valueR] at hv
    have HV2 := Lib.hid hv
    clear hv
    have e1 : takeR [] 1 = ((0, false), []) := rfl
    have E1 := Lib.hid e1; clear e1
    go_wp2_with fail
    refine HTT.out.mono ?_
    rintro e w1 ⟨rfl, hs1, hg1⟩
    rw [E1.out] at hs1 ⊢
    have HS1 := Lib.hid hs1
    have hgg := hg.trans hg1
    clear hs1
    go_wp2
    go_ret2
    exact ⟨by rw [<- HV2.out]; rfl, by rw [<- HV2.out]; exact HS1.out, hgg⟩
  | cons b s =>
    have hb1 : b <= 1 := hbt b (by simp)
    have e1 : takeR (b :: s) 1 = ((b, true), s) := by simp [takeR, valB]
    have E1 := Lib.hid e1; clear e1 hbt
    go_wp2_with fail
    refine HTT.out.mono ?_
    rintro e w1 ⟨rfl, hs1, hg1⟩
    rw [E1.out] at hs1 ⊢
    have hb2 := HBW.out.kept hg1 (by simp; omega)
    have hgg := hg.trans hg1
    by_cases hb0 : b = 0
    · subst hb0
      have hv := HV.out
      rw [valueR, if_pos rfl] at hv
      have HV2 := Lib.hid hv
      have hc1 := hb2.c1
      have hbd := takeR_bd hs1.bits sh
      have ht2 := HTK.out s sh w1 hs1 (by omega)
      have HT2 := Lib.hid ht2
      have HB2 := Lib.hid hb2
      clear hv ht2 hs1 hb2 hg1 HTT
      go_wp2_with fail
      refine HT2.out.mono ?_
      rintro e w2 ⟨rfl, hs2, hg2⟩
      have hb3 : Blk w2 w.heap.size 280 #[.int .i64 (o : Nat), .int .i64 (sh : Nat)] := HB2.out.kept hg2 (by simp; omega)
      have hc3 := hb3.c1
      have hgg2 := hgg.trans hg2
      have HS2 := Lib.hid hs2
      clear hs2 hb3
      have hmul : n * 2 ^ sh <= 20 * 2 ^ 30 := Nat.mul_le_mul (by omega) (Nat.pow_le_pow_right (by decide) hsh)
      have hor := or_low n sh (takeR s sh).1.1 hbd.1 (by have := hbd.1; have : (2 : Nat) ^ sh <= 2 ^ 30 := Nat.pow_le_pow_right (by decide) hsh; omega)
      have hwr : wrap64 ((n : Int) * 2 ^ sh) = ((n * 2 ^ sh : Nat) : Int) := by
       have e : ((n * 2 ^ sh : Nat) : Int) = (n : Int) * 2 ^ sh := by simp
       rw [<- e]
       simp only [wrap64]; omega
      have hnf : 20 - (f + 1) = n := by omega
      rw [hnf] at HV2
      have HOR := Lib.hid hor; have HWR := Lib.hid hwr
      clear hor hwr hmul
      go_wp2_with fail
      go_ret2
      exact ⟨by rw [<- HV2.out, HWR.out, HOR.out]; rfl, by rw [<- HV2.out]; exact HS2.out, hgg2⟩
    · obtain rfl : b = 1 := by omega
      have hv := HV.out
      rw [valueR, if_neg hb0] at hv
      have HV2 := Lib.hid hv
      clear hv hb0
      by_cases h20 : n + 1 = 20
      · obtain rfl : f = 0 := by omega
        have ht2 := HTK.out s 32 w1 hs1 (by omega)
        have HT2 := Lib.hid ht2
        have hn20 : (n : Int) + 1 = 20 := by omega
        clear ht2 hs1 hb2 hg1 HTT
        go_wp2_with fail
        refine HT2.out.mono ?_
        rintro e w2 ⟨rfl, hs2, hg2⟩
        have hgg2 := hgg.trans hg2
        have HS2 := Lib.hid hs2
        clear hs2
        go_wp2
        go_ret2
        exact ⟨by rw [<- HV2.out]; rfl, by rw [<- HV2.out]; exact HS2.out, hgg2⟩
      · have HS1 := Lib.hid hs1; have HB2 := Lib.hid hb2
        have hn20 : ¬ (n : Int) + 1 = 20 := by omega
        clear hs1 hb2 hg1 HTT
        go_wp2
        go_roundw
        case rel => exact ⟨n + 1, s, by omega, by go_num, by rw [show 20 - (n + 1) = f from by omega]; exact HV2.out, HS1.out, HB2.out, hgg⟩
        case measure => simp [intOf]; omega
end Go.Proofs.YtdpjdifoonfcdaaGreatDoor

namespace Go.Proofs.YtdpjdifoonfcdaaGreatDoor
open Go.RowKit
theorem psum_start {xs : List Int} (h : 0 < xs.length) : (psum xs).take 1 ++ xs.drop 1 = xs := by
 match xs, h with
 | x :: t, _ => simp [psum, List.range_succ_eq_map]
set_option maxRecDepth 100000 in
set_option maxHeartbeats 1000000 in
theorem samples_any (ao : Option Addr) (xs : List Int) (cap : Nat) (o : Nat) (w : World) (hc : Cells w ao (xs.map (Value.int .i64))) (hl : xs.length <= 64) (ho : o <= 3) (hx : ∀ x ∈ xs, -12884901889 <= x /\ x <= 12884901889) :
 Calls Tryz.prog 236 #[.slice ao xs.length cap, .int .i64 (o : Nat)] w fun e w' => (∃ v, e = .returned v /\ w'.ownsRow w.heap.size 3 1 v (sumsR xs o).length ((sumsR xs o).map (Value.int .i64))) /\ Below w.heap.size w w' := by
 have HC := Lib.hid hc; have HX := Lib.hid hx; clear hc hx
 go_enter Tryz.func236, Tryz.ntmps236
 go_wp2_with fail
 refine (clone_any ao xs cap w HC.out (by omega)).mono ?_
 rintro e w1 ⟨⟨v, rfl, hown⟩, hb1⟩
 obtain ⟨g, cg, hv⟩ : ∃ g cg, v = .slice g xs.length cg := by
  obtain ⟨a, c, h, _⟩ := own_cells hown; exact ⟨a, c, h⟩
 subst hv
 have HO := Lib.hid hown; clear hown
 go_wp2
 go_loopw [10] (fun i wr => ∃ k : Nat, k <= o /\ i = .int .i64 k /\ wr.ownsRow w.heap.size 3 1 (.slice g xs.length cg) xs.length ((sumsR xs k).map (Value.int .i64)) /\ Below w.heap.size w wr) (fun i _ => o - (intOf i).toNat)
 case atStart => exact ⟨0, Nat.zero_le _, rfl, HO.out, hb1⟩
 case round =>
  clear hb1
  obtain ⟨k, hk, rfl, hown, hb⟩ := hrel
  obtain ⟨wo, rfl⟩ : ∃ wo : World, wo = wr := ⟨_, rfl⟩
  have HO2 := Lib.hid hown; clear hown
  by_cases hlt : k < o
  · have hrl := sumsR_length xs k
    have hrb := sumsR_bd hl HX.out k (by omega)
    have hrb2 := sumsR_bd hl HX.out (k + 1) (by omega)
    rw [sumsR] at hrb2
    generalize hys : sumsR xs k = ys at *
    have HYS : Hid (sumsR xs (k + 1) = psum ys) := by rw [<- hys]; rfl
    clear hys
    have HYB := Lib.hid hrb; have HPB := Lib.hid hrb2; clear hrb hrb2
    have hrl2 : xs.length = ys.length := hrl.symm
    have hyl : ys.length <= 4096 := by omega
    clear hl
    generalize xs.length = n at *
    subst hrl2
    clear hrl
    go_wp2
    go_loopw [14] (fun i wi => ∃ j : Nat, j <= ys.length /\ i = .int .i64 (j : Int) /\ wi.ownsRow w.heap.size 3 1 (.slice g ys.length cg) ys.length (((psum ys).take j ++ ys.drop j).map (Value.int .i64)) /\ Below w.heap.size w wi) (fun i _ => ys.length - (intOf i).toNat)
    case atStart =>
     refine ⟨0, Nat.zero_le _, rfl, ?_, hb⟩
     rw [List.take_zero, List.drop_zero, List.nil_append]
     exact HO2.out
    case round =>
     clear hb
     obtain ⟨j, hj, rfl, hown, hb⟩ := hrel
     by_cases h1 : j < ys.length
     · rcases Nat.eq_zero_or_pos j with h0 | h0
       · subst h0
         have hst := psum_start h1
         rw [List.take_zero, List.drop_zero, List.nil_append] at hown
         have hown2 : wr.ownsRow w.heap.size 3 1 (.slice g ys.length cg) ys.length (((psum ys).take 1 ++ ys.drop 1).map (Value.int .i64)) := by rw [hst]; exact hown
         have HF := Lib.hid hown2
         clear hown hown2 hst
         go_wp2
         go_roundw
         case rel => exact ⟨1, by omega, by go_num, HF.out, hb⟩
         case measure => simp [intOf]; omega
       · obtain ⟨q, rfl⟩ : ∃ q, j = q + 1 := ⟨j - 1, by omega⟩
         have e1 : (((q + 1 : Nat) : Int)) = (q : Int) + 1 := by omega
         rw [e1]
         obtain ⟨x, hx⟩ := get_of_lt (show q + 1 < ys.length by omega)
         obtain ⟨y, hy⟩ := get_of_lt (show q < (psum ys).length by rw [psum_length]; omega)
         have hst := psum_step hx hy
         have bx := HYB.out x (List.mem_of_getElem? hx)
         have bY := HPB.out y (List.mem_of_getElem? hy)
         obtain ⟨bx1, bx2⟩ := bx
         obtain ⟨by1, by2⟩ := bY
         obtain ⟨a, c, hv, hcs⟩ := own_cells hown
         simp only [Value.slice.injEq, true_and] at hv
         obtain ⟨rfl, rfl⟩ := hv
         obtain ⟨gb, go, rfl⟩ := hcs.addr (List.ne_nil_of_length_pos (by rw [List.length_map, List.length_append, List.length_take, psum_length]; omega))
         have hg0 : go = 0 := by
          rcases hown.2 with ⟨h, _⟩ | ⟨_, _, _, h, _⟩
          · simp at h
          · simp at h; exact h.1.2
         subst hg0
         have hlx : ((psum ys).take (q + 1)).length = q + 1 := by rw [List.length_take, psum_length]; omega
         have c1 : wr.cell? ⟨gb, q + 1, none⟩ = some (.int .i64 x) := by
          rw [hown.cellAt (q + 1) (by omega), List.getElem?_map, List.getElem?_append_right (by omega), hlx, Nat.sub_self, List.getElem?_drop, Nat.add_zero, hx]; rfl
         have c2 : wr.cell? ⟨gb, q, none⟩ = some (.int .i64 y) := by
          rw [hown.cellAt q (by omega), List.getElem?_map, List.getElem?_append_left (by rw [hlx]; omega), List.getElem?_take, if_pos (by omega), hy]; rfl
         have f1 := hown.frozenAt (q + 1)
         have hsto := (hown.stored (q + 1) (.int .i64 (x + y))).1
         rw [<- List.map_set, hst] at hsto
         have hgb : w.heap.size <= gb := (hown.lt gb rfl).1
         have hb2 : Below w.heap.size w (wr.setCell ⟨gb, q + 1, none⟩ (.int .i64 (x + y))) := hb.setCell hgb _
         have HST := Lib.hid hsto; have HB2 := Lib.hid hb2
         clear hsto hb2 hst hx hy hcs hown e1 hlx
         have i1 : (q : Int) + 1 < ys.length := by omega
         have i2 : (q : Int) < ys.length := by omega
         have i3 : (0 : Int) <= q := by omega
         have i4 : (0 : Int) <= (q : Int) + 1 := by omega
         have q1 : IntKind.i64.wrap (((q + 1 : Nat) : Int) - 1) = (q : Int) := by rw [IntWalk.i64_in _ (by omega)]; omega
         have q6 : IntKind.i64.wrap (q : Int) = (q : Int) := IntWalk.i64_in _ (by omega)
         have q2 : IntKind.i64.wrap (x + y) = x + y := IntWalk.i64_in _ (by omega)
         have q5 : IntKind.i64.wrap ((q : Int) + 1 - 1) = (q : Int) := by rw [IntWalk.i64_in _ (by omega)]; omega
         have q3 : (((q : Int) + 1)).toNat = q + 1 := by omega
         have q4 : (0 : Int) < (q : Int) + 1 := by omega
         go_wp2
         go_still_tail 11, (by kernel_rfl)
         change wpList _ _ _ _ _ wr.drew
         have c1d : wr.drew.cell? ⟨gb, q + 1, none⟩ = some (.int .i64 x) := c1
         have f1d : wr.drew.frozen? ⟨gb, q + 1, none⟩ = false := f1
         have HSTd : Hid ((wr.drew.setCell ⟨gb, q + 1, none⟩ (.int .i64 (x + y))).ownsRow w.heap.size 3 1 (.slice (some ⟨gb, 0, none⟩) ys.length cg) ys.length (((psum ys).take (q + 2) ++ ys.drop (q + 2)).map (Value.int .i64))) := HST.out
         have HB2d : Hid (Below w.heap.size w (wr.drew.setCell ⟨gb, q + 1, none⟩ (.int .i64 (x + y)))) := by
          have h := HB2.out
          exact ⟨h.os, h.tape, h.output, h.size, h.block⟩
         clear HST HB2 c1 c2 f1 q1 q2 q5 q6
         generalize wr.drew = wd at *
         go_wp2
         go_roundw
         case rel => exact ⟨q + 2, by omega, by go_num, HSTd.out, HB2d.out⟩
         case measure => simp [intOf]; omega
     · obtain rfl : j = ys.length := by omega
       have hpl : (psum ys).take ys.length = psum ys := by rw [List.take_of_length_le (by rw [psum_length]; exact Nat.le_refl _)]
       rw [List.drop_length, List.append_nil, hpl] at hown
       have HF := Lib.hid hown; clear hown hpl
       go_wp2
       go_roundw
       case rel => exact ⟨k + 1, by omega, by go_num, by rw [HYS.out]; exact HF.out, hb⟩
       case measure => simp [intOf]; omega
  · obtain rfl : k = o := by omega
    have hrl := sumsR_length xs k
    have HRL := Lib.hid hrl; clear hrl
    go_wp2
    go_ret
    exact ⟨⟨_, rfl, by rw [HRL.out]; exact HO2.out⟩, hb⟩
end Go.Proofs.YtdpjdifoonfcdaaGreatDoor

namespace Go.Proofs.YtdpjdifoonfcdaaGreatDoor
open Go.RowKit
def ReadRes (base B bR : Nat) (l : List Nat) (res : Option (List Int × List Nat)) (e : Ending) (w' : World) : Prop := match res with
 | some p => (∃ v, e = .returned (.tuple #[v, .bool true]) /\ w'.ownsRow base 3 1 v p.1.length (p.1.map (Value.int .i64))) /\ RdS B bR l w' p.2
 | none => e = .returned (.tuple #[.slice none 0 0, .bool false])
set_option maxRecDepth 100000 in
set_option maxHeartbeats 2000000 in
theorem read_any (B bR : Nat) (l r : List Nat) (m : Nat) (w : World) (h : RdS B bR l w r) (hd : ∀ d ∈ l, d < 256) (hl : l.length <= 1099511627776) (hm : m <= 64) :
 Calls Tryz.prog 190 #[.iface 290 (.pointer (some ⟨bR, 0, none⟩)), .int .i64 (m : Nat)] w fun e w' => ReadRes w.heap.size B bR l (readR m r) e w' /\ w.grownBy w' (some bR) := by
 have HTK := Lib.hid (fun r k w h hk => reader_take B bR l r k w h hd hl hk)
 have HVA := Lib.hid (fun r o sh w h hs => value_any B bR l r o sh w h hd hl hs)
 have HH := Lib.hid h
 have hbR := h.lt
 have hB := h.1
 have h1 := HTK.out r 2 w h (by omega)
 have H1 := Lib.hid h1
 have hbd1 := takeR_bd h.bits 2
 obtain ⟨ho3, hbits1⟩ := hbd1
 have hbd2 := takeR_bd hbits1 5
 obtain ⟨hs31, hbits2⟩ := hbd2
 have hrd : readR m r = if (takeR (takeR r 2).2 5).1.2 = true /\ (takeR (takeR r 2).2 5).1.1 <= 30 then (rowR (takeR (takeR r 2).2 5).1.1 m (takeR (takeR r 2).2 5).2 []).map fun p => (sumsR p.1 (takeR r 2).1.1, p.2) else none := rfl
 generalize readR m r = res at *
 generalize ht1 : takeR r 2 = t1 at *
 obtain ⟨⟨o, ok1⟩, r1⟩ := t1
 simp only at hrd ho3 hbits1 hs31 hbits2 H1
 generalize ht2 : takeR r1 5 = t2 at *
 obtain ⟨⟨sh, ok2⟩, r2⟩ := t2
 simp only at hrd hs31 hbits2
 have HT2 := Lib.hid ht2
 have HRD := Lib.hid hrd
 clear hd h1 h ht1 hbits1 hbits2 ht2 hrd HH
 go_enter Tryz.func190, Tryz.ntmps190
 go_wp2_with fail
 refine H1.out.mono ?_
 rintro e w1 ⟨rfl, hs1, hg1⟩
 have h2 := HTK.out r1 5 w1 hs1 (by omega)
 rw [HT2.out] at h2
 have H2 := Lib.hid h2
 clear h2 hs1
 go_wp2_with fail
 refine H2.out.mono ?_
 rintro e w2 ⟨rfl, hs2, hg2⟩
 have hg := hg1.trans hg2
 have HS2 := Lib.hid hs2
 have hz := hg.size
 clear hg1 hg2 hs2 H1 H2 HT2
 cases ok2 with
 | false =>
   have hr : res = none := by rw [HRD.out, if_neg (by simp)]
   have HRN := Lib.hid hr; clear hr
   go_wp2
   go_ret2
   rw [HRN.out]
   exact ⟨rfl, hg⟩
 | true =>
   by_cases h30 : sh <= 30
   · have hr : res = (rowR sh m r2 []).map fun p => (sumsR p.1 o, p.2) := by rw [HRD.out, if_pos ⟨rfl, h30⟩]
     have HRN := Lib.hid hr; clear hr HRD
     have hz2 : w2.heap.size < (w2.alloc (.cells #[.int .i64 (o : Nat), .int .i64 (sh : Nat)] 280)).heap.size := by simp
     have hs3 := HS2.out.kept (World.grownBy_alloc w2 (.cells #[.int .i64 (o : Nat), .int .i64 (sh : Nat)] 280) none) (fun k e => by simp at e)
     have hg3 : w.grownBy (w2.alloc (.cells #[.int .i64 (o : Nat), .int .i64 (sh : Nat)] 280)) (some bR) := hg.trans (World.grownBy_alloc w2 _ _)
     have hb3 := Blk.new w2 280 #[.int .i64 (o : Nat), .int .i64 (sh : Nat)]
     have HS3 := Lib.hid hs3; have HG3 := Lib.hid hg3; have HB3 := Lib.hid hb3
     clear hs3 hg3 hb3 hg HS2 hz2
     go_wp2
     go_loopw [11, 34] (fun v i wr => ∃ (k : Nat) (s : List Nat) (acc : List Int), k <= m /\ i = .int .i64 k /\ acc.length = k /\ (∀ x ∈ acc, -12884901889 <= x /\ x <= 12884901889) /\ rowR sh (m - k) s acc = rowR sh m r2 [] /\ RdS B bR l wr s /\ Blk wr w2.heap.size 280 #[.int .i64 (o : Nat), .int .i64 (sh : Nat)] /\ wr.ownsRow w.heap.size 3 1 v k (acc.map (Value.int .i64)) /\ w.grownBy wr (some bR)) (fun _ i _ => m - (intOf i).toNat)
     case atStart => exact ⟨0, r2, [], Nat.zero_le _, rfl, rfl, by simp, rfl, HS3.out, HB3.out, World.ownsRow_nil _ _ _ _, HG3.out⟩
     case round =>
      clear HS3 HG3 HB3
      obtain ⟨k, s, acc, hk, rfl, hal, hab, hrow, hs, hb, hown, hg⟩ := hrel
      have HROW := Lib.hid hrow; have HAB := Lib.hid hab
      clear hrow hab
      by_cases hlt : k < m
      · have hv := HVA.out s o sh wr hs h30
        have HV := Lib.hid hv
        have hvb := valueR_bd h30 20 (Nat.le_refl _) hs.bits
        have c0 := hb.c0
        have c1 := hb.c1
        have HB := Lib.hid hb; have HOW := Lib.hid hown
        obtain ⟨d, hd⟩ : ∃ d, m - k = d + 1 := ⟨m - k - 1, by omega⟩
        have hrow := HROW.out
        rw [hd, rowR] at hrow
        have HROW2 := Lib.hid hrow
        clear hrow hv hb hown hs HROW
        generalize hvr : valueR sh 20 s = vr at *
        obtain ⟨⟨u, ok⟩, s2⟩ := vr
        simp only at HROW2 hvb HV
        clear hvr
        go_wp2_with fail
        refine HV.out.mono ?_
        rintro e w3 ⟨rfl, hs3, hg3⟩
        have hg4 := hg.trans hg3
        cases ok with
        | false =>
          have hr : res = none := by
           have := HROW2.out
           rw [if_neg (by simp)] at this
           rw [HRN.out, <- this]; rfl
          have HR0 := Lib.hid hr
          clear hr hs3 c0 c1
          go_wp2
          go_ret2
          rw [HR0.out]
          exact ⟨rfl, hg4⟩
        | true =>
          have hrow := HROW2.out
          rw [if_pos rfl] at hrow
          have HROW3 := Lib.hid hrow
          have hub := unfU_bd hvb.1
          have hbR2 : bR ≠ w2.heap.size := by omega
          have hb4 := HB.out.kept hg3 (by simp; omega)
          have hown3 := HOW.out.kept hg3 (.inr (fun e => by have := (HOW.out.lt _ e).1; omega))
          have HB4 := Lib.hid hb4; have HO3 := Lib.hid hown3; have HS3 := Lib.hid hs3
          have hz4 := hg4.size
          have HG4 := Lib.hid hg4
          obtain ⟨i0, hi, hz0, hz1, hz2⟩ := info_parts Tryz.infoInt
          clear hrow hb4 hown3 hs3 c0 c1 HROW2 HV hg3 hg hg4
          go_wp2_with fail
          refine (unfolded_any u _ hvb.1).mono ?_
          rintro e w4 ⟨rfl, rfl⟩
          go_wp2_with (at_builtin; refine wpList_append_lies _ rfl _ _ _ rfl w.heap.size 3 i0 (.int .i64 0) 1 8 Tryz.underlying24 hi hz0 hz1 hz2 rfl (by decide) _ _ _ rfl (HO3.out.alloc _) ⟨w4.heap.size, 0, none⟩ 1 1 [.int .i64 (unfU u)] rfl rfl (news1 _ _ _) (by simp [Value.oneCell']) (by omega) (by unfold maxLen; omega) (by omega) (by simp; omega) (w4.heap.size + 1) (by simp) ?_)
          intro g1 cg1 w5 hown5 hgrow hat hlt1
          have ha1 := World.grownBy_alloc w4 (.cells #[.int .i64 (unfU u)] 3)
          have hs5 := (HS3.out.kept (ha1 none) (fun k e => by simp at e)).kept hgrow (fun k e => by have := (HO3.out.lt k e).1; omega)
          have hb5 := (HB4.out.alloc (.cells #[.int .i64 (unfU u)] 3)).kept hgrow (fun e => blk_own_ne HB4.out HO3.out (by decide) e.symm)
          have hg5 : w.grownBy w5 (some bR) := (HG4.out.trans (ha1 _)).andThen hgrow (fun j e => .inl (HO3.out.lt j e).1)
          have HS5 := Lib.hid hs5; have HB5 := Lib.hid hb5; have HG5 := Lib.hid hg5; have HO5 := Lib.hid hown5
          clear hs5 hb5 hg5 hown5 hgrow hat hlt1 ha1 HG4 HB4 HO3 HS3
          go_wp2
          go_roundw
          case rel => exact ⟨k + 1, s2, acc ++ [unfU u], by omega, by go_num, by rw [List.length_append, hal]; rfl, (by
           intro x hx
           rcases List.mem_append.1 hx with h | h
           · exact HAB.out x h
           · rw [List.mem_singleton.1 h]; exact hub), by rw [show m - (k + 1) = d from by omega]; exact HROW3.out, HS5.out, HB5.out, by rw [List.map_append]; exact HO5.out, HG5.out⟩
          case measure => simp [intOf]; omega
      · obtain rfl : k = m := by omega
        have hrow := HROW.out
        rw [Nat.sub_self, rowR] at hrow
        have hr : res = some (sumsR acc o, s) := by rw [HRN.out, <- hrow]; rfl
        obtain ⟨a, c, rfl, hcs⟩ := own_cells hown
        have hsm := samples_any a acc c o wr hcs (by omega) (by omega) HAB.out
        rw [hal] at hsm
        have HSM := Lib.hid hsm; have HR := Lib.hid hr; have HS := Lib.hid hs; have HG := Lib.hid hg
        clear hrow hr hcs hsm hs hg hown hb HROW
        go_wp2_with fail
        refine HSM.out.mono ?_
        rintro e w3 ⟨⟨v, rfl, ho⟩, hb3⟩
        have hs3 := HS.out.below hb3
        have hg3 : w.grownBy w3 (some bR) := HG.out.trans ⟨hb3.os, hb3.tape, hb3.output, hb3.size, fun k hk _ => hb3.block k hk⟩
        have ho3 := own_base ho HG.out.size
        have HS3 := Lib.hid hs3; have HG3 := Lib.hid hg3; have HO3 := Lib.hid ho3
        clear hs3 hg3 ho3 ho hb3
        go_wp2
        go_ret2
        rw [HR.out]
        exact ⟨⟨⟨v, rfl, HO3.out⟩, HS3.out⟩, HG3.out⟩
   · have hr : res = none := by rw [HRD.out, if_neg (fun h => h30 h.2)]
     have HRN := Lib.hid hr; clear hr
     have h31 : (30 : Int) < sh := by omega
     go_wp2
     go_ret2
     rw [HRN.out]
     exact ⟨rfl, hg⟩
end Go.Proofs.YtdpjdifoonfcdaaGreatDoor

namespace Go.Proofs.YtdpjdifoonfcdaaGreatDoor
open Go.RowKit
theorem equal_bytes (aa ab : Option Addr) (xs ys : List Nat) (ca cb : Nat) (w : World) (ha : Cells w aa (bys xs)) (hb : Cells w ab (bys ys)) (hl : xs.length <= 9223372036854775807) (hl' : ys.length <= 9223372036854775807) :
 Calls Tryz.prog 191 #[.slice aa xs.length ca, .slice ab ys.length cb] w fun e w' => e = .returned (.bool (decide (xs = ys))) /\ Below w.heap.size w w' := by
 by_cases hlen : xs.length = ys.length
 · have h1 : ((xs.length : Int) != ys.length) = false := by simp [hlen]
   have hlt : (ys.length : Int) <= xs.length := by omega
   have HL := Lib.hid hlen; clear hlen
   have HA := Lib.hid ha; have HB := Lib.hid hb; clear ha hb
   go_enter Tryz.func191, Tryz.ntmps191
   go_wp2
   go_loopw [13] (fun i wr => ∃ k : Nat, k <= xs.length /\ i = .int .i64 k /\ xs.take k = ys.take k /\ Below w.heap.size w wr) (fun i _ => xs.length - (intOf i).toNat)
   case atStart => exact ⟨0, Nat.zero_le _, rfl, rfl, Below.refl _ _⟩
   case round =>
    obtain ⟨k, hk, rfl, heq, hbe⟩ := hrel
    have HQ := Lib.hid heq; clear heq
    by_cases hlt : k < xs.length
    · have hlt2 : k < ys.length := by have := HL.out; omega
      obtain ⟨x, hx⟩ := get_of_lt hlt
      obtain ⟨y, hy⟩ := get_of_lt hlt2
      obtain ⟨b, off, rfl⟩ := HA.out.addr (bys_ne (by omega))
      obtain ⟨b2, off2, rfl⟩ := HB.out.addr (bys_ne (by omega))
      have c1 := cell_keep (HA.out.at (bys_get hx)) hbe (Nat.le_refl _)
      have c2 := cell_keep (HB.out.at (bys_get hy)) hbe (Nat.le_refl _)
      have i1 : (k : Int) < xs.length := by omega
      have i2 : (k : Int) < ys.length := by omega
      have i3 : (0 : Int) <= k := by omega
      by_cases hxy : x = y
      · obtain rfl := hxy
        have ht : xs.take (k + 1) = ys.take (k + 1) := by rw [take_get hx, take_get hy, HQ.out]
        have HT := Lib.hid ht; clear ht hx hy
        go_wp2
        go_quiet (fail)
        go_wp2
        go_roundw
        case rel => exact ⟨k + 1, by omega, by go_num, HT.out, bel_drewN hbe _⟩
        case measure => simp [intOf]; omega
      · have hne : decide (xs = ys) = false := by
         rw [decide_eq_false_iff_not]; rintro rfl
         rw [hx] at hy; simp at hy; exact hxy hy
        have HNE := Lib.hid hne; clear hne hx hy
        have hb1 : ((x : Int) == y) = false := by rw [beq_eq_false_iff_ne]; omega
        have hb2 : ((x : Int) != y) = true := by rw [bne_iff_ne]; omega
        go_wp2
        go_quiet (fail)
        go_wp2
        go_ret
        exact ⟨ret_bool HNE.out.symm, bel_drewN hbe _⟩
    · obtain rfl : k = xs.length := by omega
      have he : decide (xs = ys) = true := by
       rw [decide_eq_true_iff]
       have := HQ.out
       rw [List.take_length, HL.out, List.take_length] at this; exact this
      have HE := Lib.hid he; clear he
      go_wp2
      go_ret
      exact ⟨ret_bool HE.out.symm, hbe⟩
 · have h1 : ((xs.length : Int) != ys.length) = true := by simp; omega
   have he : decide (xs = ys) = false := by
    rw [decide_eq_false_iff_not]; rintro rfl; exact hlen rfl
   have HE := Lib.hid he; clear he
   go_enter Tryz.func191, Tryz.ntmps191
   go_wp2
   go_ret
   exact ⟨ret_bool HE.out.symm, Below.refl _ _⟩
theorem Tryz.infoInts : (Tryz.prog.info? 24).map (fun i => (i.zero, i.size, i.bytes)) = some (some (.slice none 0 0), 1, 24) := by kernel_rfl
theorem own_own_ne {w : World} {b b' : Nat} {T e : TypeId} {s s' n n' : Nat} {v v' : Value} {xs xs' : List Value} (h : w.ownsRow b T s v n xs) (ho : w.ownsRow b' e s' v' n' xs') (hT : T ≠ e) : v.ownBlock = none ∨ v.ownBlock ≠ v'.ownBlock := by
 rcases h.2 with ⟨rfl, _⟩ | ⟨g, cap, cur, rfl, _, hg, _⟩
 · exact .inl rfl
 · refine .inr fun e' => ?_
   have hb : Blk w g T cur := hg
   exact blk_own_ne hb ho hT (by rw [<- e']; rfl)
def FrO (base : Nat) (w : World) (v : Value) (xss : List (List Int)) : Prop :=
 ∃ vs, vs.length = xss.length /\ w.ownsRow base 24 1 v xss.length vs /\ ∀ (i : Nat) x xs, vs[i]? = some x -> xss[i]? = some xs -> w.ownsRow base 3 1 x xs.length (xs.map (Value.int .i64))
theorem FrO.kept {base : Nat} {w w' : World} {v : Value} {xss : List (List Int)} {row : Option Nat} (h : FrO base w v xss) (hg : w.grownBy w' row) (hr : ∀ k, row = some k -> base <= k -> ∀ cs T, w.heap[k]? = some (.cells cs T (0, 0)) -> T ≠ 3 /\ T ≠ 24) : FrO base w' v xss := by
 have key : ∀ (T : TypeId) (s n : Nat) (v : Value) (xs : List Value), (T = 3 ∨ T = 24) -> w.ownsRow base T s v n xs -> w'.ownsRow base T s v n xs := by
  intro T s n v xs hT ho
  refine ho.kept hg ?_
  rcases ho.2 with ⟨rfl, _⟩ | ⟨g, cap, cur, rfl, hb, hgg, _⟩
  · exact .inl rfl
  · refine .inr fun e => ?_
    have := hr g e.symm hb cur T hgg
    rcases hT with h | h
    · exact this.1 h
    · exact this.2 h
 obtain ⟨vs, h1, h2, h3⟩ := h
 exact ⟨vs, h1, key _ _ _ _ _ (.inr rfl) h2, fun i x xs hx hxs => key _ _ _ _ _ (.inl rfl) (h3 i x xs hx hxs)⟩
theorem FrO.below {base : Nat} {w w' : World} {v : Value} {xss : List (List Int)} (h : FrO base w v xss) (hb : Below w.heap.size w w') : FrO base w' v xss := by
 refine h.kept (row := none) ⟨hb.os, hb.tape, hb.output, hb.size, fun k hk _ => hb.block k hk⟩ (fun k e => by simp at e)
theorem FrO.base {base base' : Nat} {w : World} {v : Value} {xss : List (List Int)} (h : FrO base w v xss) (hb : base' <= base) : FrO base' w v xss := by
 obtain ⟨vs, h1, h2, h3⟩ := h
 exact ⟨vs, h1, own_base h2 hb, fun i x xs hx hxs => own_base (h3 i x xs hx hxs) hb⟩
theorem FrO.nil (base : Nat) (w : World) : FrO base w (.slice none 0 0) [] := ⟨[], rfl, World.ownsRow_nil _ _ _ _, fun i x xs hx => by simp at hx⟩
theorem FrO.cells {base : Nat} {w : World} {v : Value} {xss : List (List Int)} (h : FrO base w v xss) : ∃ a c vs, v = .slice a xss.length c /\ Cells w a vs /\ RowsV w vs xss /\ xss.length <= 9223372036854775807 := by
 obtain ⟨vs, h1, h2, h3⟩ := h
 obtain ⟨a, c, rfl, hc, hn, hm⟩ := own_cap h2
 have hmx : maxLen = 9223372036854775807 := rfl
 refine ⟨a, c, vs, rfl, hc, ⟨h1, fun i x xs hx hxs => ?_⟩, by omega⟩
 obtain ⟨a', c', rfl, hc', hn', hm'⟩ := own_cap (h3 i x xs hx hxs)
 exact ⟨a', c', rfl, hc', by omega⟩
theorem RdS.blk {B bR : Nat} {l r : List Nat} {w : World} (h : RdS B bR l w r) : ∃ cs, Blk w bR 292 cs := by
 obtain ⟨_, a, cap, at_, _, _, h3, _⟩ := h; exact ⟨_, h3⟩
theorem FrO.kept_blk {base : Nat} {w w' : World} {v : Value} {xss : List (List Int)} {b : Nat} {T : TypeId} {cs : Array Value} (h : FrO base w v xss) (hg : w.grownBy w' (some b)) (hb : Blk w b T cs) (h1 : T ≠ 3) (h2 : T ≠ 24) : FrO base w' v xss := by
 refine h.kept hg (fun k e _ cs' T' hk => ?_)
 obtain rfl : b = k := by simpa using e
 have hbb : w.heap[b]? = _ := hb
 rw [hbb] at hk
 simp at hk
 exact ⟨by rw [<- hk.2]; exact h1, by rw [<- hk.2]; exact h2⟩
theorem FrO.snoc {base : Nat} {w w' : World} {v v' x : Value} {xss : List (List Int)} {xs : List Int} {vs : List Value} (h1 : vs.length = xss.length) (h3 : ∀ (i : Nat) x xs, vs[i]? = some x -> xss[i]? = some xs -> w.ownsRow base 3 1 x xs.length (xs.map (Value.int .i64))) (h2 : w.ownsRow base 24 1 v xss.length vs) (hx : w.ownsRow base 3 1 x xs.length (xs.map (Value.int .i64)))
 (hg : w.grownBy w' v.ownBlock) (ho : w'.ownsRow base 24 1 v' (xss.length + 1) (vs ++ [x])) : FrO base w' v' (xss ++ [xs]) := by
 refine ⟨vs ++ [x], by simp [h1], by simpa using ho, fun i y ys hy hys => ?_⟩
 have key : ∀ (y : Value) (ys : List Int), w.ownsRow base 3 1 y ys.length (ys.map (Value.int .i64)) -> w'.ownsRow base 3 1 y ys.length (ys.map (Value.int .i64)) := fun y ys hh => hh.kept hg (own_own_ne hh h2 (by decide))
 rcases Nat.lt_trichotomy i xss.length with hi | hi | hi
 · rw [List.getElem?_append_left (by omega)] at hy hys
   exact key _ _ (h3 i y ys hy hys)
 · subst hi
   rw [<- h1, List.getElem?_append_right (Nat.le_refl _), Nat.sub_self] at hy
   rw [List.getElem?_append_right (Nat.le_refl _), Nat.sub_self] at hys
   simp at hy hys
   subst hy; subst hys
   exact key _ _ hx
 · rw [List.getElem?_eq_none (by simp; omega)] at hys
   contradiction
end Go.Proofs.YtdpjdifoonfcdaaGreatDoor

namespace Go.Proofs.YtdpjdifoonfcdaaGreatDoor
open Go.RowKit
def FirstRes (base : Nat) (ac : Option Addr) (res : Option ((Int × List (List Int)) × Nat)) (e : Ending) (w' : World) : Prop := match res with
 | some p => ∃ v cc, e = .returned (.tuple #[.agg #[.int .i64 p.1.1, v], .slice ac p.2 cc, .bool true]) /\ FrO base w' v p.1.2
 | none => e = .returned (.tuple #[.agg #[.int .i64 0, .slice none 0 0], .slice none 0 0, .bool false])
theorem firstR_none {bs : List Chan} {l : List Nat} (h : ¬ (7 <= l.length /\ l.getD 0 0 = 165 /\ l.getD 1 0 = 90 /\ endR l <= l.length)) : firstR bs l = none := by unfold firstR; rw [if_neg h]
theorem getD_of {l : List Nat} {i d : Nat} (h : l[i]? = some d) : l.getD i 0 = d := by rw [List.getD_eq_getElem?_getD, h]; rfl
theorem results_cell2 {P : Program} {fn : Func} {p u v : Tmp} {ty : TypeId} (h : fn.results = #[.cell p ty, .tmp u, .tmp v]) (tmps : Array Value) (w : World) :
 (results fn tmps).run P w = ((asAddr (tmps.getD p undef)).run P w).andThen fun a w₁ => ((loadVar ty a).run P w₁).andThen fun x w₂ => .ok (.tuple #[x, tmps.getD u undef, tmps.getD v undef]) w₂ := by
 simp only [results, h]
 simp [Sem.run_bind, Result.andThen]
set_option maxRecDepth 100000 in
set_option maxHeartbeats 4000000 in
theorem first_code (ao : Option Addr) (bs : List Chan) (cap : Nat) (ac : Option Addr) (l : List Nat) (cc : Nat) (w : World) (hb : BookIn w ao bs cap) (hok : bookOK bs = true) (hc : Cells w ac (bys l)) (hd : ∀ d ∈ l, d < 256) (hl : l.length <= 1099511627776) (hcap : l.length <= cc) (hcap2 : cc <= 9223372036854775807) :
 Calls Tryz.prog 119 #[.slice ao bs.length cap, .slice ac l.length cc] w fun e w' => FirstRes w.heap.size ac (firstR bs l) e w' /\ Below w.heap.size w w' := by
 have hbw := (Below.refl w.heap.size w).alloc (Nat.le_refl _) (.cells #[.int .i64 0, .slice none 0 0] 108)
 by_cases h7 : 7 <= l.length
 · obtain ⟨d0, hd0⟩ := get_of_lt (show 0 < l.length by omega)
   obtain ⟨d1, hd1⟩ := get_of_lt (show 1 < l.length by omega)
   obtain ⟨d2, hd2⟩ := get_of_lt (show 2 < l.length by omega)
   obtain ⟨d3, hd3⟩ := get_of_lt (show 3 < l.length by omega)
   obtain ⟨b, off, rfl⟩ := hc.addr (bys_ne (by omega))
   have c0 := cell_keep (hc.at (bys_get hd0)) hbw (Nat.le_refl _)
   rw [Nat.add_zero] at c0
   have c1 := cell_keep (hc.at (bys_get hd1)) hbw (Nat.le_refl _)
   have c2 := cell_keep (hc.at (bys_get hd2)) hbw (Nat.le_refl _)
   have c3 := cell_keep (hc.at (bys_get hd3)) hbw (Nat.le_refl _)
   have e2 := hd d2 (List.mem_of_getElem? hd2)
   have e3 := hd d3 (List.mem_of_getElem? hd3)
   have i0 : (0 : Int) < l.length := by omega
   have i1 : (1 : Int) < l.length := by omega
   have i2 : (2 : Int) < l.length := by omega
   have i3 : (3 : Int) < l.length := by omega
   have h7i : ¬ (l.length : Int) < 7 := by omega
   by_cases h0 : d0 = 165
   · subst h0
     by_cases h1 : d1 = 90
     · subst h1
       have hen : endR l = 4 + d2 * 256 + d3 + 3 := by unfold endR; rw [getD_of hd2, getD_of hd3]
       have w2 : wrap64 (d2 : Int) = d2 := by simp only [wrap64]; omega
       have w3 : wrap64 (d3 : Int) = d3 := by simp only [wrap64]; omega
       by_cases hend : endR l <= l.length
       · have HC := Lib.hid hc; have HB := Lib.hid hb; have HD := Lib.hid hd; have HOK := Lib.hid hok
         obtain ⟨en, hen2⟩ : ∃ en, en = endR l := ⟨_, rfl⟩
         have hbs16 : bs.length <= 16 /\ 1 <= bs.length := by
          have := hok
          simp only [bookOK, inB, Bool.and_eq_true, decide_eq_true_eq] at this
          omega
         obtain ⟨hbs16, hbs1⟩ := hbs16
         have HCND : Hid (7 <= l.length /\ l.getD 0 0 = 165 /\ l.getD 1 0 = 90 /\ endR l <= l.length) := Lib.hid ⟨h7, getD_of hd0, getD_of hd1, hend⟩
         rw [<- hen2] at hen hend
         have hEN : (4 : Int) + (d2 : Int) * 256 + d3 + 3 = (en : Int) := by omega
         have hlt : ¬ (l.length : Int) < 4 + (d2 : Int) * 256 + d3 + 3 := by omega
         have hle7 : 7 <= en := by omega
         have HE2 := Lib.hid hen2
         have HEN := Lib.hid hEN
         clear hEN
         have hbd := bel_drewN hbw
         clear hc hb hd hok hen2
         have HEN3 := Lib.hid hen
         clear hen
         by_cases h77 : en = 7
         · subst h77
           have hr7 : rowsR bs l = none := by
            have h1 : (l.take (7 - 3)).drop 4 = [] := by
             apply List.eq_nil_of_length_eq_zero
             rw [List.length_drop, List.length_take]; omega
            unfold rowsR
            rw [<- HE2.out, h1]; rfl
           have hn : firstR bs l = none := by
            unfold firstR; rw [if_pos HCND.out, hr7]
           have HN := Lib.hid hn
           obtain ⟨c, hx⟩ := get_of_lt (show 0 < bs.length by omega)
           obtain ⟨bb, bo, rfl⟩ := HB.out.cells.addr (chs_ne (by omega))
           have hi0 : (0 : Int) < bs.length := by omega
           have HX := Lib.hid hx
           clear hr7 hn hx
           go_enter Tryz.func119, Tryz.ntmps119
           go_wp2_with fail
           go_quiet (fail)
           have k1 : ¬ (l.length : Int) < (7 : Int) := by omega
           have k2 : (7 : Int) <= cc := by omega
           have k3 : 7 <= cc := by omega
           rw [HEN.out]
           clear HEN hlt w2 w3 c0 c1 c2 c3 hd0 hd1 hd2 hd3
           go_wp2_with fail
           have hblt : b < w.heap.size := by
            have h1 := HC.out.at (bys_get (get_of_lt (show 0 < l.length by omega)).choose_spec)
            have h2 := World.block_lt_of_cell? w _ h1
            simpa using h2
           have hw1 := (bel_drewN hbw nq).alloc (by simp) (.cells #[.slice (some ⟨b, off, none⟩) 0 0, .int .i64 0] 292)
           have hbx1 : Blk (((w.alloc (.cells #[.int .i64 0, .slice none 0 0] 108)).drewN nq).alloc (.cells #[.slice (some ⟨b, off, none⟩) 0 0, .int .i64 0] 292)) w.heap.size 108 #[.int .i64 0, .slice none 0 0] := Blk.alloc (W := (w.alloc (.cells #[.int .i64 0, .slice none 0 0] 108)).drewN nq) (Blk.new w 108 #[.int .i64 0, .slice none 0 0]) _
           have hrd1 : RdS w.heap.size (w.heap.size + 1) [] (((w.alloc (.cells #[.int .i64 0, .slice none 0 0] 108)).drewN nq).alloc (.cells #[.slice (some ⟨b, off, none⟩) 0 0, .int .i64 0] 292)) [] := by
            refine ⟨by omega, some ⟨b, off, none⟩, 0, 0, Nat.zero_le _, rfl, ?_, Cells.nil _ _, fun b' off' e => by simp at e; omega⟩
            have h1 := World.alloc_heap_new ((w.alloc (.cells #[.int .i64 0, .slice none 0 0] 108)).drewN nq) (.cells #[.slice (some ⟨b, off, none⟩) 0 0, .int .i64 0] 292)
            have h2 : ((w.alloc (.cells #[.int .i64 0, .slice none 0 0] 108)).drewN nq).heap.size = w.heap.size + 1 := by simp
            rw [h2] at h1
            exact h1
           generalize ((w.alloc (.cells #[.int .i64 0, .slice none 0 0] 108)).drewN nq).alloc (.cells #[.slice (some ⟨b, off, none⟩) 0 0, .int .i64 0] 292) = W1 at *
           refine (reader_take w.heap.size (w.heap.size + 1) [] [] 32 W1 hrd1 (by simp) (by simp) (by omega)).mono ?_
           rintro e w2 ⟨rfl, hs2, hg2⟩
           have ht0 : takeR [] 32 = ((0, false), []) := rfl
           rw [ht0]
           have hbx2 := hbx1.kept hg2 (by simp)
           have hb2 : Below w.heap.size w w2 := hw1.grown hg2 (by have := hw1.size; omega) (fun k e => by simp at e; omega)
           have hz2 := hb2.size
           have hb3 := hb2.alloc hz2 (.cells #[.int .i64 0, .slice none 0 0] 108)
           have hb4 := hb3.alloc (by simp; omega) (.cells #[.string c.name, .int .i64 c.rate, .int .i64 c.bits] 104)
           have hbx4 := (hbx2.alloc (.cells #[.int .i64 0, .slice none 0 0] 108)).alloc (.cells #[.string c.name, .int .i64 c.rate, .int .i64 c.bits] 104)
           obtain ⟨g0, g1, g2⟩ := chs_get HX.out
           have c0 := cell_keep (HB.out.cells.at g0) hb3 (Nat.le_refl _)
           have c1 := cell_keep (HB.out.cells.at g1) hb3 (Nat.le_refl _)
           have c2 := cell_keep (HB.out.cells.at g2) hb3 (Nat.le_refl _)
           rw [<- Nat.add_assoc] at c1 c2
           simp only [Nat.zero_mul, Nat.add_zero] at c0 c1 c2
           have x0 := hbx4.c0
           have x1 := hbx4.c1
           have y0 := hbx4.free 0
           have y1 := hbx4.free 1
           clear hs2 hg2 hw1 hbx1 hrd1 hbd hbw g0 g1 g2 hbx2 ht0
           go_wp2_with fail
           refine wp_loop_rounds 1 ?_
           rw [rounds_succ]
           go_wp2_with fail
           (try simp only [Exit.inBlock, Exit.then])
           refine bodyPost_ret (v := .tuple #[.agg #[.int .i64 0, .slice none 0 0], .slice none 0 0, .bool false]) (by rw [results_cell2 rfl]; go_simp) rfl ⟨by rw [HN.out]; exact rfl, ?_⟩
           exact (hb4.setCell (p := ⟨w.heap.size, 0, none⟩) (Nat.le_refl _) _).setCell (p := ⟨w.heap.size, 1, none⟩) (Nat.le_refl _) _
         · go_enter Tryz.func119, Tryz.ntmps119
           go_wp2_with fail
           go_quiet (fail)
           have k1 : ¬ (l.length : Int) < (en : Int) := by omega
           have k2 : (en : Int) <= cc := by omega
           have k3 : IntKind.i64.wrap ((en : Int) - 3) = (en : Int) - 3 := IntWalk.i64_in _ (by omega)
           have k4 : (4 : Int) <= (en : Int) - 3 := by omega
           have k5 : (en : Int) - 3 <= en := by omega
           have k6 : (0 : Int) <= (en : Int) - 3 := by omega
           have k7 : ((en : Int) - 3).toNat = en - 3 := by omega
           have k8 : ¬ (en - 3 - 4 = 0) := by omega
           have k9 : ¬ (en <= 7) := by omega
           rw [HEN.out]
           clear HEN hlt w2 w3 c0 c1 c2 c3 hd0 hd1 hd2 hd3
           go_wp2_with fail
           have hblt : b < w.heap.size := by
            have h1 := HC.out.at (bys_get (get_of_lt (show 0 < l.length by omega)).choose_spec)
            have h2 := World.block_lt_of_cell? w _ h1
            simpa using h2
           obtain ⟨body, hbody⟩ : ∃ body, body = (l.take (en - 3)).drop 4 := ⟨_, rfl⟩
           have hbl : body.length = en - 3 - 4 := by rw [hbody, List.length_drop, List.length_take]; omega
           have hcb : Cells w (some ⟨b, off + 4, none⟩) (bys body) := by
            refine .inr ⟨b, off + 4, rfl, fun j u hu => ?_⟩
            have h1 : (bys l)[4 + j]? = some u := by
             rw [<- hu, hbody, bys, bys, List.map_drop, List.map_take, List.getElem?_drop, List.getElem?_take, if_pos]
             have := (List.getElem?_eq_some_iff.1 hu).1
             rw [bys_length] at this; omega
            have h2 := HC.out.at h1
            rwa [<- Nat.add_assoc] at h2
           have hbd256 : ∀ d ∈ body, d < 256 := fun d hd => HD.out d (List.mem_of_mem_take (List.mem_of_mem_drop (by rw [<- hbody]; exact hd)))
           have hw1 := (bel_drewN hbw nq).alloc (by simp) (.cells #[.slice (some ⟨b, off + 4, none⟩) (en - 3 - 4) (en - 3 - 4), .int .i64 0] 292)
           have hbx1 : Blk (((w.alloc (.cells #[.int .i64 0, .slice none 0 0] 108)).drewN nq).alloc (.cells #[.slice (some ⟨b, off + 4, none⟩) (en - 3 - 4) (en - 3 - 4), .int .i64 0] 292)) w.heap.size 108 #[.int .i64 0, .slice none 0 0] := Blk.alloc (W := (w.alloc (.cells #[.int .i64 0, .slice none 0 0] 108)).drewN nq) (Blk.new w 108 #[.int .i64 0, .slice none 0 0]) _
           have hrd1 : RdS w.heap.size (w.heap.size + 1) body (((w.alloc (.cells #[.int .i64 0, .slice none 0 0] 108)).drewN nq).alloc (.cells #[.slice (some ⟨b, off + 4, none⟩) (en - 3 - 4) (en - 3 - 4), .int .i64 0] 292)) (unB body) := by
            refine ⟨by omega, some ⟨b, off + 4, none⟩, en - 3 - 4, 0, Nat.zero_le _, rfl, ?_, hcb.below hw1 (Nat.le_refl _), fun b' off' e => by simp at e; omega⟩
            have h1 := World.alloc_heap_new ((w.alloc (.cells #[.int .i64 0, .slice none 0 0] 108)).drewN nq) (.cells #[.slice (some ⟨b, off + 4, none⟩) (en - 3 - 4) (en - 3 - 4), .int .i64 0] 292)
            have h2 : ((w.alloc (.cells #[.int .i64 0, .slice none 0 0] 108)).drewN nq).heap.size = w.heap.size + 1 := by simp
            rw [h2] at h1
            rw [hbl]; exact h1
           have hz1 : (((w.alloc (.cells #[.int .i64 0, .slice none 0 0] 108)).drewN nq).alloc (.cells #[.slice (some ⟨b, off + 4, none⟩) (en - 3 - 4) (en - 3 - 4), .int .i64 0] 292)).heap.size = w.heap.size + 2 := by simp
           generalize ((w.alloc (.cells #[.int .i64 0, .slice none 0 0] 108)).drewN nq).alloc (.cells #[.slice (some ⟨b, off + 4, none⟩) (en - 3 - 4) (en - 3 - 4), .int .i64 0] 292) = W1 at *
           have htk := reader_take w.heap.size (w.heap.size + 1) body (unB body) 32 W1 hrd1 hbd256 (by omega) (by omega)
           have hrow : rowsR bs l = if (takeR (unB body) 32).1.2 then chR bs (takeR (unB body) 32).2 [] else none := by rw [rowsR, <- HE2.out, <- hbody]
           have hsta : startR l = (takeR (unB body) 32).1.1 := by rw [startR, <- HE2.out, <- hbody]
           have hfst : firstR bs l = match rowsR bs l with | none => none | some xss => if frOK bs (startR l : Nat) xss && decide (encB (startR l : Nat) xss = l.take en) then some (((startR l : Nat), xss), en) else none := by
            unfold firstR; rw [if_pos HCND.out, HE2.out]; cases rowsR bs l <;> rfl
           have hb32 := takeR_bd hrd1.bits 32
           obtain ⟨hst32, -⟩ := hb32
           rw [hsta] at hfst
           have HTK := Lib.hid htk; have HROW := Lib.hid hrow; have HFST := Lib.hid hfst
           have HW1 := Lib.hid hw1; have HBX1 := Lib.hid hbx1; have HBD := Lib.hid hbd256
           clear htk hrow hfst hw1 hbx1 hbd256 hrd1 hcb hbody hsta
           generalize takeR (unB body) 32 = T at *
           obtain ⟨⟨st, ok⟩, r1⟩ := T
           simp only at HROW HFST hst32
           generalize rowsR bs l = rows at *
           clear hbd hbw HE2 HEN3 HCND
           refine HTK.out.mono ?_
           rintro e w2 ⟨rfl, hs2, hg2⟩
           have hbx2 := HBX1.out.kept hg2 (by simp)
           have hb2 : Below w.heap.size w w2 := HW1.out.grown hg2 (by omega) (fun k e => by simp at e; omega)
           have hz2 := hg2.size
           have HS2 := Lib.hid hs2
           clear hg2 hs2 HTK HBX1 HW1
           go_wp2_with fail
           have hbx3 := hbx2.alloc (.cells #[.int .i64 st, .slice none 0 0] 108)
           have hf3 := Blk.new w2 108 #[.int .i64 (st : Nat), .slice none 0 0]
           have hb3 := hb2.alloc (by omega) (.cells #[.int .i64 st, .slice none 0 0] 108)
           have hz3 : (w2.alloc (.cells #[.int .i64 (st : Nat), .slice none 0 0] 108)).heap.size = w2.heap.size + 1 := by simp
           have hst3 : (ok = true /\ ∃ (s : List Nat) (acc : List (List Int)) (v : Value), RdS w.heap.size (w.heap.size + 1) body (w2.alloc (.cells #[.int .i64 (st : Nat), .slice none 0 0] 108)) s /\ Blk (w2.alloc (.cells #[.int .i64 (st : Nat), .slice none 0 0] 108)) w2.heap.size 108 #[.int .i64 (st : Nat), v] /\ FrO w.heap.size (w2.alloc (.cells #[.int .i64 (st : Nat), .slice none 0 0] 108)) v acc /\ acc.length = 0 /\ chR (bs.drop 0) s acc = rows) ∨ (ok = false /\ rows = none) := by
            cases ok with
            | true => exact .inl ⟨rfl, r1, [], .slice none 0 0, HS2.out.kept (World.grownBy_alloc w2 _ none) (fun k e => by simp at e), hf3, FrO.nil _ _, rfl, by rw [List.drop_zero, HROW.out, if_pos rfl]⟩
            | false => exact .inr ⟨rfl, by rw [HROW.out, if_neg (by simp)]⟩
           have HST3 := Lib.hid hst3; have HBX3 := Lib.hid hbx3; have HB3 := Lib.hid hb3
           clear hst3 hbx3 hf3 hb3 hbx2 hb2 HS2 HROW
           go_loopw [11, 70] (fun okv i wr => ∃ k : Nat, k <= bs.length /\ i = .int .i64 k /\ Blk wr w.heap.size 108 #[.int .i64 0, .slice none 0 0] /\ Below w.heap.size w wr /\ w2.heap.size < wr.heap.size /\
            ((okv = .bool true /\ ∃ (s : List Nat) (acc : List (List Int)) (v : Value), RdS w.heap.size (w.heap.size + 1) body wr s /\ Blk wr w2.heap.size 108 #[.int .i64 (st : Nat), v] /\ FrO w.heap.size wr v acc /\ acc.length = k /\ chR (bs.drop k) s acc = rows) ∨ (okv = .bool false /\ rows = none))) (fun _ i _ => bs.length - (intOf i).toNat)
           case atStart =>
            refine ⟨0, Nat.zero_le _, rfl, HBX3.out, HB3.out, by omega, ?_⟩
            rcases HST3.out with ⟨rfl, h⟩ | ⟨rfl, h⟩
            · exact .inl ⟨rfl, h⟩
            · exact .inr ⟨rfl, h⟩
           case round =>
            clear HST3 HBX3 HB3 hz3
            obtain ⟨k, hk, rfl, hbx, hbe, hzr, hcase⟩ := hrel
            rcases hcase with ⟨rfl, s, acc, v, hrd, hf, hfo, hal, hch⟩ | ⟨rfl, hno⟩
            · by_cases hlt : k < bs.length
              · obtain ⟨c, hx⟩ := get_of_lt hlt
                obtain ⟨bb, bo, rfl⟩ := HB.out.cells.addr (chs_ne (by omega))
                obtain ⟨g0, g1, g2⟩ := chs_get hx
                have c0 := cell_keep (HB.out.cells.at g0) hbe (Nat.le_refl _)
                have c1 := cell_keep (HB.out.cells.at g1) hbe (Nat.le_refl _)
                have c2 := cell_keep (HB.out.cells.at g2) hbe (Nat.le_refl _)
                rw [<- Nat.add_assoc] at c1 c2
                obtain ⟨q1, q2, -, -⟩ := book_get HOK.out hx
                obtain ⟨m, hm⟩ := Int.eq_ofNat_of_zero_le (show 0 <= c.rate by omega)
                have hch2 : chR (bs.drop k) s acc = match readR m s with | some (x, r') => chR (bs.drop (k + 1)) r' (acc ++ [x]) | none => none := by
                 rw [List.drop_eq_getElem_cons hlt, (List.getElem?_eq_some_iff.1 hx).2, chR, hm, Int.toNat_natCast]
                 cases readR m s <;> rfl
                have hi1 : (k : Int) < bs.length := by omega
                rw [hm] at c1 q1 q2
                have hwa := World.grownBy_alloc wr (.cells #[.string c.name, .int .i64 (m : Nat), .int .i64 c.bits] 104)
                have hra := read_any w.heap.size (w.heap.size + 1) body s m _ (hrd.kept (hwa none) (fun k e => by simp at e)) HBD.out (by omega) (by omega)
                obtain ⟨crd, hcrd⟩ := hrd.blk
                have HCRD := Lib.hid hcrd
                have HRA := Lib.hid hra; have HF := Lib.hid hf; have HFO := Lib.hid hfo; have HBX := Lib.hid hbx; have HCH := Lib.hid (hch2.symm.trans hch); have HWA := Lib.hid hwa; have HX := Lib.hid hx
                clear hra hf hfo hbx hch hch2 hwa hx hrd g0 g1 g2 hm hcrd
                go_wp2_with fail
                refine HRA.out.mono ?_
                rintro e w4 ⟨hres, hg4⟩
                have hg5 : wr.grownBy w4 (some (w.heap.size + 1)) := (HWA.out _).trans hg4
                have hbx4 := HBX.out.kept hg5 (by simp)
                have hf4 := HF.out.kept hg5 (by simp; omega)
                have hfo4 := HFO.out.kept_blk hg5 HCRD.out (by decide) (by decide)
                have hbe4 := hbe.grown hg5 (by omega) (fun k e => by simp at e; omega)
                have hz4 := hg5.size
                obtain ⟨vs, hvl, hov, hrs⟩ := hfo4
                obtain ⟨i0, hi, hy0, hy1, hy2⟩ := info_parts Tryz.infoInts
                have z1 := hf4.c1
                have z2 := hf4.free 1
                have HF4 := Lib.hid hf4; have HBX4 := Lib.hid hbx4; have HOV := Lib.hid hov; have HRS := Lib.hid hrs; have HVL := Lib.hid hvl
                clear hbx4 hf4 hov hrs HF HFO HBX HRA hg5 hg4 HWA hbe hvl
                cases hR : readR m s with
                | none =>
                  rw [hR] at hres
                  obtain rfl : e = .returned (.tuple #[.slice none 0 0, .bool false]) := hres
                  have hch := HCH.out
                  rw [hR] at hch
                  have HN := Lib.hid hch.symm
                  clear hch
                  go_wp2_with (at_builtin; refine wpList_append_lies _ rfl _ _ _ rfl w.heap.size 24 i0 (.slice none 0 0) 1 24 Tryz.underlying31 hi hy0 hy1 hy2 rfl (by decide) v acc.length vs rfl (HOV.out.alloc _) ⟨w4.heap.size, 0, none⟩ 1 1 [.slice none 0 0] rfl rfl (news1 _ _ _) (by simp [Value.oneCell']) (by omega) (by unfold maxLen; omega) (by omega) (by simp; omega) (w4.heap.size + 1) (by simp) ?_)
                  intro g1 cg1 w5 hown5 hgrow hat hlt1
                  have hf5 := (HF4.out.alloc (.cells #[.slice none 0 0] 24)).kept hgrow (fun e => blk_own_ne HF4.out HOV.out (by decide) e.symm)
                  have hbx5 := (HBX4.out.alloc (.cells #[.slice none 0 0] 24)).kept hgrow (fun e => blk_own_ne HBX4.out HOV.out (by decide) e.symm)
                  have hbe5 := (hbe4.alloc (by omega) (.cells #[.slice none 0 0] 24)).grown hgrow (by simp; omega) (fun j e => (HOV.out.lt j e).1)
                  have hz5 : w2.heap.size < w5.heap.size := by have := hgrow.size; simp at this; omega
                  have y1 := hf5.c1
                  have y2 := hf5.free 1
                  have hbx6 := hbx5.other (B' := w2.heap.size) (by omega) 1 (.slice (some ⟨g1, 0, none⟩) (k + 1) cg1)
                  have hbe6 := hbe5.setCell (p := ⟨w2.heap.size, 1, none⟩) (by simp; omega) (.slice (some ⟨g1, 0, none⟩) (k + 1) cg1)
                  have HBX6 := Lib.hid hbx6
                  clear hf5 hbx5 hgrow hown5 hat hlt1 hbx6 z1 z2 hbe4 hbe5
                  go_wp2
                  go_roundw
                  case rel => exact ⟨k + 1, by omega, by go_num, HBX6.out, hbe6, by simpa using hz5, .inr ⟨rfl, HN.out⟩⟩
                  case measure => simp [intOf]; omega
                | some p =>
                  obtain ⟨xs, r'⟩ := p
                  rw [hR] at hres
                  obtain ⟨⟨x, rfl, hox⟩, hs4⟩ := hres
                  have hch := HCH.out
                  rw [hR] at hch
                  have HCH2 := Lib.hid hch
                  have HOX := Lib.hid (own_base hox (show w.heap.size <= (wr.alloc (.cells #[.string c.name, .int .i64 (m : Nat), .int .i64 c.bits] 104)).heap.size by simp; omega))
                  have HS4 := Lib.hid hs4
                  clear hch hox hs4
                  obtain ⟨xa, xc, rfl, -⟩ := own_cells HOX.out
                  go_wp2_with (at_builtin; refine wpList_append_lies _ rfl _ _ _ rfl w.heap.size 24 i0 (.slice none 0 0) 1 24 Tryz.underlying31 hi hy0 hy1 hy2 rfl (by decide) v acc.length vs rfl (HOV.out.alloc _) ⟨w4.heap.size, 0, none⟩ 1 1 [.slice xa xs.length xc] rfl rfl (news1 _ _ _) (by simp [Value.oneCell']) (by omega) (by unfold maxLen; omega) (by omega) (by simp; omega) (w4.heap.size + 1) (by simp) ?_)
                  intro g1 cg1 w5 hown5 hgrow hat hlt1
                  have hrd5 := (HS4.out.kept (World.grownBy_alloc w4 (.cells #[.slice xa xs.length xc] 24) none) (fun k e => by simp at e)).kept hgrow (fun j e => ⟨(HOV.out.lt j e).1, fun e2 => by
                   obtain ⟨cs, hcs⟩ := HS4.out.blk
                   exact blk_own_ne hcs HOV.out (by decide) (by rw [<- e2]; exact e)⟩)
                  have hfo5 := FrO.snoc (w := w4.alloc (.cells #[.slice xa xs.length xc] 24)) (v' := .slice (some ⟨g1, 0, none⟩) (k + 1) cg1) (xss := acc) (xs := xs) HVL.out (fun i x xs hx hxs => (HRS.out i x xs hx hxs).alloc _) (HOV.out.alloc _) (HOX.out.alloc _) hgrow (by rw [hal]; exact hown5)
                  have hf5 := (HF4.out.alloc (.cells #[.slice xa xs.length xc] 24)).kept hgrow (fun e => blk_own_ne HF4.out HOV.out (by decide) e.symm)
                  have hbx5 := (HBX4.out.alloc (.cells #[.slice xa xs.length xc] 24)).kept hgrow (fun e => blk_own_ne HBX4.out HOV.out (by decide) e.symm)
                  have hbe5 := (hbe4.alloc (by omega) (.cells #[.slice xa xs.length xc] 24)).grown hgrow (by simp; omega) (fun j e => (HOV.out.lt j e).1)
                  have hz5 : w2.heap.size < w5.heap.size := by have := hgrow.size; simp at this; omega
                  have y1 := hf5.c1
                  have y2 := hf5.free 1
                  have hgs := grown_set w5 ⟨w2.heap.size, 1, none⟩ (.slice (some ⟨g1, 0, none⟩) (k + 1) cg1)
                  have hrd6 := hrd5.kept hgs (fun j e => by simp at e; omega)
                  have hfo6 := hfo5.kept_blk hgs hf5 (by decide) (by decide)
                  have hf6 := hf5.set1 (.slice (some ⟨g1, 0, none⟩) (k + 1) cg1)
                  have hbx6 := hbx5.other (B' := w2.heap.size) (by omega) 1 (.slice (some ⟨g1, 0, none⟩) (k + 1) cg1)
                  have hbe6 := hbe5.setCell (p := ⟨w2.heap.size, 1, none⟩) (by simp; omega) (.slice (some ⟨g1, 0, none⟩) (k + 1) cg1)
                  have HBX6 := Lib.hid hbx6; have HRD6 := Lib.hid hrd6; have HFO6 := Lib.hid hfo6; have HF6 := Lib.hid hf6
                  clear hf5 hbx5 hgrow hown5 hat hlt1 hbx6 z1 z2 hbe4 hbe5 hrd5 hfo5 hrd6 hfo6 hf6 hgs
                  go_wp2
                  go_roundw
                  case rel => exact ⟨k + 1, by omega, by go_num, HBX6.out, hbe6, by simpa using hz5, .inl ⟨rfl, r', acc ++ [xs], _, HRD6.out, HF6.out, HFO6.out, by rw [List.length_append, hal]; rfl, HCH2.out⟩⟩
                  case measure => simp [intOf]; omega
              · obtain rfl : k = bs.length := by omega
                rw [List.drop_length, chR] at hch
                have hz := hbe.size
                obtain ⟨a, c, vs, rfl, hca, hrv, hal2⟩ := hfo.cells
                have hfk := frameOK_any ao bs cap (st : Nat) a vs acc c wr (HB.out.cells.below hbe (Nat.le_refl _)) (by omega) hca hrv hal2 HOK.out
                have hfo2 := hfo
                have hen := fun (W : World) (h : Cells W a vs) (h2 : RowsV W vs acc) (hfr : frOK bs (st : Nat) acc = true) => encode_any ao acc.length cap (st : Nat) a vs acc c W (by omega) rfl h h2 (by omega)
                rw [hal] at hfk hf hfo hen
                have z0 := hf.c0
                have z1 := hf.c1
                have x0 := hbx.c0
                have x1 := hbx.c1
                have y0 := hbx.free 0
                have y1 := hbx.free 1
                have HFK := Lib.hid hfk; have HF := Lib.hid hf; have HFO := Lib.hid hfo; have HBX := Lib.hid hbx; have HCA := Lib.hid hca; have HRV := Lib.hid hrv; have HEN := Lib.hid hen
                have HRW := Lib.hid hch
                clear hfk hf hfo hbx hca hrv hch hfo2 hen hrd
                go_wp2_with fail
                refine HFK.out.mono ?_
                rintro e w3 ⟨rfl, hb3⟩
                have hbe3 := hbe.trans (hb3.mono hz)
                have hbx3 := HBX.out.below hb3 (by omega)
                have hf3 := HF.out.below hb3 (by omega)
                have x0 := hbx3.c0
                have x1 := hbx3.c1
                have y0 := hbx3.free 0
                have y1 := hbx3.free 1
                have z0 := hf3.c0
                have z1 := hf3.c1
                have HBX3 := Lib.hid hbx3; have HF3 := Lib.hid hf3; have HB3 := Lib.hid hb3
                clear hbx3 hf3 hb3
                cases hfr : frOK bs (st : Nat) acc with
                | false =>
                  have hn : firstR bs l = none := by rw [HFST.out, <- HRW.out]; simp [hfr]
                  have HN := Lib.hid hn
                  clear hn hfr
                  go_wp2_with fail
                  (try simp only [Exit.inBlock, Exit.then])
                  refine bodyPost_ret (v := .tuple #[.agg #[.int .i64 0, .slice none 0 0], .slice none 0 0, .bool false]) (by rw [results_cell2 rfl]; go_simp) rfl ⟨by rw [HN.out]; exact rfl, ?_⟩
                  exact (hbe3.setCell (p := ⟨w.heap.size, 0, none⟩) (Nat.le_refl _) _).setCell (p := ⟨w.heap.size, 1, none⟩) (Nat.le_refl _) _
                | true =>
                  have hz0 : frmErr bs (st : Nat) acc = 0 := by
                   have : bookErr bs = 0 := by simp [bookErr, HOK.out]
                   simp [frmErr, this, hfr]
                  obtain ⟨-, -, -, -, hs1, hx64, hxb⟩ := frmErr_zero hz0
                  have HXX := Lib.hid (And.intro hs1 (And.intro hx64 hxb))
                  have HFR := Lib.hid hfr
                  clear hz0 hs1 hx64 hxb hfr
                  have hn3 := HB3.out.size
                  go_wp2_with fail
                  refine (HEN.out w3 (HCA.out.below HB3.out (Nat.le_refl _)) (HRV.out.below HB3.out (Nat.le_refl _)) HFR.out HXX.out.1 HXX.out.2.1 HXX.out.2.2).mono ?_
                  rintro e w4 ⟨⟨ve, rfl, hoe⟩, hb4⟩
                  have hbe4 := hbe3.trans (hb4.mono (by omega))
                  have hbx4 := HBX3.out.below hb4 (by omega)
                  have hf4 := HF3.out.below hb4 (by omega)
                  obtain ⟨ea, ec, rfl, hce, hce1, hce2⟩ := own_cap hoe
                  have hlt : (l.take en).length = en := by rw [List.length_take]; omega
                  have hct : Cells w (some ⟨b, off, none⟩) (bys (l.take en)) := by
                   refine .inr ⟨b, off, rfl, fun j u hu => ?_⟩
                   refine HC.out.at ?_
                   rw [<- hu, bys, bys, List.map_take, List.getElem?_take, if_pos]
                   have := (List.getElem?_eq_some_iff.1 hu).1
                   rw [bys_length, hlt] at this; exact this
                  have heq := equal_bytes ea (some ⟨b, off, none⟩) (encB (st : Nat) acc) (l.take en) ec en w4 hce (hct.below hbe4 (Nat.le_refl _)) (by unfold maxLen at hce2; omega) (by omega)
                  rw [hlt] at heq
                  have HEQ := Lib.hid heq; have HBX4 := Lib.hid hbx4; have HF4 := Lib.hid hf4; have HB4 := Lib.hid hb4
                  have hn4 := hb4.size
                  clear hoe hce hct heq hbx4 hf4 x0 x1 y0 y1 z0 z1 hlt hb4
                  go_wp2_with fail
                  refine HEQ.out.mono ?_
                  rintro e w5 ⟨rfl, hb5⟩
                  have hbe5 := hbe4.trans (hb5.mono (by omega))
                  have hbx5 := HBX4.out.below hb5 (by omega)
                  have hf5 := HF4.out.below hb5 (by omega)
                  have x0 := hbx5.c0
                  have x1 := hbx5.c1
                  have y0 := hbx5.free 0
                  have y1 := hbx5.free 1
                  have z0 := hf5.c0
                  have z1 := hf5.c1
                  have HB5 := Lib.hid hb5; have HBX5 := Lib.hid hbx5
                  clear hbx5 hf5 hb5
                  by_cases hee : encB (st : Nat) acc = l.take en
                  · have hn : firstR bs l = some ((((st : Nat) : Int), acc), en) := by rw [HFST.out, <- HRW.out]; simp [HFR.out, hee]
                    have HN := Lib.hid hn
                    have hed : decide (encB (st : Nat) acc = l.take en) = true := by rw [decide_eq_true_iff]; exact hee
                    rw [hed]
                    clear hn hed hee
                    have hfo5 := ((HFO.out.below HB3.out).below HB4.out).below HB5.out
                    have hgs0 := grown_set w5 ⟨w.heap.size, 0, none⟩ (.int .i64 (st : Nat))
                    have hgs1 := grown_set (w5.setCell ⟨w.heap.size, 0, none⟩ (.int .i64 (st : Nat))) ⟨w.heap.size, 1, none⟩ (.slice a bs.length c)
                    have hfo6 := (hfo5.kept_blk hgs0 HBX5.out (by decide) (by decide)).kept_blk hgs1 (HBX5.out.set0 _) (by decide) (by decide)
                    have HFO6 := Lib.hid hfo6
                    clear hfo5 hgs0 hgs1 hfo6
                    go_wp2_with fail
                    (try simp only [Exit.inBlock, Exit.then])
                    refine bodyPost_ret (v := .tuple #[.agg #[.int .i64 (st : Nat), .slice a bs.length c], .slice (some ⟨b, off, none⟩) en en, .bool true]) (by rw [results_cell2 rfl]; go_simp) rfl ⟨by rw [HN.out]; exact ⟨_, _, rfl, HFO6.out⟩, ?_⟩
                    exact (hbe5.setCell (p := ⟨w.heap.size, 0, none⟩) (Nat.le_refl _) _).setCell (p := ⟨w.heap.size, 1, none⟩) (Nat.le_refl _) _
                  · have hn : firstR bs l = none := by rw [HFST.out, <- HRW.out]; simp [hee]
                    have HN := Lib.hid hn
                    have hed : decide (encB (st : Nat) acc = l.take en) = false := by rw [decide_eq_false_iff_not]; exact hee
                    rw [hed]
                    clear hn hed hee
                    go_wp2_with fail
                    (try simp only [Exit.inBlock, Exit.then])
                    refine bodyPost_ret (v := .tuple #[.agg #[.int .i64 0, .slice none 0 0], .slice none 0 0, .bool false]) (by rw [results_cell2 rfl]; go_simp) rfl ⟨by rw [HN.out]; exact rfl, ?_⟩
                    exact (hbe5.setCell (p := ⟨w.heap.size, 0, none⟩) (Nat.le_refl _) _).setCell (p := ⟨w.heap.size, 1, none⟩) (Nat.le_refl _) _
            · have hn : firstR bs l = none := by rw [HFST.out, hno]
              have HN := Lib.hid hn
              have x0 := hbx.c0
              have x1 := hbx.c1
              have y0 := hbx.free 0
              have y1 := hbx.free 1
              have hz := hbe.size
              have HBX := Lib.hid hbx
              clear hbx hn hno
              by_cases hlt : k < bs.length
              · obtain ⟨c, hx⟩ := get_of_lt hlt
                obtain ⟨bb, bo, rfl⟩ := HB.out.cells.addr (chs_ne (by omega))
                obtain ⟨g0, g1, g2⟩ := chs_get hx
                have c0 := cell_keep (HB.out.cells.at g0) hbe (Nat.le_refl _)
                have c1 := cell_keep (HB.out.cells.at g1) hbe (Nat.le_refl _)
                have c2 := cell_keep (HB.out.cells.at g2) hbe (Nat.le_refl _)
                rw [<- Nat.add_assoc] at c1 c2
                have hi1 : (k : Int) < bs.length := by omega
                have hbe2 := hbe.alloc hz (.cells #[.string c.name, .int .i64 c.rate, .int .i64 c.bits] 104)
                have hbx2 := HBX.out.alloc (.cells #[.string c.name, .int .i64 c.rate, .int .i64 c.bits] 104)
                have x0 := hbx2.c0
                have x1 := hbx2.c1
                have y0 := hbx2.free 0
                have y1 := hbx2.free 1
                clear hx g0 g1 g2 hbx2
                go_wp2_with fail
                (try simp only [Exit.inBlock, Exit.then])
                refine bodyPost_ret (v := .tuple #[.agg #[.int .i64 0, .slice none 0 0], .slice none 0 0, .bool false]) (by rw [results_cell2 rfl]; go_simp) rfl ⟨by rw [HN.out]; exact rfl, ?_⟩
                exact (hbe2.setCell (p := ⟨w.heap.size, 0, none⟩) (Nat.le_refl _) _).setCell (p := ⟨w.heap.size, 1, none⟩) (Nat.le_refl _) _
              · obtain rfl : k = bs.length := by omega
                go_wp2_with fail
                (try simp only [Exit.inBlock, Exit.then])
                refine bodyPost_ret (v := .tuple #[.agg #[.int .i64 0, .slice none 0 0], .slice none 0 0, .bool false]) (by rw [results_cell2 rfl]; go_simp) rfl ⟨by rw [HN.out]; exact rfl, ?_⟩
                exact (hbe.setCell (p := ⟨w.heap.size, 0, none⟩) (Nat.le_refl _) _).setCell (p := ⟨w.heap.size, 1, none⟩) (Nat.le_refl _) _
       · have hn := firstR_none (bs := bs) (l := l) (fun h => hend h.2.2.2)
         have HN := Lib.hid hn
         have hlt : (l.length : Int) < 4 + (d2 : Int) * 256 + d3 + 3 := by omega
         clear hn hc hb
         go_enter Tryz.func119, Tryz.ntmps119
         go_wp2_with fail
         go_quiet (fail)
         go_wp2_with fail
         (try simp only [Exit.inBlock, Exit.then])
         refine bodyPost_ret (v := .tuple #[.agg #[.int .i64 0, .slice none 0 0], .slice none 0 0, .bool false]) (by rw [results_cell2 rfl]; go_simp) rfl ⟨by rw [HN.out]; exact rfl, ?_⟩
         exact ((bel_drewN hbw _).setCell (p := ⟨w.heap.size, 0, none⟩) (Nat.le_refl _) _).setCell (p := ⟨w.heap.size, 1, none⟩) (Nat.le_refl _) _
     · have hn := firstR_none (bs := bs) (l := l) (fun h => h1 (by have := h.2.2.1; rw [getD_of hd1] at this; exact this))
       have HN := Lib.hid hn
       have hne : ((d1 : Int) != 90) = true := by rw [bne_iff_ne]; omega
       clear hn hc hb
       go_enter Tryz.func119, Tryz.ntmps119
       go_wp2_with fail
       (try simp only [Exit.inBlock, Exit.then])
       refine bodyPost_ret (v := .tuple #[.agg #[.int .i64 0, .slice none 0 0], .slice none 0 0, .bool false]) (by rw [results_cell2 rfl]; go_simp) rfl ⟨by rw [HN.out]; exact rfl, ?_⟩
       exact hbw
   · have hn := firstR_none (bs := bs) (l := l) (fun h => h0 (by have := h.2.1; rw [getD_of hd0] at this; exact this))
     have HN := Lib.hid hn
     have hne : ((d0 : Int) != 165) = true := by rw [bne_iff_ne]; omega
     clear hn hc hb
     go_enter Tryz.func119, Tryz.ntmps119
     go_wp2_with fail
     (try simp only [Exit.inBlock, Exit.then])
     refine bodyPost_ret (v := .tuple #[.agg #[.int .i64 0, .slice none 0 0], .slice none 0 0, .bool false]) (by rw [results_cell2 rfl]; go_simp) rfl ⟨by rw [HN.out]; exact rfl, ?_⟩
     exact hbw
 · have hn := firstR_none (bs := bs) (l := l) (fun h => h7 h.1)
   have HN := Lib.hid hn
   have h7i : (l.length : Int) < 7 := by omega
   clear hn hc hb
   go_enter Tryz.func119, Tryz.ntmps119
   go_wp2_with fail
   (try simp only [Exit.inBlock, Exit.then])
   refine bodyPost_ret (v := .tuple #[.agg #[.int .i64 0, .slice none 0 0], .slice none 0 0, .bool false]) (by rw [results_cell2 rfl]; go_simp) rfl ⟨by rw [HN.out]; exact rfl, ?_⟩
   exact hbw
end Go.Proofs.YtdpjdifoonfcdaaGreatDoor

namespace Go.Proofs.YtdpjdifoonfcdaaGreatDoor
open Go.RowKit
structure ByIn (w : World) (ac : Option Addr) (l : List Nat) (cc : Nat) : Prop where
 cells : Cells w ac (bys l)
 byte : ∀ d ∈ l, d < 256
 len : l.length <= 1099511627776
 lecap : l.length <= cc
 cap2 : cc <= 9223372036854775807
theorem ByIn.below {w w' : World} {B : Nat} {ac : Option Addr} {l : List Nat} {cc : Nat} (h : ByIn w ac l cc) (hb : Below B w w') (hB : w.heap.size <= B) : ByIn w' ac l cc :=
 ⟨h.cells.below hb hB, h.byte, h.len, h.lecap, h.cap2⟩
end Go.Proofs.YtdpjdifoonfcdaaGreatDoor

namespace Go.Proofs.YtdpjdifoonfcdaaGreatDoor
open Go.RowKit
theorem Tryz.infoFrame : (Tryz.prog.info? 108).map (fun i => (i.zero, i.size, i.bytes)) = some (some (.agg #[.int .i64 0, .slice none 0 0]), 2, 32) := by kernel_rfl
theorem own_type {w : World} {b : Nat} {T : TypeId} {s n : Nat} {v : Value} {xs : List Value} (h : w.ownsRow b T s v n xs) {k : Nat} (hk : v.ownBlock = some k) : ∃ cs, Blk w k T cs := by
 rcases h.2 with ⟨rfl, _⟩ | ⟨g, cap, cur, rfl, _, hg, _⟩
 · simp [Value.ownBlock] at hk
 · simp [Value.ownBlock] at hk
   subst hk
   exact ⟨cur, hg⟩
def FrsO (base : Nat) (w : World) (v : Value) (l : List Frm) : Prop :=
 w.ownsRow base 108 2 v l.length (frs l) /\ ∀ f ∈ l, FrO base w (.slice f.a f.xss.length f.c) f.xss
theorem FrsO.nil (base : Nat) (w : World) : FrsO base w (.slice none 0 0) [] := ⟨World.ownsRow_nil _ _ _ _, fun f hf => by simp at hf⟩
theorem FrO.kept_own {base b' : Nat} {w w' : World} {v v' : Value} {xss : List (List Int)} {T : TypeId} {s n : Nat} {xs : List Value} (h : FrO base w v xss) (ho : w.ownsRow b' T s v' n xs) (hg : w.grownBy w' v'.ownBlock) (h1 : T ≠ 3) (h2 : T ≠ 24) : FrO base w' v xss := by
 cases hv : v'.ownBlock with
 | none => rw [hv] at hg; exact h.kept hg (fun k e => by simp at e)
 | some k =>
   rw [hv] at hg
   obtain ⟨cs, hb⟩ := own_type ho hv
   exact h.kept_blk hg hb h1 h2
theorem FrsO.below {base : Nat} {w w' : World} {v : Value} {l : List Frm} (h : FrsO base w v l) (hb : Below w.heap.size w w') : FrsO base w' v l :=
 ⟨h.1.kept (row := none) ⟨hb.os, hb.tape, hb.output, hb.size, fun k hk _ => hb.block k hk⟩ (by cases hv : v.ownBlock <;> simp), fun f hf => (h.2 f hf).below hb⟩
theorem FrsO.base {base base' : Nat} {w : World} {v : Value} {l : List Frm} (h : FrsO base w v l) (hb : base' <= base) : FrsO base' w v l := ⟨own_base h.1 hb, fun f hf => (h.2 f hf).base hb⟩
theorem FrsO.kept_blk {base : Nat} {w w' : World} {v : Value} {l : List Frm} {b : Nat} {T : TypeId} {cs : Array Value} (h : FrsO base w v l) (hg : w.grownBy w' (some b)) (hb : Blk w b T cs) (h1 : T ≠ 3) (h2 : T ≠ 24) (h3 : T ≠ 108) : FrsO base w' v l :=
 ⟨h.1.kept hg (.inr (blk_own_ne hb h.1 h3)), fun f hf => (h.2 f hf).kept_blk hg hb h1 h2⟩
theorem FrsO.alloc {base : Nat} {w : World} {v : Value} {l : List Frm} (h : FrsO base w v l) (o : Obj) : FrsO base (w.alloc o) v l :=
 ⟨h.1.alloc o, fun f hf => (h.2 f hf).kept (World.grownBy_alloc w o none) (fun k e => by simp at e)⟩
theorem frs_snoc (l : List Frm) (f : Frm) : frs (l ++ [f]) = frs l ++ [.int .i64 f.st, .slice f.a f.xss.length f.c] := by simp [frs]
theorem FrsO.snoc {base : Nat} {w w' : World} {v v' : Value} {l : List Frm} {f : Frm} (h : FrsO base w v l) (hf : FrO base w (.slice f.a f.xss.length f.c) f.xss) (hg : w.grownBy w' v.ownBlock) (ho : w'.ownsRow base 108 2 v' (l.length + 1) (frs l ++ [.int .i64 f.st, .slice f.a f.xss.length f.c])) : FrsO base w' v' (l ++ [f]) := by
 refine ⟨by rw [frs_snoc, List.length_append]; exact ho, fun g hg2 => ?_⟩
 rcases List.mem_append.1 hg2 with hm | hm
 · exact (h.2 g hm).kept_own h.1 hg (by decide) (by decide)
 · rw [List.mem_singleton.1 hm]
   exact hf.kept_own h.1 hg (by decide) (by decide)
theorem FrsO.recIn {base : Nat} {w : World} {v : Value} {l : List Frm} (h : FrsO base w v l) : ∃ a c, v = .slice a l.length c /\ RecIn w a l := by
 obtain ⟨a, c, rfl, hc, hn, hm⟩ := own_cap h.1
 have hmx : maxLen = 9223372036854775807 := rfl
 refine ⟨a, c, rfl, hc, by omega, fun f hf => ?_⟩
 obtain ⟨a', c', vs, he, hcs, hr, hl⟩ := (h.2 f hf).cells
 simp only [Value.slice.injEq, true_and] at he
 obtain ⟨rfl, rfl⟩ := he
 exact ⟨hl, vs, hcs, hr⟩
end Go.Proofs.YtdpjdifoonfcdaaGreatDoor
