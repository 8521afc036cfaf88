/- Parts of a proof, in build order: Z3, Z4, Z5, Z6, Z7, Z8, Z9. -/
import Derived.Test.YtdpjdifoonfcdaaGreatDoorKn13
import Derived.Lib.ItoaNum
import Derived.Lib.ItoaLen

namespace Go.Proofs.YtdpjdifoonfcdaaGreatDoor.Z4
open Go.RowKit
theorem drop_of_len {l1 l2 : List Nat} (h : l1.length = l2.length) : l1.drop l1.length = l2.drop l1.length := by
 rw [List.drop_length, h, List.drop_length]
set_option maxRecDepth 100000 in
theorem compare_any (aa ab : Option Addr) (m n : Nat) (ca cb : Nat) (w : World) (ha : Cells w aa (zs (dig m))) (hb : Cells w ab (zs (dig n))) (hm : (dig m).length <= 4611686018427387904) (hn : (dig n).length <= 4611686018427387904) :
 Calls Tryz.prog 352 #[.slice aa (dig m).length ca, .slice ab (dig n).length cb] w fun e w' => e = .returned (.int .i64 (cmpN m n)) /\ Below w.heap.size w w' := by
 have HA := Lib.hid ha; clear ha
 have HB := Lib.hid hb; clear hb
 by_cases hlen : (dig m).length = (dig n).length
 · have h1 : (((dig m).length : Int) != (dig n).length) = false := by simp [hlen]
   have HL := Lib.hid hlen; clear hlen
   go_enter Tryz.func352, Tryz.ntmps352
   go_wp2
   go_loopw [5] (fun i wr => ∃ k : Nat, k <= (dig m).length /\ i = .int .i64 ((k : Int) - 1) /\ (dig m).drop k = (dig n).drop k /\ Below w.heap.size w wr) (fun i _ => (intOf i + 1).toNat)
   case atStart => exact ⟨(dig m).length, Nat.le_refl _, rfl, drop_of_len HL.out, Below.refl _ _⟩
   case round =>
    obtain ⟨k, hk, rfl, hd, hbe⟩ := hrel
    have HD := Lib.hid hd; clear hd
    by_cases h0 : k = 0
    · subst h0
      have he : cmpN m n = 0 := by
       have := HD.out
       simp only [List.drop_zero] at this
       have h2 := congrArg val this
       rw [val_dig, val_dig] at h2
       rw [h2, cmpN_eq]
      have HE := Lib.hid he; clear he
      go_wp2
      go_ret
      exact ⟨ret_int HE.out.symm, hbe⟩
    · obtain ⟨j, rfl⟩ : ∃ j, k = j + 1 := ⟨k - 1, by omega⟩
      have hj2 : j < (dig n).length := by have := HL.out; omega
      obtain ⟨x, hx⟩ := get_of_lt (show j < (dig m).length by omega)
      obtain ⟨y, hy⟩ := get_of_lt hj2
      obtain ⟨b, off, rfl⟩ := HA.out.addr (zs_ne (by omega))
      obtain ⟨b2, off2, rfl⟩ := HB.out.addr (zs_ne (by omega))
      have c1 := cell_keep (zcell HA.out hx) hbe (Nat.le_refl _)
      have c2 := cell_keep (zcell HB.out hy) hbe (Nat.le_refl _)
      have e1 : (((j + 1 : Nat) : Int) - 1) = (j : Int) := by omega
      rw [e1]
      have i1 : (j : Int) < (dig m).length := by omega
      have i2 : (j : Int) < (dig n).length := by omega
      have i3 : (0 : Int) <= j := by omega
      have HX := Lib.hid (sm_get (sm_dig m) hx)
      have HY := Lib.hid (sm_get (sm_dig n) hy)
      have hxy : x < y ∨ y < x ∨ x = y := by omega
      rcases hxy with hlt | hgt | heq
      · have he : cmpN m n = -1 := cmpN_lt (by have := cmp_digit (sm_dig m) hx hy HD.out hlt; rwa [val_dig, val_dig] at this)
        have HE := Lib.hid he; clear he hx hy e1
        have hne : ((x : Int) != y) = true := by simp; omega
        have hxb : x <= 9999 := HX.out
        have hyb : y <= 9999 := HY.out
        have hw : IntKind.i64.wrap ((x : Int) - y) = (x : Int) - y := IntWalk.i64_in _ (by omega)
        have hm : max (-1) (min 1 ((x : Int) - y)) = -1 := by omega
        go_wp2
        go_quiet (fail)
        go_wp2
        go_quiet (fail)
        go_wp2
        go_ret
        exact ⟨ret_int HE.out.symm, bel_drewN (bel_drewN hbe _) _⟩
      · have he : cmpN m n = 1 := cmpN_gt (by have := cmp_digit (sm_dig n) hy hx HD.out.symm hgt; rwa [val_dig, val_dig] at this)
        have HE := Lib.hid he; clear he hx hy e1
        have hne : ((x : Int) != y) = true := by simp; omega
        have hxb : x <= 9999 := HX.out
        have hyb : y <= 9999 := HY.out
        have hw : IntKind.i64.wrap ((x : Int) - y) = (x : Int) - y := IntWalk.i64_in _ (by omega)
        have hm : max (-1) (min 1 ((x : Int) - y)) = 1 := by omega
        go_wp2
        go_quiet (fail)
        go_wp2
        go_quiet (fail)
        go_wp2
        go_ret
        exact ⟨ret_int HE.out.symm, bel_drewN (bel_drewN hbe _) _⟩
      · subst heq
        have he : (dig m).drop j = (dig n).drop j := by
         rw [List.drop_eq_getElem_cons (show j < (dig m).length by omega), List.drop_eq_getElem_cons hj2, HD.out, (List.getElem?_eq_some_iff.1 hx).2, (List.getElem?_eq_some_iff.1 hy).2]
        have HE := Lib.hid he; clear he hx hy e1
        have hne : ((x : Int) != x) = false := by simp
        go_wp2
        go_quiet (fail)
        go_wp2
        go_roundw
        case rel => exact ⟨j, by omega, by go_num, HE.out, bel_drewN hbe _⟩
        case measure => simp [intOf]
 · rcases Nat.lt_or_gt_of_ne hlen with hlt | hgt
   · have he : cmpN m n = -1 := cmpN_lt (lt_of_len hlt)
     have HE := Lib.hid he; clear he
     have h1 : (((dig m).length : Int) != (dig n).length) = true := by simp; omega
     have hw : IntKind.i64.wrap (((dig m).length : Int) - (dig n).length) = ((dig m).length : Int) - (dig n).length := IntWalk.i64_in _ (by omega)
     have hmx : max (-1) (min 1 (((dig m).length : Int) - (dig n).length)) = -1 := by omega
     go_enter Tryz.func352, Tryz.ntmps352
     go_wp2
     go_ret
     exact ⟨ret_int HE.out.symm, Below.refl _ _⟩
   · have he : cmpN m n = 1 := cmpN_gt (lt_of_len hgt)
     have HE := Lib.hid he; clear he
     have h1 : (((dig m).length : Int) != (dig n).length) = true := by simp; omega
     have hw : IntKind.i64.wrap (((dig m).length : Int) - (dig n).length) = ((dig m).length : Int) - (dig n).length := IntWalk.i64_in _ (by omega)
     have hmx : max (-1) (min 1 (((dig m).length : Int) - (dig n).length)) = 1 := by omega
     go_enter Tryz.func352, Tryz.ntmps352
     go_wp2
     go_ret
     exact ⟨ret_int HE.out.symm, Below.refl _ _⟩
end Go.Proofs.YtdpjdifoonfcdaaGreatDoor.Z4

namespace Go.Proofs.YtdpjdifoonfcdaaGreatDoor.Z4
open Go.RowKit
def MV (w : World) (v : Value) (n : Nat) : Prop := ∃ a c, v = .slice a (dig n).length c /\ Cells w a (zs (dig n)) /\ (dig n).length <= c /\ c <= 9223372036854775807
theorem MV.below {w w' : World} {B : Nat} {v : Value} {n : Nat} (h : MV w v n) (hb : Below B w w') (hB : w.heap.size <= B) : MV w' v n := by
 obtain ⟨a, c, h1, h2, h3⟩ := h
 exact ⟨a, c, h1, h2.below hb hB, h3⟩
def RV (w : World) (v : Value) (n : Nat) : Prop := (∃ ad c, v = .slice (some ad) (dig n).length c /\ Cells w (some ad) (zs (dig n)) /\ (dig n).length <= c /\ c <= 9223372036854775807) ∨ (v = .slice none 0 0 /\ n = 0)
theorem RV.mv {w : World} {v : Value} {n : Nat} (h : RV w v n) : MV w v n := by
 rcases h with ⟨ad, c, h1, h2, h3, h4⟩ | ⟨h1, h2⟩
 · exact ⟨some ad, c, h1, h2, h3, h4⟩
 · subst h2; exact ⟨none, 0, by rw [dig_zero]; exact h1, by rw [dig_zero]; exact Cells.nil _ _, by rw [dig_zero]; exact Nat.le_refl _, by omega⟩
theorem RV.below {w w' : World} {B : Nat} {v : Value} {n : Nat} (h : RV w v n) (hb : Below B w w') (hB : w.heap.size <= B) : RV w' v n := by
 rcases h with ⟨ad, c, h1, h2, h3⟩ | h
 · exact .inl ⟨ad, c, h1, h2.below hb hB, h3⟩
 · exact .inr h
theorem val_take_succ (l : List Nat) (i : Nat) : val (l.take (i + 1)) = val (l.take i) + B ^ i * l.getD i 0 := by
 rcases Nat.lt_or_ge i l.length with h | h
 · obtain ⟨x, hx⟩ := get_of_lt h
   rw [take_get hx, val_snoc, List.length_take, Nat.min_eq_left (by omega)]
   simp [List.getD, hx]
 · rw [List.take_of_length_le (by omega), List.take_of_length_le h]
   simp [List.getD, List.getElem?_eq_none h]
end Go.Proofs.YtdpjdifoonfcdaaGreatDoor.Z4

namespace Go.Proofs.YtdpjdifoonfcdaaGreatDoor.Z4
open Go.RowKit
theorem val_zeros (n : Nat) : val (List.replicate n 0) = 0 := by
 rw [val_eq_zero]; intro d hd; exact (List.mem_replicate.1 hd).2
theorem sm_zeros (n : Nat) : Sm (List.replicate n 0) := by intro d hd; rw [(List.mem_replicate.1 hd).2]; exact B_pos
theorem zs_set (l : List Nat) (j d : Nat) : (zs l).set j (.int .i64 (d : Nat)) = zs (l.set j d) := by
 unfold zs; rw [List.map_set]
theorem boxes3 {w w1 : World} {A1 A2 A3 : Array Value} {T1 T2 T3 : TypeId} {B : Nat} (hb : Below B (((w.alloc (.cells A1 T1)).alloc (.cells A2 T2)).alloc (.cells A3 T3)) w1) (hB : w.heap.size + 2 < B) :
 (∀ i, w1.cell? ⟨w.heap.size, i, none⟩ = A1[i]?) /\ (∀ i, w1.cell? ⟨w.heap.size + 1, i, none⟩ = A2[i]?) /\ (∀ i, w1.cell? ⟨w.heap.size + 2, i, none⟩ = A3[i]?) /\ (∀ i, w1.frozen? ⟨w.heap.size + 2, i, none⟩ = false) := by
 refine ⟨fun i => ?_, fun i => ?_, fun i => ?_, fun i => ?_⟩
 · rw [hb.cell (p := ⟨w.heap.size, i, none⟩) (show w.heap.size < B by omega), World.cell?_alloc_old _ _ _ (by simp; omega), World.cell?_alloc_old _ _ _ (by simp)]; simp
 · rw [hb.cell (p := ⟨w.heap.size + 1, i, none⟩) (show w.heap.size + 1 < B by omega)]
   have := box_keep (w := w.alloc (.cells A1 T1)) (B := w.heap.size + 3) (Below.refl _ ((((w.alloc (.cells A1 T1)).alloc (.cells A2 T2)))) ) (by simp) i
   rw [World.cell?_alloc_old _ _ _ (by simp)]
   rw [World.size_alloc] at this
   exact this
 · have := box_keep (w := (w.alloc (.cells A1 T1)).alloc (.cells A2 T2)) hb (by simp; omega) i
   simpa using this
 · have := box_free (w := (w.alloc (.cells A1 T1)).alloc (.cells A2 T2)) hb (by simp; omega) i
   simpa using this
theorem dig_take : ∀ (n : Nat) (l : List Nat), l.length = n -> Sm l -> dig (val l) = l.take (dig (val l)).length := by
 intro n
 induction n with
 | zero => intro l hl _; rw [List.length_eq_zero_iff.1 hl]; simp [val, dig_zero]
 | succ n ih =>
   intro l hl hs
   by_cases h : l.getLast? = some 0
   · obtain ⟨l', rfl⟩ : ∃ l', l = l' ++ [0] := by
      rcases List.eq_nil_or_concat l with rfl | ⟨l', b, rfl⟩
      · simp at hl
      · simp at h; exact ⟨l', by simp [h]⟩
     have hs' : Sm l' := fun d hd => hs d (by simp [hd])
     have hv : val (l' ++ [0]) = val l' := by rw [val_snoc]; simp
     have h1 := ih l' (by simpa using hl) hs'
     have h2 := dig_len_val hs'
     rw [hv, List.take_append_of_le_length h2]; exact h1
   · rw [dig_val hs h, List.take_length]
theorem mul_dig {x y : Nat} (hx : x <= 9999) (hy : y <= 9999) : x * y <= 99980001 := Nat.mul_le_mul hx hy
theorem MV.cases {w : World} {v : Value} {n : Nat} (h : MV w v n) : ∃ a c, v = .slice a (dig n).length c := by
 obtain ⟨a, c, h1, _⟩ := h; exact ⟨a, c, h1⟩
end Go.Proofs.YtdpjdifoonfcdaaGreatDoor.Z4

namespace Go.Proofs.YtdpjdifoonfcdaaGreatDoor.Z4
open Go.RowKit
theorem dig_len_lt {n k : Nat} (h : n < B ^ k) : (dig n).length <= k := by
 rcases Nat.lt_or_ge k (dig n).length with h1 | h1
 · exfalso
   have hn : n ≠ 0 := by rintro rfl; rw [dig_zero] at h1; simp at h1
   have h2 := pow_len_le hn
   have h3 : B ^ k <= B ^ ((dig n).length - 1) := Nat.pow_le_pow_right B_pos (by omega)
   omega
 · exact h1
end Go.Proofs.YtdpjdifoonfcdaaGreatDoor.Z4

namespace Go.Proofs.YtdpjdifoonfcdaaGreatDoor.Z4
open Go.RowKit
theorem set_zeros (k q : Nat) (qs : List Nat) : (zs (List.replicate (k + 1) 0 ++ qs)).set k (.int .i64 (q : Nat)) = zs (List.replicate k 0 ++ (q :: qs)) := by
 rw [zs_set]
 congr 1
 rw [List.replicate_succ', List.append_assoc, List.set_append_right _ _ (by simp)]
 simp
end Go.Proofs.YtdpjdifoonfcdaaGreatDoor.Z4

namespace Go.Proofs.YtdpjdifoonfcdaaGreatDoor.Z4
open Go.RowKit
theorem ZV.mv {w : World} {v : Value} {n : Int} (h : ZV w v n) : ∃ vd, v = .agg #[.bool (decide (n < 0)), vd] /\ MV w vd n.natAbs := by
 obtain ⟨a, c, h1, h2, h3⟩ := h
 exact ⟨_, h1, a, c, rfl, h2, h3⟩
theorem ZV.of {w : World} {vd : Value} {n : Int} (h : MV w vd n.natAbs) : ZV w (.agg #[.bool (decide (n < 0)), vd]) n := by
 obtain ⟨a, c, h1, h2, h3⟩ := h
 exact ⟨a, c, by rw [h1], h2, h3⟩
end Go.Proofs.YtdpjdifoonfcdaaGreatDoor.Z4

namespace Go.Proofs.YtdpjdifoonfcdaaGreatDoor.Z4
open Go.RowKit
def QV (w : World) (v : Value) (s : Bool) (n d : Nat) : Prop := ∃ vn vd, v = .agg #[.bool s, vn, .bool false, vd] /\ MV w vn n /\ MV w vd d
theorem QV.below {w w' : World} {B : Nat} {v : Value} {s : Bool} {n d : Nat} (h : QV w v s n d) (hb : Below B w w') (hB : w.heap.size <= B) : QV w' v s n d := by
 obtain ⟨a, c, h1, h2, h3⟩ := h
 exact ⟨a, c, h1, h2.below hb hB, h3.below hb hB⟩
end Go.Proofs.YtdpjdifoonfcdaaGreatDoor.Z4
