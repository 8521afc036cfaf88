/- Parts of a proof, in build order: Si. -/
import Derived.Test.YtdpjdifoonfcdaaGreatDoorKr0

namespace Go.Proofs.YtdpjdifoonfcdaaGreatDoor
open Go.RowKit
theorem sameInts_any (aa ab : Option Addr) (xs ys : List Int) (ca cb : Nat) (w : World) (ha : Cells w aa (xs.map (Value.int .i64))) (hb : Cells w ab (ys.map (Value.int .i64))) (hl : xs.length <= 9223372036854775807) (hl' : ys.length <= 9223372036854775807) :
 Calls Tryz.prog 37 #[.slice aa xs.length ca, .slice ab ys.length cb] w fun e w' => e = .returned (.bool (decide (xs = ys))) /\ Below w.heap.size w w' := by
 by_cases hlen : xs.length = ys.length
 · have h1 : ((xs.length : Int) != ys.length) = false := by simp [hlen]
   have hlt : (ys.length : Int) <= xs.length := by omega
   have HL := Lib.hid hlen; clear hlen
   have HA := Lib.hid ha; have HB := Lib.hid hb; clear ha hb
   go_enter Tryz.func37, Tryz.ntmps37
   go_wp2
   go_loopw [5] (fun i wr => ∃ k : Nat, k <= xs.length /\ i = .int .i64 k /\ xs.take k = ys.take k /\ Below w.heap.size w wr) (fun i _ => xs.length - (intOf i).toNat)
   case atStart => exact ⟨0, Nat.zero_le _, rfl, rfl, Below.refl _ _⟩
   case round =>
    obtain ⟨k, hk, rfl, heq, hbe⟩ := hrel
    have HQ := Lib.hid heq; clear heq
    by_cases hlt : k < xs.length
    · have hlt2 : k < ys.length := by have := HL.out; omega
      obtain ⟨x, hx⟩ := get_of_lt hlt
      obtain ⟨y, hy⟩ := get_of_lt hlt2
      obtain ⟨b, off, rfl⟩ := HA.out.addr (by simpa using List.ne_nil_of_length_pos (by omega))
      obtain ⟨b2, off2, rfl⟩ := HB.out.addr (by simpa using List.ne_nil_of_length_pos (by omega))
      have c1 := cell_keep (HA.out.int hx) hbe (Nat.le_refl _)
      have c2 := cell_keep (HB.out.int hy) hbe (Nat.le_refl _)
      have i1 : (k : Int) < xs.length := by omega
      have i2 : (k : Int) < ys.length := by omega
      have i3 : (0 : Int) <= k := by omega
      by_cases hxy : x = y
      · obtain rfl := hxy
        have ht : xs.take (k + 1) = ys.take (k + 1) := by rw [take_get hx, take_get hy, HQ.out]
        have HT := Lib.hid ht; clear ht hx hy
        go_wp2
        go_quiet (fail)
        go_wp2
        go_roundw
        case rel => exact ⟨k + 1, by omega, by go_num, HT.out, bel_drewN hbe _⟩
        case measure => simp [intOf]; omega
      · have hne : decide (xs = ys) = false := by
         rw [decide_eq_false_iff_not]; rintro rfl
         rw [hx] at hy; simp at hy; exact hxy hy
        have HNE := Lib.hid hne; clear hne hx hy
        have hb1 : (x == y) = false := by simpa using hxy
        have hb2 : (x != y) = true := by simpa using hxy
        go_wp2
        go_quiet (fail)
        go_wp2
        go_ret
        exact ⟨ret_bool HNE.out.symm, bel_drewN hbe _⟩
    · obtain rfl : k = xs.length := by omega
      have he : decide (xs = ys) = true := by
       rw [decide_eq_true_iff]
       have := HQ.out
       rw [List.take_length, HL.out, List.take_length] at this; exact this
      have HE := Lib.hid he; clear he
      go_wp2
      go_ret
      exact ⟨ret_bool HE.out.symm, hbe⟩
 · have h1 : ((xs.length : Int) != ys.length) = true := by simp; omega
   have he : decide (xs = ys) = false := by
    rw [decide_eq_false_iff_not]; rintro rfl; exact hlen rfl
   have HE := Lib.hid he; clear he
   go_enter Tryz.func37, Tryz.ntmps37
   go_wp2
   go_ret
   exact ⟨ret_bool HE.out.symm, Below.refl _ _⟩
theorem same_ints_eq (aa ab : Option Addr) (ca cb : Nat) (w : World) (xs : List Int) (n : Nat) (hn : n = xs.length) (hl : xs.length <= 9223372036854775807) (ha : Cells w aa (xs.map (Value.int .i64))) (hb : Cells w ab (xs.map (Value.int .i64))) :
 Calls Tryz.prog 37 #[.slice aa n ca, .slice ab n cb] w fun e w' => e = .returned (.bool true) /\ Below w.heap.size w w' := by
 subst hn
 have h := sameInts_any aa ab xs xs ca cb w ha hb hl hl
 simpa using h
end Go.Proofs.YtdpjdifoonfcdaaGreatDoor
