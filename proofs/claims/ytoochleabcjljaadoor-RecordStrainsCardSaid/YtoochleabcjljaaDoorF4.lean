/- Examples: works. -/
import Derived.Test.YtoochleabcjljaaDoorF3
namespace Go.Proofs.YtoochleabcjljaaDoor
open Go.RowKit

theorem same_bands_eq (aa ab : Option Addr) (ca cb : Nat) (w : World) (xs : List (Int × Int)) (n : Nat) (hn : n = xs.length) (hl : xs.length ≤ 9223372036854775807) (ha : Cells w aa (prs xs)) (hb : Cells w ab (prs xs)) :
    Calls Tryd.prog 12 #[.slice aa n ca, .slice ab n cb] w fun e w' => e = .returned (.bool true) ∧ Below w.heap.size w w' := by
  subst hn
  have h := sameBands_any aa ab xs xs ca cb w ha hb hl hl
  simpa using h
theorem same_ints_eq (aa ab : Option Addr) (ca cb : Nat) (w : World) (xs : List Int) (n : Nat) (hn : n = xs.length) (hl : xs.length ≤ 9223372036854775807) (ha : Cells w aa (xs.map (Value.int .i64))) (hb : Cells w ab (xs.map (Value.int .i64))) :
    Calls Tryd.prog 20 #[.slice aa n ca, .slice ab n cb] w fun e w' => e = .returned (.bool true) ∧ Below w.heap.size w w' := by
  subst hn
  have h := sameInts_any aa ab xs xs ca cb w ha hb hl hl
  simpa using h
theorem one_new (w : World) (c1 : List Value) (T1 : TypeId) : Cells (w.alloc (.cells c1.toArray T1)) (some ⟨w.heap.size, 0, none⟩) c1 := new_cells w c1 T1

set_option maxRecDepth 100000 in
set_option maxHeartbeats 2000000 in
theorem works_any (w : World) : Calls Tryd.prog 13 #[] w fun e w' => e = .returned (.bool true) ∧ Below w.heap.size w w' := by
  go_enter Tryd.func13, Tryd.ntmps13
  go_wp2_with (go_at_call 27; refine (book_any _).mono ?_; rintro e w1 ⟨rfl, rfl⟩)
  refine (ex_encode _).mono ?_
  rintro e w1 ⟨⟨b1, c1, rfl, hc1⟩, hb1⟩
  have HC1 := Lib.hid hc1; clear hc1
  go_wp2_with fail
  refine (ex_strain _).mono ?_
  rintro e w2 ⟨⟨a2, c2, rfl, hc2⟩, hb2⟩
  have HC2 := Lib.hid hc2; clear hc2
  go_wp2_with fail
  refine (ex_track _).mono ?_
  rintro e w3 ⟨rfl, hb3⟩
  go_wp2_with fail
  refine (ex_inject _).mono ?_
  rintro e w4 ⟨⟨a4, c4, rfl, hc4⟩, hb4⟩
  have HC4 := Lib.hid hc4; clear hc4
  have n2 := hb1.trans (hb2.mono hb1.size)
  have n3 := n2.trans (hb3.mono n2.size)
  have n4 := n3.trans (hb4.mono n3.size)
  have k24 := (hb3.trans (hb4.mono hb3.size))
  have k14 := hb2.trans (k24.mono hb2.size)
  have q1 := HC1.out.below k14 (Nat.le_refl _)
  have q2 := HC2.out.below k24 (Nat.le_refl _)
  have hcv : (convert 64 9 (.slice (some ⟨b1, 0, none⟩) 14 c1)).run Tryd.prog w4 = .ok (.string ⟨#[165, 90, 0, 7, 0, 0, 0, 1, 64, 204, 2, 89, 2, 199]⟩) w4 := conv_bytes (w := w4) (cap := c1) [165, 90, 0, 7, 0, 0, 0, 1, 64, 204, 2, 89, 2, 199] q1
  have HQ2 := Lib.hid q2
  clear q1 q2 k14 k24 hb1 hb2 hb3 hb4 n2 n3
  go_wp2_with fail
  have hb5 := (Below.refl w4.heap.size w4).alloc (Nat.le_refl _) (.cells #[.int .i64 3, .int .i64 4, .int .i64 6, .int .i64 11] 39)
  refine (same_bands_eq _ _ _ _ _ [(3, 4), (6, 11)] 2 rfl (by decide) (HQ2.out.below hb5 (Nat.le_refl _)) (new_cells w4 (prs [(3, 4), (6, 11)]) 39)).mono ?_
  rintro e w5 ⟨rfl, hb6⟩
  have hb7 := hb5.trans (hb6.mono hb5.size)
  have n5 := n4.trans (hb7.mono n4.size)
  have q4 := HC4.out.below hb7 (Nat.le_refl _)
  have HQ4 := Lib.hid q4
  clear q4 hb5 hb6 hb7 n4 hcv
  go_wp2_with fail
  have hb5 := (Below.refl w5.heap.size w5).alloc (Nat.le_refl _) (.cells #[.int .i64 8, .int .i64 (-2), .int .i64 7, .int .i64 (-1), .int .i64 12] 3)
  refine (same_ints_eq _ _ _ _ _ [8, -2, 7, -1, 12] 5 rfl (by decide) (HQ4.out.below hb5 (Nat.le_refl _)) (new_cells w5 ([8, -2, 7, -1, 12].map (Value.int .i64)) 3)).mono ?_
  rintro e w6 ⟨rfl, hb6⟩
  have n6 := n5.trans ((hb5.trans (hb6.mono hb5.size)).mono n5.size)
  clear hb5 hb6 n5
  go_wp2
  go_ret
  exact ⟨rfl, n6⟩
end Go.Proofs.YtoochleabcjljaaDoor
