/- RecordSeconds holds: for every input the law answers true and leaves its arguments as they were. Conditions: those of the given row (the listed tables hold what the program's text lays in them). -/
import Derived.Test.YtoochleabcjljaaDoorKr5
import Derived.Laws.IdiomStrings
import Derived.Laws.MakeOwn
import Derived.ProofKit
import Derived.OpenShut
import Derived.ReadAgain
import Derived.Deep.Slices
import Derived.Deep.SlicePairs
import Derived.Lib.SmallJoins
import Derived.Below
import Derived.ChangeSame
import Derived.Deep.Strs
import Derived.Test.YtoochleabcjljaaDoorCards
import Derived.Test.YtoochleabcjljaaDoorTie
import Derived.WalkKit
import Derived.Deep.DeepHandedRow
import Derived.Lib.LaidTab
import Derived.LaidMore
import Derived.Stop.Joined

/- Lines: Track, where the amplitude is a small fraction. -/
namespace Go.Proofs.YtoochleabcjljaaDoor
open Go.RowKit

set_option maxRecDepth 100000 in
theorem track_dig (n d : Nat) (ao : Option Addr) (sh : List Int) (cap : Nat) (ax : Option Addr) (xs : List Int) (cx : Nat) (w : World) (hc : Cells w ao (sh.map (Value.int .i64))) (hx : Cells w ax (xs.map (Value.int .i64))) (he : linedErr sh xs = 0)
    (hn : ampN sh xs (whole sh xs) = (n : Nat)) (hd : ampD sh (whole sh xs) = (d : Nat)) (hn0 : 0 < n) (hd0 : 0 < d) (hd9 : d < 1000000000) (hn9 : n < 1000000000) (h : n / Nat.gcd n d < 10) (h2 : d / Nat.gcd n d < 10) (h3 : 2 ≤ d / Nat.gcd n d) :
    Calls Tryd.prog 28 #[.slice ao sh.length cap, .slice ax xs.length cx] w fun e w' => e = .returned (.tuple #[.string (digB (n / Nat.gcd n d) ++ (⟨#[47]⟩ ++ digB (d / Nat.gcd n d))), .int .i64 0]) ∧ Below w.heap.size w w' := by
  obtain ⟨l1, l2⟩ := linedErr_zero he
  have hsl := (lineErr_zero l1).2.1
  have hxl := (serErr_zero l2).1
  have hlin := fun wx h1 h2 => lined_any ao sh cap ax xs cx wx h1 (by omega) h2 (by omega)
  rw [he] at hlin
  have hamp := fun wx h1 h2 => amplitude_any ao sh cap ax xs cx wx h1 h2 he
  rw [hn, hd] at hamp
  have hof := fun wx => of_dig n d wx hn0 hd0 hd9 hn9 h h2 h3
  have hne : ((d : Int) == 0) = false := by rw [beq_eq_false_iff_ne]; omega
  have HC := Lib.hid hc; have HX := Lib.hid hx; have HL := Lib.hid hlin; have HA := Lib.hid hamp; have HO := Lib.hid hof
  clear hc hx he hn hd h h2 h3 hlin hamp hof l1 l2
  go_enter Tryd.func28, Tryd.ntmps28
  go_wp2_with fail
  refine (HL.out _ HC.out HX.out).mono ?_
  rintro e w1 ⟨rfl, hb1⟩
  go_wp2_with fail
  refine (HA.out _ (HC.out.below hb1 (Nat.le_refl _)) (HX.out.below hb1 (Nat.le_refl _))).mono ?_
  rintro e w2 ⟨rfl, rfl⟩
  go_wp2_with fail
  refine (HO.out _).mono ?_
  rintro e w2 ⟨rfl, hb2⟩
  go_wp2
  go_ret2
  exact ⟨rfl, hb1.trans (hb2.mono hb1.size)⟩
end Go.Proofs.YtoochleabcjljaaDoor

/- Examples: what works asks holds. -/
namespace Go.Proofs.YtoochleabcjljaaDoor
open Go.RowKit

theorem exCode : encRes bookX 1 [[0, 1, 1, 2], [-1]] = [165, 90, 0, 7, 0, 0, 0, 1, 64, 204, 2, 89, 2, 199] ∧ frmErr bookX 1 [[0, 1, 1, 2], [-1]] = 0 := by decide +kernel
theorem exStrain : strain [(3, 4), (-1, 1)] 1 [2, 5] = [(3, 4), (6, 11)] ∧ strErr [(3, 4), (-1, 1)] 1 [2, 5] = 0 := by decide +kernel
theorem exInject : injRes [1, -1] 3 [5, 1, 4, 2, 9] = [8, -2, 7, -1, 12] ∧ injErr [1, -1] 3 [5, 1, 4, 2, 9] = 0 := by decide +kernel
theorem exTrack : linedErr [1, -1] [5, 1, 4, 2, 9] = 0 ∧ ampN [1, -1] [5, 1, 4, 2, 9] (whole [1, -1] [5, 1, 4, 2, 9]) = (6 : Nat) ∧ ampD [1, -1] (whole [1, -1] [5, 1, 4, 2, 9]) = (4 : Nat) := by decide +kernel
theorem new_cells (w : World) (cs : List Value) (T : TypeId) : Cells (w.alloc (.cells cs.toArray T)) (some ⟨w.heap.size, 0, none⟩) cs := .inr ⟨_, _, rfl, fun j u hu => by rw [Nat.zero_add]; simpa using hu⟩

theorem one_row {w : World} {a : Option Addr} {xs : List Int} {c : Nat} (h : Cells w a (xs.map (Value.int .i64))) (hl : xs.length ≤ 9223372036854775807) : RowV w (.slice a xs.length c) xs := ⟨a, c, rfl, h, hl⟩
theorem two_rows {w : World} {v1 v2 : Value} {x1 x2 : List Int} (h1 : RowV w v1 x1) (h2 : RowV w v2 x2) : RowsV w [v1, v2] [x1, x2] := by
  refine ⟨rfl, fun i v xs hv hx => ?_⟩
  match i, hv, hx with
  | 0, hv, hx => simp at hv hx; subst hv hx; exact h1
  | 1, hv, hx => simp at hv hx; subst hv hx; exact h2
theorem conv_bytes {w : World} {b : Nat} {cap : Nat} (l : List UInt8) (h : Cells w (some ⟨b, 0, none⟩) (l.map fun d => Value.int .u8 (d.toNat : Int))) :
    (convert 64 9 (.slice (some ⟨b, 0, none⟩) l.length cap)).run Tryd.prog w = .ok (.string ⟨l.toArray⟩) w :=
  run_convert_bytes_back w _ _ 5 ⟨b, 0, none⟩ cap l Tryd.underlying64 Tryd.underlying5 Tryd.underlying9 (fun j hj => by
    have := h.at (j := j) (u := .int .u8 (l[j].toNat : Int)) (by simp [hj])
    rw [Addr.add_lit]; exact this)


theorem two_new (w : World) (c1 c2 : List Value) (T1 T2 : TypeId) : Cells ((w.alloc (.cells c1.toArray T1)).alloc (.cells c2.toArray T2)) (some ⟨w.heap.size, 0, none⟩) c1 ∧ Cells ((w.alloc (.cells c1.toArray T1)).alloc (.cells c2.toArray T2)) (some ⟨w.heap.size + 1, 0, none⟩) c2 := by
  constructor
  · exact (new_cells w c1 T1).below ((Below.refl _ _).alloc (Nat.le_refl _) _) (Nat.le_refl _)
  · have := new_cells (w.alloc (.cells c1.toArray T1)) c2 T2
    rwa [World.size_alloc] at this
theorem two_below (w : World) (o1 o2 : Obj) : Below w.heap.size w ((w.alloc o1).alloc o2) := ((Below.refl _ _).alloc (Nat.le_refl _) _).alloc (by simp) _

theorem ex_encode (w : World) :
    Calls Tryd.prog 26 #[.slice (some ⟨w.heap.size, 0, none⟩) 2 2, .agg #[.int .i64 1, .slice (some ⟨w.heap.size + 1 + 1 + 1, 0, none⟩) 2 2]]
      ((((w.alloc (.cells #[.string ⟨#[101, 114, 114]⟩, .int .i64 4, .int .i64 8, .string ⟨#[97, 117, 120]⟩, .int .i64 1, .int .i64 4] 57)).alloc (.cells #[.int .i64 0, .int .i64 1, .int .i64 1, .int .i64 2] 3)).alloc (.cells #[.int .i64 (-1)] 3)).alloc (.cells #[.slice (some ⟨w.heap.size + 1, 0, none⟩) 4 4, .slice (some ⟨w.heap.size + 1 + 1, 0, none⟩) 1 1] 25))
      fun e w' => (∃ b c, e = .returned (.tuple #[.slice (some ⟨b, 0, none⟩) 14 c, .int .i64 0]) ∧ Cells w' (some ⟨b, 0, none⟩) (bys [165, 90, 0, 7, 0, 0, 0, 1, 64, 204, 2, 89, 2, 199])) ∧ Below w.heap.size w w' := by
  obtain ⟨x1, x2⟩ := exCode
  have hb2 := two_below w (.cells #[.string ⟨#[101, 114, 114]⟩, .int .i64 4, .int .i64 8, .string ⟨#[97, 117, 120]⟩, .int .i64 1, .int .i64 4] 57) (.cells #[.int .i64 0, .int .i64 1, .int .i64 1, .int .i64 2] 3)
  obtain ⟨k1, k2⟩ := two_new w (chs bookX) ([0, 1, 1, 2].map (Value.int .i64)) 57 3
  have hs2 : ((w.alloc (.cells (chs bookX).toArray 57)).alloc (.cells ([0, 1, 1, 2].map (Value.int .i64)).toArray 3)).heap.size = w.heap.size + 1 + 1 := by simp
  change Below w.heap.size w ((w.alloc (.cells (chs bookX).toArray 57)).alloc (.cells ([0, 1, 1, 2].map (Value.int .i64)).toArray 3)) at hb2
  change Calls _ _ _ ((((w.alloc (.cells (chs bookX).toArray 57)).alloc (.cells ([0, 1, 1, 2].map (Value.int .i64)).toArray 3)).alloc (.cells ([-1].map (Value.int .i64)).toArray 3)).alloc (.cells [.slice (some ⟨w.heap.size + 1, 0, none⟩) 4 4, .slice (some ⟨w.heap.size + 1 + 1, 0, none⟩) 1 1].toArray 25)) _
  generalize ((w.alloc (.cells (chs bookX).toArray 57)).alloc (.cells ([0, 1, 1, 2].map (Value.int .i64)).toArray 3)) = W at *
  obtain ⟨k3, k4⟩ := two_new W ([-1].map (Value.int .i64)) [.slice (some ⟨w.heap.size + 1, 0, none⟩) 4 4, .slice (some ⟨w.heap.size + 1 + 1, 0, none⟩) 1 1] 3 25
  have hb4 := two_below W (.cells ([-1].map (Value.int .i64)).toArray 3) (.cells [.slice (some ⟨w.heap.size + 1, 0, none⟩) 4 4, .slice (some ⟨w.heap.size + 1 + 1, 0, none⟩) 1 1].toArray 25)
  generalize ((W.alloc (.cells ([-1].map (Value.int .i64)).toArray 3)).alloc (.cells [.slice (some ⟨w.heap.size + 1, 0, none⟩) 4 4, .slice (some ⟨w.heap.size + 1 + 1, 0, none⟩) 1 1].toArray 25)) = W2 at *
  rw [hs2] at k3 k4
  have q1 := k1.below hb4 (Nat.le_refl _)
  have q2 := k2.below hb4 (Nat.le_refl _)
  have h := Encode_any (some ⟨w.heap.size, 0, none⟩) bookX 2 1 (some ⟨w.heap.size + 1 + 1 + 1, 0, none⟩) [.slice (some ⟨w.heap.size + 1, 0, none⟩) 4 4, .slice (some ⟨w.heap.size + 1 + 1, 0, none⟩) 1 1] [[0, 1, 1, 2], [-1]] 2 W2 ⟨q1, by decide, by decide, by decide, by decide, by decide⟩ k4 (two_rows (one_row (xs := [0, 1, 1, 2]) q2 (by decide)) (one_row (xs := [-1]) k3 (by decide))) (by decide)
  rw [x1, x2] at h
  refine Calls.mono h ?_
  rintro e w' ⟨⟨v, rfl, hown⟩, hb⟩
  obtain ⟨g, c, rfl, _, _⟩ := hown.form (by decide)
  obtain ⟨a, c', h1, h2⟩ := own_cells hown
  simp only [Value.slice.injEq] at h1
  exact ⟨⟨g, c, rfl, by rw [h1.1]; exact h2⟩, hb2.trans ((hb4.mono hb2.size).trans (hb.mono (Nat.le_trans hb2.size hb4.size)))⟩

theorem ex_strain (w : World) :
    Calls Tryd.prog 6 #[.agg #[.slice (some ⟨w.heap.size, 0, none⟩) 2 2, .int .i64 1], .slice (some ⟨w.heap.size + 1, 0, none⟩) 2 2]
      ((w.alloc (.cells #[.int .i64 3, .int .i64 4, .int .i64 (-1), .int .i64 1] 37)).alloc (.cells #[.int .i64 2, .int .i64 5] 3))
      fun e w' => (∃ a c, e = .returned (.tuple #[.slice a 2 c, .int .i64 0]) ∧ Cells w' a (prs [(3, 4), (6, 11)])) ∧ Below w.heap.size w w' := by
  obtain ⟨x1, x2⟩ := exStrain
  obtain ⟨k1, k2⟩ := two_new w (prs [(3, 4), (-1, 1)]) ([2, 5].map (Value.int .i64)) 37 3
  have hb2 := two_below w (.cells (prs [(3, 4), (-1, 1)]).toArray 37) (.cells ([2, 5].map (Value.int .i64)).toArray 3)
  have h := strain_any (some ⟨w.heap.size, 0, none⟩) [(3, 4), (-1, 1)] 2 1 (some ⟨w.heap.size + 1, 0, none⟩) [2, 5] 2 _ k1 (by decide) k2 (by decide)
  rw [x1, x2] at h
  exact Calls.mono h fun e w' ⟨⟨a, c, h1, h2⟩, h3⟩ => ⟨⟨a, c, h1, h2⟩, hb2.trans (h3.mono hb2.size)⟩

theorem ex_track (w : World) :
    Calls Tryd.prog 28 #[.slice (some ⟨w.heap.size, 0, none⟩) 2 2, .slice (some ⟨w.heap.size + 1, 0, none⟩) 5 5]
      ((w.alloc (.cells #[.int .i64 1, .int .i64 (-1)] 3)).alloc (.cells #[.int .i64 5, .int .i64 1, .int .i64 4, .int .i64 2, .int .i64 9] 3))
      fun e w' => e = .returned (.tuple #[.string ⟨#[51, 47, 50]⟩, .int .i64 0]) ∧ Below w.heap.size w w' := by
  obtain ⟨x7, x8, x9⟩ := exTrack
  obtain ⟨k1, k2⟩ := two_new w ([1, -1].map (Value.int .i64)) ([5, 1, 4, 2, 9].map (Value.int .i64)) 3 3
  have hb2 := two_below w (.cells ([1, -1].map (Value.int .i64)).toArray 3) (.cells ([5, 1, 4, 2, 9].map (Value.int .i64)).toArray 3)
  have h := track_dig 6 4 (some ⟨w.heap.size, 0, none⟩) [1, -1] 2 (some ⟨w.heap.size + 1, 0, none⟩) [5, 1, 4, 2, 9] 5 _ k1 k2 x7 x8 x9 (by decide) (by decide) (by decide) (by decide) (by decide) (by decide) (by decide)
  have e1 : digB (6 / Nat.gcd 6 4) ++ (⟨#[47]⟩ ++ digB (4 / Nat.gcd 6 4)) = ⟨#[51, 47, 50]⟩ := by decide +kernel
  rw [e1] at h
  exact Calls.mono h fun e w' ⟨h1, h3⟩ => ⟨h1, hb2.trans (h3.mono hb2.size)⟩

theorem ex_inject (w : World) :
    Calls Tryd.prog 29 #[.slice (some ⟨w.heap.size, 0, none⟩) 2 2, .int .i64 3, .slice (some ⟨w.heap.size + 1, 0, none⟩) 5 5]
      ((w.alloc (.cells #[.int .i64 1, .int .i64 (-1)] 3)).alloc (.cells #[.int .i64 5, .int .i64 1, .int .i64 4, .int .i64 2, .int .i64 9] 3))
      fun e w' => (∃ a c, e = .returned (.tuple #[.slice a 5 c, .int .i64 0]) ∧ Cells w' a ([8, -2, 7, -1, 12].map (Value.int .i64))) ∧ Below w.heap.size w w' := by
  obtain ⟨x1, x2⟩ := exInject
  obtain ⟨k1, k2⟩ := two_new w ([1, -1].map (Value.int .i64)) ([5, 1, 4, 2, 9].map (Value.int .i64)) 3 3
  have hb2 := two_below w (.cells ([1, -1].map (Value.int .i64)).toArray 3) (.cells ([5, 1, 4, 2, 9].map (Value.int .i64)).toArray 3)
  have h := inject_any (some ⟨w.heap.size, 0, none⟩) [1, -1] 2 3 (some ⟨w.heap.size + 1, 0, none⟩) [5, 1, 4, 2, 9] 5 _ k1 (by decide) k2 (by decide)
  rw [x1, x2] at h
  exact Calls.mono h fun e w' ⟨⟨a, c, h1, h2⟩, h3⟩ => ⟨⟨a, c, h1, h2⟩, hb2.trans (h3.mono hb2.size)⟩
end Go.Proofs.YtoochleabcjljaaDoor

/- Examples: works. -/
namespace Go.Proofs.YtoochleabcjljaaDoor
open Go.RowKit

theorem same_bands_eq (aa ab : Option Addr) (ca cb : Nat) (w : World) (xs : List (Int × Int)) (n : Nat) (hn : n = xs.length) (hl : xs.length ≤ 9223372036854775807) (ha : Cells w aa (prs xs)) (hb : Cells w ab (prs xs)) :
    Calls Tryd.prog 12 #[.slice aa n ca, .slice ab n cb] w fun e w' => e = .returned (.bool true) ∧ Below w.heap.size w w' := by
  subst hn
  have h := sameBands_any aa ab xs xs ca cb w ha hb hl hl
  simpa using h
theorem same_ints_eq (aa ab : Option Addr) (ca cb : Nat) (w : World) (xs : List Int) (n : Nat) (hn : n = xs.length) (hl : xs.length ≤ 9223372036854775807) (ha : Cells w aa (xs.map (Value.int .i64))) (hb : Cells w ab (xs.map (Value.int .i64))) :
    Calls Tryd.prog 20 #[.slice aa n ca, .slice ab n cb] w fun e w' => e = .returned (.bool true) ∧ Below w.heap.size w w' := by
  subst hn
  have h := sameInts_any aa ab xs xs ca cb w ha hb hl hl
  simpa using h
theorem one_new (w : World) (c1 : List Value) (T1 : TypeId) : Cells (w.alloc (.cells c1.toArray T1)) (some ⟨w.heap.size, 0, none⟩) c1 := new_cells w c1 T1

set_option maxRecDepth 100000 in
set_option maxHeartbeats 2000000 in
theorem works_any (w : World) : Calls Tryd.prog 13 #[] w fun e w' => e = .returned (.bool true) ∧ Below w.heap.size w w' := by
  go_enter Tryd.func13, Tryd.ntmps13
  go_wp2_with (go_at_call 27; refine (book_any _).mono ?_; rintro e w1 ⟨rfl, rfl⟩)
  refine (ex_encode _).mono ?_
  rintro e w1 ⟨⟨b1, c1, rfl, hc1⟩, hb1⟩
  have HC1 := Lib.hid hc1; clear hc1
  go_wp2_with fail
  refine (ex_strain _).mono ?_
  rintro e w2 ⟨⟨a2, c2, rfl, hc2⟩, hb2⟩
  have HC2 := Lib.hid hc2; clear hc2
  go_wp2_with fail
  refine (ex_track _).mono ?_
  rintro e w3 ⟨rfl, hb3⟩
  go_wp2_with fail
  refine (ex_inject _).mono ?_
  rintro e w4 ⟨⟨a4, c4, rfl, hc4⟩, hb4⟩
  have HC4 := Lib.hid hc4; clear hc4
  have n2 := hb1.trans (hb2.mono hb1.size)
  have n3 := n2.trans (hb3.mono n2.size)
  have n4 := n3.trans (hb4.mono n3.size)
  have k24 := (hb3.trans (hb4.mono hb3.size))
  have k14 := hb2.trans (k24.mono hb2.size)
  have q1 := HC1.out.below k14 (Nat.le_refl _)
  have q2 := HC2.out.below k24 (Nat.le_refl _)
  have hcv : (convert 64 9 (.slice (some ⟨b1, 0, none⟩) 14 c1)).run Tryd.prog w4 = .ok (.string ⟨#[165, 90, 0, 7, 0, 0, 0, 1, 64, 204, 2, 89, 2, 199]⟩) w4 := conv_bytes (w := w4) (cap := c1) [165, 90, 0, 7, 0, 0, 0, 1, 64, 204, 2, 89, 2, 199] q1
  have HQ2 := Lib.hid q2
  clear q1 q2 k14 k24 hb1 hb2 hb3 hb4 n2 n3
  go_wp2_with fail
  have hb5 := (Below.refl w4.heap.size w4).alloc (Nat.le_refl _) (.cells #[.int .i64 3, .int .i64 4, .int .i64 6, .int .i64 11] 39)
  refine (same_bands_eq _ _ _ _ _ [(3, 4), (6, 11)] 2 rfl (by decide) (HQ2.out.below hb5 (Nat.le_refl _)) (new_cells w4 (prs [(3, 4), (6, 11)]) 39)).mono ?_
  rintro e w5 ⟨rfl, hb6⟩
  have hb7 := hb5.trans (hb6.mono hb5.size)
  have n5 := n4.trans (hb7.mono n4.size)
  have q4 := HC4.out.below hb7 (Nat.le_refl _)
  have HQ4 := Lib.hid q4
  clear q4 hb5 hb6 hb7 n4 hcv
  go_wp2_with fail
  have hb5 := (Below.refl w5.heap.size w5).alloc (Nat.le_refl _) (.cells #[.int .i64 8, .int .i64 (-2), .int .i64 7, .int .i64 (-1), .int .i64 12] 3)
  refine (same_ints_eq _ _ _ _ _ [8, -2, 7, -1, 12] 5 rfl (by decide) (HQ4.out.below hb5 (Nat.le_refl _)) (new_cells w5 ([8, -2, 7, -1, 12].map (Value.int .i64)) 3)).mono ?_
  rintro e w6 ⟨rfl, hb6⟩
  have n6 := n5.trans ((hb5.trans (hb6.mono hb5.size)).mono n5.size)
  clear hb5 hb6 n5
  go_wp2
  go_ret
  exact ⟨rfl, n6⟩
end Go.Proofs.YtoochleabcjljaaDoor

/- RecordSeconds: the walk. -/
namespace Go.Proofs.YtoochleabcjljaaDoor
open Go.RowKit

theorem gaps_ok (ao : Option Addr) (bs : List Chan) (cap : Nat) (al : Option Addr) (l : List Frm) (cl : Nat) (fr tt : Int) (w : World) (hb : BookIn w ao bs cap) (hr : RecIn w al l) (h : btwErr bs l fr tt = 0) :
    Calls Tryd.prog 18 #[.slice ao bs.length cap, .slice al l.length cl, .int .i64 fr, .int .i64 tt] w fun e w' => (∃ a c, e = .returned (.tuple #[.slice a (gapsOf fr tt l).length c, .int .i64 0]) ∧ Cells w' a (prs (gapsOf fr tt l))) ∧ Below w.heap.size w w' := by
  have hg := gaps_any ao bs cap al l cl fr tt w hb hr
  rw [gapsRes, if_pos h, h] at hg
  exact hg
theorem sameName_refl (a : ByteArray) : sameName a a = true := by simp [sameName]
/-- the series of the first channel -/
theorem ser_first {bs : List Chan} {l : List Frm} {c0 : Chan} {fr tt : Int} (hb : btwErr bs l fr tt = 0) (h0 : bs[0]? = some c0) :
    serE bs l c0.name fr tt = (if (cntOf fr tt l : Int) = tt - fr then 0 else 4) ∧ serR bs l c0.name fr tt = if (cntOf fr tt l : Int) = tt - fr then serOf 0 fr tt l else [] := by
  have hany : (bs.any fun c => sameName c.name c0.name) = true := List.any_eq_true.2 ⟨c0, List.mem_of_getElem? h0, sameName_refl _⟩
  have hi : chI bs c0.name = 0 := (chI_uniq (i := 0) h0 (sameName_refl _) (by simp)).symm
  have he : serE bs l c0.name fr tt = if (cntOf fr tt l : Int) = tt - fr then 0 else 4 := by
    rw [serE, if_neg (by simpa using hb), hany]
    by_cases h : (cntOf fr tt l : Int) = tt - fr
    · simp [h]
    · simp [h]
  refine ⟨he, ?_⟩
  rw [serR, he, hi]
  by_cases h : (cntOf fr tt l : Int) = tt - fr
  · simp [h]
  · simp [h]
theorem series_all (ao : Option Addr) (bs : List Chan) (cap : Nat) (al : Option Addr) (l : List Frm) (cl : Nat) (c0 : Chan) (fr tt : Int) (w : World) (hb : BookIn w ao bs cap) (hr : RecIn w al l) (h : btwErr bs l fr tt = 0) (h0 : bs[0]? = some c0) (hc : (cntOf fr tt l : Int) = tt - fr) :
    Calls Tryd.prog 19 #[.slice ao bs.length cap, .slice al l.length cl, .string c0.name, .int .i64 fr, .int .i64 tt] w fun e w' => (∃ a c, e = .returned (.tuple #[.slice a (serOf 0 fr tt l).length c, .int .i64 0]) ∧ Cells w' a ((serOf 0 fr tt l).map (Value.int .i64))) ∧ Below w.heap.size w w' := by
  have hg := series_any ao bs cap al l cl c0.name fr tt w hb hr
  obtain ⟨e1, e2⟩ := ser_first h h0
  rw [if_pos hc] at e1 e2
  rw [e1, e2] at hg
  refine hg.mono ?_
  rintro e w' ⟨⟨v, rfl, hown⟩, hb⟩
  obtain ⟨a, c, rfl, hc⟩ := own_cells hown
  exact ⟨⟨a, c, rfl, hc⟩, hb⟩
theorem series_none (ao : Option Addr) (bs : List Chan) (cap : Nat) (al : Option Addr) (l : List Frm) (cl : Nat) (c0 : Chan) (fr tt : Int) (w : World) (hb : BookIn w ao bs cap) (hr : RecIn w al l) (h : btwErr bs l fr tt = 0) (h0 : bs[0]? = some c0) (hc : (cntOf fr tt l : Int) ≠ tt - fr) :
    Calls Tryd.prog 19 #[.slice ao bs.length cap, .slice al l.length cl, .string c0.name, .int .i64 fr, .int .i64 tt] w fun e w' => (∃ v, e = .returned (.tuple #[v, .int .i64 4])) ∧ Below w.heap.size w w' := by
  have hg := series_any ao bs cap al l cl c0.name fr tt w hb hr
  obtain ⟨e1, e2⟩ := ser_first h h0
  rw [if_neg hc] at e1 e2
  rw [e1, e2] at hg
  exact hg.mono fun e w' ⟨⟨v, h1, _⟩, h2⟩ => ⟨⟨v, h1⟩, h2⟩
theorem gaps_bad (ao : Option Addr) (bs : List Chan) (cap : Nat) (al : Option Addr) (l : List Frm) (cl : Nat) (fr tt : Int) (w : World) (hb : BookIn w ao bs cap) (hr : RecIn w al l) (h : btwErr bs l fr tt ≠ 0) :
    Calls Tryd.prog 18 #[.slice ao bs.length cap, .slice al l.length cl, .int .i64 fr, .int .i64 tt] w fun e w' => (∃ a c, e = .returned (.tuple #[.slice a 0 c, .int .i64 (btwErr bs l fr tt)])) ∧ Below w.heap.size w w' := by
  have hg := gaps_any ao bs cap al l cl fr tt w hb hr
  rw [gapsRes, if_neg h] at hg
  exact hg.mono fun e w' ⟨⟨a, c, h1, _⟩, h3⟩ => ⟨⟨a, c, h1⟩, h3⟩

theorem Tryd.infoBool : (Tryd.prog.info? 4).map (fun i => (i.zero, i.size, i.bytes)) = some (some (.bool false), 1, 1) := by kernel_rfl
/-- a row of truth values -/
def bls (p : Nat → Bool) (n : Nat) : List Value := (List.range n).map fun j => .bool (p j)
theorem bls_congr {p q : Nat → Bool} {n : Nat} (h : ∀ j, j < n → p j = q j) : bls p n = bls q n := by
  unfold bls
  exact List.map_congr_left fun j hj => by rw [h j (List.mem_range.1 hj)]
theorem Blk.boolAt {w : World} {b n : Nat} {T : TypeId} {p : Nat → Bool} (h : Blk w b T (bls p n).toArray) {j : Nat} (hj : j < n) : w.cell? ⟨b, j, none⟩ = some (.bool (p j)) := by
  simp [World.cell?, show w.heap[b]? = _ from h, bls, hj]
theorem Blk.setBool {w : World} {b n : Nat} {T : TypeId} {p : Nat → Bool} (h : Blk w b T (bls p n).toArray) (j : Nat) : Blk (w.setCell ⟨b, j, none⟩ (.bool true)) b T (bls (fun i => p i || decide (i = j)) n).toArray := by
  show (w.setCell ⟨b, j, none⟩ (.bool true)).heap[b]? = _
  rw [heap_setCell_same w b j _ _ _ h]
  congr 2
  apply Array.ext
  · simp [bls]
  · intro i h1 h2
    simp only [bls, List.size_toArray, List.length_map, List.length_range] at h2
    by_cases hij : j = i
    · subst hij; simp [bls]
    · have e := Ne.symm hij
      simp [bls, hij, e]
theorem run_make_bools {n : Nat} {z : Int} (hz : z = n) (h : n ≤ 100000) (w : World) : (Instr.makeSlice 48 (.int .i64 z) (.int .i64 z)).run Tryd.prog w = .ok (.slice (some ⟨w.heap.size, 0, none⟩) n n) (w.alloc (.cells (bls (fun _ => false) n).toArray 4)) := by
  subst hz
  obtain ⟨i0, hi, hz0, hz1, hz2⟩ := info_parts Tryd.infoBool
  have hr := run_make (P := Tryd.prog) w 48 4 i0 (.bool false) Tryd.underlying48 hi hz0 .i64 .i64 n n (by omega) (by omega) (by rw [hz2]; omega) (by omega)
  rw [hr, hz1]
  simp only [Int.toNat_natCast, Nat.mul_one]
  have : madeCells (Value.bool false).cells n = (bls (fun _ => false) n).toArray := by
    apply Array.ext
    · simp [madeCells, bls]
    · intro i h1 h2
      simp [madeCells, bls, Value.cells, Nat.mod_one]
  rw [this]

set_option maxRecDepth 100000 in
set_option maxHeartbeats 2000000 in
theorem seconds_any (ao : Option Addr) (bs : List Chan) (cap : Nat) (al : Option Addr) (l : List Frm) (cl : Nat) (fr0 mn0 : Int) (w : World) (hb : BookIn w ao bs cap) (hr : RecIn w al l) :
    Calls Tryd.prog 5 #[.agg #[.slice ao bs.length cap, .slice al l.length cl], .int .i64 fr0, .int .i64 mn0] w fun e w' => e = .returned (.bool true) ∧ Below w.heap.size w w' := by
  have hb0 := (Below.refl w.heap.size w).alloc (Nat.le_refl _) (.cells #[.slice ao bs.length cap, .slice al l.length cl] 44)
  have HB := Lib.hid hb; have HR := Lib.hid hr
  have f1 := Int.emod_nonneg fr0 (show (1073741824 : Int) ≠ 0 by decide)
  have f2 := Int.emod_lt_of_pos fr0 (show (0 : Int) < 1073741824 by decide)
  have g1 := Int.emod_nonneg mn0 (show (200 : Int) ≠ 0 by decide)
  have g2 := Int.emod_lt_of_pos mn0 (show (0 : Int) < 200 by decide)
  have hmf := fun W => mod_any fr0 1073741824 W (by decide) (by decide)
  have hmm := fun W => mod_any mn0 200 W (by decide) (by decide)
  have HMF := Lib.hid hmf; have HMM := Lib.hid hmm
  clear hb hr hmf hmm
  generalize fr0 % 1073741824 = fr at *
  generalize mn0 % 200 = mn at *
  go_enter Tryd.func5, Tryd.ntmps5
  go_wp2_with fail
  refine (HMF.out _).mono ?_
  rintro e w1 ⟨rfl, rfl⟩
  go_wp2_with fail
  refine (HMM.out _).mono ?_
  rintro e w1 ⟨rfl, rfl⟩
  go_wp2_with fail
  obtain ⟨tt, htt⟩ : ∃ tt, tt = min (fr + mn) 1073741824 := ⟨_, rfl⟩
  rw [← htt]
  have t1 : fr ≤ tt := by omega
  have t2 : tt ≤ 1073741824 := by omega
  have t3 : tt - fr < 200 := by omega
  clear htt g1 g2
  by_cases h1 : btwErr bs l fr tt = 0
  · obtain ⟨z0, _, _, _⟩ := btwErr_zero h1
    obtain ⟨z5, z4, z6, z7⟩ := recErr_zero z0
    have hinc := upTo_inc z7
    obtain ⟨ga1, ga2⟩ := gaps_all t1 hinc
    have hglen : (gapsOf fr tt l).length ≤ 65 := by
      have h2 := gapsTo_length fr tt l
      have h3 := addS_length (gapsTo fr tt l).1 (gapsTo fr tt l).2 tt
      unfold gapsOf; omega
    have H1 := Lib.hid h1; have HINC := Lib.hid hinc; have GA1 := Lib.hid ga1; have GA2 := Lib.hid ga2; have Z6 := Lib.hid z6; have HOK := Lib.hid (bookErr_zero z5)
    obtain ⟨n, hn⟩ : ∃ n : Nat, tt - fr = n := ⟨(tt - fr).toNat, by omega⟩
    have HN := Lib.hid hn
    have hnb : n < 200 := by omega
    have hmk := fun W => run_make_bools hn (by omega) W
    refine (gaps_ok ao bs cap al l cl fr tt _ (HB.out.below hb0 (Nat.le_refl _)) (HR.out.below hb0 (Nat.le_refl _)) h1).mono ?_
    rintro e w1 ⟨⟨a8, c8, rfl, hc8⟩, hb1⟩
    have hf := hb0.trans (hb1.mono hb0.size)
    have q0 : w1.cell? ⟨w.heap.size, 0, none⟩ = some (.slice ao bs.length cap) := box_keep hb1 (by simp) 0
    have q1 : w1.cell? ⟨w.heap.size, 1, none⟩ = some (.slice al l.length cl) := box_keep hb1 (by simp) 1
    have HF := Lib.hid hf
    have HC8 := Lib.hid hc8
    have HR1 := Lib.hid (HR.out.below hf (Nat.le_refl _))
    have HB1 := Lib.hid (HB.out.below hf (Nat.le_refl _))
    clear h1 z0 z5 z6 z7 hinc ga1 ga2 hn hb1 hb0 hc8 hf
    have hcount := seconds_count t1 HINC.out
    have hno := no_gap t1 HINC.out
    have hnn : (tt - fr).toNat = n := by have := HN.out; omega
    rw [hnn] at hcount
    have HCOUNT := Lib.hid hcount; have HNO := Lib.hid hno
    clear hcount hno hnn
    generalize hG : gapsOf fr tt l = gs at *
    clear hG
    go_wp2_with fail
    clear hmk
    have hbm := Blk.new w1 4 (bls (fun _ => false) n).toArray
    have hbw := (Below.refl w1.heap.size w1).alloc (Nat.le_refl _) (.cells (bls (fun _ => false) n).toArray 4)
    generalize (w1.alloc (.cells (bls (fun _ => false) n).toArray 4)) = wm at *
    have HBM := Lib.hid hbm; clear hbm
    go_loopw [11, 12] (fun u i wr => ∃ k : Nat, k ≤ gs.length ∧ i = .int .i64 k ∧ u = .int .i64 (lastOf fr gs k) ∧ Blk wr w1.heap.size 4 (bls (fun j => mis (gs.take k) (fr + (j : Int))) n).toArray ∧ Below w1.heap.size w1 wr) (fun _ i _ => gs.length - (intOf i).toNat)
    case atStart => exact ⟨0, Nat.zero_le _, rfl, rfl, by simpa [mis] using HBM.out, hbw⟩
    case round =>
      clear hbw HBM
      obtain ⟨k, hk, rfl, rfl, hbk, hbr⟩ := hrel
      have HBK := Lib.hid hbk; clear hbk
      by_cases hlt : k < gs.length
      · as_aux_lemma =>
        obtain ⟨⟨a, b⟩, hx⟩ := get_of_lt hlt
        obtain ⟨x1, x2, x3, x4⟩ := GA2.out k (a, b) hx
        simp only at x1 x2 x3 x4
        obtain ⟨b8, o8, rfl⟩ := HC8.out.addr (prs_ne (by omega))
        have hx0 := HC8.out.at (prs_fst hx)
        have hx1 := HC8.out.at (prs_snd hx)
        rw [← Nat.add_assoc] at hx1
        simp only at hx0 hx1
        have HX0 := Lib.hid hx0; have HX1 := Lib.hid hx1
        have c0 := cell_keep hx0 hbr (Nat.le_refl _)
        have c1 := cell_keep hx1 hbr (Nat.le_refl _)
        have hls : lastOf fr gs (k + 1) = b := by
          rw [lastOf, if_neg (by omega), Nat.add_sub_cancel, List.getD_eq_getElem?_getD, hx]; rfl
        have hmt : ∀ s, mis (gs.take (k + 1)) s = (mis (gs.take k) s || (decide (a ≤ s) && decide (s < b))) := fun s => by rw [take_get hx, mis_snoc]
        have HLS := Lib.hid hls; have HMT := Lib.hid hmt
        generalize hl0 : lastOf fr gs k = la at *
        have i1 : (k : Int) < gs.length := by omega
        have i2 : (0 : Int) ≤ k := by omega
        have d1 : decide (a ≤ la) = false := by simp; omega
        have d2 : decide (b ≤ a) = false := by simp; omega
        have d3 : decide (tt < b) = false := by simp; omega
        clear hl0 hx hx0 hx1 hls hmt
        go_wp2_with fail
        go_quiet (fail)
        clear d1 d2 d3
        have hbd := bel_drewN hbr nq
        have HBD : Hid (Blk (wr.drewN nq) w1.heap.size 4 (bls (fun j => mis (gs.take k) (fr + (j : Int))) n).toArray) := HBK.out
        clear HBK
        have e0 := cell_keep HX0.out hbd (Nat.le_refl _)
        generalize wr.drewN nq = wd at *
        clear c0 c1 hbr
        have hn1 := HN.out
        go_wp2_with fail
        go_loopw [13] (fun s wi => ∃ i : Int, a ≤ i ∧ i ≤ b ∧ s = .int .i64 i ∧ Blk wi w1.heap.size 4 (bls (fun j => mis (gs.take k) (fr + (j : Int)) || (decide (a ≤ fr + (j : Int)) && decide (fr + (j : Int) < i))) n).toArray ∧ Below w1.heap.size w1 wi) (fun s _ => (b - intOf s).toNat)
        case atStart =>
          refine ⟨a, Int.le_refl _, by omega, rfl, ?_, hbd⟩
          rw [bls_congr (q := fun j => mis (gs.take k) (fr + (j : Int))) fun j hj => by
            have : ¬ (a ≤ fr + (j : Int) ∧ fr + (j : Int) < a) := by omega
            cases hm : mis (gs.take k) (fr + (j : Int)) <;> simp <;> omega]
          exact HBD.out
        case round =>
          clear hbd HBD e0
          obtain ⟨i, hi1, hi2, rfl, hbi, hbl⟩ := hrel
          have c1 := cell_keep HX1.out hbl (Nat.le_refl _)
          have c0 := cell_keep HX0.out hbl (Nat.le_refl _)
          by_cases hlt2 : i < b
          · obtain ⟨q, hq⟩ := Int.eq_ofNat_of_zero_le (show 0 ≤ i - fr by omega)
            have hqn : q < n := by omega
            have k0 := hbi.boolAt hqn
            have k1 := hbi.free q
            have hs := hbi.setBool q
            have hbs := hbl.setCell (p := ⟨w1.heap.size, q, none⟩) (Nat.le_refl _) (.bool true)
            have hfin : Blk (wr.setCell ⟨w1.heap.size, q, none⟩ (.bool true)) w1.heap.size 4 (bls (fun j => mis (gs.take k) (fr + (j : Int)) || (decide (a ≤ fr + (j : Int)) && decide (fr + (j : Int) < i + 1))) n).toArray := by
              rw [bls_congr (q := fun j => (mis (gs.take k) (fr + (j : Int)) || (decide (a ≤ fr + (j : Int)) && decide (fr + (j : Int) < i))) || decide (j = q)) fun j hj => by
                rw [Bool.eq_iff_iff]; simp only [Bool.or_eq_true, Bool.and_eq_true, decide_eq_true_eq, or_assoc]
                constructor
                · rintro (h | ⟨h1, h2⟩)
                  · exact .inl h
                  · by_cases hjq : j = q
                    · exact .inr (.inr hjq)
                    · exact .inr (.inl ⟨h1, by omega⟩)
                · rintro (h | ⟨h1, h2⟩ | h)
                  · exact .inl h
                  · exact .inr ⟨h1, by omega⟩
                  · exact .inr ⟨by omega, by omega⟩]
              exact hs
            have HFIN := Lib.hid hfin
            clear hs hfin hbi
            have a1 : (i - fr).toNat = q := by omega
            have a2 : 0 ≤ i - fr := by omega
            have a3 : i - fr < (n : Int) := by omega
            clear hq
            go_wp2
            go_roundw
            case rel => exact ⟨i + 1, by omega, by omega, rfl, HFIN.out, hbs⟩
            case measure => simp [intOf]; omega
          · obtain rfl : i = b := by omega
            have hfin : Blk wr w1.heap.size 4 (bls (fun j => mis (gs.take (k + 1)) (fr + (j : Int))) n).toArray := by
              rw [bls_congr (q := fun j => mis (gs.take k) (fr + (j : Int)) || (decide (a ≤ fr + (j : Int)) && decide (fr + (j : Int) < i))) fun j hj => by rw [HMT.out]]
              exact hbi
            have HFIN := Lib.hid hfin
            clear hfin hbi
            go_wp2
            go_roundw
            case rel => exact ⟨k + 1, by omega, by go_num, by rw [HLS.out], HFIN.out, hbl⟩
            case measure => simp [intOf]; omega
      · obtain rfl : k = gs.length := by omega
        rw [List.take_length] at HBK
        have hbk1 : 1 ≤ bs.length := by
          have := HOK.out
          simp only [bookOK, inB, Bool.and_eq_true, decide_eq_true_eq] at this; omega
        have hrow : ∀ f ∈ l, ∃ xs, f.xss[0]? = some xs ∧ 1 ≤ xs.length ∧ xs.length ≤ 64 := fun f hf => frTo_row (Z6.out f hf) HOK.out (by omega)
        have hser : ∀ n, n ≤ l.length → (serOf 0 fr tt (l.take n)).length ≤ 64 * n := fun n hn => by
          have := serOf_length 0 fr tt (l.take n) (fun f hf => by
            obtain ⟨xs, h1, _, h2⟩ := hrow f (List.mem_of_mem_take hf)
            rw [List.getD_eq_getElem?_getD, h1]; exact h2)
          rw [List.length_take, Nat.min_eq_left hn] at this; exact this
        have HROW := Lib.hid hrow; have HSER := Lib.hid hser
        obtain ⟨i0, hi, hz0, hz1, hz2⟩ := info_parts Tryd.infoInt
        clear hrow hser
        go_wp2_with fail
        go_loopw [14, 15, 16] (fun v s i wi => ∃ k : Nat, k ≤ l.length ∧ i = .int .i64 k ∧ s = .int .i64 (cntOf fr tt (l.take k) : Nat) ∧ wi.ownsRow w1.heap.size 3 1 v (serOf 0 fr tt (l.take k)).length ((serOf 0 fr tt (l.take k)).map (Value.int .i64)) ∧ Blk wi w1.heap.size 4 (bls (fun j => mis gs (fr + (j : Int))) n).toArray ∧ Below w1.heap.size w1 wi) (fun _ _ i _ => l.length - (intOf i).toNat)
        case atStart => exact ⟨0, Nat.zero_le _, rfl, rfl, World.ownsRow_nil _ _ _ _, HBK.out, hbr⟩
        case round =>
          clear hbr HBK
          obtain ⟨k, hk1, rfl, rfl, hown, hbk, hbr⟩ := hrel
          have p0 := cell_keep q0 hbr (Nat.le_refl _)
          have p1 := cell_keep q1 hbr (Nat.le_refl _)
          have HO := Lib.hid hown; have HBK := Lib.hid hbk
          have hcl := cntOf_le fr tt (l.take k)
          rw [List.length_take, Nat.min_eq_left hk1] at hcl
          by_cases hlt : k < l.length
          · as_aux_lemma =>
            obtain ⟨⟨xst, xa, xc, xss⟩, hx⟩ := get_of_lt hlt
            have hmem := List.mem_of_getElem? hx
            obtain ⟨xs, hxs, hx1, hx2⟩ := HROW.out _ hmem
            obtain ⟨bl, ol, rfl⟩ := HR1.out.cells.addr (frs_ne (by omega))
            have d0 := cell_keep (HR1.out.cells.at (frs_get hx).1) hbr (Nat.le_refl _)
            have d1 := cell_keep (HR1.out.cells.at (frs_get hx).2) hbr (Nat.le_refl _)
            rw [← Nat.add_assoc] at d1
            obtain ⟨_, vs, hvs, hrv⟩ := HR1.out.rows _ hmem
            simp only at hxs hvs hrv d0 d1
            obtain ⟨v, hv⟩ := get_of_lt (show 0 < vs.length by have := (List.getElem?_eq_some_iff.1 hxs).1; have := hrv.1; omega)
            obtain ⟨ax, cx, rfl, hax, _⟩ := hrv.2 0 v xs hv hxs
            obtain ⟨bv, ov, rfl⟩ := hvs.addr (List.ne_nil_of_length_pos (by have := (List.getElem?_eq_some_iff.1 hv).1; omega))
            obtain ⟨bx, ox, rfl⟩ := hax.addr (by simpa using List.ne_nil_of_length_pos (by omega))
            have hst : serOf 0 fr tt (l.take (k + 1)) = serOf 0 fr tt (l.take k) ++ if inF fr tt ⟨xst, some ⟨bv, ov, none⟩, xc, xss⟩ then xs else [] := by
              rw [take_get hx, serOf_snoc, List.getD_eq_getElem?_getD, hxs]; rfl
            have hct : cntOf fr tt (l.take (k + 1)) = cntOf fr tt (l.take k) + if inF fr tt ⟨xst, some ⟨bv, ov, none⟩, xc, xss⟩ then 1 else 0 := by rw [take_get hx, cntOf_snoc]
            have hsl := HSER.out k hk1
            have HST := Lib.hid hst; have HCT := Lib.hid hct
            have hz := hbr.size
            have hkx : 0 < xss.length := (List.getElem?_eq_some_iff.1 hxs).1
            have e1 := cell_keep (hvs.at hv) hbr (Nat.le_refl _)
            rw [Nat.add_zero] at e1
            have HAX := Lib.hid (hax.below hbr (Nat.le_refl _))
            by_cases hin : fr ≤ xst ∧ xst < tt
            · have hi0 : inF fr tt ⟨xst, some ⟨bv, ov, none⟩, xc, xss⟩ = true := by simp [inF, hin.1, hin.2]
              obtain ⟨hi1, hi2⟩ := hin
              rw [hi0] at HST HCT
              have hn1 : tt - fr ≤ n ∧ n ≤ tt - fr := by have := HN.out; omega
              obtain ⟨hn1, hn2⟩ := hn1
              obtain ⟨q, hq⟩ := Int.eq_ofNat_of_zero_le (show 0 ≤ xst - fr by omega)
              have hqn : q < n := by omega
              have hmq : mis gs (fr + (q : Int)) = false := by
                rw [show fr + (q : Int) = xst by omega]
                cases hm : mis gs xst
                · rfl
                · have h3 := ((GA1.out xst).1 hm).2.2
                  rw [occ, List.any_eq_false] at h3
                  have := h3 _ hmem
                  simp at this
              have k0 := hbk.boolAt hqn
              rw [hmq] at k0
              have a1 : (xst - fr).toNat = q := by omega
              have a2 : 0 ≤ xst - fr := by omega
              have a3 : xst - fr < (n : Int) := by omega
              have hneb := blk_own_ne hbk hown (by decide)
              clear hst hct hown hxs hx hv hvs hrv hax hi0 hmem hbk hmq hq
              go_wp2_with (at_builtin; refine wpList_append_lies _ rfl _ _ _ rfl w1.heap.size 3 i0 (.int .i64 0) 1 8 Tryd.underlying25 hi hz0 hz1 hz2 rfl (by decide) _ _ _ rfl HO.out ⟨bx, ox, none⟩ xs.length cx (xs.map (Value.int .i64)) rfl (by simp) (fun j u hu => by rw [Addr.add_lit]; exact HAX.out.at hu) (by intro u hu; obtain ⟨d, _, rfl⟩ := List.mem_map.1 hu; rfl) (by omega) (by unfold maxLen; omega) (by omega) (by omega) wr.heap.size rfl ?_)
              intro gg cp wz hown1 hgrow hat hlt1
              have hfin : wz.ownsRow w1.heap.size 3 1 (.slice (some ⟨gg, 0, none⟩) ((serOf 0 fr tt (l.take k)).length + xs.length) cp) (serOf 0 fr tt (l.take (k + 1))).length ((serOf 0 fr tt (l.take (k + 1))).map (Value.int .i64)) := by
                rw [HST.out, if_pos trivial, List.length_append, List.map_append]; exact hown1
              have hbz := hbr.grown hgrow (by omega) (fun j e => (HO.out.lt j e).1)
              have hbk2 := HBK.out.kept hgrow (fun e => hneb e.symm)
              have HFIN := Lib.hid hfin; have HBK2 := Lib.hid hbk2
              clear hown1 hgrow hat hlt1 hfin hbk2
              go_wp2
              go_roundw
              case rel => exact ⟨k + 1, by omega, by go_num, by rw [HCT.out, if_pos trivial]; go_num, HFIN.out, HBK2.out, hbz⟩
              case measure => simp [intOf]; omega
            · have hi0 : inF fr tt ⟨xst, some ⟨bv, ov, none⟩, xc, xss⟩ = false := by
                simp only [inF, Bool.and_eq_false_iff, decide_eq_false_iff_not]; omega
              rw [hi0] at HST HCT
              have hfin : wr.ownsRow w1.heap.size 3 1 u14 (serOf 0 fr tt (l.take (k + 1))).length ((serOf 0 fr tt (l.take (k + 1))).map (Value.int .i64)) := by
                rw [HST.out, if_neg (by simp), List.append_nil]; exact HO.out
              have HFIN := Lib.hid hfin
              have hct2 : cntOf fr tt (l.take (k + 1)) = cntOf fr tt (l.take k) := by rw [HCT.out]; simp
              have HCT2 := Lib.hid hct2
              clear hst hct hown hxs hx hv hvs hrv hax hi0 hfin hct2 hbk
              have hjj : xst < fr ∨ (fr ≤ xst ∧ tt ≤ xst) := by omega
              clear hin
              rcases hjj with h | ⟨h, h'⟩
              all_goals
                go_wp2
                go_roundw
                case rel => exact ⟨k + 1, by omega, by go_num, by rw [HCT2.out], HFIN.out, HBK.out, hbr⟩
                case measure => simp [intOf]; omega
          · obtain rfl : k = l.length := by omega
            rw [List.take_length] at HO hcl ⊢
            have hcb := cntB_le (fun j => mis gs (fr + (j : Int))) n
            go_wp2_with fail
            go_loop [15, 18] (fun s i => ∃ k : Nat, k ≤ n ∧ i = .int .i64 k ∧ s = .int .i64 (cntOf fr tt l + cntB (fun j => mis gs (fr + (j : Int))) k : Nat)) (fun _ i => n - (intOf i).toNat)
            case atStart => exact ⟨0, Nat.zero_le _, rfl, by simp [cntB]⟩
            case round =>
              obtain ⟨k, hk2, rfl, rfl⟩ := hrel
              have hcb2 := cntB_le (fun j => mis gs (fr + (j : Int))) k
              by_cases hlt2 : k < n
              · have k0 := HBK.out.boolAt hlt2
                have hst : cntB (fun j => mis gs (fr + (j : Int))) (k + 1) = cntB (fun j => mis gs (fr + (j : Int))) k + if mis gs (fr + (k : Int)) then 1 else 0 := rfl
                cases hm : mis gs (fr + (k : Int))
                · rw [hm] at k0 hst
                  have HST := Lib.hid hst; clear hst hm
                  generalize cntB (fun j => mis gs (fr + (j : Int))) k = ck at *
                  go_wp2
                  go_round
                  case rel => exact ⟨k + 1, by omega, by go_num, by rw [HST.out]; simp⟩
                  case measure => simp [intOf]; omega
                · rw [hm] at k0 hst
                  have HST := Lib.hid hst; clear hst hm
                  generalize cntB (fun j => mis gs (fr + (j : Int))) k = ck at *
                  go_wp2
                  go_round
                  case rel => exact ⟨k + 1, by omega, by go_num, by rw [HST.out]; simp; omega⟩
                  case measure => simp [intOf]; omega
              · obtain rfl : k = n := by omega
                rw [HCOUNT.out]
                obtain ⟨c0, hc0⟩ := get_of_lt (show 0 < bs.length by omega)
                obtain ⟨bb, ob, rfl⟩ := HB1.out.cells.addr (chs_ne (by omega))
                have n0 := cell_keep (HB1.out.cells.at (chs_get hc0).1) hbr (Nat.le_refl _)
                rw [Nat.zero_mul, Nat.add_zero] at n0
                obtain ⟨aw, cw, rfl, hcw⟩ := own_cells HO.out
                have HCW := Lib.hid hcw
                have HRr := Lib.hid (HR1.out.below hbr.drew (Nat.le_refl _))
                have HBr := Lib.hid (HB1.out.below hbr.drew (Nat.le_refl _))
                have hfd := HF.out.trans (hbr.drew.mono HF.out.size)
                have HFD := Lib.hid hfd
                have m1 : (k : Int) ≤ tt - fr ∧ tt - fr ≤ (k : Int) := by have := HN.out; omega
                obtain ⟨m1, m2⟩ := m1
                have hne : ((k : Int) != tt - fr) = false := by rw [bne_eq_false_iff_eq]; omega
                have i00 : (0 : Int) < bs.length := by omega
                have i01 : 0 < bs.length := by omega
                have hrefl := Below.refl wr.heap.size wr
                clear hcw hfd hcb
                by_cases hz : gs.length = 0
                · have hsa := fun W h3 h4 => series_all (some ⟨bb, ob, none⟩) bs cap al l cl c0 fr tt W h3 h4 H1.out hc0 (HNO.out.2 hz)
                  have HSA := Lib.hid hsa
                  have hz1 : ((gs.length : Int) == 0) = true := by simp [hz]
                  have hgl : gs = [] := List.length_eq_zero_iff.1 hz
                  clear hsa hc0 hz
                  go_wp2_with fail
                  have p0d : wr.drew.cell? ⟨w.heap.size, 0, none⟩ = some (.slice (some ⟨bb, ob, none⟩) bs.length cap) := p0
                  have p1d : wr.drew.cell? ⟨w.heap.size, 1, none⟩ = some (.slice al l.length cl) := p1
                  have n0d : wr.drew.cell? ⟨bb, ob, none⟩ = some (.string c0.name) := n0
                  go_region_held3 (fun w' => w'.cell? ⟨w.heap.size, 0, none⟩ = some (.slice (some ⟨bb, ob, none⟩) bs.length cap) ∧ w'.cell? ⟨w.heap.size, 1, none⟩ = some (.slice al l.length cl) ∧ w'.cell? ⟨bb, ob, none⟩ = some (.string c0.name))
                    (first | exact ⟨p0d, p1d, n0d⟩ | exact ⟨cell_keep p0d hbq (Nat.le_refl _), cell_keep p1d hbq (Nat.le_refl _), cell_keep n0d hbq (Nat.le_refl _)⟩)
                    (first | (go_at_call 19; refine (HSA.out _ HBr.out HRr.out).mono ?_; rintro e wq ⟨⟨as', cs', rfl, hcs⟩, hbq⟩; have HCS := Lib.hid hcs; clear hcs))
                  have hfq := HFD.out.trans (hbq.mono HFD.out.size)
                  have HCWq := Lib.hid (HCW.out.below (hrefl.drew.trans hbq) (Nat.le_refl _))
                  clear hbq
                  go_wp2_with fail
                  refine (same_ints_eq as' aw cs' cw wq (serOf 0 fr tt l) _ rfl (by have := HSER.out l.length (Nat.le_refl _); rw [List.take_length] at this; omega) HCS.out HCWq.out).mono ?_
                  rintro e wr2 ⟨rfl, hb9⟩
                  have hf9 := hfq.trans (hb9.mono hfq.size)
                  clear hb9 hfq
                  go_wp2_with fail
                  refine (works_any _).mono ?_
                  rintro e wr3 ⟨rfl, hb10⟩
                  have hf10 := hf9.trans (hb10.mono hf9.size)
                  clear hb10 hf9
                  go_wp2
                  go_ret
                  exact ⟨rfl, hf10⟩
                · have hsn := fun W h3 h4 => series_none (some ⟨bb, ob, none⟩) bs cap al l cl c0 fr tt W h3 h4 H1.out hc0 (fun h => hz (HNO.out.1 h))
                  have HSN := Lib.hid hsn
                  have hz1 : ((gs.length : Int) == 0) = false := by rw [beq_eq_false_iff_ne]; omega
                  clear hsn hc0 hz
                  go_wp2_with fail
                  have p0d : wr.drew.cell? ⟨w.heap.size, 0, none⟩ = some (.slice (some ⟨bb, ob, none⟩) bs.length cap) := p0
                  have p1d : wr.drew.cell? ⟨w.heap.size, 1, none⟩ = some (.slice al l.length cl) := p1
                  have n0d : wr.drew.cell? ⟨bb, ob, none⟩ = some (.string c0.name) := n0
                  go_region_held3 (fun w' => w'.cell? ⟨w.heap.size, 0, none⟩ = some (.slice (some ⟨bb, ob, none⟩) bs.length cap) ∧ w'.cell? ⟨w.heap.size, 1, none⟩ = some (.slice al l.length cl) ∧ w'.cell? ⟨bb, ob, none⟩ = some (.string c0.name))
                    (first | exact ⟨p0d, p1d, n0d⟩ | exact ⟨cell_keep p0d hbq (Nat.le_refl _), cell_keep p1d hbq (Nat.le_refl _), cell_keep n0d hbq (Nat.le_refl _)⟩)
                    (first | (go_at_call 19; refine (HSN.out _ HBr.out HRr.out).mono ?_; rintro e wq ⟨⟨vs', rfl⟩, hbq⟩))
                  have hfq := HFD.out.trans (hbq.mono HFD.out.size)
                  clear hbq
                  go_wp2_with fail
                  refine (works_any _).mono ?_
                  rintro e wr3 ⟨rfl, hb10⟩
                  have hf10 := hfq.trans (hb10.mono hfq.size)
                  clear hb10 hfq
                  go_wp2
                  go_ret
                  exact ⟨rfl, hf10⟩
  · have h3 : (btwErr bs l fr tt != 0) = true := by simpa using h1
    refine (gaps_bad ao bs cap al l cl fr tt _ (HB.out.below hb0 (Nat.le_refl _)) (HR.out.below hb0 (Nat.le_refl _)) h1).mono ?_
    rintro e w1 ⟨⟨a1, c1, rfl⟩, hb1⟩
    have hf := hb0.trans (hb1.mono hb0.size)
    clear h1 hb1
    go_wp2_with fail
    refine (works_any _).mono ?_
    rintro e w2 ⟨rfl, hb2⟩
    have hf2 := hf.trans (hb2.mono hf.size)
    clear hf hb2
    go_wp2
    go_ret
    exact ⟨rfl, hf2⟩
end Go.Proofs.YtoochleabcjljaaDoor

/- Arguments read as data, over this program: what their cells hold; and that they read the same behind a call that writes nothing old. -/
namespace Go.Proofs.YtoochleabcjljaaDoor
open Go.RowKit Go.WideShapes Go.ChangeShapes Go.Deep Go.Joins

section
variable {H : Type} {enc : TypeId × Value → H} {P : Program}
theorem sameAt_below {W W' : World} (hb : Below W.heap.size W W') {p : MemPlace} (hp : p.block < W.heap.size) : W.sameAt W' p := by
  cases p with
  | cell b off => exact hb.cell (p := ⟨b, off, none⟩) hp
  | map b => exact hb.block b hp
theorem trodAll_carry {W W' : World} {base : Nat} {sp : Nat → Bool} {held : Bool} : ∀ {ts : List TypeId} {vs : List Value} {ds : List (DataW H)} {ps : List MemPlace}, DataW.TrodAll enc P W base sp held ts vs ds ps → (∀ p ∈ ps, W.sameAt W' p) → DataW.TrodAll enc P W' base sp held ts vs ds ps
  | [], [], [], _, h, _ => h
  | _ :: _, _ :: _, _ :: _, _, ⟨p, q, ⟨n, h1⟩, h2, e⟩, hs => ⟨p, q, ⟨n, DataW.trod_carry n _ _ _ h1 fun x hx => hs x (by rw [e]; exact List.mem_append_left _ hx)⟩, trodAll_carry h2 fun x hx => hs x (by rw [e]; exact List.mem_append_right _ hx), e⟩

/-- behind a call that leaves all old blocks alone and answers true, of a law whose data read again as they did -/
theorem law_post {f : Func} {s : ChangeSpec} {W W' : World} {args : Array Value} {ds : List (DataW H)} {before : List MemPlace} (K : Kids P (· < P.types.size))
    (full : ∀ t e, t < P.types.size → P.underlying t = some (.slice e) → 0 < P.cellsOf e) (hT : ∀ t ∈ f.params.toList, t < P.types.size) (hv : s.vars = [])
    (hW : DataW.Whole enc P f.params.toList s.vars false W args.toList ds [] before) (hA : DataW.TrodAll enc P W 0 (fun _ => true) true f.params.toList args.toList ds before)
    (hfn : s.fn H (ds ++ []) = { results := [.lit (.bool true)], args := ds }) (hr : f.resultTypes = #[4]) (hu : P.underlying 4 = some .bool) (hb : Below W.heap.size W W') :
    s.post enc P f false true false false W args (.bool true) W' := by
  have hlt : ∀ p ∈ before, p.block < W.heap.size := fun p hp => hW.lt p hp
  have hold : ∀ p ∈ before, (fun b => decide (b < W.heap.size)) p.block = true := fun p hp => by simpa using hlt p hp
  have hargs : ∀ sp : Nat → Bool, (∀ p ∈ before, sp p.block = true) → DataW.TrodAll enc P W' 0 sp true f.params.toList args.toList (s.fn H (ds ++ [])).args before := by
    intro sp hsp
    rw [hfn]
    exact trodAll_carry (DataW.TrodAll.respare K full hT hA hsp) fun p hp => sameAt_below hb (hlt p hp)
  have hres : ∀ (b : Nat) (sp : Nat → Bool) (hd : Bool), DataW.TrodAll enc P W' b sp hd f.resultTypes.toList ((Value.bool true).resultList f.resultTypes.size) (s.fn H (ds ++ [])).results [] := by
    intro b sp hd
    rw [hfn, hr]
    exact trodAll_cons_mk (shut_bool hu _) trodAll_mk0
  have hvars : ∀ sp : Nat → Bool, DataW.TrodVars enc P W' sp s.vars (s.fn H (ds ++ [])).vars [] := by
    intro sp
    rw [hfn, hv]
    rfl
  refine ⟨ds, [], before, [], before, [], hW, hres _ _ _, hargs _ hold, hvars _, World.keptBut_mono (fun p hp => ⟨hp, Or.inr (Or.inl hp)⟩) (hb.frame (· ∈ before)), fun _ => ?_⟩
  obtain ⟨_, _, _, _, _, hz, hn⟩ := hW
  refine ⟨?_, _, _, ([] ++ before) ++ [], ⟨[] ++ before, [], trodAll_append (hargs _ (fun _ _ => rfl)) (hres _ _ _), hvars _, rfl, ?_, ?_⟩, ?_⟩
  · exact ok_one hr rfl (okWide_bool_mk hu _)
  · intro b off hp
    have hin : MemPlace.cell b off ∈ before := by simpa using hp
    rw [hb.frozen (hlt _ hin)]
    exact hz b off hin
  · intro ha
    have := hn ha
    simpa using this
  · intro p hp _
    simpa using hp

/-- a slice of numbers, as read -/
theorem rd_ints {W : World} {base : Nat} {sp : Nat → Bool} {held : Bool} {t e : TypeId} {fuel : Nat} {cs : List Value} {x : DataW H × List MemPlace} (ht : P.underlying t = some (.slice e)) (he : P.underlying e = some (.int .i64)) (hc : P.cellsOf e = 1)
    (h : DataW.trod enc P W base sp held fuel t cs = some x) :
    ∃ (ao : Option Addr) (xs : List Int) (cap : Nat), cs = [.slice ao xs.length cap] ∧ Cells W ao (xs.map (Value.int .i64)) ∧ xs.length ≤ cap ∧ cap ≤ 9223372036854775807 ∧ ∀ x ∈ xs, (Lit.int .i64 x).wf = true := by
  rcases open_ints ht he hc h with ⟨rfl, _⟩ | ⟨a, len, cap, zs, rfl, _, hl, hm, hz, _, hcell, hwf⟩
  · exact ⟨none, [], 0, rfl, .inl rfl, Nat.le_refl _, by decide, by simp⟩
  · have hzl : len ≤ zs.length := by rw [hz]; split <;> omega
    have htl : (zs.take len).length = len := by simp; omega
    refine ⟨some a, zs.take len, cap, by rw [htl], ?_, by omega, by unfold maxLen at hm; omega, fun x hx => hwf x (List.mem_of_mem_take hx)⟩
    rcases Nat.eq_zero_or_pos len with h0 | h0
    · subst h0; exact .inl (by simp)
    · have hsp := World.cell?_spot (hcell 0 (by omega))
      simp only [Addr.add] at hsp
      obtain ⟨b, off, spot⟩ := a
      simp at hsp
      subst hsp
      refine .inr ⟨b, off, rfl, fun j u hu => ?_⟩
      rw [List.getElem?_map] at hu
      obtain ⟨y, hy, rfl⟩ := Option.map_eq_some_iff.1 hu
      have hj : j < len := by have := (List.getElem?_eq_some_iff.1 hy).1; omega
      have := hcell j (by omega)
      rw [Addr.add_lit] at this
      rw [this]
      have hg : zs.getD j 0 = y := by
        rw [List.getElem?_take] at hy
        rw [if_pos hj] at hy
        rw [List.getD_eq_getElem?_getD, hy]; rfl
      rw [hg]

/-- a slice of pairs of numbers, as read -/
theorem rd_pairs {W : World} {base : Nat} {sp : Nat → Bool} {held : Bool} {t e : TypeId} {f0 f1 : Field} {fuel : Nat} {cs : List Value} {x : DataW H × List MemPlace} (ht : P.underlying t = some (.slice e)) (he : P.underlying e = some (.struct #[f0, f1]))
    (ce : P.cellsOf e = 2) (o0 : f0.offset = 0) (o1 : f1.offset = 1) (c0 : P.cellsOf f0.type = 1) (c1 : P.cellsOf f1.type = 1) (k0 : P.underlying f0.type = some (.int .i64)) (k1 : P.underlying f1.type = some (.int .i64))
    (h : DataW.trod enc P W base sp held fuel t cs = some x) :
    ∃ (ao : Option Addr) (xs : List (Int × Int)) (cap : Nat), cs = [.slice ao xs.length cap] ∧ Cells W ao (prs xs) ∧ xs.length ≤ cap ∧ cap ≤ 9223372036854775807 ∧ ∀ t ∈ xs, (Lit.int .i64 t.1).wf = true ∧ (Lit.int .i64 t.2).wf = true := by
  rcases open_slice_pairs ht he ce o0 o1 c0 c1 h with ⟨rfl, _⟩ | ⟨a, len, cap, m, n, V0, V1, D0, D1, P0, P1, rfl, _, hl, hm, hmm, _, hcell⟩
  · exact ⟨none, [], 0, rfl, .inl rfl, Nat.le_refl _, by decide, by simp⟩
  · have hlm : len ≤ m := by rw [hmm]; split <;> omega
    have each : ∀ i, i < len → ∃ q : Int × Int, W.cell? (a.add (i * 2)) = some (.int .i64 q.1) ∧ W.cell? (a.add (i * 2 + 1)) = some (.int .i64 q.2) ∧ (Lit.int .i64 q.1).wf = true ∧ (Lit.int .i64 q.2).wf = true := by
      intro i hi
      obtain ⟨h1, h2, h3, h4⟩ := hcell i (by omega)
      obtain ⟨z0, e0, _, w0⟩ := DataW.trod_int k0 h3
      obtain ⟨z1, e1, _, w1⟩ := DataW.trod_int k1 h4
      simp only [List.cons.injEq, and_true] at e0 e1
      rw [e0] at h1; rw [e1] at h2
      exact ⟨(z0, z1), h1, h2, w0, w1⟩
    let F : Nat → Int × Int := fun i => if hi : i < len then (each i hi).choose else (0, 0)
    have hF : ∀ i, i < len → W.cell? (a.add (i * 2)) = some (.int .i64 (F i).1) ∧ W.cell? (a.add (i * 2 + 1)) = some (.int .i64 (F i).2) ∧ (Lit.int .i64 (F i).1).wf = true ∧ (Lit.int .i64 (F i).2).wf = true := by
      intro i hi
      have := (each i hi).choose_spec
      simp only [F, dif_pos hi]
      exact this
    have htl : ((List.range len).map F).length = len := by simp
    refine ⟨some a, (List.range len).map F, cap, by rw [htl], ?_, by omega, by unfold maxLen at hm; omega, ?_⟩
    · rcases Nat.eq_zero_or_pos len with h0 | h0
      · subst h0; exact .inl (by simp [prs])
      · have hsp := World.cell?_spot (hF 0 h0).1
        simp only [Addr.add] at hsp
        obtain ⟨b, off, spot⟩ := a
        simp at hsp
        subst hsp
        refine .inr ⟨b, off, rfl, fun j u hu => ?_⟩
        have hj : j < len * 2 := by
          have := (List.getElem?_eq_some_iff.1 hu).1
          rw [prs_length, htl] at this; exact this
        have hg : ((List.range len).map F)[j / 2]? = some (F (j / 2)) := by
          rw [List.getElem?_map, List.getElem?_range (by omega)]; rfl
        have h1 := prs_fst hg
        have h2 := prs_snd hg
        obtain ⟨g1, g2, _⟩ := hF (j / 2) (by omega)
        rw [Addr.add_lit] at g1 g2
        rcases Nat.mod_two_eq_zero_or_one j with hm | hm
        · have e : j / 2 * 2 = j := by omega
          rw [e] at h1 g1
          rw [h1] at hu; rw [g1]; exact hu
        · have e : j / 2 * 2 + 1 = j := by omega
          rw [e] at h2 g2
          rw [h2] at hu; rw [g2]; exact hu
    · intro t ht2
      obtain ⟨i, hi, rfl⟩ := List.mem_map.1 ht2
      have := hF i (List.mem_range.1 hi)
      exact ⟨this.2.2.1, this.2.2.2⟩
end
end Go.Proofs.YtoochleabcjljaaDoor

/- Arguments read as data: channels, rows of numbers, frames. -/
namespace Go.Proofs.YtoochleabcjljaaDoor
open Go.RowKit Go.WideShapes Go.ChangeShapes Go.Deep Go.Joins

theorem flatMap_at {α : Type} (f : α → List Value) (C : Nat) (hC : ∀ x, (f x).length = C) (l : List α) (j : Nat) (u : Value) (h : (l.flatMap f)[j]? = some u) : ∃ x, l[j / C]? = some x ∧ (f x)[j % C]? = some u := by
  induction l generalizing j with
  | nil => simp at h
  | cons a l ih =>
    rw [List.flatMap_cons] at h
    by_cases hj : j < C
    · rw [List.getElem?_append_left (by rw [hC]; exact hj)] at h
      exact ⟨a, by rw [Nat.div_eq_of_lt hj]; rfl, by rw [Nat.mod_eq_of_lt hj]; exact h⟩
    · rw [List.getElem?_append_right (by rw [hC]; omega), hC] at h
      obtain ⟨x, h1, h2⟩ := ih _ h
      rcases Nat.eq_zero_or_pos C with h0 | h0
      · have := hC x
        rw [h0] at this
        rw [List.length_eq_zero_iff.1 this] at h2
        simp at h2
      · have e1 : j / C = (j - C) / C + 1 := by rw [← Nat.sub_add_cancel (show C ≤ j by omega), Nat.add_div_right _ h0, Nat.add_sub_cancel]
        have e2 : j % C = (j - C) % C := (Nat.mod_eq_sub_mod (by omega))
        exact ⟨x, by rw [e1, List.getElem?_cons_succ]; exact h1, by rw [e2]; exact h2⟩

/-- elements of C cells each, one behind the other -/
theorem rd_list {α : Type} {W : World} (f : α → List Value) (C : Nat) (hC : ∀ x, (f x).length = C) (hC0 : 0 < C) (Q : α → Prop) (a : Addr) (len : Nat)
    (each : ∀ i, i < len → ∃ x, (∀ j u, (f x)[j]? = some u → W.cell? (a.add (i * C + j)) = some u) ∧ Q x) : ∃ xs : List α, xs.length = len ∧ Cells W (some a) (xs.flatMap f) ∧ ∀ x ∈ xs, Q x := by
  have key : ∃ xs : List α, xs.length = len ∧ ∀ i x, xs[i]? = some x → (∀ j u, (f x)[j]? = some u → W.cell? (a.add (i * C + j)) = some u) ∧ Q x := by
    induction len with
    | zero => exact ⟨[], rfl, by simp⟩
    | succ n ih =>
      obtain ⟨xs, h1, h2⟩ := ih fun i hi => each i (by omega)
      obtain ⟨y, hy⟩ := each n (by omega)
      refine ⟨xs ++ [y], by simp [h1], fun i x hx => ?_⟩
      rcases Nat.lt_or_ge i n with hi | hi
      · rw [List.getElem?_append_left (by omega)] at hx
        exact h2 i x hx
      · by_cases hin : i = n
        · subst hin
          rw [List.getElem?_append_right (by omega), h1, Nat.sub_self] at hx
          simp at hx
          subst hx
          exact hy
        · rw [List.getElem?_eq_none (by simp; omega)] at hx
          simp at hx
  obtain ⟨xs, h1, h2⟩ := key
  refine ⟨xs, h1, ?_, fun x hx => ?_⟩
  · rcases xs with _ | ⟨x0, r⟩
    · exact .inl rfl
    · have h3 := (h2 0 x0 rfl).1 0 ((f x0)[0]'(by rw [hC]; exact hC0)) (by simp [hC, hC0])
      rw [Nat.zero_mul, Nat.zero_add] at h3
      have hsp := World.cell?_spot h3
      simp only [Addr.add] at hsp
      obtain ⟨b, off, spot⟩ := a
      simp at hsp
      subst hsp
      refine .inr ⟨b, off, rfl, fun j u hu => ?_⟩
      obtain ⟨x, g1, g2⟩ := flatMap_at f C hC _ _ _ hu
      have := (h2 _ x g1).1 _ u g2
      rw [Addr.add_lit, Nat.mul_comm, Nat.div_add_mod] at this
      exact this
  · obtain ⟨i, hi, rfl⟩ := List.mem_iff_getElem.1 hx
    exact (h2 i _ (List.getElem?_eq_getElem hi)).2

section
variable {H : Type} {enc : TypeId × Value → H}
theorem wf_bd {x : Int} (h : (Lit.int .i64 x).wf = true) : -9223372036854775808 ≤ x ∧ x ≤ 9223372036854775807 := by
  simp only [Lit.wf, Bool.and_eq_true, decide_eq_true_eq] at h
  exact h

set_option maxRecDepth 100000 in
theorem rd_chans {W : World} {base : Nat} {sp : Nat → Bool} {held : Bool} {fuel : Nat} {cs : List Value} {x : DataW H × List MemPlace} (h : DataW.trod enc Tryd.prog W base sp held fuel 41 cs = some x) :
    ∃ (ao : Option Addr) (bs : List Chan) (cap : Nat), cs = [.slice ao bs.length cap] ∧ BookIn W ao bs cap := by
  rcases open_slice Tryd.underlying41 h with ⟨rfl, _⟩ | ⟨a, len, cap, m, n, D, Pl, rfl, _, hl, hm, hmm, _, hx⟩
  · exact ⟨none, [], 0, rfl, .inl rfl, by decide, Nat.le_refl _, by decide, by simp, by simp⟩
  · have hlm : len ≤ m := by rw [hmm]; split <;> omega
    have hce : Tryd.prog.cellsOf 57 = 3 := by kernel_rfl
    obtain ⟨bs, h1, h2, h3⟩ := rd_list (W := W) (fun c : Chan => [.string c.name, .int .i64 c.rate, .int .i64 c.bits]) 3 (fun _ => rfl) (by decide) (fun c => c.name.size ≤ 9223372036854775807 ∧ -9223372036854775808 ≤ c.rate) a len (fun i hi => by
      obtain ⟨cs', g1, g2⟩ := hx i (by omega)
      rw [hce] at g1
      obtain ⟨_, hlen, hat⟩ := World.cells?_some g1
      obtain ⟨y0, y1, y2, k, _, _, t0, t1, t2⟩ := trod_struct3 Tryd.underlying57 g2
      match cs', hlen with
      | [c0, c1, c2], _ =>
        have e1 : Tryd.prog.cellsOf 3 = 1 := by kernel_rfl
        have e2 : Tryd.prog.cellsOf 9 = 1 := by kernel_rfl
        simp only [e1, e2, List.drop_zero, List.take_succ_cons, List.take_zero, List.drop_succ_cons] at t0 t1 t2
        obtain ⟨s, q0, _, ws⟩ := DataW.trod_string Tryd.underlying9 t0
        obtain ⟨r, q1, _, wr⟩ := DataW.trod_int Tryd.underlying3 t1
        obtain ⟨b, q2, _, wb⟩ := DataW.trod_int Tryd.underlying3 t2
        simp only [List.cons.injEq, and_true] at q0 q1 q2
        subst q0 q1 q2
        refine ⟨⟨s, r, b⟩, fun j u hu => ?_, by unfold maxLen at ws; exact ws, (wf_bd wr).1⟩
        have hj : j < 3 := (List.getElem?_eq_some_iff.1 hu).1
        have := hat j hj
        rw [← Deep.add_add, this]; exact hu)
    refine ⟨some a, bs, cap, by rw [h1], h2, by unfold maxLen at hm; omega, by omega, by unfold maxLen at hm; omega, fun c hc => (h3 c hc).1, fun c hc => (h3 c hc).2⟩

theorem rd_rows {W : World} {base : Nat} {sp : Nat → Bool} {held : Bool} {fuel : Nat} {cs : List Value} {x : DataW H × List MemPlace} (h : DataW.trod enc Tryd.prog W base sp held fuel 51 cs = some x) :
    ∃ (ao : Option Addr) (xss : List (List Int)) (cap : Nat), cs = [.slice ao xss.length cap] ∧ xss.length ≤ 9223372036854775807 ∧ ∃ vs, Cells W ao vs ∧ RowsV W vs xss := by
  rcases open_slice1 Tryd.underlying51 (by kernel_rfl) h with ⟨rfl, _⟩ | ⟨a, len, cap, m, n, V, D, Pl, rfl, _, hl, hm, hmm, _, hx⟩
  · exact ⟨none, [], 0, rfl, by decide, [], .inl rfl, rfl, by simp⟩
  · have hlm : len ≤ m := by rw [hmm]; split <;> omega
    obtain ⟨ps, h1, h2, h3⟩ := rd_list (W := W) (fun p : Value × List Int => [p.1]) 1 (fun _ => rfl) (by decide) (fun p => RowV W p.1 p.2) a len (fun i hi => by
      obtain ⟨g1, g2⟩ := hx i (by omega)
      obtain ⟨ax, xs, cx, e, hc, hl1, hl2, _⟩ := rd_ints Tryd.underlying25 Tryd.underlying3 (by kernel_rfl) g2
      simp only [List.cons.injEq, and_true] at e
      refine ⟨(V i, xs), fun j u hu => ?_, ax, cx, e, hc, by show xs.length ≤ _; omega⟩
      have hj : j = 0 := by have : j < 1 := (List.getElem?_eq_some_iff.1 hu).1; omega
      subst hj
      simp at hu
      rw [Nat.mul_one, Nat.add_zero, g1, hu])
    have hfm : ps.flatMap (fun p : Value × List Int => [p.1]) = ps.map (·.1) := by
      clear h1 h2 h3; induction ps with
      | nil => rfl
      | cons p ps ih => simp only [List.flatMap_cons, List.map_cons, ih]; rfl
    rw [hfm] at h2
    refine ⟨some a, ps.map (·.2), cap, by rw [List.length_map, h1], by rw [List.length_map, h1]; unfold maxLen at hm; omega, ps.map (·.1), h2, by simp, fun i v xs hv hxs => ?_⟩
    rw [List.getElem?_map] at hv hxs
    obtain ⟨p, hp, rfl⟩ := Option.map_eq_some_iff.1 hv
    rw [hp] at hxs
    simp at hxs
    subst hxs
    exact h3 p (List.mem_of_getElem? hp)

set_option maxRecDepth 100000 in
theorem rd_frames {W : World} {base : Nat} {sp : Nat → Bool} {held : Bool} {fuel : Nat} {cs : List Value} {x : DataW H × List MemPlace} (h : DataW.trod enc Tryd.prog W base sp held fuel 42 cs = some x) :
    ∃ (al : Option Addr) (l : List Frm) (cap : Nat), cs = [.slice al l.length cap] ∧ RecIn W al l := by
  rcases open_slice Tryd.underlying42 h with ⟨rfl, _⟩ | ⟨a, len, cap, m, n, D, Pl, rfl, _, hl, hm, hmm, _, hx⟩
  · exact ⟨none, [], 0, rfl, .inl rfl, by decide, by simp⟩
  · have hlm : len ≤ m := by rw [hmm]; split <;> omega
    have hce : Tryd.prog.cellsOf 53 = 2 := by kernel_rfl
    obtain ⟨l, h1, h2, h3⟩ := rd_list (W := W) (fun f : Frm => [.int .i64 f.st, .slice f.a f.xss.length f.c]) 2 (fun _ => rfl) (by decide) (fun f => FrmIn W f) a len (fun i hi => by
      obtain ⟨cs', g1, g2⟩ := hx i (by omega)
      rw [hce] at g1
      obtain ⟨_, hlen, hat⟩ := World.cells?_some g1
      obtain ⟨y0, y1, k, _, _, t0, t1⟩ := trod_struct2 Tryd.underlying53 g2
      match cs', hlen with
      | [c0, c1], _ =>
        have e1 : Tryd.prog.cellsOf 3 = 1 := by kernel_rfl
        have e2 : Tryd.prog.cellsOf 51 = 1 := by kernel_rfl
        simp only [e1, e2, List.drop_zero, List.take_succ_cons, List.take_zero, List.drop_succ_cons] at t0 t1
        obtain ⟨r, q0, _, wr⟩ := DataW.trod_int Tryd.underlying3 t0
        obtain ⟨as', xss, cs2, q1, hl1, hv⟩ := rd_rows t1
        simp only [List.cons.injEq, and_true] at q0 q1
        subst q0 q1
        refine ⟨⟨r, as', cs2, xss⟩, fun j u hu => ?_, hl1, hv⟩
        have hj : j < 2 := (List.getElem?_eq_some_iff.1 hu).1
        have := hat j hj
        rw [← Deep.add_add, this]; exact hu)
    exact ⟨some a, l, cap, by rw [h1], h2, by unfold maxLen at hm; omega, h3⟩
end
end Go.Proofs.YtoochleabcjljaaDoor

namespace Go.Proofs.YtoochleabcjljaaDoor
open Go.ChangeShapes Go.WideShapes Go.ChangeAt Go.RowKit Go.Joins Go.Deep

theorem own : ownKnob Tryd.prog.godebug = none := by kernel_rfl
theorem kids : Kids Tryd.prog (· < Tryd.prog.types.size) := kids_rows (by kernel_rfl) (by kernel_rfl)
theorem full : ∀ t e, t < Tryd.prog.types.size → Tryd.prog.underlying t = some (.slice e) → 0 < Tryd.prog.cellsOf e := slices_full_of Tryd.prog (by kernel_rfl)

set_option maxRecDepth 100000 in
theorem law_contract (H : Type) (enc : TypeId × Value → H) (W : World) (base : Nat) (args : Array Value) (ds gs : List (DataW H)) (before : List MemPlace)
    (hval : ∀ (j : Nat) t v, Tryd.f5.params[j]? = some t → args[j]? = some v → Value.okWide Tryd.prog W .any base t v)
    (hW : DataW.Whole enc Tryd.prog Tryd.f5.params.toList Rows.recordSecondsSpec.vars false W args.toList ds gs before) :
    Calls Tryd.prog 5 args W fun e W' => ∃ v, e = .returned v ∧ Rows.recordSecondsSpec.post enc Tryd.prog Tryd.f5 false true false false W args v W' := by
  have hW' := hW
  obtain ⟨p, q, hA0, hV, rfl, hfz, hnd⟩ := hW
  have hA : DataW.TrodAll enc Tryd.prog W 0 (fun _ => true) true Tryd.f5.params.toList args.toList ds p := hA0
  have hAk := hA
  rw [Tryd.params5] at hA hval
  obtain ⟨v0, v1, v2, d0, d1, d2, p0, p1, p2, rfl, rfl, rfl, h0, h1, h2⟩ := trodAll_three hA
  obtain ⟨rfl, rfl⟩ := trodVars_none hV
  obtain ⟨u0a, u0b, y0a, y0b, n0, rfl, _, _, g0a, g0b⟩ := open_agg2 Tryd.underlying44 (by kernel_rfl) (by kernel_rfl) (hval 0 44 v0 rfl rfl) h0
  obtain ⟨ao, bs, cap, e0a, hbs⟩ := rd_chans g0a
  obtain ⟨al, l, cl, e0b, hl⟩ := rd_frames g0b
  simp only [List.cons.injEq, and_true] at e0a e0b
  obtain ⟨n1, rfl, rfl, rfl, hwf1⟩ := open_int Tryd.underlying3 (hval 1 3 v1 rfl rfl) h1
  obtain ⟨n2, rfl, rfl, rfl, hwf2⟩ := open_int Tryd.underlying3 (hval 2 3 v2 rfl rfl) h2
  rw [e0a, e0b] at hW' hAk ⊢
  simp only [List.append_nil] at hW' hAk
  refine (seconds_any ao bs cap al l cl n1 n2 W hbs hl).mono fun e W' ⟨he, hb⟩ => ?_
  subst he
  exact ⟨_, rfl, law_post kids full (by rw [Tryd.params5]; decide) rfl hW' hAk rfl rfl Tryd.underlying4 hb⟩

theorem law_met (os : Os) (args : Array Value) : laidMet Tryd.prog Rows.recordSecondsRow.laid ((World.doorLaid Tryd.prog 400 os).forCall (fun _ _ => 0) ⟨#[], args, []⟩).memory :=
  laidMet_of_run' 40 (by kernel_rfl) (by kernel_rfl)
theorem law_reads (os : Os) {H : Type} (enc : TypeId × Value → H) : ∃ places, DataW.whole enc Tryd.prog ((World.doorLaid Tryd.prog 400 os).forCall (fun _ _ => 0) ⟨#[], #[.agg #[.slice none 0 0, .slice none 0 0], .int .i64 0, .int .i64 0], []⟩).memory Tryd.f5.params.toList Rows.recordSecondsSpec.vars false #[Value.agg #[.slice none 0 0, .slice none 0 0], Value.int .i64 0, Value.int .i64 0].toList 8 = some ([.agg [.nil, .nil], .lit (.int .i64 0), .lit (.int .i64 0)], [], places) :=
  ⟨[], by kernel_rfl⟩

set_option maxRecDepth 100000 in
theorem law_lifted (os : Os) (started : os.Started) (H : Type) (enc : TypeId × Value → H) (F : Stop.Interp) :
    ReturnsInHanded {} Tryd.checked os 5 .any ((OpenSpec.ofChange Rows.recordSecondsSpec).preRow enc Tryd.prog Tryd.f5 Rows.recordSecondsRow.domain false Rows.recordSecondsRow.laid) (((OpenSpec.ofChange Rows.recordSecondsSpec).at F).post enc Tryd.prog Tryd.f5 false true false false) := by
  obtain ⟨places, hx⟩ := law_reads os enc
  refine returnsInHanded_of_row (C := Tryd.checked) (s := OpenSpec.ofChange Rows.recordSecondsSpec) own started (by kernel_rfl) Tryd.func5
    (witness_row_at (enc := enc) (C := Tryd.checked) false (World.doorLaid Tryd.prog 400 os) #[.agg #[.slice none 0 0, .slice none 0 0], .int .i64 0, .int .i64 0] rfl (by kernel_rfl) (by kernel_rfl) (by kernel_rfl)
      (OpenSpec.preRow_of_cond 8 hx (by kernel_rfl) (fun k hk => by cases hk) (by kernel_rfl) (law_met os _))) ?_
  intro W base args ds gs before hval hW _ _ _ hL _ _
  exact law_contract H enc W base args ds gs before hval hW

theorem law_said : Rows.RecordSecondsSaid :=
  OpenClaim.holds_of_cond 5 Tryd.f5 rfl rfl rfl rfl rfl rfl rfl ⟨rfl, rfl, rfl, rfl, rfl⟩ rfl rfl rfl rfl rfl (by kernel_rfl) Tryd.func5 (by kernel_rfl)
    (of_decide_eq_true (by kernel_rfl)) (by unfold Func.isWrapper; first | (rw [if_pos (by decide +kernel)]; kernel_rfl) | (rw [if_neg (by decide +kernel)]; exact ⟨rfl, rfl⟩))
    (fun os started H enc _ F => by rw [OpenClaim.pre_eq_preRow]; exact law_lifted os started H enc F)

theorem law_plain (f : FuncId) (fn : Func) (hf : Tryd.pinned.checked.prog.funcNamed "ringdown/ringdownlaw05.RecordSeconds" = some f) (hfn : Tryd.pinned.checked.prog.funcs[f]? = some fn) :
    false = Tryd.pinned.checked.prog.looks [] ∧ ∀ (j : Nat) t, fn.params[j]? = some t → Tryd.pinned.checked.prog.wantsStandIn t = false := by
  obtain rfl : f = 5 := Option.some.inj ((show Tryd.prog.funcNamed "ringdown/ringdownlaw05.RecordSeconds" = some 5 by kernel_rfl).symm.trans hf) |>.symm
  obtain rfl : fn = Tryd.f5 := (Option.some.inj (Tryd.func5.symm.trans hfn)).symm
  refine ⟨by kernel_rfl, fun j t ht => ?_⟩
  rw [Tryd.params5] at ht
  have : t = 44 ∨ t = 3 := by simpa using Array.mem_of_getElem? ht
  rcases this with rfl | rfl
  · exact (show Tryd.prog.wantsStandIn 44 = false by kernel_rfl)
  · exact (show Tryd.prog.wantsStandIn 3 = false by kernel_rfl)

/-- RecordSeconds holds. -/
theorem recordSeconds_holds : Rows.RecordSecondsCardSaid :=
  Claim7.holds_tied_plain_at .later [] _ _ _ _ law_said (fun _ h => by cases h) (by kernel_rfl) (fun _ h => by cases h) recordSeconds_row_tie rfl ⟨rfl, rfl⟩ (by kernel_rfl) rfl law_plain (by kernel_rfl)
end Go.Proofs.YtoochleabcjljaaDoor
