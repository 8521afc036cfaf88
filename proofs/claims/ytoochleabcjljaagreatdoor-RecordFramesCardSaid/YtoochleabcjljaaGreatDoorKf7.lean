/- RecordFrames holds: for every input the law answers true and leaves its arguments as they were. Conditions: those of the given row (the listed tables hold what the program's text lays in them). -/
import Derived.Test.YtoochleabcjljaaGreatDoorKf6
import Derived.Laws.IdiomStrings
import Derived.Lib.BufferRead
import Derived.ProofKit
import Derived.OpenShut
import Derived.ReadAgain
import Derived.Deep.Slices
import Derived.Deep.SlicePairs
import Derived.Lib.SmallJoins
import Derived.Below
import Derived.ChangeSame
import Derived.Deep.Strs
import Derived.Test.YtoochleabcjljaaGreatDoorCards
import Derived.Test.YtoochleabcjljaaGreatDoorTie
import Derived.WalkKit
import Derived.Deep.DeepHandedRow
import Derived.Lib.LaidTab
import Derived.LaidMore
import Derived.Stop.Joined

/- Lines: Track, where the amplitude is a small fraction. -/
namespace Go.Proofs.YtoochleabcjljaaGreatDoor
open Go.RowKit

set_option maxRecDepth 100000 in
theorem track_dig (n d : Nat) (ao : Option Addr) (sh : List Int) (cap : Nat) (ax : Option Addr) (xs : List Int) (cx : Nat) (w : World) (hc : Cells w ao (sh.map (Value.int .i64))) (hx : Cells w ax (xs.map (Value.int .i64))) (he : linedErr sh xs = 0)
    (hn : ampN sh xs (whole sh xs) = (n : Nat)) (hd : ampD sh (whole sh xs) = (d : Nat)) (hn0 : 0 < n) (hd0 : 0 < d) (hd9 : d < 1000000000) (hn9 : n < 1000000000) (h : n / Nat.gcd n d < 10) (h2 : d / Nat.gcd n d < 10) (h3 : 2 ≤ d / Nat.gcd n d) :
    Calls Tryz.prog 18 #[.slice ao sh.length cap, .slice ax xs.length cx] w fun e w' => e = .returned (.tuple #[.string (digB (n / Nat.gcd n d) ++ (⟨#[47]⟩ ++ digB (d / Nat.gcd n d))), .int .i64 0]) ∧ Below w.heap.size w w' := by
  obtain ⟨l1, l2⟩ := linedErr_zero he
  have hsl := (lineErr_zero l1).2.1
  have hxl := (serErr_zero l2).1
  have hlin := fun wx h1 h2 => lined_any ao sh cap ax xs cx wx h1 (by omega) h2 (by omega)
  rw [he] at hlin
  have hamp := fun wx h1 h2 => amplitude_any ao sh cap ax xs cx wx h1 h2 he
  rw [hn, hd] at hamp
  have hof := fun wx => of_dig n d wx hn0 hd0 hd9 hn9 h h2 h3
  have hne : ((d : Int) == 0) = false := by rw [beq_eq_false_iff_ne]; omega
  have HC := Lib.hid hc; have HX := Lib.hid hx; have HL := Lib.hid hlin; have HA := Lib.hid hamp; have HO := Lib.hid hof
  clear hc hx he hn hd h h2 h3 hlin hamp hof l1 l2
  go_enter Tryz.func18, Tryz.ntmps18
  go_wp2_with fail
  refine (HL.out _ HC.out HX.out).mono ?_
  rintro e w1 ⟨rfl, hb1⟩
  go_wp2_with fail
  refine (HA.out _ (HC.out.below hb1 (Nat.le_refl _)) (HX.out.below hb1 (Nat.le_refl _))).mono ?_
  rintro e w2 ⟨rfl, rfl⟩
  go_wp2_with fail
  refine (HO.out _).mono ?_
  rintro e w2 ⟨rfl, hb2⟩
  go_wp2
  go_ret2
  exact ⟨rfl, hb1.trans (hb2.mono hb1.size)⟩
end Go.Proofs.YtoochleabcjljaaGreatDoor

/- Examples: what works asks holds. -/
namespace Go.Proofs.YtoochleabcjljaaGreatDoor
open Go.RowKit

theorem exCode : encRes bookX 1 [[0, 1, 1, 2], [-1]] = [165, 90, 0, 7, 0, 0, 0, 1, 64, 204, 2, 89, 2, 199] ∧ frmErr bookX 1 [[0, 1, 1, 2], [-1]] = 0 := by decide +kernel
theorem exStrain : strain [(3, 4), (-1, 1)] 1 [2, 5] = [(3, 4), (6, 11)] ∧ strErr [(3, 4), (-1, 1)] 1 [2, 5] = 0 := by decide +kernel
theorem exInject : injRes [1, -1] 3 [5, 1, 4, 2, 9] = [8, -2, 7, -1, 12] ∧ injErr [1, -1] 3 [5, 1, 4, 2, 9] = 0 := by decide +kernel
theorem exTrack : linedErr [1, -1] [5, 1, 4, 2, 9] = 0 ∧ ampN [1, -1] [5, 1, 4, 2, 9] (whole [1, -1] [5, 1, 4, 2, 9]) = (6 : Nat) ∧ ampD [1, -1] (whole [1, -1] [5, 1, 4, 2, 9]) = (4 : Nat) := by decide +kernel
theorem new_cells (w : World) (cs : List Value) (T : TypeId) : Cells (w.alloc (.cells cs.toArray T)) (some ⟨w.heap.size, 0, none⟩) cs := .inr ⟨_, _, rfl, fun j u hu => by rw [Nat.zero_add]; simpa using hu⟩

theorem one_row {w : World} {a : Option Addr} {xs : List Int} {c : Nat} (h : Cells w a (xs.map (Value.int .i64))) (hl : xs.length ≤ 9223372036854775807) : RowV w (.slice a xs.length c) xs := ⟨a, c, rfl, h, hl⟩
theorem two_rows {w : World} {v1 v2 : Value} {x1 x2 : List Int} (h1 : RowV w v1 x1) (h2 : RowV w v2 x2) : RowsV w [v1, v2] [x1, x2] := by
  refine ⟨rfl, fun i v xs hv hx => ?_⟩
  match i, hv, hx with
  | 0, hv, hx => simp at hv hx; subst hv hx; exact h1
  | 1, hv, hx => simp at hv hx; subst hv hx; exact h2
theorem conv_bytes {w : World} {b : Nat} {cap : Nat} (l : List UInt8) (h : Cells w (some ⟨b, 0, none⟩) (l.map fun d => Value.int .u8 (d.toNat : Int))) :
    (convert 48 9 (.slice (some ⟨b, 0, none⟩) l.length cap)).run Tryz.prog w = .ok (.string ⟨l.toArray⟩) w :=
  run_convert_bytes_back w _ _ 5 ⟨b, 0, none⟩ cap l Tryz.underlying48 Tryz.underlying5 Tryz.underlying9 (fun j hj => by
    have := h.at (j := j) (u := .int .u8 (l[j].toNat : Int)) (by simp [hj])
    rw [Addr.add_lit]; exact this)


theorem two_new (w : World) (c1 c2 : List Value) (T1 T2 : TypeId) : Cells ((w.alloc (.cells c1.toArray T1)).alloc (.cells c2.toArray T2)) (some ⟨w.heap.size, 0, none⟩) c1 ∧ Cells ((w.alloc (.cells c1.toArray T1)).alloc (.cells c2.toArray T2)) (some ⟨w.heap.size + 1, 0, none⟩) c2 := by
  constructor
  · exact (new_cells w c1 T1).below ((Below.refl _ _).alloc (Nat.le_refl _) _) (Nat.le_refl _)
  · have := new_cells (w.alloc (.cells c1.toArray T1)) c2 T2
    rwa [World.size_alloc] at this
theorem two_below (w : World) (o1 o2 : Obj) : Below w.heap.size w ((w.alloc o1).alloc o2) := ((Below.refl _ _).alloc (Nat.le_refl _) _).alloc (by simp) _

theorem ex_encode (w : World) :
    Calls Tryz.prog 30 #[.slice (some ⟨w.heap.size, 0, none⟩) 2 2, .agg #[.int .i64 1, .slice (some ⟨w.heap.size + 1 + 1 + 1, 0, none⟩) 2 2]]
      ((((w.alloc (.cells #[.string ⟨#[101, 114, 114]⟩, .int .i64 4, .int .i64 8, .string ⟨#[97, 117, 120]⟩, .int .i64 1, .int .i64 4] 106)).alloc (.cells #[.int .i64 0, .int .i64 1, .int .i64 1, .int .i64 2] 3)).alloc (.cells #[.int .i64 (-1)] 3)).alloc (.cells #[.slice (some ⟨w.heap.size + 1, 0, none⟩) 4 4, .slice (some ⟨w.heap.size + 1 + 1, 0, none⟩) 1 1] 22))
      fun e w' => (∃ b c, e = .returned (.tuple #[.slice (some ⟨b, 0, none⟩) 14 c, .int .i64 0]) ∧ Cells w' (some ⟨b, 0, none⟩) (bys [165, 90, 0, 7, 0, 0, 0, 1, 64, 204, 2, 89, 2, 199])) ∧ Below w.heap.size w w' := by
  obtain ⟨x1, x2⟩ := exCode
  have hb2 := two_below w (.cells #[.string ⟨#[101, 114, 114]⟩, .int .i64 4, .int .i64 8, .string ⟨#[97, 117, 120]⟩, .int .i64 1, .int .i64 4] 106) (.cells #[.int .i64 0, .int .i64 1, .int .i64 1, .int .i64 2] 3)
  obtain ⟨k1, k2⟩ := two_new w (chs bookX) ([0, 1, 1, 2].map (Value.int .i64)) 106 3
  have hs2 : ((w.alloc (.cells (chs bookX).toArray 106)).alloc (.cells ([0, 1, 1, 2].map (Value.int .i64)).toArray 3)).heap.size = w.heap.size + 1 + 1 := by simp
  change Below w.heap.size w ((w.alloc (.cells (chs bookX).toArray 106)).alloc (.cells ([0, 1, 1, 2].map (Value.int .i64)).toArray 3)) at hb2
  change Calls _ _ _ ((((w.alloc (.cells (chs bookX).toArray 106)).alloc (.cells ([0, 1, 1, 2].map (Value.int .i64)).toArray 3)).alloc (.cells ([-1].map (Value.int .i64)).toArray 3)).alloc (.cells [.slice (some ⟨w.heap.size + 1, 0, none⟩) 4 4, .slice (some ⟨w.heap.size + 1 + 1, 0, none⟩) 1 1].toArray 22)) _
  generalize ((w.alloc (.cells (chs bookX).toArray 106)).alloc (.cells ([0, 1, 1, 2].map (Value.int .i64)).toArray 3)) = W at *
  obtain ⟨k3, k4⟩ := two_new W ([-1].map (Value.int .i64)) [.slice (some ⟨w.heap.size + 1, 0, none⟩) 4 4, .slice (some ⟨w.heap.size + 1 + 1, 0, none⟩) 1 1] 3 22
  have hb4 := two_below W (.cells ([-1].map (Value.int .i64)).toArray 3) (.cells [.slice (some ⟨w.heap.size + 1, 0, none⟩) 4 4, .slice (some ⟨w.heap.size + 1 + 1, 0, none⟩) 1 1].toArray 22)
  generalize ((W.alloc (.cells ([-1].map (Value.int .i64)).toArray 3)).alloc (.cells [.slice (some ⟨w.heap.size + 1, 0, none⟩) 4 4, .slice (some ⟨w.heap.size + 1 + 1, 0, none⟩) 1 1].toArray 22)) = W2 at *
  rw [hs2] at k3 k4
  have q1 := k1.below hb4 (Nat.le_refl _)
  have q2 := k2.below hb4 (Nat.le_refl _)
  have h := Encode_any (some ⟨w.heap.size, 0, none⟩) bookX 2 1 (some ⟨w.heap.size + 1 + 1 + 1, 0, none⟩) [.slice (some ⟨w.heap.size + 1, 0, none⟩) 4 4, .slice (some ⟨w.heap.size + 1 + 1, 0, none⟩) 1 1] [[0, 1, 1, 2], [-1]] 2 W2 ⟨q1, by decide, by decide, by decide, by decide, by decide⟩ k4 (two_rows (one_row (xs := [0, 1, 1, 2]) q2 (by decide)) (one_row (xs := [-1]) k3 (by decide))) (by decide)
  rw [x1, x2] at h
  refine Calls.mono h ?_
  rintro e w' ⟨⟨v, rfl, hown⟩, hb⟩
  obtain ⟨g, c, rfl, _, _⟩ := hown.form (by decide)
  obtain ⟨a, c', h1, h2⟩ := own_cells hown
  simp only [Value.slice.injEq] at h1
  exact ⟨⟨g, c, rfl, by rw [h1.1]; exact h2⟩, hb2.trans ((hb4.mono hb2.size).trans (hb.mono (Nat.le_trans hb2.size hb4.size)))⟩

theorem ex_strain (w : World) :
    Calls Tryz.prog 64 #[.agg #[.slice (some ⟨w.heap.size, 0, none⟩) 2 2, .int .i64 1], .slice (some ⟨w.heap.size + 1, 0, none⟩) 2 2]
      ((w.alloc (.cells #[.int .i64 3, .int .i64 4, .int .i64 (-1), .int .i64 1] 99)).alloc (.cells #[.int .i64 2, .int .i64 5] 3))
      fun e w' => (∃ a c, e = .returned (.tuple #[.slice a 2 c, .int .i64 0]) ∧ Cells w' a (prs [(3, 4), (6, 11)])) ∧ Below w.heap.size w w' := by
  obtain ⟨x1, x2⟩ := exStrain
  obtain ⟨k1, k2⟩ := two_new w (prs [(3, 4), (-1, 1)]) ([2, 5].map (Value.int .i64)) 99 3
  have hb2 := two_below w (.cells (prs [(3, 4), (-1, 1)]).toArray 99) (.cells ([2, 5].map (Value.int .i64)).toArray 3)
  have h := strain_any (some ⟨w.heap.size, 0, none⟩) [(3, 4), (-1, 1)] 2 1 (some ⟨w.heap.size + 1, 0, none⟩) [2, 5] 2 _ k1 (by decide) k2 (by decide)
  rw [x1, x2] at h
  exact Calls.mono h fun e w' ⟨⟨a, c, h1, h2⟩, h3⟩ => ⟨⟨a, c, h1, h2⟩, hb2.trans (h3.mono hb2.size)⟩

theorem ex_track (w : World) :
    Calls Tryz.prog 18 #[.slice (some ⟨w.heap.size, 0, none⟩) 2 2, .slice (some ⟨w.heap.size + 1, 0, none⟩) 5 5]
      ((w.alloc (.cells #[.int .i64 1, .int .i64 (-1)] 3)).alloc (.cells #[.int .i64 5, .int .i64 1, .int .i64 4, .int .i64 2, .int .i64 9] 3))
      fun e w' => e = .returned (.tuple #[.string ⟨#[51, 47, 50]⟩, .int .i64 0]) ∧ Below w.heap.size w w' := by
  obtain ⟨x7, x8, x9⟩ := exTrack
  obtain ⟨k1, k2⟩ := two_new w ([1, -1].map (Value.int .i64)) ([5, 1, 4, 2, 9].map (Value.int .i64)) 3 3
  have hb2 := two_below w (.cells ([1, -1].map (Value.int .i64)).toArray 3) (.cells ([5, 1, 4, 2, 9].map (Value.int .i64)).toArray 3)
  have h := track_dig 6 4 (some ⟨w.heap.size, 0, none⟩) [1, -1] 2 (some ⟨w.heap.size + 1, 0, none⟩) [5, 1, 4, 2, 9] 5 _ k1 k2 x7 x8 x9 (by decide) (by decide) (by decide) (by decide) (by decide) (by decide) (by decide)
  have e1 : digB (6 / Nat.gcd 6 4) ++ (⟨#[47]⟩ ++ digB (4 / Nat.gcd 6 4)) = ⟨#[51, 47, 50]⟩ := by decide +kernel
  rw [e1] at h
  exact Calls.mono h fun e w' ⟨h1, h3⟩ => ⟨h1, hb2.trans (h3.mono hb2.size)⟩

theorem ex_inject (w : World) :
    Calls Tryz.prog 15 #[.slice (some ⟨w.heap.size, 0, none⟩) 2 2, .int .i64 3, .slice (some ⟨w.heap.size + 1, 0, none⟩) 5 5]
      ((w.alloc (.cells #[.int .i64 1, .int .i64 (-1)] 3)).alloc (.cells #[.int .i64 5, .int .i64 1, .int .i64 4, .int .i64 2, .int .i64 9] 3))
      fun e w' => (∃ a c, e = .returned (.tuple #[.slice a 5 c, .int .i64 0]) ∧ Cells w' a ([8, -2, 7, -1, 12].map (Value.int .i64))) ∧ Below w.heap.size w w' := by
  obtain ⟨x1, x2⟩ := exInject
  obtain ⟨k1, k2⟩ := two_new w ([1, -1].map (Value.int .i64)) ([5, 1, 4, 2, 9].map (Value.int .i64)) 3 3
  have hb2 := two_below w (.cells ([1, -1].map (Value.int .i64)).toArray 3) (.cells ([5, 1, 4, 2, 9].map (Value.int .i64)).toArray 3)
  have h := inject_any (some ⟨w.heap.size, 0, none⟩) [1, -1] 2 3 (some ⟨w.heap.size + 1, 0, none⟩) [5, 1, 4, 2, 9] 5 _ k1 (by decide) k2 (by decide)
  rw [x1, x2] at h
  exact Calls.mono h fun e w' ⟨⟨a, c, h1, h2⟩, h3⟩ => ⟨⟨a, c, h1, h2⟩, hb2.trans (h3.mono hb2.size)⟩
end Go.Proofs.YtoochleabcjljaaGreatDoor

/- Examples: works. -/
namespace Go.Proofs.YtoochleabcjljaaGreatDoor
open Go.RowKit

theorem same_bands_eq (aa ab : Option Addr) (ca cb : Nat) (w : World) (xs : List (Int × Int)) (n : Nat) (hn : n = xs.length) (hl : xs.length ≤ 9223372036854775807) (ha : Cells w aa (prs xs)) (hb : Cells w ab (prs xs)) :
    Calls Tryz.prog 65 #[.slice aa n ca, .slice ab n cb] w fun e w' => e = .returned (.bool true) ∧ Below w.heap.size w w' := by
  subst hn
  have h := sameBands_any aa ab xs xs ca cb w ha hb hl hl
  simpa using h
theorem same_ints_eq (aa ab : Option Addr) (ca cb : Nat) (w : World) (xs : List Int) (n : Nat) (hn : n = xs.length) (hl : xs.length ≤ 9223372036854775807) (ha : Cells w aa (xs.map (Value.int .i64))) (hb : Cells w ab (xs.map (Value.int .i64))) :
    Calls Tryz.prog 17 #[.slice aa n ca, .slice ab n cb] w fun e w' => e = .returned (.bool true) ∧ Below w.heap.size w w' := by
  subst hn
  have h := sameInts_any aa ab xs xs ca cb w ha hb hl hl
  simpa using h
theorem one_new (w : World) (c1 : List Value) (T1 : TypeId) : Cells (w.alloc (.cells c1.toArray T1)) (some ⟨w.heap.size, 0, none⟩) c1 := new_cells w c1 T1

set_option maxRecDepth 100000 in
set_option maxHeartbeats 2000000 in
theorem works_any (w : World) : Calls Tryz.prog 22 #[] w fun e w' => e = .returned (.bool true) ∧ Below w.heap.size w w' := by
  go_enter Tryz.func22, Tryz.ntmps22
  go_wp2_with (go_at_call 52; refine (book_any _).mono ?_; rintro e w1 ⟨rfl, rfl⟩)
  refine (ex_encode _).mono ?_
  rintro e w1 ⟨⟨b1, c1, rfl, hc1⟩, hb1⟩
  have HC1 := Lib.hid hc1; clear hc1
  go_wp2_with fail
  refine (ex_strain _).mono ?_
  rintro e w2 ⟨⟨a2, c2, rfl, hc2⟩, hb2⟩
  have HC2 := Lib.hid hc2; clear hc2
  go_wp2_with fail
  refine (ex_track _).mono ?_
  rintro e w3 ⟨rfl, hb3⟩
  go_wp2_with fail
  refine (ex_inject _).mono ?_
  rintro e w4 ⟨⟨a4, c4, rfl, hc4⟩, hb4⟩
  have HC4 := Lib.hid hc4; clear hc4
  have n2 := hb1.trans (hb2.mono hb1.size)
  have n3 := n2.trans (hb3.mono n2.size)
  have n4 := n3.trans (hb4.mono n3.size)
  have k24 := (hb3.trans (hb4.mono hb3.size))
  have k14 := hb2.trans (k24.mono hb2.size)
  have q1 := HC1.out.below k14 (Nat.le_refl _)
  have q2 := HC2.out.below k24 (Nat.le_refl _)
  have hcv : (convert 48 9 (.slice (some ⟨b1, 0, none⟩) 14 c1)).run Tryz.prog w4 = .ok (.string ⟨#[165, 90, 0, 7, 0, 0, 0, 1, 64, 204, 2, 89, 2, 199]⟩) w4 := conv_bytes (w := w4) (cap := c1) [165, 90, 0, 7, 0, 0, 0, 1, 64, 204, 2, 89, 2, 199] q1
  have HQ2 := Lib.hid q2
  clear q1 q2 k14 k24 hb1 hb2 hb3 hb4 n2 n3
  go_wp2_with fail
  have hb5 := (Below.refl w4.heap.size w4).alloc (Nat.le_refl _) (.cells #[.int .i64 3, .int .i64 4, .int .i64 6, .int .i64 11] 104)
  refine (same_bands_eq _ _ _ _ _ [(3, 4), (6, 11)] 2 rfl (by decide) (HQ2.out.below hb5 (Nat.le_refl _)) (new_cells w4 (prs [(3, 4), (6, 11)]) 104)).mono ?_
  rintro e w5 ⟨rfl, hb6⟩
  have hb7 := hb5.trans (hb6.mono hb5.size)
  have n5 := n4.trans (hb7.mono n4.size)
  have q4 := HC4.out.below hb7 (Nat.le_refl _)
  have HQ4 := Lib.hid q4
  clear q4 hb5 hb6 hb7 n4 hcv
  go_wp2_with fail
  have hb5 := (Below.refl w5.heap.size w5).alloc (Nat.le_refl _) (.cells #[.int .i64 8, .int .i64 (-2), .int .i64 7, .int .i64 (-1), .int .i64 12] 3)
  refine (same_ints_eq _ _ _ _ _ [8, -2, 7, -1, 12] 5 rfl (by decide) (HQ4.out.below hb5 (Nat.le_refl _)) (new_cells w5 ([8, -2, 7, -1, 12].map (Value.int .i64)) 3)).mono ?_
  rintro e w6 ⟨rfl, hb6⟩
  have n6 := n5.trans ((hb5.trans (hb6.mono hb5.size)).mono n5.size)
  clear hb5 hb6 n5
  go_wp2
  go_ret
  exact ⟨rfl, n6⟩
end Go.Proofs.YtoochleabcjljaaGreatDoor

/- RecordFrames: the walk. -/
namespace Go.Proofs.YtoochleabcjljaaGreatDoor
open Go.RowKit

theorem encB_lt (st : Int) (xss : List (List Int)) : ∀ d ∈ encB st xss, d < 256 := by
  intro d hd
  rw [encB] at hd
  rcases List.mem_append.1 hd with h | h
  · rw [hdB] at h
    rcases List.mem_append.1 h with h | h
    · rcases List.mem_append.1 h with h | h
      · simp at h; omega
      · exact (octs_ok _ (binL_bits _ _)).1 d h
    · exact (octs_ok _ (frBits_bits _ _)).1 d h
  · exact (octs_ok _ (binL_bits _ _)).1 d h
theorem encRes_lt (bs : List Chan) (st : Int) (xss : List (List Int)) : ∀ d ∈ encRes bs st xss, d < 256 := by
  intro d hd; unfold encRes at hd; split at hd
  · exact encB_lt _ _ d hd
  · simp at hd
theorem packRes_lt (bs : List Chan) (l : List Frm) : ∀ d ∈ packRes bs l, d < 256 := by
  intro d hd; unfold packRes at hd; split at hd
  · obtain ⟨f, _, hf⟩ := List.mem_flatMap.1 hd; exact encB_lt _ _ d hf
  · simp at hd
/-- bytes as a string -/
def bstr (l : List Nat) : ByteArray := ⟨(l.map UInt8.ofNat).toArray⟩
theorem conv_own {w : World} {b : Nat} {v : Value} {n : Nat} (l : List Nat) (h : w.ownsRow b 5 1 v n (bys l)) (hl : ∀ d ∈ l, d < 256) :
    (convert 48 9 v).run Tryz.prog w = .ok (.string (bstr l)) w := by
  obtain ⟨h0, h1⟩ := h
  rcases h1 with ⟨rfl, rfl⟩ | ⟨g, cap, cur, rfl, hb, hg, hn, hm, hs, ht⟩
  · have hnil : l = [] := by
      have : (bys l).length = 0 := by simpa using h0
      rw [bys_length] at this; exact List.length_eq_zero_iff.1 this
    subst hnil
    exact Lib.run_convert_nil_bytes w _ _ 5 0 Tryz.underlying48 Tryz.underlying5 Tryz.underlying9
  · have hn2 : n = (l.map UInt8.ofNat).length := by rw [List.length_map]; rw [bys_length] at h0; omega
    have hc : Cells w (some ⟨g, 0, none⟩) (bys l) := by
      obtain ⟨a, c, hv, hc⟩ := own_cells (w := w) (b := b) (e := 5) (s := 1) (v := .slice (some ⟨g, 0, none⟩) n cap) (n := n) (xs := bys l) ⟨h0, .inr ⟨g, cap, cur, rfl, hb, hg, hn, hm, hs, ht⟩⟩
      simp at hv; obtain ⟨rfl, rfl⟩ := hv; exact hc
    rw [hn2]
    exact run_convert_bytes_back w _ _ 5 ⟨g, 0, none⟩ cap (l.map UInt8.ofNat) Tryz.underlying48 Tryz.underlying5 Tryz.underlying9 (fun j hj => by
      rw [List.length_map] at hj
      have h2 := hl l[j] (List.getElem_mem _)
      have := hc.at (j := j) (u := .int .u8 (l[j] : Nat)) (by simp [bys, hj])
      rw [Addr.add_lit, this, List.getElem_map]
      congr 2
      simp [Nat.mod_eq_of_lt h2])

/-- the first frame, or none -/
def fstF (l : List Frm) : Frm := l.headD ⟨0, none, 0, []⟩
theorem fstF_in {w : World} {al : Option Addr} {l : List Frm} (h : RecIn w al l) : FrmIn w (fstF l) := by
  cases l with
  | nil => exact ⟨by decide, [], .inl rfl, rfl, by simp⟩
  | cons x r => exact h.rows x (by simp)

set_option maxRecDepth 100000 in
theorem first_any (ao : Option Addr) (nb : Nat) (cap : Nat) (al : Option Addr) (l : List Frm) (cl : Nat) (w : World) (hr : RecIn w al l) :
    Calls Tryz.prog 23 #[.agg #[.slice ao nb cap, .slice al l.length cl]] w fun e w' => e = .returned (.agg #[.int .i64 (fstF l).st, .slice (fstF l).a (fstF l).xss.length (fstF l).c]) ∧ Below w.heap.size w w' := by
  cases l with
  | nil =>
    go_enter Tryz.func23, Tryz.ntmps23
    go_wp2
    refine bodyPost_ret (v := .agg #[.int .i64 0, .slice none 0 0]) (by simp [results, Tryz.results23, go_sem]) rfl ⟨rfl, ?_⟩
    repeat (first | exact Below.refl _ _ | refine Below.setCell ?_ (by simp) _ | refine Below.alloc ?_ (by simp) _)
  | cons x r =>
    obtain ⟨bl, ol, rfl⟩ := hr.cells.addr (frs_ne (by simp))
    have d0 := hr.cells.at (frs_get (l := x :: r) (i := 0) rfl).1
    have d1 := hr.cells.at (frs_get (l := x :: r) (i := 0) rfl).2
    have hlen := hr.len
    obtain ⟨xst, xa, xc, xss⟩ := x
    simp only [Nat.zero_mul, Nat.add_zero, Nat.zero_add] at d0 d1
    have hb2 := two_below w (.cells #[.slice ao nb cap, .slice (some ⟨bl, ol, none⟩) (r.length + 1) cl] 40) (.cells #[.int .i64 0, .slice none 0 0] 43)
    have e0 := cell_keep d0 hb2 (Nat.le_refl _)
    have e1 := cell_keep d1 hb2 (Nat.le_refl _)
    rw [List.length_cons] at *
    clear hr d0 d1
    go_enter Tryz.func23, Tryz.ntmps23
    go_wp2
    refine bodyPost_ret (v := .agg #[.int .i64 xst, .slice xa xss.length xc]) (by simp [results, Tryz.results23, go_sem]) rfl ⟨rfl, ?_⟩
    repeat (first | exact Below.refl _ _ | refine Below.setCell ?_ (by simp) _ | refine Below.alloc ?_ (by simp) _)
end Go.Proofs.YtoochleabcjljaaGreatDoor

/- RecordFrames: the walk. -/
namespace Go.Proofs.YtoochleabcjljaaGreatDoor
open Go.RowKit

/-- four cells, and what was there before -/
theorem held4_next {w2 wx wq : World} {b c : Nat} {u v x y : Value} (h : wx.cell? ⟨b, 0, none⟩ = some u ∧ wx.cell? ⟨b, 1, none⟩ = some v ∧ wx.cell? ⟨c, 0, none⟩ = some x ∧ wx.cell? ⟨c, 1, none⟩ = some y ∧ Below w2.heap.size w2 wx) (hb : Below wx.heap.size wx wq) :
    wq.cell? ⟨b, 0, none⟩ = some u ∧ wq.cell? ⟨b, 1, none⟩ = some v ∧ wq.cell? ⟨c, 0, none⟩ = some x ∧ wq.cell? ⟨c, 1, none⟩ = some y ∧ Below w2.heap.size w2 wq :=
  ⟨cell_keep h.1 hb (Nat.le_refl _), cell_keep h.2.1 hb (Nat.le_refl _), cell_keep h.2.2.1 hb (Nat.le_refl _), cell_keep h.2.2.2.1 hb (Nat.le_refl _), h.2.2.2.2.trans (hb.mono h.2.2.2.2.size)⟩
theorem held4_bel {A B C D E : Prop} (h : A ∧ B ∧ C ∧ D ∧ E) : E := h.2.2.2.2

set_option maxRecDepth 100000 in
set_option maxHeartbeats 4000000 in
theorem frames_any (ao : Option Addr) (bs : List Chan) (cap : Nat) (al : Option Addr) (l : List Frm) (cl : Nat) (w : World) (hb : BookIn w ao bs cap) (hr : RecIn w al l) :
    Calls Tryz.prog 4 #[.agg #[.slice ao bs.length cap, .slice al l.length cl]] w fun e w' => e = .returned (.bool true) ∧ Below w.heap.size w w' := by
  have HB := Lib.hid hb; have HR := Lib.hid hr
  have hfi := fstF_in hr
  have hlen := hb.len
  obtain ⟨hfl, vs, hvs, hrv⟩ := hfi
  have HVS := Lib.hid hvs; have HRV := Lib.hid hrv
  have hF := fun W h => first_any ao bs.length cap al l cl W h
  clear hb hr hvs hrv
  generalize fstF l = f at *
  obtain ⟨st, asm, cs, xss⟩ := f
  simp only at hF hfl HVS HRV
  have HF := Lib.hid hF
  clear hF
  have hb0 := (Below.refl w.heap.size w).alloc (Nat.le_refl _) (.cells #[.slice ao bs.length cap, .slice al l.length cl] 40)
  go_enter Tryz.func4, Tryz.ntmps4
  go_wp2_with fail
  refine (HF.out _ (HR.out.below hb0 (Nat.le_refl _))).mono ?_
  rintro e w1 ⟨rfl, hb1⟩
  have q0 : w1.cell? ⟨w.heap.size, 0, none⟩ = some (.slice ao bs.length cap) := box_keep hb1 (by simp) 0
  have q1 : w1.cell? ⟨w.heap.size, 1, none⟩ = some (.slice al l.length cl) := box_keep hb1 (by simp) 1
  have n1 := hb0.trans (hb1.mono (by simp))
  have hw1 := n1.size
  have hl1 : w.heap.size < w1.heap.size := by have := hb1.size; simp at this; omega
  have n2 := n1.alloc hw1 (.cells #[.int .i64 st, .slice asm xss.length cs] 43)
  have hb2 := (Below.refl w1.heap.size w1).alloc (Nat.le_refl _) (.cells #[.int .i64 st, .slice asm xss.length cs] 43)
  have p0 := cell_keep q0 hb2 (Nat.le_refl _)
  have p1 := cell_keep q1 hb2 (Nat.le_refl _)
  have p2 : (w1.alloc (.cells #[.int .i64 st, .slice asm xss.length cs] 43)).cell? ⟨w1.heap.size, 0, none⟩ = some (.int .i64 st) := by simp
  have p3 : (w1.alloc (.cells #[.int .i64 st, .slice asm xss.length cs] 43)).cell? ⟨w1.heap.size, 1, none⟩ = some (.slice asm xss.length cs) := by simp
  clear hb1 n1 hb2 hb0
  go_wp2_with fail
  generalize (w1.alloc (.cells #[.int .i64 st, .slice asm xss.length cs] 43)) = W at *
  have N2 := Lib.hid n2
  have HBn := Lib.hid (HB.out.below n2 (Nat.le_refl _)); have HRn := Lib.hid (HR.out.below n2 (Nat.le_refl _)); have HVn := Lib.hid (HVS.out.below n2 (Nat.le_refl _)); have HWn := Lib.hid (HRV.out.below n2 (Nat.le_refl _))
  have P0 := Lib.hid p0; have P1 := Lib.hid p1; have P2 := Lib.hid p2; have P3 := Lib.hid p3
  have hrf := Below.refl W.heap.size W
  have p0d : W.drew.cell? ⟨w.heap.size, 0, none⟩ = some (.slice ao bs.length cap) := p0
  have p1d : W.drew.cell? ⟨w.heap.size, 1, none⟩ = some (.slice al l.length cl) := p1
  have p2d : W.drew.cell? ⟨w1.heap.size, 0, none⟩ = some (.int .i64 st) := p2
  have p3d : W.drew.cell? ⟨w1.heap.size, 1, none⟩ = some (.slice asm xss.length cs) := p3
  have hrfd := hrf.drew
  clear n2 q0 q1
  go_region_held3 (fun w' => w'.cell? ⟨w.heap.size, 0, none⟩ = some (.slice ao bs.length cap) ∧ w'.cell? ⟨w.heap.size, 1, none⟩ = some (.slice al l.length cl) ∧ w'.cell? ⟨w1.heap.size, 0, none⟩ = some (.int .i64 st) ∧ w'.cell? ⟨w1.heap.size, 1, none⟩ = some (.slice asm xss.length cs) ∧ Below W.heap.size W w')
    (first | exact ⟨p0d, p1d, p2d, p3d, hrfd⟩ | exact held4_next ⟨p0d, p1d, p2d, p3d, hrfd⟩ hbq | exact held4_next (by assumption) hbq)
    (first
      | (go_at_call 24; refine (checkBook_any ao bs cap _ (HBn.out.below (by first | assumption | (apply held4_bel; assumption)) (Nat.le_refl _)).cells (by omega) HBn.out.lecap HBn.out.cap2 HBn.out.names HBn.out.rates).mono ?_; rintro e wq ⟨rfl, hbq⟩)
      | (go_at_call 25; refine (refCheckBook_any ao bs cap _ (HBn.out.below (by first | assumption | (apply held4_bel; assumption)) (Nat.le_refl _)).in0).mono ?_; rintro e wq ⟨rfl, hbq⟩)
      | (go_at_call 26; refine (checkFrame_any ao bs cap st asm vs xss cs _ (HBn.out.below (by first | assumption | (apply held4_bel; assumption)) (Nat.le_refl _)) (HVn.out.below (by first | assumption | (apply held4_bel; assumption)) (Nat.le_refl _)) (HWn.out.below (by first | assumption | (apply held4_bel; assumption)) (Nat.le_refl _)) hfl).mono ?_; rintro e wq ⟨rfl, hbq⟩)
      | (go_at_call 27; refine (refCheckFrame_any ao bs cap st asm vs xss cs _ (HBn.out.below (by first | assumption | (apply held4_bel; assumption)) (Nat.le_refl _)) (HVn.out.below (by first | assumption | (apply held4_bel; assumption)) (Nat.le_refl _)) (HWn.out.below (by first | assumption | (apply held4_bel; assumption)) (Nat.le_refl _)) hfl).mono ?_; rintro e wq ⟨rfl, hbq⟩)
      | (go_at_call 28; refine (checkRecord_any ao bs cap al l cl _ (HBn.out.below (by first | assumption | (apply held4_bel; assumption)) (Nat.le_refl _)) (HRn.out.below (by first | assumption | (apply held4_bel; assumption)) (Nat.le_refl _))).mono ?_; rintro e wq ⟨rfl, hbq⟩)
      | (go_at_call 29; refine (refCheckRecord_any ao bs cap al l cl _ (HBn.out.below (by first | assumption | (apply held4_bel; assumption)) (Nat.le_refl _)) (HRn.out.below (by first | assumption | (apply held4_bel; assumption)) (Nat.le_refl _))).mono ?_; rintro e wq ⟨rfl, hbq⟩))
  have hz : Below W.heap.size W wq := by apply held4_bel; assumption
  have c0 := cell_keep P0.out hz (Nat.le_refl _)
  have c1 := cell_keep P1.out hz (Nat.le_refl _)
  have c2 := cell_keep P2.out hz (Nat.le_refl _)
  have c3 := cell_keep P3.out hz (Nat.le_refl _)
  clear p0 p1 p2 p3 p0d p1d p2d p3d hrf hrfd
  have HE1 := Lib.hid (fun wx (h : Below W.heap.size W wx) => Encode_any ao bs cap st asm vs xss cs wx (HBn.out.below h (Nat.le_refl _)) (HVn.out.below h (Nat.le_refl _)) (HWn.out.below h (Nat.le_refl _)) hfl)
  have HE2 := Lib.hid (fun wx (h : Below W.heap.size W wx) => refEncode_any ao bs cap st asm vs xss cs wx (HBn.out.below h (Nat.le_refl _)) (HVn.out.below h (Nat.le_refl _)) (HWn.out.below h (Nat.le_refl _)) hfl)
  have HE3 := Lib.hid (fun wx (h : Below W.heap.size W wx) => pack_any ao bs cap al l cl wx (HBn.out.below h (Nat.le_refl _)) (HRn.out.below h (Nat.le_refl _)))
  have HE4 := Lib.hid (fun wx (h : Below W.heap.size W wx) => refPack_any ao bs cap al l cl wx (HBn.out.below h (Nat.le_refl _)) (HRn.out.below h (Nat.le_refl _)))
  have HL1 := Lib.hid (encRes_lt bs st xss); have HL2 := Lib.hid (packRes_lt bs l)
  generalize encRes bs st xss = er at *
  generalize packRes bs l = pr at *
  generalize frmErr bs st xss = fe at *
  generalize recErr bs l = re at *
  go_wp2_with fail
  refine (HE1.out wq hz).mono ?_
  rintro e w2 ⟨⟨v2, rfl, ho2⟩, hb2⟩
  have hz2 := hz.trans (hb2.mono hz.size)
  have HO2 := Lib.hid ho2
  clear c0 c1 c2 c3 ho2
  have c0 := cell_keep P0.out hz2 (Nat.le_refl _)
  have c1 := cell_keep P1.out hz2 (Nat.le_refl _)
  have c2 := cell_keep P2.out hz2 (Nat.le_refl _)
  have c3 := cell_keep P3.out hz2 (Nat.le_refl _)
  go_wp2_with fail
  refine (HE2.out w2 hz2).mono ?_
  rintro e w3 ⟨⟨v3, rfl, ho3⟩, hb3⟩
  have hz3 := hz2.trans (hb3.mono hz2.size)
  have hcv2 := conv_own er (own_below HO2.out hb3 (Nat.le_refl _)) HL1.out
  have hcv3 := conv_own er ho3 HL1.out
  clear c0 c1 c2 c3 ho3 hb2 hb3
  have c0 := cell_keep P0.out hz3 (Nat.le_refl _)
  have c1 := cell_keep P1.out hz3 (Nat.le_refl _)
  have c2 := cell_keep P2.out hz3 (Nat.le_refl _)
  have c3 := cell_keep P3.out hz3 (Nat.le_refl _)
  go_wp2_with fail
  clear hcv2 hcv3
  refine (HE3.out w3 hz3).mono ?_
  rintro e w4 ⟨⟨v4, rfl, ho4⟩, hb4⟩
  have hz4 := hz3.trans (hb4.mono hz3.size)
  have HO4 := Lib.hid ho4
  clear c0 c1 c2 c3 ho4
  have c0 := cell_keep P0.out hz4 (Nat.le_refl _)
  have c1 := cell_keep P1.out hz4 (Nat.le_refl _)
  go_wp2_with fail
  refine (HE4.out w4 hz4).mono ?_
  rintro e w5 ⟨⟨v5, rfl, ho5⟩, hb5⟩
  have hz5 := hz4.trans (hb5.mono hz4.size)
  have hcv4 := conv_own pr (own_below HO4.out hb5 (Nat.le_refl _)) HL2.out
  have hcv5 := conv_own pr ho5 HL2.out
  clear c0 c1 ho5 hb4 hb5
  go_wp2_with fail
  clear hcv4 hcv5
  refine (works_any _).mono ?_
  rintro e w6 ⟨rfl, hb6⟩
  have hfin := N2.out.trans ((hz5.trans (hb6.mono hz5.size)).mono N2.out.size)
  clear hb6
  go_wp2
  go_ret
  exact ⟨rfl, hfin⟩
end Go.Proofs.YtoochleabcjljaaGreatDoor

/- Arguments read as data, over this program: what their cells hold; and that they read the same behind a call that writes nothing old. -/
namespace Go.Proofs.YtoochleabcjljaaGreatDoor
open Go.RowKit Go.WideShapes Go.ChangeShapes Go.Deep Go.Joins

section
variable {H : Type} {enc : TypeId × Value → H} {P : Program}
theorem sameAt_below {W W' : World} (hb : Below W.heap.size W W') {p : MemPlace} (hp : p.block < W.heap.size) : W.sameAt W' p := by
  cases p with
  | cell b off => exact hb.cell (p := ⟨b, off, none⟩) hp
  | map b => exact hb.block b hp
theorem trodAll_carry {W W' : World} {base : Nat} {sp : Nat → Bool} {held : Bool} : ∀ {ts : List TypeId} {vs : List Value} {ds : List (DataW H)} {ps : List MemPlace}, DataW.TrodAll enc P W base sp held ts vs ds ps → (∀ p ∈ ps, W.sameAt W' p) → DataW.TrodAll enc P W' base sp held ts vs ds ps
  | [], [], [], _, h, _ => h
  | _ :: _, _ :: _, _ :: _, _, ⟨p, q, ⟨n, h1⟩, h2, e⟩, hs => ⟨p, q, ⟨n, DataW.trod_carry n _ _ _ h1 fun x hx => hs x (by rw [e]; exact List.mem_append_left _ hx)⟩, trodAll_carry h2 fun x hx => hs x (by rw [e]; exact List.mem_append_right _ hx), e⟩

/-- behind a call that leaves all old blocks alone and answers true, of a law whose data read again as they did -/
theorem law_post {f : Func} {s : ChangeSpec} {W W' : World} {args : Array Value} {ds : List (DataW H)} {before : List MemPlace} (K : Kids P (· < P.types.size))
    (full : ∀ t e, t < P.types.size → P.underlying t = some (.slice e) → 0 < P.cellsOf e) (hT : ∀ t ∈ f.params.toList, t < P.types.size) (hv : s.vars = [])
    (hW : DataW.Whole enc P f.params.toList s.vars false W args.toList ds [] before) (hA : DataW.TrodAll enc P W 0 (fun _ => true) true f.params.toList args.toList ds before)
    (hfn : s.fn H (ds ++ []) = { results := [.lit (.bool true)], args := ds }) (hr : f.resultTypes = #[4]) (hu : P.underlying 4 = some .bool) (hb : Below W.heap.size W W') :
    s.post enc P f false true false false W args (.bool true) W' := by
  have hlt : ∀ p ∈ before, p.block < W.heap.size := fun p hp => hW.lt p hp
  have hold : ∀ p ∈ before, (fun b => decide (b < W.heap.size)) p.block = true := fun p hp => by simpa using hlt p hp
  have hargs : ∀ sp : Nat → Bool, (∀ p ∈ before, sp p.block = true) → DataW.TrodAll enc P W' 0 sp true f.params.toList args.toList (s.fn H (ds ++ [])).args before := by
    intro sp hsp
    rw [hfn]
    exact trodAll_carry (DataW.TrodAll.respare K full hT hA hsp) fun p hp => sameAt_below hb (hlt p hp)
  have hres : ∀ (b : Nat) (sp : Nat → Bool) (hd : Bool), DataW.TrodAll enc P W' b sp hd f.resultTypes.toList ((Value.bool true).resultList f.resultTypes.size) (s.fn H (ds ++ [])).results [] := by
    intro b sp hd
    rw [hfn, hr]
    exact trodAll_cons_mk (shut_bool hu _) trodAll_mk0
  have hvars : ∀ sp : Nat → Bool, DataW.TrodVars enc P W' sp s.vars (s.fn H (ds ++ [])).vars [] := by
    intro sp
    rw [hfn, hv]
    rfl
  refine ⟨ds, [], before, [], before, [], hW, hres _ _ _, hargs _ hold, hvars _, World.keptBut_mono (fun p hp => ⟨hp, Or.inr (Or.inl hp)⟩) (hb.frame (· ∈ before)), fun _ => ?_⟩
  obtain ⟨_, _, _, _, _, hz, hn⟩ := hW
  refine ⟨?_, _, _, ([] ++ before) ++ [], ⟨[] ++ before, [], trodAll_append (hargs _ (fun _ _ => rfl)) (hres _ _ _), hvars _, rfl, ?_, ?_⟩, ?_⟩
  · exact ok_one hr rfl (okWide_bool_mk hu _)
  · intro b off hp
    have hin : MemPlace.cell b off ∈ before := by simpa using hp
    rw [hb.frozen (hlt _ hin)]
    exact hz b off hin
  · intro ha
    have := hn ha
    simpa using this
  · intro p hp _
    simpa using hp

/-- a slice of numbers, as read -/
theorem rd_ints {W : World} {base : Nat} {sp : Nat → Bool} {held : Bool} {t e : TypeId} {fuel : Nat} {cs : List Value} {x : DataW H × List MemPlace} (ht : P.underlying t = some (.slice e)) (he : P.underlying e = some (.int .i64)) (hc : P.cellsOf e = 1)
    (h : DataW.trod enc P W base sp held fuel t cs = some x) :
    ∃ (ao : Option Addr) (xs : List Int) (cap : Nat), cs = [.slice ao xs.length cap] ∧ Cells W ao (xs.map (Value.int .i64)) ∧ xs.length ≤ cap ∧ cap ≤ 9223372036854775807 ∧ ∀ x ∈ xs, (Lit.int .i64 x).wf = true := by
  rcases open_ints ht he hc h with ⟨rfl, _⟩ | ⟨a, len, cap, zs, rfl, _, hl, hm, hz, _, hcell, hwf⟩
  · exact ⟨none, [], 0, rfl, .inl rfl, Nat.le_refl _, by decide, by simp⟩
  · have hzl : len ≤ zs.length := by rw [hz]; split <;> omega
    have htl : (zs.take len).length = len := by simp; omega
    refine ⟨some a, zs.take len, cap, by rw [htl], ?_, by omega, by unfold maxLen at hm; omega, fun x hx => hwf x (List.mem_of_mem_take hx)⟩
    rcases Nat.eq_zero_or_pos len with h0 | h0
    · subst h0; exact .inl (by simp)
    · have hsp := World.cell?_spot (hcell 0 (by omega))
      simp only [Addr.add] at hsp
      obtain ⟨b, off, spot⟩ := a
      simp at hsp
      subst hsp
      refine .inr ⟨b, off, rfl, fun j u hu => ?_⟩
      rw [List.getElem?_map] at hu
      obtain ⟨y, hy, rfl⟩ := Option.map_eq_some_iff.1 hu
      have hj : j < len := by have := (List.getElem?_eq_some_iff.1 hy).1; omega
      have := hcell j (by omega)
      rw [Addr.add_lit] at this
      rw [this]
      have hg : zs.getD j 0 = y := by
        rw [List.getElem?_take] at hy
        rw [if_pos hj] at hy
        rw [List.getD_eq_getElem?_getD, hy]; rfl
      rw [hg]

/-- a slice of pairs of numbers, as read -/
theorem rd_pairs {W : World} {base : Nat} {sp : Nat → Bool} {held : Bool} {t e : TypeId} {f0 f1 : Field} {fuel : Nat} {cs : List Value} {x : DataW H × List MemPlace} (ht : P.underlying t = some (.slice e)) (he : P.underlying e = some (.struct #[f0, f1]))
    (ce : P.cellsOf e = 2) (o0 : f0.offset = 0) (o1 : f1.offset = 1) (c0 : P.cellsOf f0.type = 1) (c1 : P.cellsOf f1.type = 1) (k0 : P.underlying f0.type = some (.int .i64)) (k1 : P.underlying f1.type = some (.int .i64))
    (h : DataW.trod enc P W base sp held fuel t cs = some x) :
    ∃ (ao : Option Addr) (xs : List (Int × Int)) (cap : Nat), cs = [.slice ao xs.length cap] ∧ Cells W ao (prs xs) ∧ xs.length ≤ cap ∧ cap ≤ 9223372036854775807 ∧ ∀ t ∈ xs, (Lit.int .i64 t.1).wf = true ∧ (Lit.int .i64 t.2).wf = true := by
  rcases open_slice_pairs ht he ce o0 o1 c0 c1 h with ⟨rfl, _⟩ | ⟨a, len, cap, m, n, V0, V1, D0, D1, P0, P1, rfl, _, hl, hm, hmm, _, hcell⟩
  · exact ⟨none, [], 0, rfl, .inl rfl, Nat.le_refl _, by decide, by simp⟩
  · have hlm : len ≤ m := by rw [hmm]; split <;> omega
    have each : ∀ i, i < len → ∃ q : Int × Int, W.cell? (a.add (i * 2)) = some (.int .i64 q.1) ∧ W.cell? (a.add (i * 2 + 1)) = some (.int .i64 q.2) ∧ (Lit.int .i64 q.1).wf = true ∧ (Lit.int .i64 q.2).wf = true := by
      intro i hi
      obtain ⟨h1, h2, h3, h4⟩ := hcell i (by omega)
      obtain ⟨z0, e0, _, w0⟩ := DataW.trod_int k0 h3
      obtain ⟨z1, e1, _, w1⟩ := DataW.trod_int k1 h4
      simp only [List.cons.injEq, and_true] at e0 e1
      rw [e0] at h1; rw [e1] at h2
      exact ⟨(z0, z1), h1, h2, w0, w1⟩
    let F : Nat → Int × Int := fun i => if hi : i < len then (each i hi).choose else (0, 0)
    have hF : ∀ i, i < len → W.cell? (a.add (i * 2)) = some (.int .i64 (F i).1) ∧ W.cell? (a.add (i * 2 + 1)) = some (.int .i64 (F i).2) ∧ (Lit.int .i64 (F i).1).wf = true ∧ (Lit.int .i64 (F i).2).wf = true := by
      intro i hi
      have := (each i hi).choose_spec
      simp only [F, dif_pos hi]
      exact this
    have htl : ((List.range len).map F).length = len := by simp
    refine ⟨some a, (List.range len).map F, cap, by rw [htl], ?_, by omega, by unfold maxLen at hm; omega, ?_⟩
    · rcases Nat.eq_zero_or_pos len with h0 | h0
      · subst h0; exact .inl (by simp [prs])
      · have hsp := World.cell?_spot (hF 0 h0).1
        simp only [Addr.add] at hsp
        obtain ⟨b, off, spot⟩ := a
        simp at hsp
        subst hsp
        refine .inr ⟨b, off, rfl, fun j u hu => ?_⟩
        have hj : j < len * 2 := by
          have := (List.getElem?_eq_some_iff.1 hu).1
          rw [prs_length, htl] at this; exact this
        have hg : ((List.range len).map F)[j / 2]? = some (F (j / 2)) := by
          rw [List.getElem?_map, List.getElem?_range (by omega)]; rfl
        have h1 := prs_fst hg
        have h2 := prs_snd hg
        obtain ⟨g1, g2, _⟩ := hF (j / 2) (by omega)
        rw [Addr.add_lit] at g1 g2
        rcases Nat.mod_two_eq_zero_or_one j with hm | hm
        · have e : j / 2 * 2 = j := by omega
          rw [e] at h1 g1
          rw [h1] at hu; rw [g1]; exact hu
        · have e : j / 2 * 2 + 1 = j := by omega
          rw [e] at h2 g2
          rw [h2] at hu; rw [g2]; exact hu
    · intro t ht2
      obtain ⟨i, hi, rfl⟩ := List.mem_map.1 ht2
      have := hF i (List.mem_range.1 hi)
      exact ⟨this.2.2.1, this.2.2.2⟩
end
end Go.Proofs.YtoochleabcjljaaGreatDoor

/- Arguments read as data: channels, rows of numbers, frames. -/
namespace Go.Proofs.YtoochleabcjljaaGreatDoor
open Go.RowKit Go.WideShapes Go.ChangeShapes Go.Deep Go.Joins

theorem flatMap_at {α : Type} (f : α → List Value) (C : Nat) (hC : ∀ x, (f x).length = C) (l : List α) (j : Nat) (u : Value) (h : (l.flatMap f)[j]? = some u) : ∃ x, l[j / C]? = some x ∧ (f x)[j % C]? = some u := by
  induction l generalizing j with
  | nil => simp at h
  | cons a l ih =>
    rw [List.flatMap_cons] at h
    by_cases hj : j < C
    · rw [List.getElem?_append_left (by rw [hC]; exact hj)] at h
      exact ⟨a, by rw [Nat.div_eq_of_lt hj]; rfl, by rw [Nat.mod_eq_of_lt hj]; exact h⟩
    · rw [List.getElem?_append_right (by rw [hC]; omega), hC] at h
      obtain ⟨x, h1, h2⟩ := ih _ h
      rcases Nat.eq_zero_or_pos C with h0 | h0
      · have := hC x
        rw [h0] at this
        rw [List.length_eq_zero_iff.1 this] at h2
        simp at h2
      · have e1 : j / C = (j - C) / C + 1 := by rw [← Nat.sub_add_cancel (show C ≤ j by omega), Nat.add_div_right _ h0, Nat.add_sub_cancel]
        have e2 : j % C = (j - C) % C := (Nat.mod_eq_sub_mod (by omega))
        exact ⟨x, by rw [e1, List.getElem?_cons_succ]; exact h1, by rw [e2]; exact h2⟩

/-- elements of C cells each, one behind the other -/
theorem rd_list {α : Type} {W : World} (f : α → List Value) (C : Nat) (hC : ∀ x, (f x).length = C) (hC0 : 0 < C) (Q : α → Prop) (a : Addr) (len : Nat)
    (each : ∀ i, i < len → ∃ x, (∀ j u, (f x)[j]? = some u → W.cell? (a.add (i * C + j)) = some u) ∧ Q x) : ∃ xs : List α, xs.length = len ∧ Cells W (some a) (xs.flatMap f) ∧ ∀ x ∈ xs, Q x := by
  have key : ∃ xs : List α, xs.length = len ∧ ∀ i x, xs[i]? = some x → (∀ j u, (f x)[j]? = some u → W.cell? (a.add (i * C + j)) = some u) ∧ Q x := by
    induction len with
    | zero => exact ⟨[], rfl, by simp⟩
    | succ n ih =>
      obtain ⟨xs, h1, h2⟩ := ih fun i hi => each i (by omega)
      obtain ⟨y, hy⟩ := each n (by omega)
      refine ⟨xs ++ [y], by simp [h1], fun i x hx => ?_⟩
      rcases Nat.lt_or_ge i n with hi | hi
      · rw [List.getElem?_append_left (by omega)] at hx
        exact h2 i x hx
      · by_cases hin : i = n
        · subst hin
          rw [List.getElem?_append_right (by omega), h1, Nat.sub_self] at hx
          simp at hx
          subst hx
          exact hy
        · rw [List.getElem?_eq_none (by simp; omega)] at hx
          simp at hx
  obtain ⟨xs, h1, h2⟩ := key
  refine ⟨xs, h1, ?_, fun x hx => ?_⟩
  · rcases xs with _ | ⟨x0, r⟩
    · exact .inl rfl
    · have h3 := (h2 0 x0 rfl).1 0 ((f x0)[0]'(by rw [hC]; exact hC0)) (by simp [hC, hC0])
      rw [Nat.zero_mul, Nat.zero_add] at h3
      have hsp := World.cell?_spot h3
      simp only [Addr.add] at hsp
      obtain ⟨b, off, spot⟩ := a
      simp at hsp
      subst hsp
      refine .inr ⟨b, off, rfl, fun j u hu => ?_⟩
      obtain ⟨x, g1, g2⟩ := flatMap_at f C hC _ _ _ hu
      have := (h2 _ x g1).1 _ u g2
      rw [Addr.add_lit, Nat.mul_comm, Nat.div_add_mod] at this
      exact this
  · obtain ⟨i, hi, rfl⟩ := List.mem_iff_getElem.1 hx
    exact (h2 i _ (List.getElem?_eq_getElem hi)).2

section
variable {H : Type} {enc : TypeId × Value → H}
theorem wf_bd {x : Int} (h : (Lit.int .i64 x).wf = true) : -9223372036854775808 ≤ x ∧ x ≤ 9223372036854775807 := by
  simp only [Lit.wf, Bool.and_eq_true, decide_eq_true_eq] at h
  exact h

set_option maxRecDepth 100000 in
theorem rd_chans {W : World} {base : Nat} {sp : Nat → Bool} {held : Bool} {fuel : Nat} {cs : List Value} {x : DataW H × List MemPlace} (h : DataW.trod enc Tryz.prog W base sp held fuel 37 cs = some x) :
    ∃ (ao : Option Addr) (bs : List Chan) (cap : Nat), cs = [.slice ao bs.length cap] ∧ BookIn W ao bs cap := by
  rcases open_slice Tryz.underlying37 h with ⟨rfl, _⟩ | ⟨a, len, cap, m, n, D, Pl, rfl, _, hl, hm, hmm, _, hx⟩
  · exact ⟨none, [], 0, rfl, .inl rfl, by decide, Nat.le_refl _, by decide, by simp, by simp⟩
  · have hlm : len ≤ m := by rw [hmm]; split <;> omega
    have hce : Tryz.prog.cellsOf 106 = 3 := by kernel_rfl
    obtain ⟨bs, h1, h2, h3⟩ := rd_list (W := W) (fun c : Chan => [.string c.name, .int .i64 c.rate, .int .i64 c.bits]) 3 (fun _ => rfl) (by decide) (fun c => c.name.size ≤ 9223372036854775807 ∧ -9223372036854775808 ≤ c.rate) a len (fun i hi => by
      obtain ⟨cs', g1, g2⟩ := hx i (by omega)
      rw [hce] at g1
      obtain ⟨_, hlen, hat⟩ := World.cells?_some g1
      obtain ⟨y0, y1, y2, k, _, _, t0, t1, t2⟩ := trod_struct3 Tryz.underlying106 g2
      match cs', hlen with
      | [c0, c1, c2], _ =>
        have e1 : Tryz.prog.cellsOf 3 = 1 := by kernel_rfl
        have e2 : Tryz.prog.cellsOf 9 = 1 := by kernel_rfl
        simp only [e1, e2, List.drop_zero, List.take_succ_cons, List.take_zero, List.drop_succ_cons] at t0 t1 t2
        obtain ⟨s, q0, _, ws⟩ := DataW.trod_string Tryz.underlying9 t0
        obtain ⟨r, q1, _, wr⟩ := DataW.trod_int Tryz.underlying3 t1
        obtain ⟨b, q2, _, wb⟩ := DataW.trod_int Tryz.underlying3 t2
        simp only [List.cons.injEq, and_true] at q0 q1 q2
        subst q0 q1 q2
        refine ⟨⟨s, r, b⟩, fun j u hu => ?_, by unfold maxLen at ws; exact ws, (wf_bd wr).1⟩
        have hj : j < 3 := (List.getElem?_eq_some_iff.1 hu).1
        have := hat j hj
        rw [← Deep.add_add, this]; exact hu)
    refine ⟨some a, bs, cap, by rw [h1], h2, by unfold maxLen at hm; omega, by omega, by unfold maxLen at hm; omega, fun c hc => (h3 c hc).1, fun c hc => (h3 c hc).2⟩

theorem rd_rows {W : World} {base : Nat} {sp : Nat → Bool} {held : Bool} {fuel : Nat} {cs : List Value} {x : DataW H × List MemPlace} (h : DataW.trod enc Tryz.prog W base sp held fuel 41 cs = some x) :
    ∃ (ao : Option Addr) (xss : List (List Int)) (cap : Nat), cs = [.slice ao xss.length cap] ∧ xss.length ≤ 9223372036854775807 ∧ ∃ vs, Cells W ao vs ∧ RowsV W vs xss := by
  rcases open_slice1 Tryz.underlying41 (by kernel_rfl) h with ⟨rfl, _⟩ | ⟨a, len, cap, m, n, V, D, Pl, rfl, _, hl, hm, hmm, _, hx⟩
  · exact ⟨none, [], 0, rfl, by decide, [], .inl rfl, rfl, by simp⟩
  · have hlm : len ≤ m := by rw [hmm]; split <;> omega
    obtain ⟨ps, h1, h2, h3⟩ := rd_list (W := W) (fun p : Value × List Int => [p.1]) 1 (fun _ => rfl) (by decide) (fun p => RowV W p.1 p.2) a len (fun i hi => by
      obtain ⟨g1, g2⟩ := hx i (by omega)
      obtain ⟨ax, xs, cx, e, hc, hl1, hl2, _⟩ := rd_ints Tryz.underlying22 Tryz.underlying3 (by kernel_rfl) g2
      simp only [List.cons.injEq, and_true] at e
      refine ⟨(V i, xs), fun j u hu => ?_, ax, cx, e, hc, by show xs.length ≤ _; omega⟩
      have hj : j = 0 := by have : j < 1 := (List.getElem?_eq_some_iff.1 hu).1; omega
      subst hj
      simp at hu
      rw [Nat.mul_one, Nat.add_zero, g1, hu])
    have hfm : ps.flatMap (fun p : Value × List Int => [p.1]) = ps.map (·.1) := by
      clear h1 h2 h3; induction ps with
      | nil => rfl
      | cons p ps ih => simp only [List.flatMap_cons, List.map_cons, ih]; rfl
    rw [hfm] at h2
    refine ⟨some a, ps.map (·.2), cap, by rw [List.length_map, h1], by rw [List.length_map, h1]; unfold maxLen at hm; omega, ps.map (·.1), h2, by simp, fun i v xs hv hxs => ?_⟩
    rw [List.getElem?_map] at hv hxs
    obtain ⟨p, hp, rfl⟩ := Option.map_eq_some_iff.1 hv
    rw [hp] at hxs
    simp at hxs
    subst hxs
    exact h3 p (List.mem_of_getElem? hp)

set_option maxRecDepth 100000 in
theorem rd_frames {W : World} {base : Nat} {sp : Nat → Bool} {held : Bool} {fuel : Nat} {cs : List Value} {x : DataW H × List MemPlace} (h : DataW.trod enc Tryz.prog W base sp held fuel 38 cs = some x) :
    ∃ (al : Option Addr) (l : List Frm) (cap : Nat), cs = [.slice al l.length cap] ∧ RecIn W al l := by
  rcases open_slice Tryz.underlying38 h with ⟨rfl, _⟩ | ⟨a, len, cap, m, n, D, Pl, rfl, _, hl, hm, hmm, _, hx⟩
  · exact ⟨none, [], 0, rfl, .inl rfl, by decide, by simp⟩
  · have hlm : len ≤ m := by rw [hmm]; split <;> omega
    have hce : Tryz.prog.cellsOf 43 = 2 := by kernel_rfl
    obtain ⟨l, h1, h2, h3⟩ := rd_list (W := W) (fun f : Frm => [.int .i64 f.st, .slice f.a f.xss.length f.c]) 2 (fun _ => rfl) (by decide) (fun f => FrmIn W f) a len (fun i hi => by
      obtain ⟨cs', g1, g2⟩ := hx i (by omega)
      rw [hce] at g1
      obtain ⟨_, hlen, hat⟩ := World.cells?_some g1
      obtain ⟨y0, y1, k, _, _, t0, t1⟩ := trod_struct2 Tryz.underlying43 g2
      match cs', hlen with
      | [c0, c1], _ =>
        have e1 : Tryz.prog.cellsOf 3 = 1 := by kernel_rfl
        have e2 : Tryz.prog.cellsOf 41 = 1 := by kernel_rfl
        simp only [e1, e2, List.drop_zero, List.take_succ_cons, List.take_zero, List.drop_succ_cons] at t0 t1
        obtain ⟨r, q0, _, wr⟩ := DataW.trod_int Tryz.underlying3 t0
        obtain ⟨as', xss, cs2, q1, hl1, hv⟩ := rd_rows t1
        simp only [List.cons.injEq, and_true] at q0 q1
        subst q0 q1
        refine ⟨⟨r, as', cs2, xss⟩, fun j u hu => ?_, hl1, hv⟩
        have hj : j < 2 := (List.getElem?_eq_some_iff.1 hu).1
        have := hat j hj
        rw [← Deep.add_add, this]; exact hu)
    exact ⟨some a, l, cap, by rw [h1], h2, by unfold maxLen at hm; omega, h3⟩
end
end Go.Proofs.YtoochleabcjljaaGreatDoor

namespace Go.Proofs.YtoochleabcjljaaGreatDoor
open Go.ChangeShapes Go.WideShapes Go.ChangeAt Go.RowKit Go.Joins Go.Deep

theorem own : ownKnob Tryz.prog.godebug = none := by kernel_rfl
theorem kids : Kids Tryz.prog (· < Tryz.prog.types.size) := kids_rows (by kernel_rfl) (by kernel_rfl)
theorem full : ∀ t e, t < Tryz.prog.types.size → Tryz.prog.underlying t = some (.slice e) → 0 < Tryz.prog.cellsOf e := slices_full_of Tryz.prog (by kernel_rfl)

set_option maxRecDepth 100000 in
theorem law_contract (H : Type) (enc : TypeId × Value → H) (W : World) (base : Nat) (args : Array Value) (ds gs : List (DataW H)) (before : List MemPlace)
    (hval : ∀ (j : Nat) t v, Tryz.f4.params[j]? = some t → args[j]? = some v → Value.okWide Tryz.prog W .any base t v)
    (hW : DataW.Whole enc Tryz.prog Tryz.f4.params.toList Rows.recordFramesSpec.vars false W args.toList ds gs before) :
    Calls Tryz.prog 4 args W fun e W' => ∃ v, e = .returned v ∧ Rows.recordFramesSpec.post enc Tryz.prog Tryz.f4 false true false false W args v W' := by
  have hW' := hW
  obtain ⟨p, q, hA0, hV, rfl, hfz, hnd⟩ := hW
  have hA : DataW.TrodAll enc Tryz.prog W 0 (fun _ => true) true Tryz.f4.params.toList args.toList ds p := hA0
  have hAk := hA
  rw [Tryz.params4] at hA hval
  obtain ⟨v0, d0, rfl, rfl, h0⟩ := trodAll_one hA
  obtain ⟨rfl, rfl⟩ := trodVars_none hV
  obtain ⟨u0a, u0b, y0a, y0b, n0, rfl, _, _, g0a, g0b⟩ := open_agg2 Tryz.underlying40 (by kernel_rfl) (by kernel_rfl) (hval 0 40 v0 rfl rfl) h0
  obtain ⟨ao, bs, cap, e0a, hbs⟩ := rd_chans g0a
  obtain ⟨al, l, cl, e0b, hl⟩ := rd_frames g0b
  simp only [List.cons.injEq, and_true] at e0a e0b
  rw [e0a, e0b] at hW' hAk ⊢
  simp only [List.append_nil] at hW' hAk
  refine (frames_any ao bs cap al l cl W hbs hl).mono fun e W' ⟨he, hb⟩ => ?_
  subst he
  exact ⟨_, rfl, law_post kids full (by rw [Tryz.params4]; decide) rfl hW' hAk rfl rfl Tryz.underlying4 hb⟩

theorem law_met (os : Os) (args : Array Value) : laidMet Tryz.prog Rows.recordFramesRow.laid ((World.doorLaid Tryz.prog 400 os).forCall (fun _ _ => 0) ⟨#[], args, []⟩).memory :=
  laidMet_of_run' 40 (by kernel_rfl) (by kernel_rfl)
theorem law_reads (os : Os) {H : Type} (enc : TypeId × Value → H) : ∃ places, DataW.whole enc Tryz.prog ((World.doorLaid Tryz.prog 400 os).forCall (fun _ _ => 0) ⟨#[], #[.agg #[.slice none 0 0, .slice none 0 0]], []⟩).memory Tryz.f4.params.toList Rows.recordFramesSpec.vars false #[Value.agg #[.slice none 0 0, .slice none 0 0]].toList 8 = some ([.agg [.nil, .nil]], [], places) :=
  ⟨[], by kernel_rfl⟩

set_option maxRecDepth 100000 in
theorem law_lifted (os : Os) (started : os.Started) (H : Type) (enc : TypeId × Value → H) (F : Stop.Interp) :
    ReturnsInHanded {} Tryz.checked os 4 .any ((OpenSpec.ofChange Rows.recordFramesSpec).preRow enc Tryz.prog Tryz.f4 Rows.recordFramesRow.domain false Rows.recordFramesRow.laid) (((OpenSpec.ofChange Rows.recordFramesSpec).at F).post enc Tryz.prog Tryz.f4 false true false false) := by
  obtain ⟨places, hx⟩ := law_reads os enc
  refine returnsInHanded_of_row (C := Tryz.checked) (s := OpenSpec.ofChange Rows.recordFramesSpec) own started (by kernel_rfl) Tryz.func4
    (witness_row_at (enc := enc) (C := Tryz.checked) false (World.doorLaid Tryz.prog 400 os) #[.agg #[.slice none 0 0, .slice none 0 0]] rfl (by kernel_rfl) (by kernel_rfl) (by kernel_rfl)
      (OpenSpec.preRow_of_cond 8 hx (by kernel_rfl) (fun k hk => by cases hk) (by kernel_rfl) (law_met os _))) ?_
  intro W base args ds gs before hval hW _ _ _ hL _ _
  exact law_contract H enc W base args ds gs before hval hW

theorem law_said : Rows.RecordFramesSaid :=
  OpenClaim.holds_of_cond 4 Tryz.f4 rfl rfl rfl rfl rfl rfl rfl ⟨rfl, rfl, rfl, rfl, rfl⟩ rfl rfl rfl rfl rfl (by kernel_rfl) Tryz.func4 (by kernel_rfl)
    (of_decide_eq_true (by kernel_rfl)) (by unfold Func.isWrapper; first | (rw [if_pos (by decide +kernel)]; kernel_rfl) | (rw [if_neg (by decide +kernel)]; exact ⟨rfl, rfl⟩))
    (fun os started H enc _ F => by rw [OpenClaim.pre_eq_preRow]; exact law_lifted os started H enc F)

theorem law_plain (f : FuncId) (fn : Func) (hf : Tryz.pinned.checked.prog.funcNamed "ringdown/ringdownlaw05.RecordFrames" = some f) (hfn : Tryz.pinned.checked.prog.funcs[f]? = some fn) :
    false = Tryz.pinned.checked.prog.looks [] ∧ ∀ (j : Nat) t, fn.params[j]? = some t → Tryz.pinned.checked.prog.wantsStandIn t = false := by
  obtain rfl : f = 4 := Option.some.inj ((show Tryz.prog.funcNamed "ringdown/ringdownlaw05.RecordFrames" = some 4 by kernel_rfl).symm.trans hf) |>.symm
  obtain rfl : fn = Tryz.f4 := (Option.some.inj (Tryz.func4.symm.trans hfn)).symm
  refine ⟨by kernel_rfl, fun j t ht => ?_⟩
  rw [Tryz.params4] at ht
  obtain rfl : t = 40 := by simpa using Array.mem_of_getElem? ht
  exact (show Tryz.prog.wantsStandIn 40 = false by kernel_rfl)

/-- RecordFrames holds. -/
theorem recordFrames_holds : Rows.RecordFramesCardSaid :=
  Claim7.holds_tied_plain_at .later [] _ _ _ _ law_said (fun _ h => by cases h) (by kernel_rfl) (fun _ h => by cases h) recordFrames_row_tie rfl ⟨rfl, rfl⟩ (by kernel_rfl) rfl law_plain (by kernel_rfl)
end Go.Proofs.YtoochleabcjljaaGreatDoor
