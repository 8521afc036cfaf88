/- Parts of a proof, in build order: B3, F3, F4, T7, Q4, D8, Q5, Q6. -/
import Derived.Test.YtoochleabcjljaaGreatDoorKd8
import Derived.Laws.IdiomStrings
import Derived.Lib.BufferRead
import Derived.Deep.RegionHeld3
import Derived.Laws.ResultCell
import Derived.Deep.Quiet

/- Lines: Track, where the amplitude is a small fraction. -/
namespace Go.Proofs.YtoochleabcjljaaGreatDoor
open Go.RowKit

set_option maxRecDepth 100000 in
theorem track_dig (n d : Nat) (ao : Option Addr) (sh : List Int) (cap : Nat) (ax : Option Addr) (xs : List Int) (cx : Nat) (w : World) (hc : Cells w ao (sh.map (Value.int .i64))) (hx : Cells w ax (xs.map (Value.int .i64))) (he : linedErr sh xs = 0)
    (hn : ampN sh xs (whole sh xs) = (n : Nat)) (hd : ampD sh (whole sh xs) = (d : Nat)) (hn0 : 0 < n) (hd0 : 0 < d) (hd9 : d < 1000000000) (hn9 : n < 1000000000) (h : n / Nat.gcd n d < 10) (h2 : d / Nat.gcd n d < 10) (h3 : 2 ≤ d / Nat.gcd n d) :
    Calls Tryz.prog 18 #[.slice ao sh.length cap, .slice ax xs.length cx] w fun e w' => e = .returned (.tuple #[.string (digB (n / Nat.gcd n d) ++ (⟨#[47]⟩ ++ digB (d / Nat.gcd n d))), .int .i64 0]) ∧ Below w.heap.size w w' := by
  obtain ⟨l1, l2⟩ := linedErr_zero he
  have hsl := (lineErr_zero l1).2.1
  have hxl := (serErr_zero l2).1
  have hlin := fun wx h1 h2 => lined_any ao sh cap ax xs cx wx h1 (by omega) h2 (by omega)
  rw [he] at hlin
  have hamp := fun wx h1 h2 => amplitude_any ao sh cap ax xs cx wx h1 h2 he
  rw [hn, hd] at hamp
  have hof := fun wx => of_dig n d wx hn0 hd0 hd9 hn9 h h2 h3
  have hne : ((d : Int) == 0) = false := by rw [beq_eq_false_iff_ne]; omega
  have HC := Lib.hid hc; have HX := Lib.hid hx; have HL := Lib.hid hlin; have HA := Lib.hid hamp; have HO := Lib.hid hof
  clear hc hx he hn hd h h2 h3 hlin hamp hof l1 l2
  go_enter Tryz.func18, Tryz.ntmps18
  go_wp2_with fail
  refine (HL.out _ HC.out HX.out).mono ?_
  rintro e w1 ⟨rfl, hb1⟩
  go_wp2_with fail
  refine (HA.out _ (HC.out.below hb1 (Nat.le_refl _)) (HX.out.below hb1 (Nat.le_refl _))).mono ?_
  rintro e w2 ⟨rfl, rfl⟩
  go_wp2_with fail
  refine (HO.out _).mono ?_
  rintro e w2 ⟨rfl, hb2⟩
  go_wp2
  go_ret2
  exact ⟨rfl, hb1.trans (hb2.mono hb1.size)⟩
end Go.Proofs.YtoochleabcjljaaGreatDoor

/- Examples: what works asks holds. -/
namespace Go.Proofs.YtoochleabcjljaaGreatDoor
open Go.RowKit

theorem exCode : encRes bookX 1 [[0, 1, 1, 2], [-1]] = [165, 90, 0, 7, 0, 0, 0, 1, 64, 204, 2, 89, 2, 199] ∧ frmErr bookX 1 [[0, 1, 1, 2], [-1]] = 0 := by decide +kernel
theorem exStrain : strain [(3, 4), (-1, 1)] 1 [2, 5] = [(3, 4), (6, 11)] ∧ strErr [(3, 4), (-1, 1)] 1 [2, 5] = 0 := by decide +kernel
theorem exInject : injRes [1, -1] 3 [5, 1, 4, 2, 9] = [8, -2, 7, -1, 12] ∧ injErr [1, -1] 3 [5, 1, 4, 2, 9] = 0 := by decide +kernel
theorem exTrack : linedErr [1, -1] [5, 1, 4, 2, 9] = 0 ∧ ampN [1, -1] [5, 1, 4, 2, 9] (whole [1, -1] [5, 1, 4, 2, 9]) = (6 : Nat) ∧ ampD [1, -1] (whole [1, -1] [5, 1, 4, 2, 9]) = (4 : Nat) := by decide +kernel
theorem new_cells (w : World) (cs : List Value) (T : TypeId) : Cells (w.alloc (.cells cs.toArray T)) (some ⟨w.heap.size, 0, none⟩) cs := .inr ⟨_, _, rfl, fun j u hu => by rw [Nat.zero_add]; simpa using hu⟩

theorem one_row {w : World} {a : Option Addr} {xs : List Int} {c : Nat} (h : Cells w a (xs.map (Value.int .i64))) (hl : xs.length ≤ 9223372036854775807) : RowV w (.slice a xs.length c) xs := ⟨a, c, rfl, h, hl⟩
theorem two_rows {w : World} {v1 v2 : Value} {x1 x2 : List Int} (h1 : RowV w v1 x1) (h2 : RowV w v2 x2) : RowsV w [v1, v2] [x1, x2] := by
  refine ⟨rfl, fun i v xs hv hx => ?_⟩
  match i, hv, hx with
  | 0, hv, hx => simp at hv hx; subst hv hx; exact h1
  | 1, hv, hx => simp at hv hx; subst hv hx; exact h2
theorem conv_bytes {w : World} {b : Nat} {cap : Nat} (l : List UInt8) (h : Cells w (some ⟨b, 0, none⟩) (l.map fun d => Value.int .u8 (d.toNat : Int))) :
    (convert 48 9 (.slice (some ⟨b, 0, none⟩) l.length cap)).run Tryz.prog w = .ok (.string ⟨l.toArray⟩) w :=
  run_convert_bytes_back w _ _ 5 ⟨b, 0, none⟩ cap l Tryz.underlying48 Tryz.underlying5 Tryz.underlying9 (fun j hj => by
    have := h.at (j := j) (u := .int .u8 (l[j].toNat : Int)) (by simp [hj])
    rw [Addr.add_lit]; exact this)


theorem two_new (w : World) (c1 c2 : List Value) (T1 T2 : TypeId) : Cells ((w.alloc (.cells c1.toArray T1)).alloc (.cells c2.toArray T2)) (some ⟨w.heap.size, 0, none⟩) c1 ∧ Cells ((w.alloc (.cells c1.toArray T1)).alloc (.cells c2.toArray T2)) (some ⟨w.heap.size + 1, 0, none⟩) c2 := by
  constructor
  · exact (new_cells w c1 T1).below ((Below.refl _ _).alloc (Nat.le_refl _) _) (Nat.le_refl _)
  · have := new_cells (w.alloc (.cells c1.toArray T1)) c2 T2
    rwa [World.size_alloc] at this
theorem two_below (w : World) (o1 o2 : Obj) : Below w.heap.size w ((w.alloc o1).alloc o2) := ((Below.refl _ _).alloc (Nat.le_refl _) _).alloc (by simp) _

theorem ex_encode (w : World) :
    Calls Tryz.prog 30 #[.slice (some ⟨w.heap.size, 0, none⟩) 2 2, .agg #[.int .i64 1, .slice (some ⟨w.heap.size + 1 + 1 + 1, 0, none⟩) 2 2]]
      ((((w.alloc (.cells #[.string ⟨#[101, 114, 114]⟩, .int .i64 4, .int .i64 8, .string ⟨#[97, 117, 120]⟩, .int .i64 1, .int .i64 4] 106)).alloc (.cells #[.int .i64 0, .int .i64 1, .int .i64 1, .int .i64 2] 3)).alloc (.cells #[.int .i64 (-1)] 3)).alloc (.cells #[.slice (some ⟨w.heap.size + 1, 0, none⟩) 4 4, .slice (some ⟨w.heap.size + 1 + 1, 0, none⟩) 1 1] 22))
      fun e w' => (∃ b c, e = .returned (.tuple #[.slice (some ⟨b, 0, none⟩) 14 c, .int .i64 0]) ∧ Cells w' (some ⟨b, 0, none⟩) (bys [165, 90, 0, 7, 0, 0, 0, 1, 64, 204, 2, 89, 2, 199])) ∧ Below w.heap.size w w' := by
  obtain ⟨x1, x2⟩ := exCode
  have hb2 := two_below w (.cells #[.string ⟨#[101, 114, 114]⟩, .int .i64 4, .int .i64 8, .string ⟨#[97, 117, 120]⟩, .int .i64 1, .int .i64 4] 106) (.cells #[.int .i64 0, .int .i64 1, .int .i64 1, .int .i64 2] 3)
  obtain ⟨k1, k2⟩ := two_new w (chs bookX) ([0, 1, 1, 2].map (Value.int .i64)) 106 3
  have hs2 : ((w.alloc (.cells (chs bookX).toArray 106)).alloc (.cells ([0, 1, 1, 2].map (Value.int .i64)).toArray 3)).heap.size = w.heap.size + 1 + 1 := by simp
  change Below w.heap.size w ((w.alloc (.cells (chs bookX).toArray 106)).alloc (.cells ([0, 1, 1, 2].map (Value.int .i64)).toArray 3)) at hb2
  change Calls _ _ _ ((((w.alloc (.cells (chs bookX).toArray 106)).alloc (.cells ([0, 1, 1, 2].map (Value.int .i64)).toArray 3)).alloc (.cells ([-1].map (Value.int .i64)).toArray 3)).alloc (.cells [.slice (some ⟨w.heap.size + 1, 0, none⟩) 4 4, .slice (some ⟨w.heap.size + 1 + 1, 0, none⟩) 1 1].toArray 22)) _
  generalize ((w.alloc (.cells (chs bookX).toArray 106)).alloc (.cells ([0, 1, 1, 2].map (Value.int .i64)).toArray 3)) = W at *
  obtain ⟨k3, k4⟩ := two_new W ([-1].map (Value.int .i64)) [.slice (some ⟨w.heap.size + 1, 0, none⟩) 4 4, .slice (some ⟨w.heap.size + 1 + 1, 0, none⟩) 1 1] 3 22
  have hb4 := two_below W (.cells ([-1].map (Value.int .i64)).toArray 3) (.cells [.slice (some ⟨w.heap.size + 1, 0, none⟩) 4 4, .slice (some ⟨w.heap.size + 1 + 1, 0, none⟩) 1 1].toArray 22)
  generalize ((W.alloc (.cells ([-1].map (Value.int .i64)).toArray 3)).alloc (.cells [.slice (some ⟨w.heap.size + 1, 0, none⟩) 4 4, .slice (some ⟨w.heap.size + 1 + 1, 0, none⟩) 1 1].toArray 22)) = W2 at *
  rw [hs2] at k3 k4
  have q1 := k1.below hb4 (Nat.le_refl _)
  have q2 := k2.below hb4 (Nat.le_refl _)
  have h := Encode_any (some ⟨w.heap.size, 0, none⟩) bookX 2 1 (some ⟨w.heap.size + 1 + 1 + 1, 0, none⟩) [.slice (some ⟨w.heap.size + 1, 0, none⟩) 4 4, .slice (some ⟨w.heap.size + 1 + 1, 0, none⟩) 1 1] [[0, 1, 1, 2], [-1]] 2 W2 ⟨q1, by decide, by decide, by decide, by decide, by decide⟩ k4 (two_rows (one_row (xs := [0, 1, 1, 2]) q2 (by decide)) (one_row (xs := [-1]) k3 (by decide))) (by decide)
  rw [x1, x2] at h
  refine Calls.mono h ?_
  rintro e w' ⟨⟨v, rfl, hown⟩, hb⟩
  obtain ⟨g, c, rfl, _, _⟩ := hown.form (by decide)
  obtain ⟨a, c', h1, h2⟩ := own_cells hown
  simp only [Value.slice.injEq] at h1
  exact ⟨⟨g, c, rfl, by rw [h1.1]; exact h2⟩, hb2.trans ((hb4.mono hb2.size).trans (hb.mono (Nat.le_trans hb2.size hb4.size)))⟩

theorem ex_strain (w : World) :
    Calls Tryz.prog 64 #[.agg #[.slice (some ⟨w.heap.size, 0, none⟩) 2 2, .int .i64 1], .slice (some ⟨w.heap.size + 1, 0, none⟩) 2 2]
      ((w.alloc (.cells #[.int .i64 3, .int .i64 4, .int .i64 (-1), .int .i64 1] 99)).alloc (.cells #[.int .i64 2, .int .i64 5] 3))
      fun e w' => (∃ a c, e = .returned (.tuple #[.slice a 2 c, .int .i64 0]) ∧ Cells w' a (prs [(3, 4), (6, 11)])) ∧ Below w.heap.size w w' := by
  obtain ⟨x1, x2⟩ := exStrain
  obtain ⟨k1, k2⟩ := two_new w (prs [(3, 4), (-1, 1)]) ([2, 5].map (Value.int .i64)) 99 3
  have hb2 := two_below w (.cells (prs [(3, 4), (-1, 1)]).toArray 99) (.cells ([2, 5].map (Value.int .i64)).toArray 3)
  have h := strain_any (some ⟨w.heap.size, 0, none⟩) [(3, 4), (-1, 1)] 2 1 (some ⟨w.heap.size + 1, 0, none⟩) [2, 5] 2 _ k1 (by decide) k2 (by decide)
  rw [x1, x2] at h
  exact Calls.mono h fun e w' ⟨⟨a, c, h1, h2⟩, h3⟩ => ⟨⟨a, c, h1, h2⟩, hb2.trans (h3.mono hb2.size)⟩

theorem ex_track (w : World) :
    Calls Tryz.prog 18 #[.slice (some ⟨w.heap.size, 0, none⟩) 2 2, .slice (some ⟨w.heap.size + 1, 0, none⟩) 5 5]
      ((w.alloc (.cells #[.int .i64 1, .int .i64 (-1)] 3)).alloc (.cells #[.int .i64 5, .int .i64 1, .int .i64 4, .int .i64 2, .int .i64 9] 3))
      fun e w' => e = .returned (.tuple #[.string ⟨#[51, 47, 50]⟩, .int .i64 0]) ∧ Below w.heap.size w w' := by
  obtain ⟨x7, x8, x9⟩ := exTrack
  obtain ⟨k1, k2⟩ := two_new w ([1, -1].map (Value.int .i64)) ([5, 1, 4, 2, 9].map (Value.int .i64)) 3 3
  have hb2 := two_below w (.cells ([1, -1].map (Value.int .i64)).toArray 3) (.cells ([5, 1, 4, 2, 9].map (Value.int .i64)).toArray 3)
  have h := track_dig 6 4 (some ⟨w.heap.size, 0, none⟩) [1, -1] 2 (some ⟨w.heap.size + 1, 0, none⟩) [5, 1, 4, 2, 9] 5 _ k1 k2 x7 x8 x9 (by decide) (by decide) (by decide) (by decide) (by decide) (by decide) (by decide)
  have e1 : digB (6 / Nat.gcd 6 4) ++ (⟨#[47]⟩ ++ digB (4 / Nat.gcd 6 4)) = ⟨#[51, 47, 50]⟩ := by decide +kernel
  rw [e1] at h
  exact Calls.mono h fun e w' ⟨h1, h3⟩ => ⟨h1, hb2.trans (h3.mono hb2.size)⟩

theorem ex_inject (w : World) :
    Calls Tryz.prog 15 #[.slice (some ⟨w.heap.size, 0, none⟩) 2 2, .int .i64 3, .slice (some ⟨w.heap.size + 1, 0, none⟩) 5 5]
      ((w.alloc (.cells #[.int .i64 1, .int .i64 (-1)] 3)).alloc (.cells #[.int .i64 5, .int .i64 1, .int .i64 4, .int .i64 2, .int .i64 9] 3))
      fun e w' => (∃ a c, e = .returned (.tuple #[.slice a 5 c, .int .i64 0]) ∧ Cells w' a ([8, -2, 7, -1, 12].map (Value.int .i64))) ∧ Below w.heap.size w w' := by
  obtain ⟨x1, x2⟩ := exInject
  obtain ⟨k1, k2⟩ := two_new w ([1, -1].map (Value.int .i64)) ([5, 1, 4, 2, 9].map (Value.int .i64)) 3 3
  have hb2 := two_below w (.cells ([1, -1].map (Value.int .i64)).toArray 3) (.cells ([5, 1, 4, 2, 9].map (Value.int .i64)).toArray 3)
  have h := inject_any (some ⟨w.heap.size, 0, none⟩) [1, -1] 2 3 (some ⟨w.heap.size + 1, 0, none⟩) [5, 1, 4, 2, 9] 5 _ k1 (by decide) k2 (by decide)
  rw [x1, x2] at h
  exact Calls.mono h fun e w' ⟨⟨a, c, h1, h2⟩, h3⟩ => ⟨⟨a, c, h1, h2⟩, hb2.trans (h3.mono hb2.size)⟩
end Go.Proofs.YtoochleabcjljaaGreatDoor

/- Examples: works. -/
namespace Go.Proofs.YtoochleabcjljaaGreatDoor
open Go.RowKit

theorem same_bands_eq (aa ab : Option Addr) (ca cb : Nat) (w : World) (xs : List (Int × Int)) (n : Nat) (hn : n = xs.length) (hl : xs.length ≤ 9223372036854775807) (ha : Cells w aa (prs xs)) (hb : Cells w ab (prs xs)) :
    Calls Tryz.prog 65 #[.slice aa n ca, .slice ab n cb] w fun e w' => e = .returned (.bool true) ∧ Below w.heap.size w w' := by
  subst hn
  have h := sameBands_any aa ab xs xs ca cb w ha hb hl hl
  simpa using h
theorem same_ints_eq (aa ab : Option Addr) (ca cb : Nat) (w : World) (xs : List Int) (n : Nat) (hn : n = xs.length) (hl : xs.length ≤ 9223372036854775807) (ha : Cells w aa (xs.map (Value.int .i64))) (hb : Cells w ab (xs.map (Value.int .i64))) :
    Calls Tryz.prog 17 #[.slice aa n ca, .slice ab n cb] w fun e w' => e = .returned (.bool true) ∧ Below w.heap.size w w' := by
  subst hn
  have h := sameInts_any aa ab xs xs ca cb w ha hb hl hl
  simpa using h
theorem one_new (w : World) (c1 : List Value) (T1 : TypeId) : Cells (w.alloc (.cells c1.toArray T1)) (some ⟨w.heap.size, 0, none⟩) c1 := new_cells w c1 T1

set_option maxRecDepth 100000 in
set_option maxHeartbeats 2000000 in
theorem works_any (w : World) : Calls Tryz.prog 22 #[] w fun e w' => e = .returned (.bool true) ∧ Below w.heap.size w w' := by
  go_enter Tryz.func22, Tryz.ntmps22
  go_wp2_with (go_at_call 52; refine (book_any _).mono ?_; rintro e w1 ⟨rfl, rfl⟩)
  refine (ex_encode _).mono ?_
  rintro e w1 ⟨⟨b1, c1, rfl, hc1⟩, hb1⟩
  have HC1 := Lib.hid hc1; clear hc1
  go_wp2_with fail
  refine (ex_strain _).mono ?_
  rintro e w2 ⟨⟨a2, c2, rfl, hc2⟩, hb2⟩
  have HC2 := Lib.hid hc2; clear hc2
  go_wp2_with fail
  refine (ex_track _).mono ?_
  rintro e w3 ⟨rfl, hb3⟩
  go_wp2_with fail
  refine (ex_inject _).mono ?_
  rintro e w4 ⟨⟨a4, c4, rfl, hc4⟩, hb4⟩
  have HC4 := Lib.hid hc4; clear hc4
  have n2 := hb1.trans (hb2.mono hb1.size)
  have n3 := n2.trans (hb3.mono n2.size)
  have n4 := n3.trans (hb4.mono n3.size)
  have k24 := (hb3.trans (hb4.mono hb3.size))
  have k14 := hb2.trans (k24.mono hb2.size)
  have q1 := HC1.out.below k14 (Nat.le_refl _)
  have q2 := HC2.out.below k24 (Nat.le_refl _)
  have hcv : (convert 48 9 (.slice (some ⟨b1, 0, none⟩) 14 c1)).run Tryz.prog w4 = .ok (.string ⟨#[165, 90, 0, 7, 0, 0, 0, 1, 64, 204, 2, 89, 2, 199]⟩) w4 := conv_bytes (w := w4) (cap := c1) [165, 90, 0, 7, 0, 0, 0, 1, 64, 204, 2, 89, 2, 199] q1
  have HQ2 := Lib.hid q2
  clear q1 q2 k14 k24 hb1 hb2 hb3 hb4 n2 n3
  go_wp2_with fail
  have hb5 := (Below.refl w4.heap.size w4).alloc (Nat.le_refl _) (.cells #[.int .i64 3, .int .i64 4, .int .i64 6, .int .i64 11] 104)
  refine (same_bands_eq _ _ _ _ _ [(3, 4), (6, 11)] 2 rfl (by decide) (HQ2.out.below hb5 (Nat.le_refl _)) (new_cells w4 (prs [(3, 4), (6, 11)]) 104)).mono ?_
  rintro e w5 ⟨rfl, hb6⟩
  have hb7 := hb5.trans (hb6.mono hb5.size)
  have n5 := n4.trans (hb7.mono n4.size)
  have q4 := HC4.out.below hb7 (Nat.le_refl _)
  have HQ4 := Lib.hid q4
  clear q4 hb5 hb6 hb7 n4 hcv
  go_wp2_with fail
  have hb5 := (Below.refl w5.heap.size w5).alloc (Nat.le_refl _) (.cells #[.int .i64 8, .int .i64 (-2), .int .i64 7, .int .i64 (-1), .int .i64 12] 3)
  refine (same_ints_eq _ _ _ _ _ [8, -2, 7, -1, 12] 5 rfl (by decide) (HQ4.out.below hb5 (Nat.le_refl _)) (new_cells w5 ([8, -2, 7, -1, 12].map (Value.int .i64)) 3)).mono ?_
  rintro e w6 ⟨rfl, hb6⟩
  have n6 := n5.trans ((hb5.trans (hb6.mono hb5.size)).mono n5.size)
  clear hb5 hb6 n5
  go_wp2
  go_ret
  exact ⟨rfl, n6⟩
end Go.Proofs.YtoochleabcjljaaGreatDoor

/- RecordFrames: the walk. -/
namespace Go.Proofs.YtoochleabcjljaaGreatDoor
open Go.RowKit

theorem encB_lt (st : Int) (xss : List (List Int)) : ∀ d ∈ encB st xss, d < 256 := by
  intro d hd
  rw [encB] at hd
  rcases List.mem_append.1 hd with h | h
  · rw [hdB] at h
    rcases List.mem_append.1 h with h | h
    · rcases List.mem_append.1 h with h | h
      · simp at h; omega
      · exact (octs_ok _ (binL_bits _ _)).1 d h
    · exact (octs_ok _ (frBits_bits _ _)).1 d h
  · exact (octs_ok _ (binL_bits _ _)).1 d h
theorem encRes_lt (bs : List Chan) (st : Int) (xss : List (List Int)) : ∀ d ∈ encRes bs st xss, d < 256 := by
  intro d hd; unfold encRes at hd; split at hd
  · exact encB_lt _ _ d hd
  · simp at hd
theorem packRes_lt (bs : List Chan) (l : List Frm) : ∀ d ∈ packRes bs l, d < 256 := by
  intro d hd; unfold packRes at hd; split at hd
  · obtain ⟨f, _, hf⟩ := List.mem_flatMap.1 hd; exact encB_lt _ _ d hf
  · simp at hd
/-- bytes as a string -/
def bstr (l : List Nat) : ByteArray := ⟨(l.map UInt8.ofNat).toArray⟩
theorem conv_own {w : World} {b : Nat} {v : Value} {n : Nat} (l : List Nat) (h : w.ownsRow b 5 1 v n (bys l)) (hl : ∀ d ∈ l, d < 256) :
    (convert 48 9 v).run Tryz.prog w = .ok (.string (bstr l)) w := by
  obtain ⟨h0, h1⟩ := h
  rcases h1 with ⟨rfl, rfl⟩ | ⟨g, cap, cur, rfl, hb, hg, hn, hm, hs, ht⟩
  · have hnil : l = [] := by
      have : (bys l).length = 0 := by simpa using h0
      rw [bys_length] at this; exact List.length_eq_zero_iff.1 this
    subst hnil
    exact Lib.run_convert_nil_bytes w _ _ 5 0 Tryz.underlying48 Tryz.underlying5 Tryz.underlying9
  · have hn2 : n = (l.map UInt8.ofNat).length := by rw [List.length_map]; rw [bys_length] at h0; omega
    have hc : Cells w (some ⟨g, 0, none⟩) (bys l) := by
      obtain ⟨a, c, hv, hc⟩ := own_cells (w := w) (b := b) (e := 5) (s := 1) (v := .slice (some ⟨g, 0, none⟩) n cap) (n := n) (xs := bys l) ⟨h0, .inr ⟨g, cap, cur, rfl, hb, hg, hn, hm, hs, ht⟩⟩
      simp at hv; obtain ⟨rfl, rfl⟩ := hv; exact hc
    rw [hn2]
    exact run_convert_bytes_back w _ _ 5 ⟨g, 0, none⟩ cap (l.map UInt8.ofNat) Tryz.underlying48 Tryz.underlying5 Tryz.underlying9 (fun j hj => by
      rw [List.length_map] at hj
      have h2 := hl l[j] (List.getElem_mem _)
      have := hc.at (j := j) (u := .int .u8 (l[j] : Nat)) (by simp [bys, hj])
      rw [Addr.add_lit, this, List.getElem_map]
      congr 2
      simp [Nat.mod_eq_of_lt h2])

/-- the first frame, or none -/
def fstF (l : List Frm) : Frm := l.headD ⟨0, none, 0, []⟩
theorem fstF_in {w : World} {al : Option Addr} {l : List Frm} (h : RecIn w al l) : FrmIn w (fstF l) := by
  cases l with
  | nil => exact ⟨by decide, [], .inl rfl, rfl, by simp⟩
  | cons x r => exact h.rows x (by simp)

set_option maxRecDepth 100000 in
theorem first_any (ao : Option Addr) (nb : Nat) (cap : Nat) (al : Option Addr) (l : List Frm) (cl : Nat) (w : World) (hr : RecIn w al l) :
    Calls Tryz.prog 23 #[.agg #[.slice ao nb cap, .slice al l.length cl]] w fun e w' => e = .returned (.agg #[.int .i64 (fstF l).st, .slice (fstF l).a (fstF l).xss.length (fstF l).c]) ∧ Below w.heap.size w w' := by
  cases l with
  | nil =>
    go_enter Tryz.func23, Tryz.ntmps23
    go_wp2
    refine bodyPost_ret (v := .agg #[.int .i64 0, .slice none 0 0]) (by simp [results, Tryz.results23, go_sem]) rfl ⟨rfl, ?_⟩
    repeat (first | exact Below.refl _ _ | refine Below.setCell ?_ (by simp) _ | refine Below.alloc ?_ (by simp) _)
  | cons x r =>
    obtain ⟨bl, ol, rfl⟩ := hr.cells.addr (frs_ne (by simp))
    have d0 := hr.cells.at (frs_get (l := x :: r) (i := 0) rfl).1
    have d1 := hr.cells.at (frs_get (l := x :: r) (i := 0) rfl).2
    have hlen := hr.len
    obtain ⟨xst, xa, xc, xss⟩ := x
    simp only [Nat.zero_mul, Nat.add_zero, Nat.zero_add] at d0 d1
    have hb2 := two_below w (.cells #[.slice ao nb cap, .slice (some ⟨bl, ol, none⟩) (r.length + 1) cl] 40) (.cells #[.int .i64 0, .slice none 0 0] 43)
    have e0 := cell_keep d0 hb2 (Nat.le_refl _)
    have e1 := cell_keep d1 hb2 (Nat.le_refl _)
    rw [List.length_cons] at *
    clear hr d0 d1
    go_enter Tryz.func23, Tryz.ntmps23
    go_wp2
    refine bodyPost_ret (v := .agg #[.int .i64 xst, .slice xa xss.length xc]) (by simp [results, Tryz.results23, go_sem]) rfl ⟨rfl, ?_⟩
    repeat (first | exact Below.refl _ _ | refine Below.setCell ?_ (by simp) _ | refine Below.alloc ?_ (by simp) _)
end Go.Proofs.YtoochleabcjljaaGreatDoor

/- Codes: equal bytes, and the frame that bytes would be the code of, as the reference asks. -/
namespace Go.Proofs.YtoochleabcjljaaGreatDoor
open Go.RowKit

theorem toList_loop (bs : ByteArray) : ∀ (n i : Nat) (r : List UInt8), bs.size - i = n → ByteArray.toList.loop bs i r = r.reverse ++ bs.data.toList.drop i := by
  intro n
  induction n with
  | zero =>
    intro i r h
    unfold ByteArray.toList.loop
    rw [if_neg (by omega), List.drop_of_length_le (by simp only [Array.length_toList]; show bs.size ≤ i; omega), List.append_nil]
  | succ n ih =>
    intro i r h
    unfold ByteArray.toList.loop
    rw [if_pos (by omega), ih (i+1) _ (by omega)]
    have hi : i < bs.data.toList.length := by simp only [Array.length_toList]; show i < bs.size; omega
    rw [List.drop_eq_getElem_cons hi, List.reverse_cons, List.append_assoc]
    congr 2
    have : bs.get! i = bs.data.toList[i] := by
      show bs.data[i]! = _
      rw [getElem!_pos bs.data i (by simpa using hi)]; simp
    rw [this]; rfl
theorem toList_data (bs : ByteArray) : bs.toList = bs.data.toList := by
  show ByteArray.toList.loop bs 0 [] = _
  rw [toList_loop bs _ 0 [] rfl]; simp
theorem toList_inj {a b : ByteArray} (h : a.toList = b.toList) : a = b := by
  rw [toList_data, toList_data] at h
  cases a; cases b
  simpa using h
theorem conv_any {w : World} {a : Option Addr} (l : List Nat) (cap : Nat) (hc : Cells w a (bys l)) (ha : l ≠ [] → ∃ b off, a = some ⟨b, off, none⟩) (hl : ∀ d ∈ l, d < 256) (hz : l = [] → a = none ∨ ∃ b off, a = some ⟨b, off, none⟩) :
    (convert 48 9 (.slice a l.length cap)).run Tryz.prog w = .ok (.string (bstr l)) w := by
  have key : ∀ b off, a = some ⟨b, off, none⟩ → (convert 48 9 (.slice a l.length cap)).run Tryz.prog w = .ok (.string (bstr l)) w := by
    rintro b off rfl
    have hn2 : l.length = (l.map UInt8.ofNat).length := by rw [List.length_map]
    rw [hn2]
    exact run_convert_bytes_back w _ _ 5 ⟨b, off, none⟩ cap (l.map UInt8.ofNat) Tryz.underlying48 Tryz.underlying5 Tryz.underlying9 (fun j hj => by
      rw [List.length_map] at hj
      have h2 := hl l[j] (List.getElem_mem _)
      have := hc.at (j := j) (u := .int .u8 (l[j] : Nat)) (by simp [bys, hj])
      rw [Addr.add_lit, this, List.getElem_map]
      congr 2
      simp [Nat.mod_eq_of_lt h2])
  by_cases h : l = []
  · rcases hz h with rfl | ⟨b, off, e⟩
    · subst h
      exact Lib.run_convert_nil_bytes w _ _ 5 cap Tryz.underlying48 Tryz.underlying5 Tryz.underlying9
    · exact key b off e
  · obtain ⟨b, off, e⟩ := ha h
    exact key b off e
theorem bstr_inj {a b : List Nat} (ha : ∀ d ∈ a, d < 256) (hb : ∀ d ∈ b, d < 256) (h : bstr a = bstr b) : a = b := by
  unfold bstr at h
  simp only [ByteArray.mk.injEq] at h
  have h2 : a.map UInt8.ofNat = b.map UInt8.ofNat := by simpa using congrArg Array.toList h
  have key : ∀ l : List Nat, (∀ d ∈ l, d < 256) → (l.map UInt8.ofNat).map UInt8.toNat = l := by
    intro l hl
    induction l with
    | nil => rfl
    | cons d l ih =>
      rw [List.map_cons, List.map_cons, ih (fun e he => hl e (by simp [he]))]
      have := hl d (by simp)
      congr 1
      simp [Nat.mod_eq_of_lt this]
  rw [← key a ha, ← key b hb, h2]

set_option maxRecDepth 100000 in
theorem sameBytes_any {w : World} {a a' : Option Addr} (l m : List Nat) (ca cb : Nat) (hc : Cells w a (bys l)) (ha : l ≠ [] → ∃ b off, a = some ⟨b, off, none⟩) (hz : l = [] → a = none ∨ ∃ b off, a = some ⟨b, off, none⟩) (hl : ∀ d ∈ l, d < 256)
    (hc' : Cells w a' (bys m)) (ha' : m ≠ [] → ∃ b off, a' = some ⟨b, off, none⟩) (hz' : m = [] → a' = none ∨ ∃ b off, a' = some ⟨b, off, none⟩) (hm : ∀ d ∈ m, d < 256) :
    Calls Tryz.prog 134 #[.slice a l.length ca, .slice a' m.length cb] w fun e w' => e = .returned (.bool (decide (l = m))) ∧ w' = w := by
  have h1 := conv_any l ca hc ha hl hz
  have h2 := conv_any m cb hc' ha' hm hz'
  by_cases he : l = m
  · have hd : decide (l = m) = true := by rw [decide_eq_true_iff]; exact he
    rw [show bstr m = bstr l from by rw [he]] at h2
    have hs : ((bstr l).toList == (bstr l).toList) = true := by simp
    have HD := Lib.hid hd
    clear hd he hc hc' ha ha' hz hz' hl hm
    generalize bstr l = s at *
    go_enter Tryz.func134, Tryz.ntmps134
    go_wp2_with fail
    go_ret
    exact ⟨ret_bool (by rw [HD.out]), rfl⟩
  · have hd : decide (l = m) = false := by rw [decide_eq_false_iff_not]; exact he
    have hne : ¬ bstr l = bstr m := fun h => he (bstr_inj hl hm h)
    have hs : ((bstr l).toList == (bstr m).toList) = false := by rw [beq_eq_false_iff_ne]; exact fun h => hne (toList_inj h)
    have HD := Lib.hid hd
    clear hd he hc hc' ha ha' hz hz' hl hm hne
    generalize bstr l = s at *
    generalize bstr m = t at *
    go_enter Tryz.func134, Tryz.ntmps134
    go_wp2_with fail
    go_ret
    exact ⟨ret_bool (by rw [HD.out]), rfl⟩
end Go.Proofs.YtoochleabcjljaaGreatDoor

/- Codes: Decode. -/
namespace Go.Proofs.YtoochleabcjljaaGreatDoor
open Go.RowKit

/-- what Decode returns: the frame, the error -/
def decR (bs : List Chan) (l : List Nat) : Option (Int × List (List Int)) := if bookErr bs = 0 then (match firstR bs l with | some p => if p.2 = l.length then some p.1 else none | none => none) else none
def decErr (bs : List Chan) (l : List Nat) : Int := if bookErr bs ≠ 0 then bookErr bs else if (decR bs l).isSome then 0 else 5
def DecRes (base : Nat) (res : Option (Int × List (List Int))) (err : Int) (e : Ending) (w' : World) : Prop := match res with
  | some x => ∃ v, e = .returned (.tuple #[.agg #[.int .i64 x.1, v], .int .i64 err]) ∧ FrO base w' v x.2
  | none => e = .returned (.tuple #[.agg #[.int .i64 0, .slice none 0 0], .int .i64 err])
/-- bytes that were handed in -/
structure ByIn (w : World) (ac : Option Addr) (l : List Nat) (cc : Nat) : Prop where
  cells : Cells w ac (bys l)
  byte : ∀ d ∈ l, d < 256
  len : l.length ≤ 1099511627776
  lecap : l.length ≤ cc
  cap2 : cc ≤ 9223372036854775807
theorem ByIn.below {w w' : World} {B : Nat} {ac : Option Addr} {l : List Nat} {cc : Nat} (h : ByIn w ac l cc) (hb : Below B w w') (hB : w.heap.size ≤ B) : ByIn w' ac l cc :=
  ⟨h.cells.below hb hB, h.byte, h.len, h.lecap, h.cap2⟩

set_option maxRecDepth 100000 in
set_option maxHeartbeats 2000000 in
theorem decode_any (ao : Option Addr) (bs : List Chan) (cap : Nat) (ac : Option Addr) (l : List Nat) (cc : Nat) (w : World) (hb : BookIn w ao bs cap) (hc : ByIn w ac l cc) :
    Calls Tryz.prog 39 #[.slice ao bs.length cap, .slice ac l.length cc] w fun e w' => DecRes w.heap.size (decR bs l) (decErr bs l) e w' ∧ Below w.heap.size w w' := by
  have HB := Lib.hid hb; have HC := Lib.hid hc
  have hlen := hb.len
  have hcl := hc.len
  have hbw := (Below.refl w.heap.size w).alloc (Nat.le_refl _) (.cells #[.int .i64 0, .slice none 0 0] 43)
  have hb1 := hb.below hbw (Nat.le_refl _)
  have hck := checkBook_any ao bs cap _ hb1.cells (by omega) hb1.lecap hb1.cap2 hb1.names hb1.rates
  have HCK := Lib.hid hck
  have HX := Lib.hid (Blk.new w 43 #[.int .i64 0, .slice none 0 0])
  clear hb hc hb1 hck
  by_cases h1 : bookErr bs = 0
  · have hok := bookErr_zero h1
    have H1 := Lib.hid h1
    have HR : Hid (decR bs l = match firstR bs l with | some p => if p.2 = l.length then some p.1 else none | none => none) := Lib.hid (by rw [decR, if_pos h1])
    have HE : Hid (decErr bs l = if (decR bs l).isSome then 0 else 5) := Lib.hid (by rw [decErr, if_neg (by simpa using h1)])
    have hfc := fun (W : World) (h : BookIn W ao bs cap) (h2 : ByIn W ac l cc) => first_code ao bs cap ac l cc W h hok h2.cells h2.byte h2.len h2.lecap h2.cap2
    have HFC := Lib.hid hfc
    clear h1 hok hfc
    go_enter Tryz.func39, Tryz.ntmps39
    go_wp2_with fail
    refine HCK.out.mono ?_
    rintro e w1 ⟨rfl, hb1⟩
    rw [H1.out]
    have hx1 := HX.out.below hb1 (by simp)
    have hbe1 := hbw.trans (hb1.mono (by simp))
    have hz1 := hb1.size
    simp only [World.size_alloc] at hz1
    have HX1 := Lib.hid hx1
    clear hb1 hx1
    go_wp2_with fail
    refine (HFC.out w1 (HB.out.below hbe1 (Nat.le_refl _)) (HC.out.below hbe1 (Nat.le_refl _))).mono ?_
    rintro e w2 ⟨hres, hb2⟩
    have hx2 := HX1.out.below hb2 (by omega)
    have hbe2 := hbe1.trans (hb2.mono (by omega))
    have hz2 := hb2.size
    have HX2 := Lib.hid hx2
    clear hb2 hx2 HCK HFC HX HX1
    cases hf : firstR bs l with
    | none =>
      rw [hf] at hres
      obtain rfl : e = .returned (.tuple #[.agg #[.int .i64 0, .slice none 0 0], .slice none 0 0, .bool false]) := hres
      have hr : decR bs l = none := by rw [HR.out, hf]
      have he : decErr bs l = 5 := by rw [HE.out, hr]; rfl
      have HR2 := Lib.hid hr; have HE2 := Lib.hid he
      have hbe3 := hbe2.alloc (by omega) (.cells #[.int .i64 0, .slice none 0 0] 43)
      have hx3 := HX2.out.alloc (.cells #[.int .i64 0, .slice none 0 0] 43)
      have x0 := hx3.c0
      have x1 := hx3.c1
      have y0 := hx3.free 0
      have y1 := hx3.free 1
      clear hr he hf hx3
      go_wp2_with fail
      (try simp only [Exit.inBlock, Exit.then])
      refine bodyPost_ret (v := .tuple #[.agg #[.int .i64 0, .slice none 0 0], .int .i64 5]) (by rw [results_cell_tmp rfl]; go_simp) rfl ⟨by rw [HR2.out, HE2.out]; exact rfl, ?_⟩
      exact (hbe3.setCell (p := ⟨w.heap.size, 0, none⟩) (Nat.le_refl _) _).setCell (p := ⟨w.heap.size, 1, none⟩) (Nat.le_refl _) _
    | some p =>
      obtain ⟨⟨st, xss⟩, n⟩ := p
      rw [hf] at hres
      obtain ⟨v, c2, rfl, hfo⟩ := hres
      obtain ⟨a, c, vs, rfl, -, -, -⟩ := hfo.cells
      have hbe3 := hbe2.alloc (by omega) (.cells #[.int .i64 st, .slice a xss.length c] 43)
      have hx3 := HX2.out.alloc (.cells #[.int .i64 st, .slice a xss.length c] 43)
      have x0 := hx3.c0
      have x1 := hx3.c1
      have y0 := hx3.free 0
      have y1 := hx3.free 1
      have HX3 := Lib.hid hx3
      have HFO := Lib.hid hfo
      clear hx3 hfo
      by_cases hn : n = l.length
      · have hr : decR bs l = some (st, xss) := by rw [HR.out, hf]; simp [hn]
        have he : decErr bs l = 0 := by rw [HE.out, hr]; rfl
        have HR2 := Lib.hid hr; have HE2 := Lib.hid he
        have hf3 := Blk.new w2 43 #[.int .i64 st, .slice a xss.length c]
        have z0 := hf3.c0
        have z1 := hf3.c1
        have hne : ((n : Int) != l.length) = false := by simp [hn]
        have hfo3 := (HFO.out.base (show w.heap.size ≤ w1.heap.size by omega)).kept (World.grownBy_alloc w2 (.cells #[.int .i64 st, .slice a xss.length c] 43) none) (fun k e => by simp at e)
        have hgs0 := grown_set (w2.alloc (.cells #[.int .i64 st, .slice a xss.length c] 43)) ⟨w.heap.size, 0, none⟩ (.int .i64 st)
        have hgs1 := grown_set ((w2.alloc (.cells #[.int .i64 st, .slice a xss.length c] 43)).setCell ⟨w.heap.size, 0, none⟩ (.int .i64 st)) ⟨w.heap.size, 1, none⟩ (.slice a xss.length c)
        have hfo6 := (hfo3.kept_blk hgs0 HX3.out (by decide) (by decide)).kept_blk hgs1 (HX3.out.set0 _) (by decide) (by decide)
        have HFO6 := Lib.hid hfo6
        clear hr he hf hn hf3 hfo3 hgs0 hgs1 hfo6
        go_wp2_with fail
        (try simp only [Exit.inBlock, Exit.then])
        refine bodyPost_ret (v := .tuple #[.agg #[.int .i64 st, .slice a xss.length c], .int .i64 0]) (by rw [results_cell_tmp rfl]; go_simp) rfl ⟨by rw [HR2.out, HE2.out]; exact ⟨_, rfl, HFO6.out⟩, ?_⟩
        exact (hbe3.setCell (p := ⟨w.heap.size, 0, none⟩) (Nat.le_refl _) _).setCell (p := ⟨w.heap.size, 1, none⟩) (Nat.le_refl _) _
      · have hr : decR bs l = none := by rw [HR.out, hf]; simp [hn]
        have he : decErr bs l = 5 := by rw [HE.out, hr]; rfl
        have HR2 := Lib.hid hr; have HE2 := Lib.hid he
        have hne : ((n : Int) != l.length) = true := by rw [bne_iff_ne]; omega
        clear hr he hf
        go_wp2_with fail
        (try simp only [Exit.inBlock, Exit.then])
        refine bodyPost_ret (v := .tuple #[.agg #[.int .i64 0, .slice none 0 0], .int .i64 5]) (by rw [results_cell_tmp rfl]; go_simp) rfl ⟨by rw [HR2.out, HE2.out]; exact rfl, ?_⟩
        exact (hbe3.setCell (p := ⟨w.heap.size, 0, none⟩) (Nat.le_refl _) _).setCell (p := ⟨w.heap.size, 1, none⟩) (Nat.le_refl _) _
  · have hr : decR bs l = none := by rw [decR, if_neg h1]
    have he : decErr bs l = bookErr bs := by rw [decErr, if_pos h1]
    have HR2 := Lib.hid hr; have HE2 := Lib.hid he
    have h3 : (bookErr bs != 0) = true := by simpa using h1
    have h4 : (bookErr bs == 0) = false := by simpa using h1
    clear hr he
    go_enter Tryz.func39, Tryz.ntmps39
    go_wp2_with fail
    refine HCK.out.mono ?_
    rintro e w1 ⟨rfl, hb1⟩
    have hx1 := HX.out.below hb1 (by simp)
    have hbe1 := hbw.trans (hb1.mono (by simp))
    have x0 := hx1.c0
    have x1 := hx1.c1
    have y0 := hx1.free 0
    have y1 := hx1.free 1
    clear hx1 hb1
    go_wp2_with fail
    (try simp only [Exit.inBlock, Exit.then])
    refine bodyPost_ret (v := .tuple #[.agg #[.int .i64 0, .slice none 0 0], .int .i64 (bookErr bs)]) (by rw [results_cell_tmp rfl]; go_simp) rfl ⟨by rw [HR2.out, HE2.out]; exact rfl, ?_⟩
    exact (hbe1.setCell (p := ⟨w.heap.size, 0, none⟩) (Nat.le_refl _) _).setCell (p := ⟨w.heap.size, 1, none⟩) (Nat.le_refl _) _
end Go.Proofs.YtoochleabcjljaaGreatDoor

/- Codes: the frame that bytes would be the code of, as the reference reads it. -/
namespace Go.Proofs.YtoochleabcjljaaGreatDoor
open Go.RowKit

/-- what loose returns -/
def LooseRes (base : Nat) (bs : List Chan) (l : List Nat) (e : Ending) (w' : World) : Prop :=
  (looseC l ∧ ∃ v, e = .returned (.tuple #[.agg #[.int .i64 (startR l : Nat), v], .int .i64 (endR l : Nat), .bool (!(rowsF bs l).2)]) ∧ FrO base w' v (rowsF bs l).1) ∨
  (¬ looseC l ∧ e = .returned (.tuple #[.agg #[.int .i64 0, .slice none 0 0], .int .i64 0, .bool false]))
theorem chF'_length (bs : List Chan) : ∀ (r : List Nat) (ov : Bool) (acc : List (List Int)), (chF' bs r ov acc).1.length = acc.length + bs.length := by
  induction bs with
  | nil => intro r ov acc; rfl
  | cons c bs ih => intro r ov acc; rw [chF', ih]; simp; omega

set_option maxRecDepth 100000 in
set_option maxHeartbeats 4000000 in
theorem loose_any (ao : Option Addr) (bs : List Chan) (cap : Nat) (ac : Option Addr) (l : List Nat) (cc : Nat) (w : World) (hb : BookIn w ao bs cap) (hok : bookOK bs = true) (hc : ByIn w ac l cc) :
    Calls Tryz.prog 133 #[.slice ao bs.length cap, .slice ac l.length cc] w fun e w' => LooseRes w.heap.size bs l e w' ∧ Below w.heap.size w w' := by
  have hbw := (Below.refl w.heap.size w).alloc (Nat.le_refl _) (.cells #[.int .i64 0, .slice none 0 0] 43)
  have hl := hc.len; have hcap := hc.lecap; have hcap2 := hc.cap2
  by_cases h11 : 11 ≤ l.length
  · obtain ⟨d0, hd0⟩ := get_of_lt (show 0 < l.length by omega)
    obtain ⟨d1, hd1⟩ := get_of_lt (show 1 < l.length by omega)
    obtain ⟨d2, hd2⟩ := get_of_lt (show 2 < l.length by omega)
    obtain ⟨d3, hd3⟩ := get_of_lt (show 3 < l.length by omega)
    obtain ⟨b, off, rfl⟩ := hc.cells.addr (bys_ne (by omega))
    have c0 := cell_keep (hc.cells.at (bys_get hd0)) hbw (Nat.le_refl _)
    rw [Nat.add_zero] at c0
    have c1 := cell_keep (hc.cells.at (bys_get hd1)) hbw (Nat.le_refl _)
    have c2 := cell_keep (hc.cells.at (bys_get hd2)) hbw (Nat.le_refl _)
    have c3 := cell_keep (hc.cells.at (bys_get hd3)) hbw (Nat.le_refl _)
    have e2 := hc.byte d2 (List.mem_of_getElem? hd2)
    have e3 := hc.byte d3 (List.mem_of_getElem? hd3)
    have i0 : (0 : Int) < l.length := by omega
    have i1 : (1 : Int) < l.length := by omega
    have i2 : (2 : Int) < l.length := by omega
    have i3 : (3 : Int) < l.length := by omega
    have h11i : ¬ (l.length : Int) < 11 := by omega
    by_cases h0 : d0 = 165
    · subst h0
      by_cases h1 : d1 = 90
      · subst h1
        have hen : endR l = 4 + d2 * 256 + d3 + 3 := by unfold endR; rw [getD_of hd2, getD_of hd3]
        have w2 : wrap64 (d2 : Int) = d2 := by simp only [wrap64]; omega
        have w3 : wrap64 (d3 : Int) = d3 := by simp only [wrap64]; omega
        by_cases hend : endR l ≤ l.length ∧ 11 ≤ endR l
        · obtain ⟨hend, hend2⟩ := hend
          have HC := Lib.hid hc; have HB := Lib.hid hb; have HOK := Lib.hid hok
          obtain ⟨en, hen2⟩ : ∃ en, en = endR l := ⟨_, rfl⟩
          have hbs16 : bs.length ≤ 16 ∧ 1 ≤ bs.length := by
            have := hok
            simp only [bookOK, inB, Bool.and_eq_true, decide_eq_true_eq] at this
            omega
          obtain ⟨hbs16, hbs1⟩ := hbs16
          have HCND : Hid (looseC l) := Lib.hid ⟨h11, getD_of hd0, getD_of hd1, hend, hend2⟩
          rw [← hen2] at hen hend hend2
          have hEN : (7 : Int) + 256 * (d2 : Int) + d3 = (en : Int) := by omega
          have hlt : ¬ (l.length : Int) < 7 + 256 * (d2 : Int) + d3 := by omega
          have hlt2 : ¬ (7 + 256 * (d2 : Int) + d3) < 11 := by omega
          have HE2 := Lib.hid hen2
          have HEN := Lib.hid hEN
          have hbd := bel_drewN hbw
          have HEN3 := Lib.hid hen
          clear hEN hc hb hok hen2 hen
          go_enter Tryz.func133, Tryz.ntmps133
          go_wp2_with fail
          go_quiet (fail)
          have k3 : IntKind.i64.wrap ((en : Int) - 3) = (en : Int) - 3 := IntWalk.i64_in _ (by omega)
          have k4 : (4 : Int) ≤ (en : Int) - 3 := by omega
          have k5 : (en : Int) - 3 ≤ cc := by omega
          have k6 : (0 : Int) ≤ (en : Int) - 3 := by omega
          have k7 : ((en : Int) - 3).toNat = en - 3 := by omega
          have k8 : ¬ (en - 3 - 4 = 0) := by omega
          have k9 : ¬ (cc = 4) := by omega
          have k10 : ¬ (cc ≤ 4) := by omega
          have k11 : ¬ (l.length : Int) < (en : Int) := by omega
          have k12 : ¬ ((en : Int) < 11) := by omega
          rw [HEN.out]
          clear HEN hlt hlt2 w2 w3 c0 c1 c2 c3 hd0 hd1 hd2 hd3
          go_wp2_with fail
          have hblt : b < w.heap.size := by
            have h1 := HC.out.cells.at (bys_get (get_of_lt (show 0 < l.length by omega)).choose_spec)
            have h2 := World.block_lt_of_cell? w _ h1
            simpa using h2
          obtain ⟨body, hbody⟩ : ∃ body, body = (l.take (en - 3)).drop 4 := ⟨_, rfl⟩
          have hbl : body.length = en - 3 - 4 := by rw [hbody, List.length_drop, List.length_take]; omega
          have hcb : Cells w (some ⟨b, off + 4, none⟩) (bys body) := by
            refine .inr ⟨b, off + 4, rfl, fun j u hu => ?_⟩
            have h1 : (bys l)[4 + j]? = some u := by
              rw [← hu, hbody, bys, bys, List.map_drop, List.map_take, List.getElem?_drop, List.getElem?_take, if_pos]
              have := (List.getElem?_eq_some_iff.1 hu).1
              rw [bys_length] at this; omega
            have h2 := HC.out.cells.at h1
            rwa [← Nat.add_assoc] at h2
          have hbd256 : ∀ d ∈ body, d < 256 := fun d hd => HC.out.byte d (List.mem_of_mem_take (List.mem_of_mem_drop (by rw [← hbody]; exact hd)))
          have hw1 := (bel_drewN hbw nq).alloc (by simp) (.cells #[.slice (some ⟨b, off + 4, none⟩) (en - 3 - 4) (cc - 4), .int .i64 0, .bool false] 245)
          have hbx1 : Blk (((w.alloc (.cells #[.int .i64 0, .slice none 0 0] 43)).drewN nq).alloc (.cells #[.slice (some ⟨b, off + 4, none⟩) (en - 3 - 4) (cc - 4), .int .i64 0, .bool false] 245)) w.heap.size 43 #[.int .i64 0, .slice none 0 0] := Blk.alloc (W := (w.alloc (.cells #[.int .i64 0, .slice none 0 0] 43)).drewN nq) (Blk.new w 43 #[.int .i64 0, .slice none 0 0]) _
          have hrd1 : RdF w.heap.size (w.heap.size + 1) body (((w.alloc (.cells #[.int .i64 0, .slice none 0 0] 43)).drewN nq).alloc (.cells #[.slice (some ⟨b, off + 4, none⟩) (en - 3 - 4) (cc - 4), .int .i64 0, .bool false] 245)) (unB body) false := by
            refine ⟨by omega, some ⟨b, off + 4, none⟩, cc - 4, 0, Nat.zero_le _, rfl, ?_, hcb.below hw1 (Nat.le_refl _), fun b' off' e => by simp at e; omega⟩
            have h1 := World.alloc_heap_new ((w.alloc (.cells #[.int .i64 0, .slice none 0 0] 43)).drewN nq) (.cells #[.slice (some ⟨b, off + 4, none⟩) (en - 3 - 4) (cc - 4), .int .i64 0, .bool false] 245)
            have h2 : ((w.alloc (.cells #[.int .i64 0, .slice none 0 0] 43)).drewN nq).heap.size = w.heap.size + 1 := by simp
            rw [h2] at h1
            rw [hbl]; exact h1
          have hz1 : (((w.alloc (.cells #[.int .i64 0, .slice none 0 0] 43)).drewN nq).alloc (.cells #[.slice (some ⟨b, off + 4, none⟩) (en - 3 - 4) (cc - 4), .int .i64 0, .bool false] 245)).heap.size = w.heap.size + 2 := by simp
          generalize ((w.alloc (.cells #[.int .i64 0, .slice none 0 0] 43)).drewN nq).alloc (.cells #[.slice (some ⟨b, off + 4, none⟩) (en - 3 - 4) (cc - 4), .int .i64 0, .bool false] 245) = W1 at *
          have htk := refTake w.heap.size (w.heap.size + 1) body (unB body) false 32 W1 hrd1 hbd256 (by omega) (by omega)
          have hrow : rowsF bs l = chF' bs (takeR (unB body) 32).2 (!(takeR (unB body) 32).1.2) [] := by rw [rowsF, ← HE2.out, ← hbody]
          have hsta : startR l = (takeR (unB body) 32).1.1 := by rw [startR, ← HE2.out, ← hbody]
          have HTK := Lib.hid htk; have HROW := Lib.hid hrow; have HSTA := Lib.hid hsta
          have HW1 := Lib.hid hw1; have HBX1 := Lib.hid hbx1; have HBD := Lib.hid hbd256
          clear htk hrow hw1 hbx1 hbd256 hrd1 hcb hbody hsta
          generalize takeR (unB body) 32 = T at *
          obtain ⟨⟨st, okt⟩, r1⟩ := T
          simp only at HROW HSTA
          clear hbd hbw HEN3
          refine HTK.out.mono ?_
          rintro e w2 ⟨rfl, hs2, hg2⟩
          simp only [Bool.false_or] at hs2
          have hbx2 := HBX1.out.kept hg2 (by simp)
          have hb2 : Below w.heap.size w w2 := HW1.out.grown hg2 (by omega) (fun k e => by simp at e; omega)
          have hz2 := hg2.size
          have HS2 := Lib.hid hs2
          clear hg2 hs2 HTK HBX1 HW1
          go_wp2_with fail
          have hbx3 := hbx2.alloc (.cells #[.int .i64 (st : Nat), .slice none 0 0] 43)
          have hf3 := Blk.new w2 43 #[.int .i64 (st : Nat), .slice none 0 0]
          have hb3 := hb2.alloc (by omega) (.cells #[.int .i64 (st : Nat), .slice none 0 0] 43)
          have hs3 := HS2.out.kept (World.grownBy_alloc w2 (.cells #[.int .i64 (st : Nat), .slice none 0 0] 43) none) (fun k e => by simp at e)
          obtain ⟨rows, hrows⟩ : ∃ rows, rows = rowsF bs l := ⟨_, rfl⟩
          rw [← hrows] at HROW
          have HR0 := Lib.hid hrows
          have hz3 : (w2.alloc (.cells #[.int .i64 (st : Nat), .slice none 0 0] 43)).heap.size = w2.heap.size + 1 := by simp
          have HBX3 := Lib.hid hbx3; have HF3 := Lib.hid hf3; have HB3 := Lib.hid hb3; have HS3 := Lib.hid hs3
          clear hbx3 hf3 hb3 hs3 hbx2 hb2 HS2 hrows
          go_loopw [10] (fun i wr => ∃ (k : Nat) (s : List Nat) (ov : Bool) (acc : List (List Int)) (v : Value), k ≤ bs.length ∧ i = .int .i64 k ∧ RdF w.heap.size (w.heap.size + 1) body wr s ov ∧ Blk wr w.heap.size 43 #[.int .i64 0, .slice none 0 0] ∧ Blk wr w2.heap.size 43 #[.int .i64 (st : Nat), v] ∧ FrO w.heap.size wr v acc ∧ acc.length = k ∧ chF' (bs.drop k) s ov acc = rows ∧ Below w.heap.size w wr ∧ w2.heap.size < wr.heap.size) (fun i _ => bs.length - (intOf i).toNat)
          case atStart => exact ⟨0, r1, !okt, [], _, Nat.zero_le _, rfl, HS3.out, HBX3.out, HF3.out, FrO.nil _ _, rfl, HROW.out.symm, HB3.out, by omega⟩
          case round =>
            clear HS3 HBX3 HB3 HF3 hz3
            obtain ⟨k, s, ov, acc, v, hk, rfl, hrd, hbx, hf, hfo, hal, hch, hbe, hzr⟩ := hrel
            by_cases hlt : k < bs.length
            · obtain ⟨c, hx⟩ := get_of_lt hlt
              obtain ⟨bb, bo, rfl⟩ := HB.out.cells.addr (chs_ne (by omega))
              obtain ⟨g0, g1, g2⟩ := chs_get hx
              have c1 := cell_keep (HB.out.cells.at g1) hbe (Nat.le_refl _)
              rw [← Nat.add_assoc] at c1
              obtain ⟨q1, q2, -, -⟩ := book_get HOK.out hx
              obtain ⟨m, hm⟩ := Int.eq_ofNat_of_zero_le (show 0 ≤ c.rate by omega)
              have hch2 : chF' (bs.drop k) s ov acc = chF' (bs.drop (k + 1)) (chanF m s ov).2 (chanF m s ov).1.2 (acc ++ [(chanF m s ov).1.1]) := by
                rw [List.drop_eq_getElem_cons hlt, (List.getElem?_eq_some_iff.1 hx).2, chF', hm, Int.toNat_natCast]
              have hi1 : (k : Int) < bs.length := by omega
              have hi2 : (0 : Int) ≤ k := by omega
              rw [hm] at c1 q1 q2
              have hra := fun wx (h : RdF w.heap.size (w.heap.size + 1) body wx s ov) => refChannel2 w.heap.size (w.heap.size + 1) body s ov m wx h HBD.out (by omega) (by omega)
              obtain ⟨crd, hcrd⟩ := hrd.blk
              have z1 := hf.c1
              have z2 := hf.free 1
              have HCRD := Lib.hid hcrd
              have HRA := Lib.hid hra; have HF := Lib.hid hf; have HFO := Lib.hid hfo; have HBX := Lib.hid hbx; have HCH := Lib.hid (hch2.symm.trans hch); have HX := Lib.hid hx; have HRD := Lib.hid hrd
              obtain ⟨i0, hi, hy0, hy1, hy2⟩ := info_parts Tryz.infoInts
              have hcl : ∀ x, x = chanF m s ov → RdF w.heap.size (w.heap.size + 1) body wr.drew s ov := fun _ _ => hrd
              have HRDD := Lib.hid (hcl _ rfl)
              clear hra hf hfo hbx hch hch2 hx hrd g0 g1 g2 hm hcrd hcl
              generalize chanF m s ov = R at *
              obtain ⟨⟨xs, ov2⟩, s2⟩ := R
              go_wp2
              have hbb : bb < w.heap.size := by
                have h1 := HB.out.cells.at (chs_get HX.out).1
                have h2 := World.block_lt_of_cell? w _ h1
                simpa using h2
              go_region_law (first
                  | (refine step_append_lies _ (by rfl) _ _ _ (by rfl) w.heap.size 22 i0 _ 1 24 Tryz.underlying41 hi hy0 hy1 hy2 rfl (by omega) v acc.length vs (by rfl) (HOV.out.alloc _) ⟨w4.heap.size, 0, none⟩ 1 1 [.slice xa xs.length xc] (by rfl) (by rfl) (news1 _ _ _) (by simp [Value.oneCell']) (by omega) (by unfold maxLen; omega) (by omega) (by simp; omega) (w4.heap.size + 1) (by simp) ?_
                     intro g1 cg1 w5 hown5 hgrow hat hlt1
                     have hf5 := (HF4.out.alloc (.cells #[.slice xa xs.length xc] 22)).kept hgrow (fun e => blk_own_ne HF4.out HOV.out (by decide) e.symm)
                     have z1r := hf5.c1
                     have y2 := hf5.free 1
                     skip)
                  | (go_simp
                     go_at_call 185
                     refine (HRA.out _ HRDD.out).mono ?_
                     rintro e w4 ⟨⟨vx, rfl, hox⟩, hs4, hg4⟩
                     have hgw : wr.grownBy w4 (some (w.heap.size + 1)) := ⟨hg4.os, hg4.tape, hg4.output, hg4.size, hg4.block⟩
                     have z1q := hgw.cell z1 (by simp; omega)
                     have c1q := hgw.cell c1 (by simp; omega)
                     have z1t : ∀ x, (w4.alloc (.cells #[x] 22)).cell? ⟨w2.heap.size, 1, none⟩ = some v := fun x => (World.grownBy_alloc w4 (.cells #[x] 22) none).cell z1q (by simp)
                     have hfo4 := HFO.out.kept_blk hgw HCRD.out (by decide) (by decide)
                     have hf4 := HF.out.kept hgw (by simp; omega)
                     have hbx4 := HBX.out.kept hgw (by simp)
                     have hbe4 := hbe.grown hgw (by omega) (fun k e => by simp at e; omega)
                     have hz4 := hgw.size
                     obtain ⟨vs, hvl, hov, hrs⟩ := hfo4
                     have HS4 := Lib.hid hs4; have HOX := Lib.hid (own_base hox (show w.heap.size ≤ wr.drew.heap.size by show w.heap.size ≤ wr.heap.size; omega)); have HOV := Lib.hid hov; have HRS := Lib.hid hrs; have HVL := Lib.hid hvl; have HF4 := Lib.hid hf4; have HBX4 := Lib.hid hbx4; have HB4 := Lib.hid hbe4
                     obtain ⟨xa, xc, rfl, -⟩ := own_cells HOX.out
                     clear hs4 hox hov hrs hvl hf4 hbx4 hbe4 hgw hg4))
              all_goals
                have hrd5 := (HS4.out.kept (World.grownBy_alloc w4 (.cells #[.slice xa xs.length xc] 22) none) (fun k e => by simp at e)).kept hgrow (fun j e => ⟨(HOV.out.lt j e).1, fun e2 => by
                  obtain ⟨cs, hcs⟩ := HS4.out.blk
                  exact blk_own_ne hcs HOV.out (by decide) (by rw [← e2]; exact e)⟩)
                have hfo5 := FrO.snoc (w := w4.alloc (.cells #[.slice xa xs.length xc] 22)) (v' := .slice (some ⟨g1, 0, none⟩) (k + 1) cg1) (xss := acc) (xs := xs) HVL.out (fun i x xs hx hxs => (HRS.out i x xs hx hxs).alloc _) (HOV.out.alloc _) (HOX.out.alloc _) hgrow (by rw [hal] at hown5; rw [hal]; exact hown5)
                have hbx5 := (HBX4.out.alloc (.cells #[.slice xa xs.length xc] 22)).kept hgrow (fun e => blk_own_ne HBX4.out HOV.out (by decide) e.symm)
                have hbe5 := (HB4.out.alloc (by omega) (.cells #[.slice xa xs.length xc] 22)).grown hgrow (by simp; omega) (fun j e => (HOV.out.lt j e).1)
                have hz5 : w2.heap.size < w5.heap.size := by have := hgrow.size; simp at this; omega
                have hgs := grown_set w5 ⟨w2.heap.size, 1, none⟩ (.slice (some ⟨g1, 0, none⟩) (k + 1) cg1)
                have hrd6 := hrd5.kept hgs (fun j e => by simp at e; omega)
                have hfo6 := hfo5.kept_blk hgs hf5 (by decide) (by decide)
                have hf6 := hf5.set1 (.slice (some ⟨g1, 0, none⟩) (k + 1) cg1)
                have hbx6 := hbx5.other (B' := w2.heap.size) (by omega) 1 (.slice (some ⟨g1, 0, none⟩) (k + 1) cg1)
                have hbe6 := hbe5.setCell (p := ⟨w2.heap.size, 1, none⟩) (by simp; omega) (.slice (some ⟨g1, 0, none⟩) (k + 1) cg1)
                have HBX6 := Lib.hid hbx6; have HRD6 := Lib.hid hrd6; have HFO6 := Lib.hid hfo6; have HF6 := Lib.hid hf6
                clear hf5 hbx5 hgrow hown5 hat hlt1 hbx6 hbe5 hrd5 hfo5 hrd6 hfo6 hf6 hgs
                go_wp2
                go_roundw
                case rel => exact ⟨k + 1, s2, ov2, acc ++ [xs], _, by omega, by go_num, HRD6.out, HBX6.out, HF6.out, HFO6.out, by rw [List.length_append, hal]; rfl, HCH.out, hbe6, by simpa using hz5⟩
                case measure => simp [intOf]; omega
            · obtain rfl : k = bs.length := by omega
              rw [List.drop_length, chF'] at hch
              obtain ⟨h0, ra, rcap, rat, -, -, hrb, -, -⟩ := hrd
              have c2 : wr.cell? ⟨w.heap.size + 1, 2, none⟩ = some (.bool ov) := by rw [Lib.cell_of_heap hrb]; rfl
              obtain ⟨a, c, vs, rfl, -, -, -⟩ := hfo.cells
              rw [hal] at hf hfo
              have z0 := hf.c0
              have z1 := hf.c1
              have x0 := hbx.c0
              have x1 := hbx.c1
              have y0 := hbx.free 0
              have y1 := hbx.free 1
              have hgs0 := grown_set wr ⟨w.heap.size, 0, none⟩ (.int .i64 (st : Nat))
              have hgs1 := grown_set (wr.setCell ⟨w.heap.size, 0, none⟩ (.int .i64 (st : Nat))) ⟨w.heap.size, 1, none⟩ (.slice a bs.length c)
              have hfo6 := (hfo.kept_blk hgs0 hbx (by decide) (by decide)).kept_blk hgs1 (hbx.set0 _) (by decide) (by decide)
              have HFO6 := Lib.hid hfo6; have HRW := Lib.hid hch
              clear hf hfo hbx hch hgs0 hgs1 hfo6 hrb
              go_wp2_with fail
              go_region
              go_wp2
              (try simp only [Exit.inBlock, Exit.then])
              refine bodyPost_ret (v := .tuple #[.agg #[.int .i64 (st : Nat), .slice a bs.length c], .int .i64 (en : Nat), .bool (!ov)]) (by rw [results_cell2 rfl]; go_simp) rfl ⟨.inl ⟨HCND.out, _, by rw [HSTA.out, ← HE2.out, ← HR0.out, ← HRW.out], ?_⟩, ?_⟩
              · rw [← HR0.out, ← HRW.out]; exact HFO6.out
              · exact (hbe.drew.setCell (p := ⟨w.heap.size, 0, none⟩) (Nat.le_refl _) _).setCell (p := ⟨w.heap.size, 1, none⟩) (Nat.le_refl _) _
        · have hlc : ¬ looseC l := fun h => hend ⟨h.2.2.2.1, h.2.2.2.2⟩
          have HL := Lib.hid hlc
          clear hlc hc hb
          by_cases hlen : (l.length : Int) < 7 + 256 * (d2 : Int) + d3
          · go_enter Tryz.func133, Tryz.ntmps133
            go_wp2_with fail
            go_quiet (fail)
            go_wp2_with fail
            (try simp only [Exit.inBlock, Exit.then])
            refine bodyPost_ret (v := .tuple #[.agg #[.int .i64 0, .slice none 0 0], .int .i64 0, .bool false]) (by rw [results_cell2 rfl]; go_simp) rfl ⟨.inr ⟨HL.out, rfl⟩, ?_⟩
            exact ((bel_drewN hbw _).setCell (p := ⟨w.heap.size, 0, none⟩) (Nat.le_refl _) _).setCell (p := ⟨w.heap.size, 1, none⟩) (Nat.le_refl _) _
          · have hl11 : 7 + 256 * (d2 : Int) + d3 < 11 := by omega
            go_enter Tryz.func133, Tryz.ntmps133
            go_wp2_with fail
            go_quiet (fail)
            go_wp2_with fail
            (try simp only [Exit.inBlock, Exit.then])
            refine bodyPost_ret (v := .tuple #[.agg #[.int .i64 0, .slice none 0 0], .int .i64 0, .bool false]) (by rw [results_cell2 rfl]; go_simp) rfl ⟨.inr ⟨HL.out, rfl⟩, ?_⟩
            exact ((bel_drewN hbw _).setCell (p := ⟨w.heap.size, 0, none⟩) (Nat.le_refl _) _).setCell (p := ⟨w.heap.size, 1, none⟩) (Nat.le_refl _) _
      · have hlc : ¬ looseC l := fun h => h1 (by have := h.2.2.1; rw [getD_of hd1] at this; exact this)
        have HL := Lib.hid hlc
        have hne : ((d1 : Int) != 90) = true := by rw [bne_iff_ne]; omega
        clear hlc hc hb
        go_enter Tryz.func133, Tryz.ntmps133
        go_wp2_with fail
        (try simp only [Exit.inBlock, Exit.then])
        refine bodyPost_ret (v := .tuple #[.agg #[.int .i64 0, .slice none 0 0], .int .i64 0, .bool false]) (by rw [results_cell2 rfl]; go_simp) rfl ⟨.inr ⟨HL.out, rfl⟩, ?_⟩
        exact hbw
    · have hlc : ¬ looseC l := fun h => h0 (by have := h.2.1; rw [getD_of hd0] at this; exact this)
      have HL := Lib.hid hlc
      have hne : ((d0 : Int) != 165) = true := by rw [bne_iff_ne]; omega
      clear hlc hc hb
      go_enter Tryz.func133, Tryz.ntmps133
      go_wp2_with fail
      (try simp only [Exit.inBlock, Exit.then])
      refine bodyPost_ret (v := .tuple #[.agg #[.int .i64 0, .slice none 0 0], .int .i64 0, .bool false]) (by rw [results_cell2 rfl]; go_simp) rfl ⟨.inr ⟨HL.out, rfl⟩, ?_⟩
      exact hbw
  · have hlc : ¬ looseC l := fun h => h11 h.1
    have HL := Lib.hid hlc
    have h11i : (l.length : Int) < 11 := by omega
    clear hlc hc hb
    go_enter Tryz.func133, Tryz.ntmps133
    go_wp2_with fail
    (try simp only [Exit.inBlock, Exit.then])
    refine bodyPost_ret (v := .tuple #[.agg #[.int .i64 0, .slice none 0 0], .int .i64 0, .bool false]) (by rw [results_cell2 rfl]; go_simp) rfl ⟨.inr ⟨HL.out, rfl⟩, ?_⟩
    exact hbw
end Go.Proofs.YtoochleabcjljaaGreatDoor

/- Codes: the frame with whose code bytes begin, as the reference finds it. -/
namespace Go.Proofs.YtoochleabcjljaaGreatDoor
open Go.RowKit

instance (l : List Nat) : Decidable (looseC l) := inferInstanceAs (Decidable (_ ∧ _))
theorem begins_eq {bs : List Chan} (hok : bookOK bs = true) (l : List Nat) :
    firstR bs l = if looseC l ∧ (rowsF bs l).2 = false ∧ frOK bs (startR l : Nat) (rowsF bs l).1 = true ∧ encB (startR l : Nat) (rowsF bs l).1 = l.take (endR l) then some ((((startR l : Nat) : Int), (rowsF bs l).1), endR l) else none := by
  cases h : firstR bs l with
  | some q =>
    obtain ⟨p, n⟩ := q
    obtain ⟨h1, h2, h3, h4⟩ := begins_some h
    obtain ⟨s1, s2, -⟩ := firstR_sound (st := p.1) (xss := p.2) h
    subst h4
    rw [h3] at s1 s2
    rw [h2]
    rw [if_pos ⟨h1, rfl, s1, s2⟩, ← h3]
  | none =>
    split
    · rename_i hc
      exact absurd h (fun h => begins_none hok h hc.2.2.1 _ hc.2.2.2)
    · rfl
/-- what begins returns -/
def BegRes (base : Nat) (res : Option (Fr × Nat)) (e : Ending) (w' : World) : Prop := match res with
  | some p => ∃ v, e = .returned (.tuple #[.agg #[.int .i64 p.1.1, v], .int .i64 (p.2 : Nat), .bool true]) ∧ FrO base w' v p.1.2
  | none => e = .returned (.tuple #[.agg #[.int .i64 0, .slice none 0 0], .int .i64 0, .bool false])

set_option maxRecDepth 100000 in
set_option maxHeartbeats 4000000 in
theorem begins_any (ao : Option Addr) (bs : List Chan) (cap : Nat) (ac : Option Addr) (l : List Nat) (cc : Nat) (w : World) (hb : BookIn w ao bs cap) (hok : bookOK bs = true) (hc : ByIn w ac l cc) :
    Calls Tryz.prog 83 #[.slice ao bs.length cap, .slice ac l.length cc] w fun e w' => BegRes w.heap.size (firstR bs l) e w' ∧ Below w.heap.size w w' := by
  have hbw := (Below.refl w.heap.size w).alloc (Nat.le_refl _) (.cells #[.int .i64 0, .slice none 0 0] 43)
  have hlo := loose_any ao bs cap ac l cc _ (hb.below hbw (Nat.le_refl _)) hok (hc.below hbw (Nat.le_refl _))
  have hbeq := begins_eq hok l
  have HB := Lib.hid hb; have HC := Lib.hid hc; have HOK := Lib.hid hok; have HLO := Lib.hid hlo; have HEQ := Lib.hid hbeq
  have hcl := hc.len; have hcap := hc.lecap; have hcap2 := hc.cap2
  have hbl := hb.len
  have HX := Lib.hid (Blk.new w 43 #[.int .i64 0, .slice none 0 0])
  clear hb hok hc hlo hbeq
  go_enter Tryz.func83, Tryz.ntmps83
  go_wp2_with fail
  refine HLO.out.mono ?_
  rintro e w1 ⟨hres, hb1⟩
  have hx1 := HX.out.below hb1 (by simp)
  have hbe1 := hbw.trans (hb1.mono (by simp))
  have hz1 := hb1.size
  simp only [World.size_alloc] at hz1
  have HX1 := Lib.hid hx1
  clear hx1 hb1 HLO HX
  unfold LooseRes at hres
  rcases hres with ⟨hlc, v, rfl, hfo⟩ | ⟨hlc, rfl⟩
  · have HLC := Lib.hid hlc; clear hlc
    obtain ⟨xss, hxss⟩ : ∃ xss, xss = (rowsF bs l).1 := ⟨_, rfl⟩
    obtain ⟨ov, hov⟩ : ∃ ov, ov = (rowsF bs l).2 := ⟨_, rfl⟩
    obtain ⟨st, hst⟩ : ∃ st, st = startR l := ⟨_, rfl⟩
    obtain ⟨en, hen⟩ : ∃ en, en = endR l := ⟨_, rfl⟩
    have hen1 : en ≤ l.length := by rw [hen]; exact HLC.out.2.2.2.1
    rw [← hxss, ← hst, ← hov, ← hen] at HEQ
    rw [← hxss] at hfo
    rw [← hst, ← hov, ← hen]
    obtain ⟨a, c, vs, rfl, hca, hrv, hal2⟩ := hfo.cells
    have hbe3 := hbe1.alloc (by omega) (.cells #[.int .i64 (st : Nat), .slice a xss.length c] 43)
    have hb3 := (Below.refl w1.heap.size w1).alloc (Nat.le_refl _) (.cells #[.int .i64 (st : Nat), .slice a xss.length c] 43)
    have hx3 := HX1.out.alloc (.cells #[.int .i64 (st : Nat), .slice a xss.length c] 43)
    have hf3 := Blk.new w1 43 #[.int .i64 (st : Nat), .slice a xss.length c]
    have hfo3 := (hfo.base (show w.heap.size ≤ (w.alloc (.cells #[.int .i64 0, .slice none 0 0] 43)).heap.size by simp)).kept (World.grownBy_alloc w1 (.cells #[.int .i64 (st : Nat), .slice a xss.length c] 43) none) (fun k e => by simp at e)
    have HX3 := Lib.hid hx3; have HF3 := Lib.hid hf3; have HFO3 := Lib.hid hfo3; have HCA := Lib.hid hca; have HRV := Lib.hid hrv
    have HS := Lib.hid (And.intro hxss (And.intro hov (And.intro hst hen)))
    clear hfo hx3 hf3 hfo3 hxss hov hst hen hca hrv
    have z0 := HF3.out.c0
    have z1 := HF3.out.c1
    cases ov with
    | true =>
      have hn : firstR bs l = none := by rw [HEQ.out, if_neg (by simp)]
      have HN := Lib.hid hn; clear hn
      have x0 := HX3.out.c0
      have x1 := HX3.out.c1
      have y0 := HX3.out.free 0
      have y1 := HX3.out.free 1
      have hbd := fun n => bel_drewN hbe3 n
      go_wp2_with fail
      go_quiet (fail)
      go_wp2_with fail
      (try simp only [Exit.inBlock, Exit.then])
      refine bodyPost_ret (v := .tuple #[.agg #[.int .i64 0, .slice none 0 0], .int .i64 0, .bool false]) (by rw [results_cell2 rfl]; go_simp) rfl ⟨by rw [HN.out]; exact rfl, ?_⟩
      exact ((bel_drewN hbe3 _).setCell (p := ⟨w.heap.size, 0, none⟩) (Nat.le_refl _) _).setCell (p := ⟨w.heap.size, 1, none⟩) (Nat.le_refl _) _
    | false =>
      have hfb := refFrame_any ao bs cap (st : Nat) a vs xss c
      have HFB := Lib.hid hfb
      have hlt : (l.take en).length = en := by rw [List.length_take]; omega
      have HLT := Lib.hid hlt
      clear hfb hlt
      have z0d : (w1.alloc (.cells #[.int .i64 (st : Nat), .slice a xss.length c] 43)).drew.cell? ⟨w1.heap.size, 0, none⟩ = some (.int .i64 (st : Nat)) := z0
      have z1d : (w1.alloc (.cells #[.int .i64 (st : Nat), .slice a xss.length c] 43)).drew.cell? ⟨w1.heap.size, 1, none⟩ = some (.slice a xss.length c) := z1
      have hsz3 : (w1.alloc (.cells #[.int .i64 (st : Nat), .slice a xss.length c] 43)).heap.size = w1.heap.size + 1 := by simp
      have HSZ3 := Lib.hid hsz3
      have HB3 := Lib.hid hbe3; have HB3' := Lib.hid hb3
      clear hsz3 hbe3 hb3
      cases hfr : frOK bs (st : Nat) xss with
      | false =>
        have hn : firstR bs l = none := by rw [HEQ.out, if_neg (by simp [hfr])]
        have HN := Lib.hid hn; have HFR := Lib.hid hfr; clear hn hfr
        go_wp2_with fail
        generalize (w1.alloc (.cells #[.int .i64 (st : Nat), .slice a xss.length c] 43)) = W3 at *
        refine wp_region_quiet (C := fun w' => Below W3.heap.size W3 w') (by kernel_rfl) (by kernel_rfl) (Below.refl _ W3).drew ?_
        simp only
        repeat
          (refine wpQuiet_step (fun K hK => ?_)
           go_simp
           first
             | (refine hK _ ?_; clear hK K)
             | (apply Exists.intro
                refine ⟨fun w' hw' => ?_, hK _ ?_⟩
                (first
                  | rfl
                  | (have z0' := cell_keep z0 hw' (Nat.le_refl _); have z1' := cell_keep z1 hw' (Nat.le_refl _); go_simp; rfl)
                  | exact (HFB.out w' (HB.out.cells.below (HB3.out.trans (hw'.mono HB3.out.size)) (Nat.le_refl _)) hbl (HCA.out.below (HB3'.out.trans (hw'.mono HB3'.out.size)) (Nat.le_refl _)) (HRV.out.below (HB3'.out.trans (hw'.mono HB3'.out.size)) (Nat.le_refl _)) hal2 HOK.out).mono fun e w'' ⟨he, hb⟩ => ⟨by rw [he, HFR.out], hw'.trans (hb.mono hw'.size)⟩)
                clear hK K))
        refine wpQuiet_nil ?_
        intro w4 hb4
        have hbe4 := HB3.out.trans (hb4.mono HB3.out.size)
        have hx4 := HX3.out.below hb4 (by show w.heap.size < W3.heap.size; have := HSZ3.out; omega)
        have x0 := hx4.c0
        have x1 := hx4.c1
        have y0 := hx4.free 0
        have y1 := hx4.free 1
        clear hb4 hx4
        go_wp2_with fail
        (try simp only [Exit.inBlock, Exit.then])
        refine bodyPost_ret (v := .tuple #[.agg #[.int .i64 0, .slice none 0 0], .int .i64 0, .bool false]) (by rw [results_cell2 rfl]; go_simp) rfl ⟨by rw [HN.out]; exact rfl, ?_⟩
        exact (hbe4.setCell (p := ⟨w.heap.size, 0, none⟩) (Nat.le_refl _) _).setCell (p := ⟨w.heap.size, 1, none⟩) (Nat.le_refl _) _
      | true =>
        have hz0 : frmErr bs (st : Nat) xss = 0 := by
          have : bookErr bs = 0 := by simp [bookErr, HOK.out]
          simp [frmErr, this, hfr]
        obtain ⟨-, hb16, hxl, hs0, hs1, hx64, hxb⟩ := frmErr_zero hz0
        have hcd := fun (W : World) (h : Cells W a vs) (h2 : RowsV W vs xss) => refCode_any (st : Nat) a vs xss c W h h2 (by omega) hs0 hs1 hx64 hxb
        obtain ⟨b, off, rfl⟩ := HC.out.cells.addr (bys_ne (by have := HLC.out.1; omega))
        have hsb := fun (ea : Option Addr) (ec : Nat) (W : World) (h : Cells W ea (bys (encB (st : Nat) xss))) (hbW : Below w.heap.size w W) => sameBytes_any (w := W) (encB (st : Nat) xss) (l.take en) ec cc h (fun h0 => h.addr (bys_ne (List.length_pos_iff.2 h0))) (fun h0 => absurd (congrArg List.length h0) (by have := encF_pos (((st : Nat) : Int), xss); unfold encF at this; simp only [List.length_nil] at *; omega)) (encB_lt _ _)
          ((show Cells w (some ⟨b, off, none⟩) (bys (l.take en)) from by
            refine .inr ⟨b, off, rfl, fun j u hu => ?_⟩
            refine HC.out.cells.at ?_
            rw [← hu, bys, bys, List.map_take, List.getElem?_take, if_pos]
            have := (List.getElem?_eq_some_iff.1 hu).1
            rw [bys_length, HLT.out] at this; exact this).below hbW (Nat.le_refl _)) (fun _ => ⟨b, off, rfl⟩) (fun _ => .inr ⟨b, off, rfl⟩) (fun d hd => HC.out.byte d (List.mem_of_mem_take hd))
        rw [HLT.out] at hsb
        have HCD := Lib.hid hcd; have HSB := Lib.hid hsb; have HFR := Lib.hid hfr
        clear hz0 hxl hs0 hs1 hx64 hxb hcd hsb hfr
        have k1 : (en : Int) ≤ cc := by omega
        have k2 : (0 : Int) ≤ en := by omega
        have k3 : ¬ cc = 0 := by have := HLC.out.1; omega
        by_cases hee : encB (st : Nat) xss = l.take en
        · have hn : firstR bs l = some ((((st : Nat) : Int), xss), en) := by rw [HEQ.out, if_pos ⟨HLC.out, rfl, HFR.out, hee⟩]
          have hed : decide (encB (st : Nat) xss = l.take en) = true := by rw [decide_eq_true_iff]; exact hee
          have HN := Lib.hid hn; have HED := Lib.hid hed
          clear hn hed hee
          go_wp2_with fail
          generalize (w1.alloc (.cells #[.int .i64 (st : Nat), .slice a xss.length c] 43)) = W3 at *
          go_region_held3 (fun w' => w'.cell? ⟨w1.heap.size, 0, none⟩ = some (.int .i64 (st : Nat)) ∧ w'.cell? ⟨w1.heap.size, 1, none⟩ = some (.slice a xss.length c))
            (first | exact ⟨z0d, z1d⟩ | exact ⟨z0q, z1q⟩ | exact ⟨z0r, z1r⟩ | exact ⟨z0s, z1s⟩ | go_keep)
            (first
              | (go_at_call 72
                 refine (HFB.out W3.drew (HB.out.cells.below HB3.out.drew (Nat.le_refl _)) hbl (HCA.out.below HB3'.out.drew (Nat.le_refl _)) (HRV.out.below HB3'.out.drew (Nat.le_refl _)) hal2 HOK.out).mono ?_
                 rintro e w4 ⟨rfl, hb4⟩
                 rw [HFR.out]
                 have z0q := cell_keep z0d hb4 (Nat.le_refl _)
                 have z1q := cell_keep z1d hb4 (Nat.le_refl _)
                 have hb4' : Below W3.heap.size W3 w4 := (Below.refl _ W3).drew.trans hb4
                 clear hb4)
              | (go_at_call 76
                 refine (HCD.out w4 (HCA.out.below (HB3'.out.trans (hb4'.mono HB3'.out.size)) (Nat.le_refl _)) (HRV.out.below (HB3'.out.trans (hb4'.mono HB3'.out.size)) (Nat.le_refl _))).mono ?_
                 rintro e w5 ⟨⟨ve, rfl, hoe⟩, hb5⟩
                 have z0r := cell_keep z0q hb5 (Nat.le_refl _)
                 have z1r := cell_keep z1q hb5 (Nat.le_refl _)
                 have hb5' := hb4'.trans (hb5.mono hb4'.size)
                 obtain ⟨ea, ec, rfl, hce, hce1, hce2⟩ := own_cap hoe
                 have HCE := Lib.hid hce
                 clear hoe hce hb5)
              | (go_at_call 134
                 refine (HSB.out ea ec w5 HCE.out (HB3.out.trans (hb5'.mono HB3.out.size))).mono ?_
                 rintro e w6 ⟨rfl, rfl⟩
                 rw [HED.out]
                 have z0s := z0r
                 have z1s := z1r))
          have hbe5 := HB3.out.trans (hb5'.mono HB3.out.size)
          have hx5 := HX3.out.below hb5' (by show w.heap.size < W3.heap.size; have := HSZ3.out; omega)
          have x0 := hx5.c0
          have x1 := hx5.c1
          have y0 := hx5.free 0
          have y1 := hx5.free 1
          have hfo5 := HFO3.out.below hb5'
          have hgs0 := grown_set w6 ⟨w.heap.size, 0, none⟩ (.int .i64 (st : Nat))
          have hgs1 := grown_set (w6.setCell ⟨w.heap.size, 0, none⟩ (.int .i64 (st : Nat))) ⟨w.heap.size, 1, none⟩ (.slice a xss.length c)
          have hfo6 := (hfo5.kept_blk hgs0 hx5 (by decide) (by decide)).kept_blk hgs1 (hx5.set0 _) (by decide) (by decide)
          have HFO6 := Lib.hid hfo6
          clear hb5' hx5 hfo5 hgs0 hgs1 hfo6
          go_wp2_with fail
          (try simp only [Exit.inBlock, Exit.then])
          refine bodyPost_ret (v := .tuple #[.agg #[.int .i64 (st : Nat), .slice a xss.length c], .int .i64 (en : Nat), .bool true]) (by rw [results_cell2 rfl]; go_simp) rfl ⟨by rw [HN.out]; exact ⟨_, rfl, HFO6.out⟩, ?_⟩
          exact (hbe5.setCell (p := ⟨w.heap.size, 0, none⟩) (Nat.le_refl _) _).setCell (p := ⟨w.heap.size, 1, none⟩) (Nat.le_refl _) _
        · have hn : firstR bs l = none := by rw [HEQ.out, if_neg (fun h => hee h.2.2.2)]
          have hed : decide (encB (st : Nat) xss = l.take en) = false := by rw [decide_eq_false_iff_not]; exact hee
          have HN := Lib.hid hn; have HED := Lib.hid hed
          clear hn hed hee
          go_wp2_with fail
          generalize (w1.alloc (.cells #[.int .i64 (st : Nat), .slice a xss.length c] 43)) = W3 at *
          go_region_held3 (fun w' => w'.cell? ⟨w1.heap.size, 0, none⟩ = some (.int .i64 (st : Nat)) ∧ w'.cell? ⟨w1.heap.size, 1, none⟩ = some (.slice a xss.length c))
            (first | exact ⟨z0d, z1d⟩ | exact ⟨z0q, z1q⟩ | exact ⟨z0r, z1r⟩ | exact ⟨z0s, z1s⟩ | go_keep)
            (first
              | (go_at_call 72
                 refine (HFB.out W3.drew (HB.out.cells.below HB3.out.drew (Nat.le_refl _)) hbl (HCA.out.below HB3'.out.drew (Nat.le_refl _)) (HRV.out.below HB3'.out.drew (Nat.le_refl _)) hal2 HOK.out).mono ?_
                 rintro e w4 ⟨rfl, hb4⟩
                 rw [HFR.out]
                 have z0q := cell_keep z0d hb4 (Nat.le_refl _)
                 have z1q := cell_keep z1d hb4 (Nat.le_refl _)
                 have hb4' : Below W3.heap.size W3 w4 := (Below.refl _ W3).drew.trans hb4
                 clear hb4)
              | (go_at_call 76
                 refine (HCD.out w4 (HCA.out.below (HB3'.out.trans (hb4'.mono HB3'.out.size)) (Nat.le_refl _)) (HRV.out.below (HB3'.out.trans (hb4'.mono HB3'.out.size)) (Nat.le_refl _))).mono ?_
                 rintro e w5 ⟨⟨ve, rfl, hoe⟩, hb5⟩
                 have z0r := cell_keep z0q hb5 (Nat.le_refl _)
                 have z1r := cell_keep z1q hb5 (Nat.le_refl _)
                 have hb5' := hb4'.trans (hb5.mono hb4'.size)
                 obtain ⟨ea, ec, rfl, hce, hce1, hce2⟩ := own_cap hoe
                 have HCE := Lib.hid hce
                 clear hoe hce hb5)
              | (go_at_call 134
                 refine (HSB.out ea ec w5 HCE.out (HB3.out.trans (hb5'.mono HB3.out.size))).mono ?_
                 rintro e w6 ⟨rfl, rfl⟩
                 rw [HED.out]
                 have z0s := z0r
                 have z1s := z1r))
          have hbe5 := HB3.out.trans (hb5'.mono HB3.out.size)
          have hx5 := HX3.out.below hb5' (by show w.heap.size < W3.heap.size; have := HSZ3.out; omega)
          have x0 := hx5.c0
          have x1 := hx5.c1
          have y0 := hx5.free 0
          have y1 := hx5.free 1
          clear hb5' hx5
          go_wp2_with fail
          (try simp only [Exit.inBlock, Exit.then])
          refine bodyPost_ret (v := .tuple #[.agg #[.int .i64 0, .slice none 0 0], .int .i64 0, .bool false]) (by rw [results_cell2 rfl]; go_simp) rfl ⟨by rw [HN.out]; exact rfl, ?_⟩
          exact (hbe5.setCell (p := ⟨w.heap.size, 0, none⟩) (Nat.le_refl _) _).setCell (p := ⟨w.heap.size, 1, none⟩) (Nat.le_refl _) _
  · have hn : firstR bs l = none := by rw [HEQ.out, if_neg (fun h => hlc h.1)]
    have HN := Lib.hid hn; clear hn hlc
    have hbe3 := hbe1.alloc (by omega) (.cells #[.int .i64 0, .slice none 0 0] 43)
    have hx3 := HX1.out.alloc (.cells #[.int .i64 0, .slice none 0 0] 43)
    have x0 := hx3.c0
    have x1 := hx3.c1
    have y0 := hx3.free 0
    have y1 := hx3.free 1
    clear hx3
    go_wp2_with fail
    go_quiet (fail)
    go_wp2_with fail
    (try simp only [Exit.inBlock, Exit.then])
    refine bodyPost_ret (v := .tuple #[.agg #[.int .i64 0, .slice none 0 0], .int .i64 0, .bool false]) (by rw [results_cell2 rfl]; go_simp) rfl ⟨by rw [HN.out]; exact rfl, ?_⟩
    exact ((bel_drewN hbe3 _).setCell (p := ⟨w.heap.size, 0, none⟩) (Nat.le_refl _) _).setCell (p := ⟨w.heap.size, 1, none⟩) (Nat.le_refl _) _
end Go.Proofs.YtoochleabcjljaaGreatDoor
