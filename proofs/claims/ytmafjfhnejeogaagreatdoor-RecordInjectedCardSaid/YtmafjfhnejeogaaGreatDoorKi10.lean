/- RecordInjected holds: for every input the law answers true and leaves its arguments as they were. Conditions: those of the given row (the listed tables hold what the program's text lays in them). -/
import Derived.Test.YtmafjfhnejeogaaGreatDoorKi9
import Derived.Laws.IdiomStrings
import Derived.ProofKit
import Derived.OpenShut
import Derived.ReadAgain
import Derived.Deep.Slices
import Derived.Deep.SlicePairs
import Derived.Lib.SmallJoins
import Derived.Below
import Derived.ChangeSame
import Derived.Test.YtmafjfhnejeogaaGreatDoorRows
import Derived.SizedLaws
import Derived.Lib.LaidTab
import Derived.Laws.IdiomArrays
import Derived.Test.YtmafjfhnejeogaaGreatDoorCards
import Derived.Test.YtmafjfhnejeogaaGreatDoorTie
import Derived.WalkKit
import Derived.Deep.DeepHandedRow
import Derived.LaidMore
import Derived.Stop.Joined

/- Examples: what works asks holds. -/
namespace Go.Proofs.YtmafjfhnejeogaaGreatDoor
open Go.RowKit

theorem exCode : encRes bookX 1 [[0, 1, 1, 2], [-1]] = [165, 90, 0, 7, 0, 0, 0, 1, 64, 204, 2, 89, 2, 199] ∧ frmErr bookX 1 [[0, 1, 1, 2], [-1]] = 0 := by decide +kernel
theorem exStrain : strain [(3, 4), (-1, 1)] 1 [2, 5] = [(3, 4), (6, 11)] ∧ strErr [(3, 4), (-1, 1)] 1 [2, 5] = 0 := by decide +kernel
theorem exInject : injRes [1, -1] 3 [5, 1, 4, 2, 9] = [8, -2, 7, -1, 12] ∧ injErr [1, -1] 3 [5, 1, 4, 2, 9] = 0 := by decide +kernel
theorem exTrack : linedErr [1, -1] [5, 1, 4, 2, 9] = 0 ∧ ampN [1, -1] [5, 1, 4, 2, 9] (whole [1, -1] [5, 1, 4, 2, 9]) = (6 : Nat) ∧ ampD [1, -1] (whole [1, -1] [5, 1, 4, 2, 9]) = (4 : Nat) := by decide +kernel
theorem new_cells (w : World) (cs : List Value) (T : TypeId) : Cells (w.alloc (.cells cs.toArray T)) (some ⟨w.heap.size, 0, none⟩) cs := .inr ⟨_, _, rfl, fun j u hu => by rw [Nat.zero_add]; simpa using hu⟩

theorem one_row {w : World} {a : Option Addr} {xs : List Int} {c : Nat} (h : Cells w a (xs.map (Value.int .i64))) (hl : xs.length ≤ 9223372036854775807) : RowV w (.slice a xs.length c) xs := ⟨a, c, rfl, h, hl⟩
theorem two_rows {w : World} {v1 v2 : Value} {x1 x2 : List Int} (h1 : RowV w v1 x1) (h2 : RowV w v2 x2) : RowsV w [v1, v2] [x1, x2] := by
  refine ⟨rfl, fun i v xs hv hx => ?_⟩
  match i, hv, hx with
  | 0, hv, hx => simp at hv hx; subst hv hx; exact h1
  | 1, hv, hx => simp at hv hx; subst hv hx; exact h2
theorem conv_bytes {w : World} {b : Nat} {cap : Nat} (l : List UInt8) (h : Cells w (some ⟨b, 0, none⟩) (l.map fun d => Value.int .u8 (d.toNat : Int))) :
    (convert 81 9 (.slice (some ⟨b, 0, none⟩) l.length cap)).run Tryz.prog w = .ok (.string ⟨l.toArray⟩) w :=
  run_convert_bytes_back w _ _ 5 ⟨b, 0, none⟩ cap l Tryz.underlying81 Tryz.underlying5 Tryz.underlying9 (fun j hj => by
    have := h.at (j := j) (u := .int .u8 (l[j].toNat : Int)) (by simp [hj])
    rw [Addr.add_lit]; exact this)


theorem two_new (w : World) (c1 c2 : List Value) (T1 T2 : TypeId) : Cells ((w.alloc (.cells c1.toArray T1)).alloc (.cells c2.toArray T2)) (some ⟨w.heap.size, 0, none⟩) c1 ∧ Cells ((w.alloc (.cells c1.toArray T1)).alloc (.cells c2.toArray T2)) (some ⟨w.heap.size + 1, 0, none⟩) c2 := by
  constructor
  · exact (new_cells w c1 T1).below ((Below.refl _ _).alloc (Nat.le_refl _) _) (Nat.le_refl _)
  · have := new_cells (w.alloc (.cells c1.toArray T1)) c2 T2
    rwa [World.size_alloc] at this
theorem two_below (w : World) (o1 o2 : Obj) : Below w.heap.size w ((w.alloc o1).alloc o2) := ((Below.refl _ _).alloc (Nat.le_refl _) _).alloc (by simp) _

theorem ex_encode (w : World) :
    Calls Tryz.prog 55 #[.slice (some ⟨w.heap.size, 0, none⟩) 2 2, .agg #[.int .i64 1, .slice (some ⟨w.heap.size + 1 + 1 + 1, 0, none⟩) 2 2]]
      ((((w.alloc (.cells #[.string ⟨#[101, 114, 114]⟩, .int .i64 4, .int .i64 8, .string ⟨#[97, 117, 120]⟩, .int .i64 1, .int .i64 4] 172)).alloc (.cells #[.int .i64 0, .int .i64 1, .int .i64 1, .int .i64 2] 3)).alloc (.cells #[.int .i64 (-1)] 3)).alloc (.cells #[.slice (some ⟨w.heap.size + 1, 0, none⟩) 4 4, .slice (some ⟨w.heap.size + 1 + 1, 0, none⟩) 1 1] 22))
      fun e w' => (∃ b c, e = .returned (.tuple #[.slice (some ⟨b, 0, none⟩) 14 c, .int .i64 0]) ∧ Cells w' (some ⟨b, 0, none⟩) (bys [165, 90, 0, 7, 0, 0, 0, 1, 64, 204, 2, 89, 2, 199])) ∧ Below w.heap.size w w' := by
  obtain ⟨x1, x2⟩ := exCode
  have hb2 := two_below w (.cells #[.string ⟨#[101, 114, 114]⟩, .int .i64 4, .int .i64 8, .string ⟨#[97, 117, 120]⟩, .int .i64 1, .int .i64 4] 172) (.cells #[.int .i64 0, .int .i64 1, .int .i64 1, .int .i64 2] 3)
  obtain ⟨k1, k2⟩ := two_new w (chs bookX) ([0, 1, 1, 2].map (Value.int .i64)) 172 3
  have hs2 : ((w.alloc (.cells (chs bookX).toArray 172)).alloc (.cells ([0, 1, 1, 2].map (Value.int .i64)).toArray 3)).heap.size = w.heap.size + 1 + 1 := by simp
  change Below w.heap.size w ((w.alloc (.cells (chs bookX).toArray 172)).alloc (.cells ([0, 1, 1, 2].map (Value.int .i64)).toArray 3)) at hb2
  change Calls _ _ _ ((((w.alloc (.cells (chs bookX).toArray 172)).alloc (.cells ([0, 1, 1, 2].map (Value.int .i64)).toArray 3)).alloc (.cells ([-1].map (Value.int .i64)).toArray 3)).alloc (.cells [.slice (some ⟨w.heap.size + 1, 0, none⟩) 4 4, .slice (some ⟨w.heap.size + 1 + 1, 0, none⟩) 1 1].toArray 22)) _
  generalize ((w.alloc (.cells (chs bookX).toArray 172)).alloc (.cells ([0, 1, 1, 2].map (Value.int .i64)).toArray 3)) = W at *
  obtain ⟨k3, k4⟩ := two_new W ([-1].map (Value.int .i64)) [.slice (some ⟨w.heap.size + 1, 0, none⟩) 4 4, .slice (some ⟨w.heap.size + 1 + 1, 0, none⟩) 1 1] 3 22
  have hb4 := two_below W (.cells ([-1].map (Value.int .i64)).toArray 3) (.cells [.slice (some ⟨w.heap.size + 1, 0, none⟩) 4 4, .slice (some ⟨w.heap.size + 1 + 1, 0, none⟩) 1 1].toArray 22)
  generalize ((W.alloc (.cells ([-1].map (Value.int .i64)).toArray 3)).alloc (.cells [.slice (some ⟨w.heap.size + 1, 0, none⟩) 4 4, .slice (some ⟨w.heap.size + 1 + 1, 0, none⟩) 1 1].toArray 22)) = W2 at *
  rw [hs2] at k3 k4
  have q1 := k1.below hb4 (Nat.le_refl _)
  have q2 := k2.below hb4 (Nat.le_refl _)
  have h := Encode_any (some ⟨w.heap.size, 0, none⟩) bookX 2 1 (some ⟨w.heap.size + 1 + 1 + 1, 0, none⟩) [.slice (some ⟨w.heap.size + 1, 0, none⟩) 4 4, .slice (some ⟨w.heap.size + 1 + 1, 0, none⟩) 1 1] [[0, 1, 1, 2], [-1]] 2 W2 ⟨q1, by decide, by decide, by decide, by decide, by decide⟩ k4 (two_rows (one_row (xs := [0, 1, 1, 2]) q2 (by decide)) (one_row (xs := [-1]) k3 (by decide))) (by decide)
  rw [x1, x2] at h
  refine Calls.mono h ?_
  rintro e w' ⟨⟨v, rfl, hown⟩, hb⟩
  obtain ⟨g, c, rfl, _, _⟩ := hown.form (by decide)
  obtain ⟨a, c', h1, h2⟩ := own_cells hown
  simp only [Value.slice.injEq] at h1
  exact ⟨⟨g, c, rfl, by rw [h1.1]; exact h2⟩, hb2.trans ((hb4.mono hb2.size).trans (hb.mono (Nat.le_trans hb2.size hb4.size)))⟩

theorem ex_strain (w : World) :
    Calls Tryz.prog 57 #[.agg #[.slice (some ⟨w.heap.size, 0, none⟩) 2 2, .int .i64 1], .slice (some ⟨w.heap.size + 1, 0, none⟩) 2 2]
      ((w.alloc (.cells #[.int .i64 3, .int .i64 4, .int .i64 (-1), .int .i64 1] 93)).alloc (.cells #[.int .i64 2, .int .i64 5] 3))
      fun e w' => (∃ a c, e = .returned (.tuple #[.slice a 2 c, .int .i64 0]) ∧ Cells w' a (prs [(3, 4), (6, 11)])) ∧ Below w.heap.size w w' := by
  obtain ⟨x1, x2⟩ := exStrain
  obtain ⟨k1, k2⟩ := two_new w (prs [(3, 4), (-1, 1)]) ([2, 5].map (Value.int .i64)) 93 3
  have hb2 := two_below w (.cells (prs [(3, 4), (-1, 1)]).toArray 93) (.cells ([2, 5].map (Value.int .i64)).toArray 3)
  have h := strain_any (some ⟨w.heap.size, 0, none⟩) [(3, 4), (-1, 1)] 2 1 (some ⟨w.heap.size + 1, 0, none⟩) [2, 5] 2 _ k1 (by decide) k2 (by decide)
  rw [x1, x2] at h
  exact Calls.mono h fun e w' ⟨⟨a, c, h1, h2⟩, h3⟩ => ⟨⟨a, c, h1, h2⟩, hb2.trans (h3.mono hb2.size)⟩

theorem ex_track (w : World) :
    Calls Tryz.prog 17 #[.slice (some ⟨w.heap.size, 0, none⟩) 2 2, .slice (some ⟨w.heap.size + 1, 0, none⟩) 5 5]
      ((w.alloc (.cells #[.int .i64 1, .int .i64 (-1)] 3)).alloc (.cells #[.int .i64 5, .int .i64 1, .int .i64 4, .int .i64 2, .int .i64 9] 3))
      fun e w' => e = .returned (.tuple #[.string ⟨#[51, 47, 50]⟩, .int .i64 0]) ∧ Below w.heap.size w w' := by
  obtain ⟨x7, x8, x9⟩ := exTrack
  obtain ⟨k1, k2⟩ := two_new w ([1, -1].map (Value.int .i64)) ([5, 1, 4, 2, 9].map (Value.int .i64)) 3 3
  have hb2 := two_below w (.cells ([1, -1].map (Value.int .i64)).toArray 3) (.cells ([5, 1, 4, 2, 9].map (Value.int .i64)).toArray 3)
  have h := track_dig 6 4 (some ⟨w.heap.size, 0, none⟩) [1, -1] 2 (some ⟨w.heap.size + 1, 0, none⟩) [5, 1, 4, 2, 9] 5 _ k1 k2 x7 x8 x9 (by decide) (by decide) (by decide) (by decide) (by decide) (by decide) (by decide)
  have e1 : digB (6 / Nat.gcd 6 4) ++ (⟨#[47]⟩ ++ digB (4 / Nat.gcd 6 4)) = ⟨#[51, 47, 50]⟩ := by decide +kernel
  rw [e1] at h
  exact Calls.mono h fun e w' ⟨h1, h3⟩ => ⟨h1, hb2.trans (h3.mono hb2.size)⟩

theorem ex_inject (w : World) :
    Calls Tryz.prog 14 #[.slice (some ⟨w.heap.size, 0, none⟩) 2 2, .int .i64 3, .slice (some ⟨w.heap.size + 1, 0, none⟩) 5 5]
      ((w.alloc (.cells #[.int .i64 1, .int .i64 (-1)] 3)).alloc (.cells #[.int .i64 5, .int .i64 1, .int .i64 4, .int .i64 2, .int .i64 9] 3))
      fun e w' => (∃ a c, e = .returned (.tuple #[.slice a 5 c, .int .i64 0]) ∧ Cells w' a ([8, -2, 7, -1, 12].map (Value.int .i64))) ∧ Below w.heap.size w w' := by
  obtain ⟨x1, x2⟩ := exInject
  obtain ⟨k1, k2⟩ := two_new w ([1, -1].map (Value.int .i64)) ([5, 1, 4, 2, 9].map (Value.int .i64)) 3 3
  have hb2 := two_below w (.cells ([1, -1].map (Value.int .i64)).toArray 3) (.cells ([5, 1, 4, 2, 9].map (Value.int .i64)).toArray 3)
  have h := inject_any (some ⟨w.heap.size, 0, none⟩) [1, -1] 2 3 (some ⟨w.heap.size + 1, 0, none⟩) [5, 1, 4, 2, 9] 5 _ k1 (by decide) k2 (by decide)
  rw [x1, x2] at h
  exact Calls.mono h fun e w' ⟨⟨a, c, h1, h2⟩, h3⟩ => ⟨⟨a, c, h1, h2⟩, hb2.trans (h3.mono hb2.size)⟩
end Go.Proofs.YtmafjfhnejeogaaGreatDoor

/- Examples: works. -/
namespace Go.Proofs.YtmafjfhnejeogaaGreatDoor
open Go.RowKit

theorem same_bands_eq (aa ab : Option Addr) (ca cb : Nat) (w : World) (xs : List (Int × Int)) (n : Nat) (hn : n = xs.length) (hl : xs.length ≤ 9223372036854775807) (ha : Cells w aa (prs xs)) (hb : Cells w ab (prs xs)) :
    Calls Tryz.prog 58 #[.slice aa n ca, .slice ab n cb] w fun e w' => e = .returned (.bool true) ∧ Below w.heap.size w w' := by
  subst hn
  have h := sameBands_any aa ab xs xs ca cb w ha hb hl hl
  simpa using h
theorem same_ints_eq (aa ab : Option Addr) (ca cb : Nat) (w : World) (xs : List Int) (n : Nat) (hn : n = xs.length) (hl : xs.length ≤ 9223372036854775807) (ha : Cells w aa (xs.map (Value.int .i64))) (hb : Cells w ab (xs.map (Value.int .i64))) :
    Calls Tryz.prog 16 #[.slice aa n ca, .slice ab n cb] w fun e w' => e = .returned (.bool true) ∧ Below w.heap.size w w' := by
  subst hn
  have h := sameInts_any aa ab xs xs ca cb w ha hb hl hl
  simpa using h
theorem one_new (w : World) (c1 : List Value) (T1 : TypeId) : Cells (w.alloc (.cells c1.toArray T1)) (some ⟨w.heap.size, 0, none⟩) c1 := new_cells w c1 T1

set_option maxRecDepth 100000 in
set_option maxHeartbeats 2000000 in
theorem works_any (w : World) : Calls Tryz.prog 21 #[] w fun e w' => e = .returned (.bool true) ∧ Below w.heap.size w w' := by
  go_enter Tryz.func21, Tryz.ntmps21
  go_wp2_with (go_at_call 56; refine (book_any _).mono ?_; rintro e w1 ⟨rfl, rfl⟩)
  refine (ex_encode _).mono ?_
  rintro e w1 ⟨⟨b1, c1, rfl, hc1⟩, hb1⟩
  have HC1 := Lib.hid hc1; clear hc1
  go_wp2_with fail
  refine (ex_strain _).mono ?_
  rintro e w2 ⟨⟨a2, c2, rfl, hc2⟩, hb2⟩
  have HC2 := Lib.hid hc2; clear hc2
  go_wp2_with fail
  refine (ex_track _).mono ?_
  rintro e w3 ⟨rfl, hb3⟩
  go_wp2_with fail
  refine (ex_inject _).mono ?_
  rintro e w4 ⟨⟨a4, c4, rfl, hc4⟩, hb4⟩
  have HC4 := Lib.hid hc4; clear hc4
  have n2 := hb1.trans (hb2.mono hb1.size)
  have n3 := n2.trans (hb3.mono n2.size)
  have n4 := n3.trans (hb4.mono n3.size)
  have k24 := (hb3.trans (hb4.mono hb3.size))
  have k14 := hb2.trans (k24.mono hb2.size)
  have q1 := HC1.out.below k14 (Nat.le_refl _)
  have q2 := HC2.out.below k24 (Nat.le_refl _)
  have hcv : (convert 81 9 (.slice (some ⟨b1, 0, none⟩) 14 c1)).run Tryz.prog w4 = .ok (.string ⟨#[165, 90, 0, 7, 0, 0, 0, 1, 64, 204, 2, 89, 2, 199]⟩) w4 := conv_bytes (w := w4) (cap := c1) [165, 90, 0, 7, 0, 0, 0, 1, 64, 204, 2, 89, 2, 199] q1
  have HQ2 := Lib.hid q2
  clear q1 q2 k14 k24 hb1 hb2 hb3 hb4 n2 n3
  go_wp2_with fail
  have hb5 := (Below.refl w4.heap.size w4).alloc (Nat.le_refl _) (.cells #[.int .i64 3, .int .i64 4, .int .i64 6, .int .i64 11] 98)
  refine (same_bands_eq _ _ _ _ _ [(3, 4), (6, 11)] 2 rfl (by decide) (HQ2.out.below hb5 (Nat.le_refl _)) (new_cells w4 (prs [(3, 4), (6, 11)]) 98)).mono ?_
  rintro e w5 ⟨rfl, hb6⟩
  have hb7 := hb5.trans (hb6.mono hb5.size)
  have n5 := n4.trans (hb7.mono n4.size)
  have q4 := HC4.out.below hb7 (Nat.le_refl _)
  have HQ4 := Lib.hid q4
  clear q4 hb5 hb6 hb7 n4 hcv
  go_wp2_with fail
  have hb5 := (Below.refl w5.heap.size w5).alloc (Nat.le_refl _) (.cells #[.int .i64 8, .int .i64 (-2), .int .i64 7, .int .i64 (-1), .int .i64 12] 3)
  refine (same_ints_eq _ _ _ _ _ [8, -2, 7, -1, 12] 5 rfl (by decide) (HQ4.out.below hb5 (Nat.le_refl _)) (new_cells w5 ([8, -2, 7, -1, 12].map (Value.int .i64)) 3)).mono ?_
  rintro e w6 ⟨rfl, hb6⟩
  have n6 := n5.trans ((hb5.trans (hb6.mono hb5.size)).mono n5.size)
  clear hb5 hb6 n5
  go_wp2
  go_ret
  exact ⟨rfl, n6⟩
end Go.Proofs.YtmafjfhnejeogaaGreatDoor

/- RecordInjected: the walk. -/
namespace Go.Proofs.YtmafjfhnejeogaaGreatDoor
open Go.RowKit

set_option maxRecDepth 100000 in
set_option maxHeartbeats 4000000 in
theorem injected_any (aa : Option Addr) (sa : List Int) (ca : Nat) (ab : Option Addr) (sb : List Int) (cb : Nat) (am : Int) (ax : Option Addr) (xs : List Int) (cx : Nat) (w : World) (ht : Tab w) (ha : Cells w aa (sa.map (Value.int .i64))) (hla : sa.length ≤ 17592186044415) (hb : Cells w ab (sb.map (Value.int .i64))) (hlb : sb.length ≤ 17592186044415) (hx : Cells w ax (xs.map (Value.int .i64))) (hlx : xs.length ≤ 17592186044415) :
    Calls Tryz.prog 9 #[.agg #[.slice aa sa.length ca, .slice ab sb.length cb], .int .i64 am, .slice ax xs.length cx] w fun e w' => e = .returned (.bool true) ∧ Below w.heap.size w w' := by
  have HB0 := Lib.hid ((Below.refl w.heap.size w).alloc (Nat.le_refl _) (.cells #[.slice aa sa.length ca, .slice ab sb.length cb] 23))
  have q0 : (w.alloc (.cells #[.slice aa sa.length ca, .slice ab sb.length cb] 23)).cell? ⟨w.heap.size, 0, none⟩ = some (.slice aa sa.length ca) := by simp
  have q1 : (w.alloc (.cells #[.slice aa sa.length ca, .slice ab sb.length cb] 23)).cell? ⟨w.heap.size, 1, none⟩ = some (.slice ab sb.length cb) := by simp
  have HQ0 := Lib.hid q0; have HQ1 := Lib.hid q1
  have HA := Lib.hid (ha.below HB0.out (Nat.le_refl _)); have HB := Lib.hid (hb.below HB0.out (Nat.le_refl _)); have HX := Lib.hid (hx.below HB0.out (Nat.le_refl _)); have HT := Lib.hid (ht.below HB0.out (Nat.le_refl _))
  clear ha hb hx ht
  have hinj := fun W h1 h2 => inject_any aa sa ca am ax xs cx W h1 (by omega) h2 (by omega)
  by_cases hie : injErr sa am xs = 0
  · obtain ⟨f1, f2, f3, f4⟩ := injErr_zero hie
    obtain ⟨b1, b2⟩ := inj_back hie
    rw [f4] at b1 b2
    obtain ⟨g1, g2⟩ := linedErr_zero f1
    obtain ⟨ys, hys⟩ : ∃ ys, ys = inj sa am xs xs.length := ⟨_, rfl⟩
    have hyl : ys.length = xs.length := by rw [hys]; exact inj_length _ _ _ _
    have hser := serErr_ok f3
    have hsx := (serErr_zero g2).1
    obtain ⟨k1, k2, k3⟩ := trk_same (sh := sa) hyl g2 (by rw [hys]; exact hser)
    obtain ⟨j1, j2, j3⟩ := trk_same (sh := sb) hyl g2 (by rw [hys]; exact hser)
    have htn : trN sa ys = trN sa xs + am * trD sa xs := by rw [hys]; exact trN_inj
    have hta : apRes sa sb = true → xs.length % (sa.length * sb.length) = 0 → trN sb ys = trN sb xs := fun h1 h2 => by rw [hys]; exact trN_apart h1 h2
    have ham : -1000 ≤ am ∧ am ≤ 1000 := by simpa [inB] using f2
    obtain ⟨ham1, ham2⟩ := ham
    have HINJ : Hid (∀ W, Cells W aa (sa.map (Value.int .i64)) → Cells W ax (xs.map (Value.int .i64)) → Calls Tryz.prog 14 #[.slice aa sa.length ca, .int .i64 am, .slice ax xs.length cx] W fun e w' => (∃ b c, e = .returned (.tuple #[.slice b ys.length c, .int .i64 0]) ∧ Cells w' b (ys.map (Value.int .i64))) ∧ Below W.heap.size W w') := by
      rw [f4, hie, ← hys] at hinj; exact hinj
    have HIN2 : Hid (∀ a c W, Cells W aa (sa.map (Value.int .i64)) → Cells W a (ys.map (Value.int .i64)) → Calls Tryz.prog 14 #[.slice aa sa.length ca, .int .i64 (-am), .slice a ys.length c] W fun e w' => (∃ b c, e = .returned (.tuple #[.slice b xs.length c, .int .i64 0]) ∧ Cells w' b (xs.map (Value.int .i64))) ∧ Below W.heap.size W w') := fun a c W h1 h2 => by
      have := inject_any aa sa ca (-am) a ys c W h1 (by omega) h2 (by omega)
      rwa [hys, b1, b2, ← hys] at this
    have HT1 : Hid (∀ W, Tab W → Cells W aa (sa.map (Value.int .i64)) → Cells W ax (xs.map (Value.int .i64)) → Calls Tryz.prog 17 #[.slice aa sa.length ca, .slice ax xs.length cx] W fun e w' => e = .returned (.tuple #[.string (trkT sa xs), .int .i64 (trkErr sa xs)]) ∧ Below W.heap.size W w') := fun W h0 h1 h2 => track_any aa sa ca ax xs cx W h0 h1 (by omega) h2 (by omega)
    have HT2 : Hid (∀ a c W, Tab W → Cells W aa (sa.map (Value.int .i64)) → Cells W a (ys.map (Value.int .i64)) → Calls Tryz.prog 17 #[.slice aa sa.length ca, .slice a ys.length c] W fun e w' => e = .returned (.tuple #[.string (trkT sa ys), .int .i64 (trkErr sa xs)]) ∧ Below W.heap.size W w') := fun a c W h0 h1 h2 => by
      have := track_any aa sa ca a ys c W h0 h1 (by omega) h2 (by omega)
      rwa [k3] at this
    have HT3 : Hid (∀ W, Tab W → Cells W ab (sb.map (Value.int .i64)) → Cells W ax (xs.map (Value.int .i64)) → Calls Tryz.prog 17 #[.slice ab sb.length cb, .slice ax xs.length cx] W fun e w' => e = .returned (.tuple #[.string (trkT sb xs), .int .i64 (trkErr sb xs)]) ∧ Below W.heap.size W w') := fun W h0 h1 h2 => track_any ab sb cb ax xs cx W h0 h1 (by omega) h2 (by omega)
    have hsame : apRes sa sb = true → xs.length % (sa.length * sb.length) = 0 → trkT sb ys = trkT sb xs := fun h1 h2 => by
      unfold trkT; rw [hta h1 h2, j2, j3]
    have HT4 : Hid (apRes sa sb = true → xs.length % (sa.length * sb.length) = 0 → ∀ a c W, Tab W → Cells W ab (sb.map (Value.int .i64)) → Cells W a (ys.map (Value.int .i64)) → Calls Tryz.prog 17 #[.slice ab sb.length cb, .slice a ys.length c] W fun e w' => e = .returned (.tuple #[.string (trkT sb xs), .int .i64 (trkErr sb xs)]) ∧ Below W.heap.size W w') := fun h1 h2 a c W h0 h3 h4 => by
      have := track_any ab sb cb a ys c W h0 h3 (by omega) h4 (by omega)
      rwa [j3, hsame h1 h2] at this
    have HAP : Hid (∀ W, Cells W aa (sa.map (Value.int .i64)) → Cells W ab (sb.map (Value.int .i64)) → Calls Tryz.prog 19 #[.slice aa sa.length ca, .slice ab sb.length cb] W fun e w' => e = .returned (.tuple #[.bool (apRes sa sb), .int .i64 (apErr sa sb)]) ∧ Below W.heap.size W w') := fun W h1 h2 => apart_any aa sa ca ab sb cb W h1 (by omega) h2 (by omega)
    have HAD : Hid (trkErr sa xs = 0 → (∀ W, Tab W → Calls Tryz.prog 40 #[.int .i64 am, .int .i64 1] W fun e w' => e = .returned (.tuple #[.string (qTx (redI am 1)), .int .i64 0]) ∧ Below W.heap.size W w') ∧ (∀ W, Tab W → Calls Tryz.prog 41 #[.string (trkT sa xs), .string (qTx (redI am 1))] W fun e w' => e = .returned (.tuple #[.string (trkT sa ys), .int .i64 0]) ∧ Below W.heap.size W w')) := fun he => by
      have hd0 : trD sa xs ≠ 0 := by
        intro h; unfold trkErr at he; rw [f1] at he; simp [h] at he
      have hab := amp_bd f1 (whole sa xs) (whole_le sa xs)
      have hwl := whole_le sa xs
      obtain ⟨d1, d2, d3, d4⟩ := hab
      have e1 : ampN sa xs (whole sa xs) = trN sa xs := rfl
      have e2 : ampD sa (whole sa xs) = trD sa xs := rfl
      rw [e1] at d1 d2
      rw [e2] at d3 d4
      obtain ⟨D, hD⟩ : ∃ D : Nat, trD sa xs = D := ⟨(trD sa xs).toNat, by omega⟩
      have hy2 : trD sa ys = D := by rw [k2, hD]
      have hp := mul_bd (A := 1000) (X := 4096000000) ham1 ham2 (show -4096000000 ≤ trD sa xs by omega) (show trD sa xs ≤ 4096000000 by omega)
      have hx1 := trkT_red he hD
      have hx2 := trkT_red (sh := sa) (xs := ys) (by rw [k3]; exact he) hy2
      rw [hx1, hx2, htn, hD]
      rw [hD] at hp d4 hd0
      have hDn : D ≠ 0 := by omega
      have hr1 := getR_red (n := trN sa xs) hDn (by omega) (by omega) (by omega)
      have hr2 := getR_red (n := am) (d := 1) (by decide) (by omega) (by omega) (by decide)
      have hpa := put_add (n1 := trN sa xs) (n2 := am) (d1 := D) (d2 := 1) hDn (by decide) (N := trN sa xs + am * D) (D := D) (by simp) (by omega) (by omega) (by omega)
      refine ⟨fun W hT => ?_, fun W hT => ?_⟩
      · have h1 := of_any am 1 W hT (by omega) (by omega) (by decide) (by decide) (by decide)
        have h2 : ratT (ofS am 1) (ofN am 1) (ofD am 1) = qTx (redI am 1) := by
          have := of_red am 1
          unfold qTx
          rw [← this]; rfl
        rwa [h2] at h1
      · have h1 := add_own (qTx (redI (trN sa xs) D)) (qTx (redI am 1)) (redI (trN sa xs) D).1 (redI (trN sa xs) D).2.1 (redI (trN sa xs) D).2.2 (redI am 1).1 (redI am 1).2.1 (redI am 1).2.2 W hT hr1 hr2 (qTx_size (by omega) (by omega) (by omega)) (qTx_size (by omega) (by omega) (by decide)) (ratT_noI _ _ _) (ratT_noI _ _ _)
        rwa [hpa.1, hpa.2] at h1
    have hal : apErr sa sb = 0 → sa.length ≤ 32 ∧ sb.length ≤ 32 ∧ 2 ≤ sa.length ∧ 2 ≤ sb.length := fun h => by
      unfold apErr at h
      by_cases h1 : lineErr sa = 0
      · rw [h1] at h
        have h2 : lineErr sb = 0 := by simpa using h
        exact ⟨(lineErr_zero h1).2.1, (lineErr_zero h2).2.1, (lineErr_zero h1).1, (lineErr_zero h2).1⟩
      · simp [h1] at h
    have HAL := Lib.hid hal
    have HYL := Lib.hid hyl
    have eng : IntKind.i64.wrap (-am) = -am := IntWalk.i64_in _ (by omega)
    clear hinj hie f1 f2 f3 f4 b1 b2 g1 g2 hys hser k1 k2 k3 j1 j2 j3 htn hta hsame hal hyl q0 q1
    generalize trkErr sb xs = te2 at *
    generalize trkT sb xs = tt2 at *
    generalize apErr sa sb = ae at *
    have hlys : ys.length ≤ 4096 := by rw [HYL.out]; exact hsx

    go_enter Tryz.func9, Tryz.ntmps9
    go_wp2_with fail
    generalize (w.alloc (.cells #[.slice aa sa.length ca, .slice ab sb.length cb] 23)) = W0 at *
    refine (HINJ.out _ HA.out HX.out).mono ?_
    rintro e w1 ⟨⟨a1, c1, rfl, hc1⟩, hb1⟩
    have HC1 := Lib.hid hc1; have HW1 := Lib.hid hb1
    clear hc1 hb1
    have q0 := cell_keep HQ0.out HW1.out (Nat.le_refl _)
    go_wp2_with fail
    clear q0
    refine (HIN2.out _ _ _ (HA.out.below HW1.out (Nat.le_refl _)) HC1.out).mono ?_
    rintro e w2 ⟨⟨a2, c2, rfl, hc2⟩, hb2⟩
    have HW2 := Lib.hid (HW1.out.trans (hb2.mono HW1.out.size))
    have HC2 := Lib.hid hc2; have HC12 := Lib.hid (HC1.out.below hb2 (Nat.le_refl _))
    clear hc2 eng
    clear hb2
    go_wp2_with fail
    refine (same_ints_eq _ _ _ _ _ xs xs.length rfl (by omega) HC2.out (HX.out.below HW2.out (Nat.le_refl _))).mono ?_
    rintro e w3 ⟨rfl, hb3⟩
    have HW3 := Lib.hid (HW2.out.trans (hb3.mono HW2.out.size))
    have HC13 := Lib.hid (HC12.out.below hb3 (Nat.le_refl _))
    clear hb3
    have q0 := cell_keep HQ0.out HW3.out (Nat.le_refl _)
    go_wp2_with fail
    clear q0
    refine (HT1.out _ (HT.out.below HW3.out (Nat.le_refl _)) (HA.out.below HW3.out (Nat.le_refl _)) (HX.out.below HW3.out (Nat.le_refl _))).mono ?_
    rintro e w4 ⟨rfl, hb4⟩
    have HW4 := Lib.hid (HW3.out.trans (hb4.mono HW3.out.size))
    have HC14 := Lib.hid (HC13.out.below hb4 (Nat.le_refl _))
    clear hb4
    have q0 := cell_keep HQ0.out HW4.out (Nat.le_refl _)
    go_wp2_with fail
    clear q0
    refine (HT2.out _ _ _ (HT.out.below HW4.out (Nat.le_refl _)) (HA.out.below HW4.out (Nat.le_refl _)) HC14.out).mono ?_
    rintro e w5 ⟨rfl, hb5⟩
    have HW5 := Lib.hid (HW4.out.trans (hb5.mono HW4.out.size))
    have HC15 := Lib.hid (HC14.out.below hb5 (Nat.le_refl _))
    clear hb5

    by_cases hte : trkErr sa xs = 0
    · have had := HAD.out hte
      have HAD := Lib.hid had
      clear had
      generalize trkT sa xs = t1 at *
      generalize trkT sa ys = t2 at *
      rw [hte]
      clear hte
      go_wp2_with fail
      refine (HAD.out.1 _ (HT.out.below HW5.out (Nat.le_refl _))).mono ?_
      rintro e w6 ⟨rfl, hb6⟩
      have HW6 := Lib.hid (HW5.out.trans (hb6.mono HW5.out.size))
      have HC16 := Lib.hid (HC15.out.below hb6 (Nat.le_refl _))
      clear hb6
      go_wp2_with fail
      refine (HAD.out.2 _ (HT.out.below HW6.out (Nat.le_refl _))).mono ?_
      rintro e w7 ⟨rfl, hb7⟩
      have HW7 := Lib.hid (HW6.out.trans (hb7.mono HW6.out.size))
      have HC17 := Lib.hid (HC16.out.below hb7 (Nat.le_refl _))
      clear hb7
      have q0 := cell_keep HQ0.out HW7.out (Nat.le_refl _)
      have q1 := cell_keep HQ1.out HW7.out (Nat.le_refl _)
      go_wp2_with fail
      clear q0 q1
      refine (HAP.out _ (HA.out.below HW7.out (Nat.le_refl _)) (HB.out.below HW7.out (Nat.le_refl _))).mono ?_
      rintro e w8 ⟨rfl, hb8⟩
      have HW8 := Lib.hid (HW7.out.trans (hb8.mono HW7.out.size))
      have HC18 := Lib.hid (HC17.out.below hb8 (Nat.le_refl _))
      clear hb8
      by_cases hae : ae = 0
      · subst hae
        obtain ⟨r1, r2, r3, r4⟩ := HAL.out rfl
        cases har : apRes sa sb
        · clear har
          go_wp2_with fail
          refine (works_any _).mono ?_
          rintro e wz ⟨rfl, hbz⟩
          have hbq := HB0.out.trans ((HW8.out.trans (hbz.mono HW8.out.size)).mono HB0.out.size)
          go_wp2_with fail
          go_ret
          exact ⟨rfl, hbq⟩

        · have hm1 : ((sa.length : Int) * (sb.length : Int)) = ((sa.length * sb.length : Nat) : Int) := by simp
          have hm2 : sa.length * sb.length ≤ 1024 := Nat.mul_le_mul r1 r2
          have hm3 : 0 < sa.length * sb.length := Nat.mul_pos (by omega) (by omega)
          obtain ⟨P, hP⟩ : ∃ P, P = sa.length * sb.length := ⟨_, rfl⟩
          rw [← hP] at hm1 hm2 hm3
          have hm4 : ((P : Int) == 0) = false := by rw [beq_eq_false_iff_ne]; omega
          have hm5 : ¬ (P : Int) = 0 := by omega
          have hm6 : ¬ P = 0 := by omega
          have HM1 := Lib.hid hm1; have HP := Lib.hid hP; have HAR := Lib.hid har
          have hr0 := Nat.mod_lt xs.length hm3
          have x0 := cell_keep HQ0.out HW8.out (Nat.le_refl _)
          have x1 := cell_keep HQ1.out HW8.out (Nat.le_refl _)
          by_cases hmod : xs.length % P = 0
          · have hmz : (xs.length : Int) % (P : Int) = 0 := by omega
            have hp2 : xs.length % (sa.length * sb.length) = 0 := by rw [← HP.out]; exact hmod
            have HP2 := Lib.hid hp2
            clear hp2 hmod har hP
            go_wp2_with fail
            clear x0 x1 hm1 hmz

            refine (HT3.out _ (HT.out.below HW8.out (Nat.le_refl _)) (HB.out.below HW8.out (Nat.le_refl _)) (HX.out.below HW8.out (Nat.le_refl _))).mono ?_
            rintro e w9 ⟨rfl, hb9⟩
            have HW9 := Lib.hid (HW8.out.trans (hb9.mono HW8.out.size))
            have HC19 := Lib.hid (HC18.out.below hb9 (Nat.le_refl _))
            clear hb9

            have q1 := cell_keep HQ1.out HW9.out (Nat.le_refl _)
            go_wp2_with fail
            clear q1
            refine (HT4.out HAR.out HP2.out _ _ _ (HT.out.below HW9.out (Nat.le_refl _)) (HB.out.below HW9.out (Nat.le_refl _)) HC19.out).mono ?_
            rintro e w10 ⟨rfl, hb10⟩
            have HW10 := Lib.hid (HW9.out.trans (hb10.mono HW9.out.size))
            clear hb10

            go_wp2_with fail
            refine (works_any _).mono ?_
            rintro e wz ⟨rfl, hbz⟩
            have hbq := HB0.out.trans ((HW10.out.trans (hbz.mono HW10.out.size)).mono HB0.out.size)
            go_wp2_with fail
            go_ret
            exact ⟨rfl, hbq⟩

          · have hmz : ¬ (xs.length : Int) % (P : Int) = 0 := by omega
            clear hmod har hP
            go_wp2_with fail
            clear x0 x1 hm1 hmz
            refine (works_any _).mono ?_
            rintro e wz ⟨rfl, hbz⟩
            have hbq := HB0.out.trans ((HW8.out.trans (hbz.mono HW8.out.size)).mono HB0.out.size)
            go_wp2_with fail
            go_ret
            exact ⟨rfl, hbq⟩

      · have hae1 : (ae != 0) = true := by simpa using hae
        have hae2 : (ae == 0) = false := by simpa using hae
        clear hae
        go_wp2_with fail
        refine (works_any _).mono ?_
        rintro e wz ⟨rfl, hbz⟩
        have hbq := HB0.out.trans ((HW8.out.trans (hbz.mono HW8.out.size)).mono HB0.out.size)
        go_wp2_with fail
        go_ret
        exact ⟨rfl, hbq⟩


    · have hte1 : (trkErr sa xs == 0) = false := by simpa using hte
      have hte2 : (trkErr sa xs != 0) = true := by simpa using hte
      clear hte HAD
      generalize trkErr sa xs = te at *
      have q0 := cell_keep HQ0.out HW5.out (Nat.le_refl _)
      have q1 := cell_keep HQ1.out HW5.out (Nat.le_refl _)
      go_wp2_with fail
      clear q0 q1
      refine (HAP.out _ (HA.out.below HW5.out (Nat.le_refl _)) (HB.out.below HW5.out (Nat.le_refl _))).mono ?_
      rintro e w6 ⟨rfl, hb6⟩
      have HW6 := Lib.hid (HW5.out.trans (hb6.mono HW5.out.size))
      have HC16 := Lib.hid (HC15.out.below hb6 (Nat.le_refl _))
      clear hb6
      by_cases hae : ae = 0
      · subst hae
        obtain ⟨r1, r2, r3, r4⟩ := HAL.out rfl
        cases har : apRes sa sb
        · clear har
          go_wp2_with fail
          refine (works_any _).mono ?_
          rintro e wz ⟨rfl, hbz⟩
          have hbq := HB0.out.trans ((HW6.out.trans (hbz.mono HW6.out.size)).mono HB0.out.size)
          go_wp2_with fail
          go_ret
          exact ⟨rfl, hbq⟩

        · have hm1 : ((sa.length : Int) * (sb.length : Int)) = ((sa.length * sb.length : Nat) : Int) := by simp
          have hm2 : sa.length * sb.length ≤ 1024 := Nat.mul_le_mul r1 r2
          have hm3 : 0 < sa.length * sb.length := Nat.mul_pos (by omega) (by omega)
          obtain ⟨P, hP⟩ : ∃ P, P = sa.length * sb.length := ⟨_, rfl⟩
          rw [← hP] at hm1 hm2 hm3
          have hm4 : ((P : Int) == 0) = false := by rw [beq_eq_false_iff_ne]; omega
          have hm5 : ¬ (P : Int) = 0 := by omega
          have hm6 : ¬ P = 0 := by omega
          have HM1 := Lib.hid hm1; have HP := Lib.hid hP; have HAR := Lib.hid har
          have hr0 := Nat.mod_lt xs.length hm3
          have x0 := cell_keep HQ0.out HW6.out (Nat.le_refl _)
          have x1 := cell_keep HQ1.out HW6.out (Nat.le_refl _)
          by_cases hmod : xs.length % P = 0
          · have hmz : (xs.length : Int) % (P : Int) = 0 := by omega
            have hp2 : xs.length % (sa.length * sb.length) = 0 := by rw [← HP.out]; exact hmod
            have HP2 := Lib.hid hp2
            clear hp2 hmod har hP
            go_wp2_with fail
            clear x0 x1 hm1 hmz

            refine (HT3.out _ (HT.out.below HW6.out (Nat.le_refl _)) (HB.out.below HW6.out (Nat.le_refl _)) (HX.out.below HW6.out (Nat.le_refl _))).mono ?_
            rintro e w7 ⟨rfl, hb7⟩
            have HW7 := Lib.hid (HW6.out.trans (hb7.mono HW6.out.size))
            have HC17 := Lib.hid (HC16.out.below hb7 (Nat.le_refl _))
            clear hb7

            have q1 := cell_keep HQ1.out HW7.out (Nat.le_refl _)
            go_wp2_with fail
            clear q1
            refine (HT4.out HAR.out HP2.out _ _ _ (HT.out.below HW7.out (Nat.le_refl _)) (HB.out.below HW7.out (Nat.le_refl _)) HC17.out).mono ?_
            rintro e w8 ⟨rfl, hb8⟩
            have HW8 := Lib.hid (HW7.out.trans (hb8.mono HW7.out.size))
            clear hb8

            go_wp2_with fail
            refine (works_any _).mono ?_
            rintro e wz ⟨rfl, hbz⟩
            have hbq := HB0.out.trans ((HW8.out.trans (hbz.mono HW8.out.size)).mono HB0.out.size)
            go_wp2_with fail
            go_ret
            exact ⟨rfl, hbq⟩

          · have hmz : ¬ (xs.length : Int) % (P : Int) = 0 := by omega
            clear hmod har hP
            go_wp2_with fail
            clear x0 x1 hm1 hmz
            refine (works_any _).mono ?_
            rintro e wz ⟨rfl, hbz⟩
            have hbq := HB0.out.trans ((HW6.out.trans (hbz.mono HW6.out.size)).mono HB0.out.size)
            go_wp2_with fail
            go_ret
            exact ⟨rfl, hbq⟩

      · have hae1 : (ae != 0) = true := by simpa using hae
        have hae2 : (ae == 0) = false := by simpa using hae
        clear hae
        go_wp2_with fail
        refine (works_any _).mono ?_
        rintro e wz ⟨rfl, hbz⟩
        have hbq := HB0.out.trans ((HW6.out.trans (hbz.mono HW6.out.size)).mono HB0.out.size)
        go_wp2_with fail
        go_ret
        exact ⟨rfl, hbq⟩


  · have hir := injErr_len hie
    have h3 : (injErr sa am xs != 0) = true := by simpa using hie
    have h4 : (injErr sa am xs == 0) = false := by simpa using hie
    rw [hir] at hinj
    have HINJ := Lib.hid hinj
    clear hinj hie hir
    generalize injErr sa am xs = ie at *
    go_enter Tryz.func9, Tryz.ntmps9
    go_wp2_with fail
    generalize (w.alloc (.cells #[.slice aa sa.length ca, .slice ab sb.length cb] 23)) = W0 at *
    refine (HINJ.out _ HA.out HX.out).mono ?_
    rintro e w1 ⟨⟨a1, c1, rfl, hc1⟩, hb1⟩
    have HC1 := Lib.hid hc1; have HW1 := Lib.hid hb1
    clear hc1 hb1

    go_wp2_with fail
    refine (works_any _).mono ?_
    rintro e wz ⟨rfl, hbz⟩
    have hbq := HB0.out.trans ((HW1.out.trans (hbz.mono HW1.out.size)).mono HB0.out.size)
    go_wp2_with fail
    go_ret
    exact ⟨rfl, hbq⟩

end Go.Proofs.YtmafjfhnejeogaaGreatDoor

/- Arguments read as data, over this program: what their cells hold; and that they read the same behind a call that writes nothing old. -/
namespace Go.Proofs.YtmafjfhnejeogaaGreatDoor
open Go.RowKit Go.WideShapes Go.ChangeShapes Go.Deep Go.Joins

section
variable {H : Type} {enc : TypeId × Value → H} {P : Program}
theorem sameAt_below {W W' : World} (hb : Below W.heap.size W W') {p : MemPlace} (hp : p.block < W.heap.size) : W.sameAt W' p := by
  cases p with
  | cell b off => exact hb.cell (p := ⟨b, off, none⟩) hp
  | map b => exact hb.block b hp
theorem trodAll_carry {W W' : World} {base : Nat} {sp : Nat → Bool} {held : Bool} : ∀ {ts : List TypeId} {vs : List Value} {ds : List (DataW H)} {ps : List MemPlace}, DataW.TrodAll enc P W base sp held ts vs ds ps → (∀ p ∈ ps, W.sameAt W' p) → DataW.TrodAll enc P W' base sp held ts vs ds ps
  | [], [], [], _, h, _ => h
  | _ :: _, _ :: _, _ :: _, _, ⟨p, q, ⟨n, h1⟩, h2, e⟩, hs => ⟨p, q, ⟨n, DataW.trod_carry n _ _ _ h1 fun x hx => hs x (by rw [e]; exact List.mem_append_left _ hx)⟩, trodAll_carry h2 fun x hx => hs x (by rw [e]; exact List.mem_append_right _ hx), e⟩

/-- behind a call that leaves all old blocks alone and answers true, of a law whose data read again as they did -/
theorem law_post {f : Func} {s : ChangeSpec} {W W' : World} {args : Array Value} {ds : List (DataW H)} {before : List MemPlace} (K : Kids P (· < P.types.size))
    (full : ∀ t e, t < P.types.size → P.underlying t = some (.slice e) → 0 < P.cellsOf e) (hT : ∀ t ∈ f.params.toList, t < P.types.size) (hv : s.vars = [])
    (hW : DataW.Whole enc P f.params.toList s.vars false W args.toList ds [] before) (hA : DataW.TrodAll enc P W 0 (fun _ => true) true f.params.toList args.toList ds before)
    (hfn : s.fn H (ds ++ []) = { results := [.lit (.bool true)], args := ds }) (hr : f.resultTypes = #[4]) (hu : P.underlying 4 = some .bool) (hb : Below W.heap.size W W') :
    s.post enc P f false true false false W args (.bool true) W' := by
  have hlt : ∀ p ∈ before, p.block < W.heap.size := fun p hp => hW.lt p hp
  have hold : ∀ p ∈ before, (fun b => decide (b < W.heap.size)) p.block = true := fun p hp => by simpa using hlt p hp
  have hargs : ∀ sp : Nat → Bool, (∀ p ∈ before, sp p.block = true) → DataW.TrodAll enc P W' 0 sp true f.params.toList args.toList (s.fn H (ds ++ [])).args before := by
    intro sp hsp
    rw [hfn]
    exact trodAll_carry (DataW.TrodAll.respare K full hT hA hsp) fun p hp => sameAt_below hb (hlt p hp)
  have hres : ∀ (b : Nat) (sp : Nat → Bool) (hd : Bool), DataW.TrodAll enc P W' b sp hd f.resultTypes.toList ((Value.bool true).resultList f.resultTypes.size) (s.fn H (ds ++ [])).results [] := by
    intro b sp hd
    rw [hfn, hr]
    exact trodAll_cons_mk (shut_bool hu _) trodAll_mk0
  have hvars : ∀ sp : Nat → Bool, DataW.TrodVars enc P W' sp s.vars (s.fn H (ds ++ [])).vars [] := by
    intro sp
    rw [hfn, hv]
    rfl
  refine ⟨ds, [], before, [], before, [], hW, hres _ _ _, hargs _ hold, hvars _, World.keptBut_mono (fun p hp => ⟨hp, Or.inr (Or.inl hp)⟩) (hb.frame (· ∈ before)), fun _ => ?_⟩
  obtain ⟨_, _, _, _, _, hz, hn⟩ := hW
  refine ⟨?_, _, _, ([] ++ before) ++ [], ⟨[] ++ before, [], trodAll_append (hargs _ (fun _ _ => rfl)) (hres _ _ _), hvars _, rfl, ?_, ?_⟩, ?_⟩
  · exact ok_one hr rfl (okWide_bool_mk hu _)
  · intro b off hp
    have hin : MemPlace.cell b off ∈ before := by simpa using hp
    rw [hb.frozen (hlt _ hin)]
    exact hz b off hin
  · intro ha
    have := hn ha
    simpa using this
  · intro p hp _
    simpa using hp

/-- a slice of numbers, as read -/
theorem rd_ints {W : World} {base : Nat} {sp : Nat → Bool} {held : Bool} {t e : TypeId} {fuel : Nat} {cs : List Value} {x : DataW H × List MemPlace} (ht : P.underlying t = some (.slice e)) (he : P.underlying e = some (.int .i64)) (hc : P.cellsOf e = 1)
    (h : DataW.trod enc P W base sp held fuel t cs = some x) :
    ∃ (ao : Option Addr) (xs : List Int) (cap : Nat), cs = [.slice ao xs.length cap] ∧ Cells W ao (xs.map (Value.int .i64)) ∧ xs.length ≤ cap ∧ cap ≤ 9223372036854775807 ∧ ∀ x ∈ xs, (Lit.int .i64 x).wf = true := by
  rcases open_ints ht he hc h with ⟨rfl, _⟩ | ⟨a, len, cap, zs, rfl, _, hl, hm, hz, _, hcell, hwf⟩
  · exact ⟨none, [], 0, rfl, .inl rfl, Nat.le_refl _, by decide, by simp⟩
  · have hzl : len ≤ zs.length := by rw [hz]; split <;> omega
    have htl : (zs.take len).length = len := by simp; omega
    refine ⟨some a, zs.take len, cap, by rw [htl], ?_, by omega, by unfold maxLen at hm; omega, fun x hx => hwf x (List.mem_of_mem_take hx)⟩
    rcases Nat.eq_zero_or_pos len with h0 | h0
    · subst h0; exact .inl (by simp)
    · have hsp := World.cell?_spot (hcell 0 (by omega))
      simp only [Addr.add] at hsp
      obtain ⟨b, off, spot⟩ := a
      simp at hsp
      subst hsp
      refine .inr ⟨b, off, rfl, fun j u hu => ?_⟩
      rw [List.getElem?_map] at hu
      obtain ⟨y, hy, rfl⟩ := Option.map_eq_some_iff.1 hu
      have hj : j < len := by have := (List.getElem?_eq_some_iff.1 hy).1; omega
      have := hcell j (by omega)
      rw [Addr.add_lit] at this
      rw [this]
      have hg : zs.getD j 0 = y := by
        rw [List.getElem?_take] at hy
        rw [if_pos hj] at hy
        rw [List.getD_eq_getElem?_getD, hy]; rfl
      rw [hg]

/-- a slice of pairs of numbers, as read -/
theorem rd_pairs {W : World} {base : Nat} {sp : Nat → Bool} {held : Bool} {t e : TypeId} {f0 f1 : Field} {fuel : Nat} {cs : List Value} {x : DataW H × List MemPlace} (ht : P.underlying t = some (.slice e)) (he : P.underlying e = some (.struct #[f0, f1]))
    (ce : P.cellsOf e = 2) (o0 : f0.offset = 0) (o1 : f1.offset = 1) (c0 : P.cellsOf f0.type = 1) (c1 : P.cellsOf f1.type = 1) (k0 : P.underlying f0.type = some (.int .i64)) (k1 : P.underlying f1.type = some (.int .i64))
    (h : DataW.trod enc P W base sp held fuel t cs = some x) :
    ∃ (ao : Option Addr) (xs : List (Int × Int)) (cap : Nat), cs = [.slice ao xs.length cap] ∧ Cells W ao (prs xs) ∧ xs.length ≤ cap ∧ cap ≤ 9223372036854775807 ∧ ∀ t ∈ xs, (Lit.int .i64 t.1).wf = true ∧ (Lit.int .i64 t.2).wf = true := by
  rcases open_slice_pairs ht he ce o0 o1 c0 c1 h with ⟨rfl, _⟩ | ⟨a, len, cap, m, n, V0, V1, D0, D1, P0, P1, rfl, _, hl, hm, hmm, _, hcell⟩
  · exact ⟨none, [], 0, rfl, .inl rfl, Nat.le_refl _, by decide, by simp⟩
  · have hlm : len ≤ m := by rw [hmm]; split <;> omega
    have each : ∀ i, i < len → ∃ q : Int × Int, W.cell? (a.add (i * 2)) = some (.int .i64 q.1) ∧ W.cell? (a.add (i * 2 + 1)) = some (.int .i64 q.2) ∧ (Lit.int .i64 q.1).wf = true ∧ (Lit.int .i64 q.2).wf = true := by
      intro i hi
      obtain ⟨h1, h2, h3, h4⟩ := hcell i (by omega)
      obtain ⟨z0, e0, _, w0⟩ := DataW.trod_int k0 h3
      obtain ⟨z1, e1, _, w1⟩ := DataW.trod_int k1 h4
      simp only [List.cons.injEq, and_true] at e0 e1
      rw [e0] at h1; rw [e1] at h2
      exact ⟨(z0, z1), h1, h2, w0, w1⟩
    let F : Nat → Int × Int := fun i => if hi : i < len then (each i hi).choose else (0, 0)
    have hF : ∀ i, i < len → W.cell? (a.add (i * 2)) = some (.int .i64 (F i).1) ∧ W.cell? (a.add (i * 2 + 1)) = some (.int .i64 (F i).2) ∧ (Lit.int .i64 (F i).1).wf = true ∧ (Lit.int .i64 (F i).2).wf = true := by
      intro i hi
      have := (each i hi).choose_spec
      simp only [F, dif_pos hi]
      exact this
    have htl : ((List.range len).map F).length = len := by simp
    refine ⟨some a, (List.range len).map F, cap, by rw [htl], ?_, by omega, by unfold maxLen at hm; omega, ?_⟩
    · rcases Nat.eq_zero_or_pos len with h0 | h0
      · subst h0; exact .inl (by simp [prs])
      · have hsp := World.cell?_spot (hF 0 h0).1
        simp only [Addr.add] at hsp
        obtain ⟨b, off, spot⟩ := a
        simp at hsp
        subst hsp
        refine .inr ⟨b, off, rfl, fun j u hu => ?_⟩
        have hj : j < len * 2 := by
          have := (List.getElem?_eq_some_iff.1 hu).1
          rw [prs_length, htl] at this; exact this
        have hg : ((List.range len).map F)[j / 2]? = some (F (j / 2)) := by
          rw [List.getElem?_map, List.getElem?_range (by omega)]; rfl
        have h1 := prs_fst hg
        have h2 := prs_snd hg
        obtain ⟨g1, g2, _⟩ := hF (j / 2) (by omega)
        rw [Addr.add_lit] at g1 g2
        rcases Nat.mod_two_eq_zero_or_one j with hm | hm
        · have e : j / 2 * 2 = j := by omega
          rw [e] at h1 g1
          rw [h1] at hu; rw [g1]; exact hu
        · have e : j / 2 * 2 + 1 = j := by omega
          rw [e] at h2 g2
          rw [h2] at hu; rw [g2]; exact hu
    · intro t ht2
      obtain ⟨i, hi, rfl⟩ := List.mem_map.1 ht2
      have := hF i (List.mem_range.1 hi)
      exact ⟨this.2.2.1, this.2.2.2⟩
end
end Go.Proofs.YtmafjfhnejeogaaGreatDoor

/- Bytes as arguments: what their cells hold, and how many they are. -/
namespace Go.Proofs.YtmafjfhnejeogaaGreatDoor
open Go.RowKit Go.WideShapes Go.ChangeShapes Go.Deep Go.Joins

section
variable {H : Type} {enc : TypeId × Value → H} {P : Program}
/-- how many elements a reading has -/
def dlen : DataW H → Nat
  | .slice elems _ => elems.length
  | _ => 0
theorem rd_bytes {W : World} {base : Nat} {sp : Nat → Bool} {held : Bool} {t e : TypeId} {fuel : Nat} {cs : List Value} {x : DataW H × List MemPlace} (ht : P.underlying t = some (.slice e)) (he : P.underlying e = some (.int .u8)) (hc : P.cellsOf e = 1)
    (h : DataW.trod enc P W base sp held fuel t cs = some x) :
    ∃ (ao : Option Addr) (l : List Nat) (cap : Nat), cs = [.slice ao l.length cap] ∧ Cells W ao (bys l) ∧ l.length ≤ cap ∧ cap ≤ 9223372036854775807 ∧ (∀ d ∈ l, d < 256) ∧ l.length ≤ dlen x.1 := by
  rcases open_ints ht he hc h with ⟨rfl, _⟩ | ⟨a, len, cap, zs, rfl, _, hl, hm, hz, hx, hcell, hwf⟩
  · exact ⟨none, [], 0, rfl, .inl rfl, Nat.le_refl _, by decide, by simp, Nat.zero_le _⟩
  · have hzl : len ≤ zs.length := by rw [hz]; split <;> omega
    have htl : ((zs.take len).map Int.toNat).length = len := by simp; omega
    have hbd : ∀ n ∈ zs, 0 ≤ n ∧ n < 256 := fun n hn => by
      have := hwf n hn
      simp only [Lit.wf, Bool.and_eq_true, IntKind.min, IntKind.max, IntKind.signed, IntKind.bits] at this
      simp at this
      omega
    refine ⟨some a, (zs.take len).map Int.toNat, cap, by rw [htl], ?_, by omega, by unfold maxLen at hm; omega, fun d hd => ?_, ?_⟩
    · rcases Nat.eq_zero_or_pos len with h0 | h0
      · subst h0; exact .inl (by simp [bys])
      · have hsp := World.cell?_spot (hcell 0 (by omega))
        simp only [Addr.add] at hsp
        obtain ⟨b, off, spot⟩ := a
        simp at hsp
        subst hsp
        refine .inr ⟨b, off, rfl, fun j u hu => ?_⟩
        rw [bys, List.getElem?_map, List.getElem?_map] at hu
        obtain ⟨y, hy, rfl⟩ := Option.map_eq_some_iff.1 hu
        obtain ⟨z, hz2, rfl⟩ := Option.map_eq_some_iff.1 hy
        have hj : j < len := by have := (List.getElem?_eq_some_iff.1 hz2).1; simp at this; omega
        have h3 := hcell j (by omega)
        rw [Addr.add_lit] at h3
        rw [h3]
        have hg : zs.getD j 0 = z := by
          rw [List.getElem?_take] at hz2
          rw [if_pos hj] at hz2
          rw [List.getD_eq_getElem?_getD, hz2]; rfl
        have := hbd z (List.mem_of_mem_take (List.mem_of_getElem? hz2))
        rw [hg]
        congr 2
        omega
    · obtain ⟨z, hz2, rfl⟩ := List.mem_map.1 hd
      have := hbd z (List.mem_of_mem_take hz2)
      omega
    · rw [htl, hx]
      simp [dlen, lits]
      omega
end
end Go.Proofs.YtmafjfhnejeogaaGreatDoor

/- Arguments: how long what is read can be (the form's reach); what the row's list of tables gives. -/
namespace Go.Proofs.YtmafjfhnejeogaaGreatDoor
open Go.RowKit Go.WideShapes Go.ChangeShapes Go.Deep Go.Joins

section
variable {H : Type} {enc : TypeId × Value → H} {P : Program}
theorem rd_ints2 {W : World} {base : Nat} {sp : Nat → Bool} {held : Bool} {t e : TypeId} {fuel : Nat} {cs : List Value} {x : DataW H × List MemPlace} (ht : P.underlying t = some (.slice e)) (he : P.underlying e = some (.int .i64)) (hc : P.cellsOf e = 1)
    (h : DataW.trod enc P W base sp held fuel t cs = some x) :
    ∃ (ao : Option Addr) (xs : List Int) (cap : Nat), cs = [.slice ao xs.length cap] ∧ Cells W ao (xs.map (Value.int .i64)) ∧ xs.length ≤ cap ∧ cap ≤ 9223372036854775807 ∧ (∀ x ∈ xs, (Lit.int .i64 x).wf = true) ∧ xs.length ≤ dlen x.1 ∧ (ao = none → cap = 0) := by
  obtain ⟨a0, xs0, c0, h1, h2, h3, h4, h5⟩ := rd_ints ht he hc h
  refine ⟨a0, xs0, c0, h1, h2, h3, h4, h5, ?_⟩
  rcases open_ints ht he hc h with ⟨rfl, _⟩ | ⟨a, len, cap, zs, rfl, _, hl, hm, hz, hx, hcell, hwf⟩
  · simp only [List.cons.injEq, Value.slice.injEq, and_true] at h1
    obtain ⟨rfl, h6, rfl⟩ := h1
    exact ⟨by omega, fun _ => rfl⟩
  · simp only [List.cons.injEq, Value.slice.injEq, and_true] at h1
    obtain ⟨rfl, h6, rfl⟩ := h1
    have hzl : len ≤ zs.length := by rw [hz]; split <;> omega
    refine ⟨?_, fun h => by cases h⟩
    rw [hx]
    simp [dlen, lits]
    omega

theorem reach_all {ts : List TypeId} {ds : List (DataW H)} (h : (DataW.weightsEach P ts ds).all (· ≤ reachBytes) = true) {j : Nat} {t : TypeId} {d : DataW H} (ht : ts[j]? = some t) (hd : ds[j]? = some d) : ∀ n ∈ d.weights P t, n ≤ reachBytes := fun n hn => by
  have := List.all_eq_true.1 h _ (DataW.weights_mem_each ht hd n hn)
  simpa using this
theorem reach_dlen {d : DataW H} {t e : TypeId} (hu : P.underlying t = some (.slice e)) (hb : P.bytesOf e = 8) (h : ∀ n ∈ d.weights P t, n ≤ reachBytes) : dlen d ≤ 17592186044415 := by
  cases d with
  | slice elems spare =>
    have h1 := h ((elems.length + spare.length) * P.bytesOf e) (by simp [DataW.weights, hu])
    rw [hb] at h1
    have h2 : reachBytes = 140737488351232 := rfl
    simp only [dlen]
    omega
  | _ => simp [dlen]
theorem reach_arr2 {a b : DataW H} {t e : TypeId} {n : Nat} (hu : P.underlying t = some (.array n e)) (h : ∀ n ∈ (DataW.agg [a, b]).weights P t, n ≤ reachBytes) : (∀ n ∈ a.weights P e, n ≤ reachBytes) ∧ (∀ n ∈ b.weights P e, n ≤ reachBytes) := by
  have e1 : (DataW.agg [a, b]).weights P t = a.weights P e ++ (b.weights P e ++ []) := by simp [DataW.weights, hu, DataW.weightsAll]
  rw [e1] at h
  exact ⟨fun n hn => h n (by simp [hn]), fun n hn => h n (by simp [hn])⟩
end

theorem pow10_data : (Rows.laid_internal_strconv_uint64pow10 : DataW Unit) = Lib.tabData .u64 Lib.pow10Tab := rfl
theorem pow10_global : Tryz.prog.globalNamed "internal/strconv.uint64pow10" = some 1 := by kernel_rfl
theorem pow10_type : (Tryz.prog.globals[1]?).map (·.type) = some 307 := by kernel_rfl
/-- the table of powers of ten out of a row's list -/
theorem tab_of_laid {W : World} (h : laidMet Tryz.prog [("math/bits.deBruijn32tab", Rows.laid_math_bits_deBruijn32tab), ("math/bits.deBruijn64tab", Rows.laid_math_bits_deBruijn64tab), ("internal/strconv.uint64pow10", Rows.laid_internal_strconv_uint64pow10)] W) : Tab W := by
  obtain ⟨_, ⟨_, _, _, _, _, _, _, _, _, _, ⟨_, _, _, _, _, _, _, _, _, _, ⟨g', t', cs, fuel, p, q, hg', ht', hvar, hd, _, _⟩, _⟩, _⟩, _⟩ := h
  obtain rfl := Option.some.inj (pow10_global.symm.trans hg')
  obtain rfl := Option.some.inj (pow10_type.symm.trans ht')
  unfold Tab Lib.TabIs
  rw [hvar]
  rw [pow10_data] at hd
  rw [← Lib.cells_of_tab Tryz.underlying307 Tryz.underlying196 (by kernel_rfl) (by kernel_rfl) hd]
end Go.Proofs.YtmafjfhnejeogaaGreatDoor

/- Arguments read as data: arrays of two and of three one-cell elements, by value. -/
namespace Go.Proofs.YtmafjfhnejeogaaGreatDoor
open Go.RowKit Go.WideShapes Go.ChangeShapes Go.Deep Go.Joins

section
variable {H : Type} {enc : TypeId × Value → H} {P : Program} {w : World} {base : Nat} {spare : Nat → Bool} {held : Bool}
theorem trod_array2 {t e : TypeId} {fuel : Nat} {c0 c1 : Value} {x : DataW H × List MemPlace} (ht : P.underlying t = some (.array 2 e)) (hce : P.cellsOf e = 1)
    (h : DataW.trod enc P w base spare held fuel t [c0, c1] = some x) :
    ∃ y0 y1 n, x = (.agg [y0.1, y1.1], y0.2 ++ y1.2) ∧ DataW.trod enc P w base spare held n e [c0] = some y0 ∧ DataW.trod enc P w base spare held n e [c1] = some y1 := by
  cases fuel with
  | zero => simp [DataW.trod] at h
  | succ n =>
    unfold DataW.trod at h
    rw [ht] at h
    have r2 : List.range 2 = [0, 1] := rfl
    simp [r2, hce] at h
    obtain ⟨_, h⟩ := h
    cases h0 : DataW.trod enc P w base spare held n e [c0] with
    | none => simp [h0] at h
    | some y0 =>
      cases h1 : DataW.trod enc P w base spare held n e [c1] with
      | none => simp [h0, h1] at h
      | some y1 =>
        simp [h0, h1] at h
        exact ⟨y0, y1, n, h.symm, h0, h1⟩
theorem open_arr2 {r : Reach} {b0 : Nat} {t e : TypeId} {v : Value} {d : DataW H} {p : List MemPlace} (ht : P.underlying t = some (.array 2 e)) (hce : P.cellsOf e = 1) (hC : P.cellsOf t = 2)
    (hv : Value.okWide P w r b0 t v) (h : DataW.Trod enc P w base spare held t v d p) :
    ∃ (v0 v1 : Value) (y0 y1 : DataW H × List MemPlace) (n : Nat), v = .agg #[v0, v1] ∧ d = .agg [y0.1, y1.1] ∧ p = y0.2 ++ y1.2 ∧
      DataW.trod enc P w base spare held n e [v0] = some y0 ∧ DataW.trod enc P w base spare held n e [v1] = some y1 := by
  simp only [Value.okWide, ht] at hv
  obtain ⟨cs, rfl, hsz, _⟩ := hv
  obtain ⟨c0, c1, rfl⟩ := array2 (hsz.trans hC)
  obtain ⟨fuel, hf⟩ := h
  obtain ⟨y0, y1, n, hx, h0, h1⟩ := trod_array2 ht hce (by simpa [Value.cells] using hf)
  simp only [Prod.mk.injEq] at hx
  exact ⟨c0, c1, y0, y1, n, rfl, hx.1, hx.2, h0, h1⟩
theorem open_arr3 {r : Reach} {b0 : Nat} {t e : TypeId} {v : Value} {d : DataW H} {p : List MemPlace} (ht : P.underlying t = some (.array 3 e)) (hce : P.cellsOf e = 1) (hC : P.cellsOf t = 3)
    (hv : Value.okWide P w r b0 t v) (h : DataW.Trod enc P w base spare held t v d p) :
    ∃ (v0 v1 v2 : Value) (y0 y1 y2 : DataW H × List MemPlace) (n : Nat), v = .agg #[v0, v1, v2] ∧ d = .agg [y0.1, y1.1, y2.1] ∧ p = y0.2 ++ (y1.2 ++ y2.2) ∧
      DataW.trod enc P w base spare held n e [v0] = some y0 ∧ DataW.trod enc P w base spare held n e [v1] = some y1 ∧ DataW.trod enc P w base spare held n e [v2] = some y2 := by
  simp only [Value.okWide, ht] at hv
  obtain ⟨cs, rfl, hsz, _⟩ := hv
  obtain ⟨c0, c1, c2, rfl⟩ := array3 (hsz.trans hC)
  obtain ⟨fuel, hf⟩ := h
  obtain ⟨y0, y1, y2, n, hx, h0, h1, h2⟩ := trod_array3 ht hce (by simpa [Value.cells] using hf)
  simp only [Prod.mk.injEq] at hx
  exact ⟨c0, c1, c2, y0, y1, y2, n, rfl, hx.1, hx.2, h0, h1, h2⟩
end
end Go.Proofs.YtmafjfhnejeogaaGreatDoor

namespace Go.Proofs.YtmafjfhnejeogaaGreatDoor
open Go.ChangeShapes Go.WideShapes Go.ChangeAt Go.RowKit Go.Joins Go.Deep

theorem own : ownKnob Tryz.prog.godebug = none := by kernel_rfl
theorem kids : Kids Tryz.prog (· < Tryz.prog.types.size) := kids_rows (by kernel_rfl) (by kernel_rfl)
theorem full : ∀ t e, t < Tryz.prog.types.size → Tryz.prog.underlying t = some (.slice e) → 0 < Tryz.prog.cellsOf e := slices_full_of Tryz.prog (by kernel_rfl)

set_option maxRecDepth 100000 in
theorem law_contract (H : Type) (enc : TypeId × Value → H) (W : World) (base : Nat) (args : Array Value) (ds gs : List (DataW H)) (before : List MemPlace)
    (hval : ∀ (j : Nat) t v, Tryz.f9.params[j]? = some t → args[j]? = some v → Value.okWide Tryz.prog W .any base t v)
    (hW : DataW.Whole enc Tryz.prog Tryz.f9.params.toList Rows.recordInjectedSpec.vars false W args.toList ds gs before) (hsz : (DataW.weightsEach Tryz.prog (Tryz.f9.params.toList ++ (OpenSpec.ofChange Rows.recordInjectedSpec).bare.plain.varTypes Tryz.prog) (ds ++ gs)).all (· ≤ reachBytes) = true) (htab : Tab W) :
    Calls Tryz.prog 9 args W fun e W' => ∃ v, e = .returned v ∧ Rows.recordInjectedSpec.post enc Tryz.prog Tryz.f9 false true false false W args v W' := by
  have hW' := hW
  obtain ⟨p, q, hA0, hV, rfl, hfz, hnd⟩ := hW
  have hA : DataW.TrodAll enc Tryz.prog W 0 (fun _ => true) true Tryz.f9.params.toList args.toList ds p := hA0
  have hAk := hA
  rw [Tryz.params9] at hA hval
  obtain ⟨v0, v1, v2, d0, d1, d2, p0, p1, p2, rfl, rfl, rfl, h0, h1, h2⟩ := trodAll_three hA
  obtain ⟨rfl, rfl⟩ := trodVars_none hV
  obtain ⟨u0a, u0b, y0a, y0b, k0, rfl, rfl, rfl, g0a, g0b⟩ := open_arr2 Tryz.underlying23 (by kernel_rfl) (by kernel_rfl) (hval 0 23 v0 rfl rfl) h0
  obtain ⟨a0a, xs0a, c0a, e0a, hxs0a, hlx0a, hlc0a, hwf0a, hdl0a, hnn0a⟩ := rd_ints2 Tryz.underlying22 Tryz.underlying3 (by kernel_rfl) g0a
  have hbd0a : xs0a.length ≤ 17592186044415 := Nat.le_trans hdl0a (reach_dlen Tryz.underlying22 (by kernel_rfl) (reach_arr2 Tryz.underlying23 (reach_all hsz (j := 0) (t := 23) (by kernel_rfl) rfl)).1)
  obtain ⟨a0b, xs0b, c0b, e0b, hxs0b, hlx0b, hlc0b, hwf0b, hdl0b, hnn0b⟩ := rd_ints2 Tryz.underlying22 Tryz.underlying3 (by kernel_rfl) g0b
  have hbd0b : xs0b.length ≤ 17592186044415 := Nat.le_trans hdl0b (reach_dlen Tryz.underlying22 (by kernel_rfl) (reach_arr2 Tryz.underlying23 (reach_all hsz (j := 0) (t := 23) (by kernel_rfl) rfl)).2)
  simp only [List.cons.injEq, and_true] at e0a e0b
  obtain ⟨n1, rfl, rfl, rfl, hwf1⟩ := open_int Tryz.underlying3 (hval 1 3 v1 rfl rfl) h1
  obtain ⟨b2, len2, cap2, rfl⟩ := okWide_slice Tryz.underlying22 (hval 2 22 v2 rfl rfl)
  obtain ⟨fuel2, hf2⟩ := h2
  obtain ⟨a2, xs2, c2, e2, hxs2, hlx2, hlc2, hwf2, hdl2, hnn2⟩ := rd_ints2 Tryz.underlying22 Tryz.underlying3 (by kernel_rfl) hf2
  have hbd2 : xs2.length ≤ 17592186044415 := Nat.le_trans hdl2 (reach_dlen Tryz.underlying22 (by kernel_rfl) (reach_all hsz (j := 2) (t := 22) (by kernel_rfl) rfl))
  have e2' : Value.slice b2 len2 cap2 = Value.slice a2 xs2.length c2 := by simpa [Value.cells] using e2
  rw [e0a, e0b, e2'] at hW' hAk ⊢
  simp only [List.append_nil] at hW' hAk
  refine (injected_any a0a xs0a c0a a0b xs0b c0b n1 a2 xs2 c2 W htab hxs0a hbd0a hxs0b hbd0b hxs2 hbd2).mono fun e W' ⟨he, hb⟩ => ?_
  subst he
  exact ⟨_, rfl, law_post kids full (by rw [Tryz.params9]; decide) rfl hW' hAk rfl rfl Tryz.underlying4 hb⟩

theorem law_met (os : Os) (args : Array Value) : laidMet Tryz.prog Rows.recordInjectedRow.laid ((World.doorLaid Tryz.prog 400 os).forCall (fun _ _ => 0) ⟨#[], args, []⟩).memory :=
  laidMet_of_run' 40 (by kernel_rfl) (by kernel_rfl)
theorem law_reads (os : Os) {H : Type} (enc : TypeId × Value → H) : ∃ places, DataW.whole enc Tryz.prog ((World.doorLaid Tryz.prog 400 os).forCall (fun _ _ => 0) ⟨#[], #[.agg #[.slice none 0 0, .slice none 0 0], .int .i64 0, .slice none 0 0], []⟩).memory Tryz.f9.params.toList Rows.recordInjectedSpec.vars false #[Value.agg #[.slice none 0 0, .slice none 0 0], Value.int .i64 0, Value.slice none 0 0].toList 8 = some ([.agg [.nil, .nil], .lit (.int .i64 0), .nil], [], places) :=
  ⟨[], by kernel_rfl⟩

set_option maxRecDepth 100000 in
theorem law_lifted (os : Os) (started : os.Started) (H : Type) (enc : TypeId × Value → H) (F : Stop.Interp) :
    ReturnsInHanded {} Tryz.checked os 9 .any ((OpenSpec.ofChange Rows.recordInjectedSpec).preRow enc Tryz.prog Tryz.f9 Rows.recordInjectedRow.domain false Rows.recordInjectedRow.laid) (((OpenSpec.ofChange Rows.recordInjectedSpec).at F).post enc Tryz.prog Tryz.f9 false true false false) := by
  obtain ⟨places, hx⟩ := law_reads os enc
  refine returnsInHanded_of_row (C := Tryz.checked) (s := OpenSpec.ofChange Rows.recordInjectedSpec) own started (by kernel_rfl) Tryz.func9
    (witness_row_at (enc := enc) (C := Tryz.checked) false (World.doorLaid Tryz.prog 400 os) #[.agg #[.slice none 0 0, .slice none 0 0], .int .i64 0, .slice none 0 0] rfl (by kernel_rfl) (by kernel_rfl) (by kernel_rfl)
      (OpenSpec.preRow_of_cond 8 hx (by kernel_rfl) (fun k hk => by cases hk) (by kernel_rfl) (law_met os _))) ?_
  intro W base args ds gs before hval hW _ _ hsz hL _ _
  exact law_contract H enc W base args ds gs before hval hW hsz (tab_of_laid hL)

theorem law_said : Rows.RecordInjectedSaid :=
  OpenClaim.holds_of_cond 9 Tryz.f9 rfl rfl rfl rfl rfl rfl rfl ⟨rfl, rfl, rfl, rfl, rfl⟩ rfl rfl rfl rfl rfl (by kernel_rfl) Tryz.func9 (by kernel_rfl)
    (of_decide_eq_true (by kernel_rfl)) (by unfold Func.isWrapper; first | (rw [if_pos (by decide +kernel)]; kernel_rfl) | (rw [if_neg (by decide +kernel)]; exact ⟨rfl, rfl⟩))
    (fun os started H enc _ F => by rw [OpenClaim.pre_eq_preRow]; exact law_lifted os started H enc F)

theorem law_plain (f : FuncId) (fn : Func) (hf : Tryz.pinned.checked.prog.funcNamed "ringdown/ringdownlaw05.RecordInjected" = some f) (hfn : Tryz.pinned.checked.prog.funcs[f]? = some fn) :
    false = Tryz.pinned.checked.prog.looks [] ∧ ∀ (j : Nat) t, fn.params[j]? = some t → Tryz.pinned.checked.prog.wantsStandIn t = false := by
  obtain rfl : f = 9 := Option.some.inj ((show Tryz.prog.funcNamed "ringdown/ringdownlaw05.RecordInjected" = some 9 by kernel_rfl).symm.trans hf) |>.symm
  obtain rfl : fn = Tryz.f9 := (Option.some.inj (Tryz.func9.symm.trans hfn)).symm
  refine ⟨by kernel_rfl, fun j t ht => ?_⟩
  rw [Tryz.params9] at ht
  have : t = 23 ∨ t = 3 ∨ t = 22 := by simpa using Array.mem_of_getElem? ht
  rcases this with rfl | rfl | rfl
  · exact (show Tryz.prog.wantsStandIn 23 = false by kernel_rfl)
  · exact (show Tryz.prog.wantsStandIn 3 = false by kernel_rfl)
  · exact (show Tryz.prog.wantsStandIn 22 = false by kernel_rfl)

/-- RecordInjected holds. -/
theorem recordInjected_holds : Rows.RecordInjectedCardSaid :=
  Claim7.holds_tied_plain_at .later [] _ _ _ _ law_said (fun _ h => by cases h) (by kernel_rfl) (fun _ h => by cases h) recordInjected_row_tie rfl ⟨rfl, rfl⟩ (by kernel_rfl) rfl law_plain (by kernel_rfl)
end Go.Proofs.YtmafjfhnejeogaaGreatDoor
