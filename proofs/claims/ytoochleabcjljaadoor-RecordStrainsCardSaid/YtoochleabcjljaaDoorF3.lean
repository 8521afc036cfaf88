/- Examples: what works asks holds. -/
import Derived.Test.YtoochleabcjljaaDoorF2
import Derived.Test.YtoochleabcjljaaDoorB3
import Derived.Laws.IdiomStrings
namespace Go.Proofs.YtoochleabcjljaaDoor
open Go.RowKit

theorem exCode : encRes bookX 1 [[0, 1, 1, 2], [-1]] = [165, 90, 0, 7, 0, 0, 0, 1, 64, 204, 2, 89, 2, 199] ∧ frmErr bookX 1 [[0, 1, 1, 2], [-1]] = 0 := by decide +kernel
theorem exStrain : strain [(3, 4), (-1, 1)] 1 [2, 5] = [(3, 4), (6, 11)] ∧ strErr [(3, 4), (-1, 1)] 1 [2, 5] = 0 := by decide +kernel
theorem exInject : injRes [1, -1] 3 [5, 1, 4, 2, 9] = [8, -2, 7, -1, 12] ∧ injErr [1, -1] 3 [5, 1, 4, 2, 9] = 0 := by decide +kernel
theorem exTrack : linedErr [1, -1] [5, 1, 4, 2, 9] = 0 ∧ ampN [1, -1] [5, 1, 4, 2, 9] (whole [1, -1] [5, 1, 4, 2, 9]) = (6 : Nat) ∧ ampD [1, -1] (whole [1, -1] [5, 1, 4, 2, 9]) = (4 : Nat) := by decide +kernel
theorem new_cells (w : World) (cs : List Value) (T : TypeId) : Cells (w.alloc (.cells cs.toArray T)) (some ⟨w.heap.size, 0, none⟩) cs := .inr ⟨_, _, rfl, fun j u hu => by rw [Nat.zero_add]; simpa using hu⟩

theorem one_row {w : World} {a : Option Addr} {xs : List Int} {c : Nat} (h : Cells w a (xs.map (Value.int .i64))) (hl : xs.length ≤ 17592186044416) : RowV w (.slice a xs.length c) xs := ⟨a, c, rfl, h, hl⟩
theorem two_rows {w : World} {v1 v2 : Value} {x1 x2 : List Int} (h1 : RowV w v1 x1) (h2 : RowV w v2 x2) : RowsV w [v1, v2] [x1, x2] := by
  refine ⟨rfl, fun i v xs hv hx => ?_⟩
  match i, hv, hx with
  | 0, hv, hx => simp at hv hx; subst hv hx; exact h1
  | 1, hv, hx => simp at hv hx; subst hv hx; exact h2
theorem conv_bytes {w : World} {b : Nat} {cap : Nat} (l : List UInt8) (h : Cells w (some ⟨b, 0, none⟩) (l.map fun d => Value.int .u8 (d.toNat : Int))) :
    (convert 64 9 (.slice (some ⟨b, 0, none⟩) l.length cap)).run Tryd.prog w = .ok (.string ⟨l.toArray⟩) w :=
  run_convert_bytes_back w _ _ 5 ⟨b, 0, none⟩ cap l Tryd.underlying64 Tryd.underlying5 Tryd.underlying9 (fun j hj => by
    have := h.at (j := j) (u := .int .u8 (l[j].toNat : Int)) (by simp [hj])
    rw [Addr.add_lit]; exact this)


theorem two_new (w : World) (c1 c2 : List Value) (T1 T2 : TypeId) : Cells ((w.alloc (.cells c1.toArray T1)).alloc (.cells c2.toArray T2)) (some ⟨w.heap.size, 0, none⟩) c1 ∧ Cells ((w.alloc (.cells c1.toArray T1)).alloc (.cells c2.toArray T2)) (some ⟨w.heap.size + 1, 0, none⟩) c2 := by
  constructor
  · exact (new_cells w c1 T1).below ((Below.refl _ _).alloc (Nat.le_refl _) _) (Nat.le_refl _)
  · have := new_cells (w.alloc (.cells c1.toArray T1)) c2 T2
    rwa [World.size_alloc] at this
theorem two_below (w : World) (o1 o2 : Obj) : Below w.heap.size w ((w.alloc o1).alloc o2) := ((Below.refl _ _).alloc (Nat.le_refl _) _).alloc (by simp) _

theorem ex_encode (w : World) :
    Calls Tryd.prog 26 #[.slice (some ⟨w.heap.size, 0, none⟩) 2 2, .agg #[.int .i64 1, .slice (some ⟨w.heap.size + 1 + 1 + 1, 0, none⟩) 2 2]]
      ((((w.alloc (.cells #[.string ⟨#[101, 114, 114]⟩, .int .i64 4, .int .i64 8, .string ⟨#[97, 117, 120]⟩, .int .i64 1, .int .i64 4] 57)).alloc (.cells #[.int .i64 0, .int .i64 1, .int .i64 1, .int .i64 2] 3)).alloc (.cells #[.int .i64 (-1)] 3)).alloc (.cells #[.slice (some ⟨w.heap.size + 1, 0, none⟩) 4 4, .slice (some ⟨w.heap.size + 1 + 1, 0, none⟩) 1 1] 25))
      fun e w' => (∃ b c, e = .returned (.tuple #[.slice (some ⟨b, 0, none⟩) 14 c, .int .i64 0]) ∧ Cells w' (some ⟨b, 0, none⟩) (bys [165, 90, 0, 7, 0, 0, 0, 1, 64, 204, 2, 89, 2, 199])) ∧ Below w.heap.size w w' := by
  obtain ⟨x1, x2⟩ := exCode
  have hb2 := two_below w (.cells #[.string ⟨#[101, 114, 114]⟩, .int .i64 4, .int .i64 8, .string ⟨#[97, 117, 120]⟩, .int .i64 1, .int .i64 4] 57) (.cells #[.int .i64 0, .int .i64 1, .int .i64 1, .int .i64 2] 3)
  obtain ⟨k1, k2⟩ := two_new w (chs bookX) ([0, 1, 1, 2].map (Value.int .i64)) 57 3
  have hs2 : ((w.alloc (.cells (chs bookX).toArray 57)).alloc (.cells ([0, 1, 1, 2].map (Value.int .i64)).toArray 3)).heap.size = w.heap.size + 1 + 1 := by simp
  change Below w.heap.size w ((w.alloc (.cells (chs bookX).toArray 57)).alloc (.cells ([0, 1, 1, 2].map (Value.int .i64)).toArray 3)) at hb2
  change Calls _ _ _ ((((w.alloc (.cells (chs bookX).toArray 57)).alloc (.cells ([0, 1, 1, 2].map (Value.int .i64)).toArray 3)).alloc (.cells ([-1].map (Value.int .i64)).toArray 3)).alloc (.cells [.slice (some ⟨w.heap.size + 1, 0, none⟩) 4 4, .slice (some ⟨w.heap.size + 1 + 1, 0, none⟩) 1 1].toArray 25)) _
  generalize ((w.alloc (.cells (chs bookX).toArray 57)).alloc (.cells ([0, 1, 1, 2].map (Value.int .i64)).toArray 3)) = W at *
  obtain ⟨k3, k4⟩ := two_new W ([-1].map (Value.int .i64)) [.slice (some ⟨w.heap.size + 1, 0, none⟩) 4 4, .slice (some ⟨w.heap.size + 1 + 1, 0, none⟩) 1 1] 3 25
  have hb4 := two_below W (.cells ([-1].map (Value.int .i64)).toArray 3) (.cells [.slice (some ⟨w.heap.size + 1, 0, none⟩) 4 4, .slice (some ⟨w.heap.size + 1 + 1, 0, none⟩) 1 1].toArray 25)
  generalize ((W.alloc (.cells ([-1].map (Value.int .i64)).toArray 3)).alloc (.cells [.slice (some ⟨w.heap.size + 1, 0, none⟩) 4 4, .slice (some ⟨w.heap.size + 1 + 1, 0, none⟩) 1 1].toArray 25)) = W2 at *
  rw [hs2] at k3 k4
  have q1 := k1.below hb4 (Nat.le_refl _)
  have q2 := k2.below hb4 (Nat.le_refl _)
  have h := Encode_any (some ⟨w.heap.size, 0, none⟩) bookX 2 1 (some ⟨w.heap.size + 1 + 1 + 1, 0, none⟩) [.slice (some ⟨w.heap.size + 1, 0, none⟩) 4 4, .slice (some ⟨w.heap.size + 1 + 1, 0, none⟩) 1 1] [[0, 1, 1, 2], [-1]] 2 W2 ⟨q1, by decide, by decide, by decide, by decide, by decide⟩ k4 (two_rows (one_row (xs := [0, 1, 1, 2]) q2 (by decide)) (one_row (xs := [-1]) k3 (by decide))) (by decide)
  rw [x1, x2] at h
  refine Calls.mono h ?_
  rintro e w' ⟨⟨v, rfl, hown⟩, hb⟩
  obtain ⟨g, c, rfl, _, _⟩ := hown.form (by decide)
  obtain ⟨a, c', h1, h2⟩ := own_cells hown
  simp only [Value.slice.injEq] at h1
  exact ⟨⟨g, c, rfl, by rw [h1.1]; exact h2⟩, hb2.trans ((hb4.mono hb2.size).trans (hb.mono (Nat.le_trans hb2.size hb4.size)))⟩

theorem ex_strain (w : World) :
    Calls Tryd.prog 6 #[.agg #[.slice (some ⟨w.heap.size, 0, none⟩) 2 2, .int .i64 1], .slice (some ⟨w.heap.size + 1, 0, none⟩) 2 2]
      ((w.alloc (.cells #[.int .i64 3, .int .i64 4, .int .i64 (-1), .int .i64 1] 37)).alloc (.cells #[.int .i64 2, .int .i64 5] 3))
      fun e w' => (∃ a c, e = .returned (.tuple #[.slice a 2 c, .int .i64 0]) ∧ Cells w' a (prs [(3, 4), (6, 11)])) ∧ Below w.heap.size w w' := by
  obtain ⟨x1, x2⟩ := exStrain
  obtain ⟨k1, k2⟩ := two_new w (prs [(3, 4), (-1, 1)]) ([2, 5].map (Value.int .i64)) 37 3
  have hb2 := two_below w (.cells (prs [(3, 4), (-1, 1)]).toArray 37) (.cells ([2, 5].map (Value.int .i64)).toArray 3)
  have h := strain_any (some ⟨w.heap.size, 0, none⟩) [(3, 4), (-1, 1)] 2 1 (some ⟨w.heap.size + 1, 0, none⟩) [2, 5] 2 _ k1 (by decide) k2 (by decide)
  rw [x1, x2] at h
  exact Calls.mono h fun e w' ⟨⟨a, c, h1, h2⟩, h3⟩ => ⟨⟨a, c, h1, h2⟩, hb2.trans (h3.mono hb2.size)⟩

theorem ex_track (w : World) :
    Calls Tryd.prog 28 #[.slice (some ⟨w.heap.size, 0, none⟩) 2 2, .slice (some ⟨w.heap.size + 1, 0, none⟩) 5 5]
      ((w.alloc (.cells #[.int .i64 1, .int .i64 (-1)] 3)).alloc (.cells #[.int .i64 5, .int .i64 1, .int .i64 4, .int .i64 2, .int .i64 9] 3))
      fun e w' => e = .returned (.tuple #[.string ⟨#[51, 47, 50]⟩, .int .i64 0]) ∧ Below w.heap.size w w' := by
  obtain ⟨x7, x8, x9⟩ := exTrack
  obtain ⟨k1, k2⟩ := two_new w ([1, -1].map (Value.int .i64)) ([5, 1, 4, 2, 9].map (Value.int .i64)) 3 3
  have hb2 := two_below w (.cells ([1, -1].map (Value.int .i64)).toArray 3) (.cells ([5, 1, 4, 2, 9].map (Value.int .i64)).toArray 3)
  have h := track_dig 6 4 (some ⟨w.heap.size, 0, none⟩) [1, -1] 2 (some ⟨w.heap.size + 1, 0, none⟩) [5, 1, 4, 2, 9] 5 _ k1 k2 x7 x8 x9 (by decide) (by decide) (by decide) (by decide) (by decide) (by decide) (by decide)
  have e1 : digB (6 / Nat.gcd 6 4) ++ (⟨#[47]⟩ ++ digB (4 / Nat.gcd 6 4)) = ⟨#[51, 47, 50]⟩ := by decide +kernel
  rw [e1] at h
  exact Calls.mono h fun e w' ⟨h1, h3⟩ => ⟨h1, hb2.trans (h3.mono hb2.size)⟩

theorem ex_inject (w : World) :
    Calls Tryd.prog 29 #[.slice (some ⟨w.heap.size, 0, none⟩) 2 2, .int .i64 3, .slice (some ⟨w.heap.size + 1, 0, none⟩) 5 5]
      ((w.alloc (.cells #[.int .i64 1, .int .i64 (-1)] 3)).alloc (.cells #[.int .i64 5, .int .i64 1, .int .i64 4, .int .i64 2, .int .i64 9] 3))
      fun e w' => (∃ a c, e = .returned (.tuple #[.slice a 5 c, .int .i64 0]) ∧ Cells w' a ([8, -2, 7, -1, 12].map (Value.int .i64))) ∧ Below w.heap.size w w' := by
  obtain ⟨x1, x2⟩ := exInject
  obtain ⟨k1, k2⟩ := two_new w ([1, -1].map (Value.int .i64)) ([5, 1, 4, 2, 9].map (Value.int .i64)) 3 3
  have hb2 := two_below w (.cells ([1, -1].map (Value.int .i64)).toArray 3) (.cells ([5, 1, 4, 2, 9].map (Value.int .i64)).toArray 3)
  have h := inject_any (some ⟨w.heap.size, 0, none⟩) [1, -1] 2 3 (some ⟨w.heap.size + 1, 0, none⟩) [5, 1, 4, 2, 9] 5 _ k1 (by decide) k2 (by decide)
  rw [x1, x2] at h
  exact Calls.mono h fun e w' ⟨⟨a, c, h1, h2⟩, h3⟩ => ⟨⟨a, c, h1, h2⟩, hb2.trans (h3.mono hb2.size)⟩
end Go.Proofs.YtoochleabcjljaaDoor
