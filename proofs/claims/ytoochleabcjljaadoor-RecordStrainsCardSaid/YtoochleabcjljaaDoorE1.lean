/- Codes: residues. -/
import Derived.Test.YtoochleabcjljaaDoorE0
namespace Go.Proofs.YtoochleabcjljaaDoor
open Go.RowKit

set_option maxRecDepth 100000 in
set_option maxHeartbeats 1000000 in
theorem residues_any (ao : Option Addr) (xs : List Int) (cap : Nat) (o : Nat) (w : World) (hc : Cells w ao (xs.map (Value.int .i64))) (hl : xs.length ≤ 4096) (ho : o ≤ 3) (hx : ∀ x ∈ xs, -8388608 ≤ x ∧ x ≤ 8388608) :
    Calls Tryd.prog 49 #[.slice ao xs.length cap, .int .i64 (o : Nat)] w fun e w' => (∃ a c, e = .returned (.slice a (resid xs o).length c) ∧ Cells w' a ((resid xs o).map (Value.int .i64)) ∧ ∀ b off, a = some ⟨b, off, none⟩ → w.heap.size ≤ b) ∧ Below w.heap.size w w' := by
  have HC := Lib.hid hc; have HX := Lib.hid hx; clear hc hx
  go_enter Tryd.func49, Tryd.ntmps49
  go_wp2_with fail
  refine (clone_any ao xs cap w HC.out (by omega)).mono ?_
  rintro e w1 ⟨⟨v, rfl, hown⟩, hb1⟩
  obtain ⟨g, cg, hv⟩ : ∃ g cg, v = .slice g xs.length cg := by
    obtain ⟨a, c, h, _⟩ := own_cells hown; exact ⟨a, c, h⟩
  subst hv
  have HO := Lib.hid hown; clear hown
  go_wp2
  go_loopw [10] (fun i wr => ∃ k : Nat, k ≤ o ∧ i = .int .i64 k ∧ wr.ownsRow w.heap.size 3 1 (.slice g xs.length cg) xs.length ((resid xs k).map (Value.int .i64)) ∧ Below w.heap.size w wr) (fun i _ => o - (intOf i).toNat)
  case atStart => exact ⟨0, Nat.zero_le _, rfl, HO.out, hb1⟩
  case round =>
    clear hb1
    obtain ⟨k, hk, rfl, hown, hb⟩ := hrel
    obtain ⟨wo, rfl⟩ : ∃ wo : World, wo = wr := ⟨_, rfl⟩
    have HO2 := Lib.hid hown; clear hown
    by_cases hlt : k < o
    · have hrl := resid_length xs k
      have hrb := resid_bd HX.out k (by omega)
      generalize hys : resid xs k = ys at *
      have HYS : Hid (resid xs (k + 1) = diffs ys) := by rw [← hys]; rfl
      clear hys
      have HYB := Lib.hid hrb; clear hrb
      have hrl2 : xs.length = ys.length := hrl.symm
      have hyl : ys.length ≤ 4096 := by omega
      clear hl
      generalize xs.length = n at *
      subst hrl2
      clear hrl
      go_wp2
      go_loopw [6] (fun i wi => ∃ j : Nat, j ≤ ys.length ∧ (j = 0 → ys.length = 0) ∧ i = .int .i64 ((j : Int) - 1) ∧ wi.ownsRow w.heap.size 3 1 (.slice g ys.length cg) ys.length ((ys.take j ++ (diffs ys).drop j).map (Value.int .i64)) ∧ Below w.heap.size w wi) (fun i _ => (intOf i + 1).toNat)
      case atStart =>
        refine ⟨ys.length, Nat.le_refl _, fun h => h, rfl, ?_, hb⟩
        rw [List.take_length, List.drop_eq_nil_of_le (by rw [diffs_length]; omega), List.append_nil]
        exact HO2.out
      case round =>
        clear hb
        obtain ⟨j, hj, hj0, rfl, hown, hb⟩ := hrel
        by_cases h1 : 1 < j
        · obtain ⟨q, rfl⟩ : ∃ q, j = q + 2 := ⟨j - 2, by omega⟩
          have e1 : (((q + 2 : Nat) : Int) - 1) = ((q + 1 : Nat) : Int) := by omega
          rw [e1]
          obtain ⟨x, hx⟩ := get_of_lt (show q + 1 < ys.length by omega)
          obtain ⟨y, hy⟩ := get_of_lt (show q < ys.length by omega)
          have hst := diff_step (xs := ys) (k := q + 1) (by omega) (by omega)
          have hxg : ys.getD (q + 1) 0 = x := by rw [List.getD_eq_getElem?_getD, hx]; rfl
          have hyg : ys.getD (q + 1 - 1) 0 = y := by rw [Nat.add_sub_cancel, List.getD_eq_getElem?_getD, hy]; rfl
          rw [hxg, hyg] at hst
          have bx := HYB.out x (List.mem_of_getElem? hx)
          have bY := HYB.out y (List.mem_of_getElem? hy)
          obtain ⟨bx1, bx2⟩ := bx
          obtain ⟨by1, by2⟩ := bY
          obtain ⟨a, c, hv, hcs⟩ := own_cells hown
          simp only [Value.slice.injEq, true_and] at hv
          obtain ⟨rfl, rfl⟩ := hv
          obtain ⟨gb, go, rfl⟩ := hcs.addr (List.ne_nil_of_length_pos (by rw [List.length_map, List.length_append, List.length_take]; omega))
          have hg0 : go = 0 := by
            rcases hown.2 with ⟨h, _⟩ | ⟨_, _, _, h, _⟩
            · simp at h
            · simp at h; exact h.1.2
          subst hg0
          have hlx : (ys.take (q + 2)).length = q + 2 := by rw [List.length_take]; omega
          have c1 : wr.cell? ⟨gb, q + 1, none⟩ = some (.int .i64 x) := by
            rw [hown.cellAt (q + 1) (by omega), List.getElem?_map, List.getElem?_append_left (by rw [hlx]; omega), List.getElem?_take, if_pos (by omega), hx]; rfl
          have c2 : wr.cell? ⟨gb, q, none⟩ = some (.int .i64 y) := by
            rw [hown.cellAt q (by omega), List.getElem?_map, List.getElem?_append_left (by rw [hlx]; omega), List.getElem?_take, if_pos (by omega), hy]; rfl
          have f1 := hown.frozenAt (q + 1)
          have hsto := (hown.stored (q + 1) (.int .i64 (x - y))).1
          rw [← List.map_set, hst] at hsto
          have hgb : w.heap.size ≤ gb := (hown.lt gb rfl).1
          have hb2 : Below w.heap.size w (wr.setCell ⟨gb, q + 1, none⟩ (.int .i64 (x - y))) := hb.setCell hgb _
          have HST := Lib.hid hsto; have HB2 := Lib.hid hb2
          clear hsto hb2 hst hxg hyg hx hy hcs hown e1 hj0 hlx
          have i1 : (q : Int) + 1 < ys.length := by omega
          have i2 : (q : Int) < ys.length := by omega
          have i3 : (0 : Int) ≤ q := by omega
          have i4 : (0 : Int) ≤ (q : Int) + 1 := by omega
          have i5 : (q : Int) + 1 = ((q + 1 : Nat) : Int) := by omega
          have I5 := Lib.hid i5; clear i5
          have q1 : IntKind.i64.wrap (((q + 1 : Nat) : Int) - 1) = (q : Int) := by rw [IntWalk.i64_in _ (by omega)]; omega
          have q6 : IntKind.i64.wrap (q : Int) = (q : Int) := IntWalk.i64_in _ (by omega)
          have q2 : IntKind.i64.wrap (x - y) = x - y := IntWalk.i64_in _ (by omega)
          have q5 : IntKind.i64.wrap ((q : Int) + 1 - 1) = (q : Int) := by rw [IntWalk.i64_in _ (by omega)]; omega
          have q3 : (((q : Int) + 1)).toNat = q + 1 := by omega
          go_wp2
          go_still_tail 11, (by kernel_rfl)
          change wpList _ _ _ _ _ wr.drew
          have c1d : wr.drew.cell? ⟨gb, q + 1, none⟩ = some (.int .i64 x) := c1
          have f1d : wr.drew.frozen? ⟨gb, q + 1, none⟩ = false := f1
          have HSTd : Hid ((wr.drew.setCell ⟨gb, q + 1, none⟩ (.int .i64 (x - y))).ownsRow w.heap.size 3 1 (.slice (some ⟨gb, 0, none⟩) ys.length cg) ys.length ((ys.take (q + 1) ++ (diffs ys).drop (q + 1)).map (Value.int .i64))) := HST.out
          have HB2d : Hid (Below w.heap.size w (wr.drew.setCell ⟨gb, q + 1, none⟩ (.int .i64 (x - y)))) := by
            have h := HB2.out
            exact ⟨h.os, h.tape, h.output, h.size, h.block⟩
          clear HST HB2 c1 c2 f1 q1 q2 q5 q6 q3
          generalize wr.drew = wd at *
          go_wp2
          go_roundw
          case rel => exact ⟨q + 1, by omega, by omega, by go_num, HSTd.out, HB2d.out⟩
          case measure => simp [intOf]; omega
        · have hfin : wr.ownsRow w.heap.size 3 1 (.slice g ys.length cg) ys.length ((diffs ys).map (Value.int .i64)) := by
            by_cases hj1 : j = 1
            · subst hj1; rw [diff_end (by omega)] at hown; exact hown
            · obtain rfl : j = 0 := by omega
              have h0 := hj0 rfl
              have e0 : ys = [] := List.length_eq_zero_iff.1 h0
              subst e0
              simpa [diffs] using hown
          have HF := Lib.hid hfin; clear hfin hown hj0
          have hle : ((j : Int) - 1) ≤ 0 := by omega
          go_wp2
          go_roundw
          case rel => exact ⟨k + 1, by omega, by go_num, by rw [HYS.out]; exact HF.out, hb⟩
          case measure => simp [intOf]; omega
    · obtain rfl : k = o := by omega
      obtain ⟨a, c, hv, hcs⟩ := own_cells HO2.out
      simp only [Value.slice.injEq, true_and] at hv
      obtain ⟨rfl, rfl⟩ := hv
      have HCS := Lib.hid hcs; clear hcs
      have hrl := resid_length xs k
      have HRL := Lib.hid hrl; clear hrl
      go_wp2
      go_ret
      exact ⟨⟨_, _, by rw [HRL.out]; rfl, HCS.out, fun b off h => (HO2.out.lt b (by rw [h]; rfl)).1⟩, hb⟩
end Go.Proofs.YtoochleabcjljaaDoor
