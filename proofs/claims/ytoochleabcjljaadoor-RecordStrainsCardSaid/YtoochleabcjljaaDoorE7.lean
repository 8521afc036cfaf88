/- Codes: the ways, by an iterator. -/
import Derived.RangeFuncNested
import Derived.RangeFuncBound
import Derived.RangeFuncCalls
import Derived.RangeFuncLeaves
import Derived.Shelf.Abstract
import Derived.Shelf.RegionOpen
import Derived.WalkKit
import Derived.OwnWalkIn
import Derived.TacticsInMore
import Derived.LoopNIn
import Derived.LoopIn
import Derived.Test.YtoochleabcjljaaDoorE6
namespace Go.Proofs.YtoochleabcjljaaDoor
open Go.RowKit Go.Shelf
attribute [local go_sem] Oper.semAt_some

/-- a way: an order and a shift -/
abbrev Way := { p : Nat × Nat // p.1 < 4 ∧ p.2 < 31 }
def wy (k : Nat) : Way := ⟨(k / 31 % 4, k % 31), Nat.mod_lt _ (by decide), Nat.mod_lt _ (by decide)⟩
def wvs (k : Nat) : List Way := (List.range k).map wy
theorem wvs_succ (k : Nat) : wvs (k + 1) = wvs k ++ [wy k] := by simp [wvs, List.range_succ]
theorem wvs_length (k : Nat) : (wvs k).length = k := by simp [wvs]
theorem wvs_prefix {k m : Nat} (h : k ≤ m) : wvs k <+: wvs m := by
  obtain ⟨d, rfl⟩ : ∃ d, m = k + d := ⟨m - k, by omega⟩
  induction d with
  | zero => exact List.prefix_refl _
  | succ d ih => exact (ih (by omega)).trans (by rw [← Nat.add_assoc, wvs_succ]; exact List.prefix_append _ _)
def wayV (x : Way) : Value := .agg #[.int .i64 (x.1.1 : Nat), .int .i64 (x.1.2 : Nat)]

set_option maxRecDepth 100000 in
set_option maxHeartbeats 1000000 in
theorem ways1_in (F : Fence) (n : Nat) (hF : F.fn 62) (hro : F.round = none) (hn : 1 ≤ n) (l : Nat) (Kp : World → World → Prop) (J Jx : List Way → World → Prop)
    (hY : ∀ pre x W, J pre W → pre.length < 124 → YieldAt F (n - 1) Tryd.prog l #[wayV x] W fun e W' =>
      (e = .returned (.bool true) ∧ J (pre ++ [x]) W' ∧ Kp W W') ∨ (e = .returned (.bool false) ∧ Jx (pre ++ [x]) W'))
    (W : World) (h0 : J [] W) :
    CallsIn F n Tryd.prog 62 #[.func (.yield l) #[] #[]] W fun e W' => (∃ v, e = .returned v) ∧
      ((∃ ys, ys = wvs 124 ∧ J ys W') ∨ (∃ pre, pre <+: wvs 124 ∧ Jx pre W')) := by
  refine callsIn_of_wp Tryd.func62 rfl hF ?_ hro
  simp only [Tryd.ntmps62, List.size_toArray, List.length_cons, List.length_nil, Nat.reduceAdd, Nat.reduceSub, Array.replicate_succ, Array.replicate_zero, List.push_toArray, List.append_toArray, List.nil_append, List.cons_append]
  gi_wp2
  gi_loopw [4] (fun p wr => ∃ o : Nat, o ≤ 4 ∧ p = .int .i64 (o : Nat) ∧ J (wvs (31 * o)) wr) (fun p _ => 4 - (intOf p).toNat)
  case atStart => exact ⟨0, by omega, rfl, h0⟩
  case round =>
    obtain ⟨o, ho, rfl, hJo⟩ := hrel
    by_cases hlt : o < 4
    · have hlt' : (o : Int) < 4 := by omega
      gi_wp2
      gi_loopw [7] (fun p wi => ∃ s : Nat, s ≤ 31 ∧ p = .int .i64 (s : Nat) ∧ J (wvs (31 * o + s)) wi) (fun p _ => 31 - (intOf p).toNat)
      case atStart => exact ⟨0, by omega, rfl, hJo⟩
      case round =>
        obtain ⟨s, hs, rfl, hJs⟩ := hrel
        by_cases hls : s < 31
        · have hls' : (s : Int) < 31 := by omega
          have ew : wayV (wy (31 * o + s)) = .agg #[.int .i64 (o : Nat), .int .i64 (s : Nat)] := by
            have e1 : (31 * o + s) / 31 % 4 = o := by omega
            have e2 : (31 * o + s) % 31 = s := by omega
            simp only [wayV, wy, e1, e2]
          have hy0 := hY (wvs (31 * o + s)) (wy (31 * o + s)) _ hJs (by rw [wvs_length]; omega)
          rw [ew] at hy0
          obtain ⟨fn, tmps, assign, body, hy, hR⟩ := hy0
          gi_wp2
          refine hR.mono ?_
          rintro e W3 (⟨rfl, hJ3, hk3⟩ | ⟨rfl, hJx3⟩)
          · gi_wp2
            go_roundw
            case rel => exact ⟨s + 1, by omega, by go_num, by rw [← Nat.add_assoc, wvs_succ]; exact hJ3⟩
            case measure => simp [intOf]; omega
          · gi_wp2
            refine bodyPost_ret (results_none rfl _ _ _) rfl ?_
            exact ⟨⟨_, rfl⟩, .inr ⟨_, by rw [← wvs_succ]; exact wvs_prefix (by omega), hJx3⟩⟩
        · obtain rfl : s = 31 := by omega
          gi_wp2
          go_roundw
          case rel => exact ⟨o + 1, by omega, by go_num, by rw [Nat.mul_add]; exact hJs⟩
          case measure => simp [intOf]; omega
    · obtain rfl : o = 4 := by omega
      gi_wp2
      go_end0
      exact ⟨⟨_, rfl⟩, .inl ⟨_, rfl, hJo⟩⟩

theorem ways_stops (F : Fence) (n : Nat) (hF : F.fn 62) (hro : F.round = none) (hn : 1 ≤ n) (Kp : World → World → Prop) (w : World) :
    SeqStopsK F n Tryd.prog 62 #[] (fun x : Way => #[wayV x]) Kp (fun ys => ys = wvs 124) (fun pre => pre <+: wvs 124) 124 w := fun l J Jx W _ _ _ hY h0 =>
  ways1_in F n hF hro hn l Kp J Jx hY W h0
end Go.Proofs.YtoochleabcjljaaDoor
