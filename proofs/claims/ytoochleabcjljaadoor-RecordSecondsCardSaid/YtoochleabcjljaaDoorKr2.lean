/- Parts of a proof, in build order: E6, E7, E8, E9, F0, R1, R2, F1. -/
import Derived.Test.YtoochleabcjljaaDoorKr1
import Derived.RangeFuncNested
import Derived.RangeFuncBound
import Derived.RangeFuncCalls
import Derived.RangeFuncLeaves
import Derived.Shelf.Abstract
import Derived.Shelf.RegionOpen
import Derived.WalkKit
import Derived.OwnWalkIn
import Derived.TacticsInMore
import Derived.LoopNIn
import Derived.LoopIn

/- Codes: the writer is a sink. -/
namespace Go.Proofs.YtoochleabcjljaaDoor
open Go.RowKit

theorem writer_ok (B bW : Nat) : SinkOK 89 (.pointer (some ⟨bW, 0, none⟩)) 46 B (WrS B bW) where
  alloc := by
    rintro S w bs o ⟨h1, h2, v, h3, h4, h5, h6⟩
    have hl := heap_lt h3
    refine ⟨h1, h2, v, by rw [Below.heap_alloc _ _ _ hl]; exact h3, h4.alloc _, h5, fun k hk => ?_⟩
    rcases hk with hk | rfl
    · have := h6 k hk; exact ⟨by simp; omega, this.2⟩
    · exact ⟨by simp, by omega, fun e => by have := (h4.lt _ e).2; omega⟩
  drew := fun S w bs h => h
  mono := fun S S' w bs hs h => by
    obtain ⟨h1, h2, v, h3, h4, h5, h6⟩ := h
    exact ⟨h1, h2, v, h3, h4, h5, fun k hk => h6 k (hs k hk)⟩
  size := fun S w bs h => h.size
  lt := fun S w bs k h hk => by
    obtain ⟨h1, h2, v, h3, h4, h5, h6⟩ := h
    exact (h6 k hk).1
  put := fun S w bs n k h hn0 hn1 hk hl => writer_put B bW S bs n k w h hn0 hn1 hk hl
  meth := fun w d => by kernel_rfl
  ahead := fun w d => by kernel_rfl
  enter := fun vs w => by kernel_rfl
end Go.Proofs.YtoochleabcjljaaDoor

/- Codes: the ways, by an iterator. -/
namespace Go.Proofs.YtoochleabcjljaaDoor
open Go.RowKit Go.Shelf
attribute [local go_sem] Oper.semAt_some

/-- a way: an order and a shift -/
abbrev Way := { p : Nat × Nat // p.1 < 4 ∧ p.2 < 31 }
def wy (k : Nat) : Way := ⟨(k / 31 % 4, k % 31), Nat.mod_lt _ (by decide), Nat.mod_lt _ (by decide)⟩
def wvs (k : Nat) : List Way := (List.range k).map wy
theorem wvs_succ (k : Nat) : wvs (k + 1) = wvs k ++ [wy k] := by simp [wvs, List.range_succ]
theorem wvs_length (k : Nat) : (wvs k).length = k := by simp [wvs]
theorem wvs_prefix {k m : Nat} (h : k ≤ m) : wvs k <+: wvs m := by
  obtain ⟨d, rfl⟩ : ∃ d, m = k + d := ⟨m - k, by omega⟩
  induction d with
  | zero => exact List.prefix_refl _
  | succ d ih => exact (ih (by omega)).trans (by rw [← Nat.add_assoc, wvs_succ]; exact List.prefix_append _ _)
def wayV (x : Way) : Value := .agg #[.int .i64 (x.1.1 : Nat), .int .i64 (x.1.2 : Nat)]

set_option maxRecDepth 100000 in
set_option maxHeartbeats 1000000 in
theorem ways1_in (F : Fence) (n : Nat) (hF : F.fn 62) (hro : F.round = none) (hn : 1 ≤ n) (l : Nat) (Kp : World → World → Prop) (J Jx : List Way → World → Prop)
    (hY : ∀ pre x W, J pre W → pre.length < 124 → YieldAt F (n - 1) Tryd.prog l #[wayV x] W fun e W' =>
      (e = .returned (.bool true) ∧ J (pre ++ [x]) W' ∧ Kp W W') ∨ (e = .returned (.bool false) ∧ Jx (pre ++ [x]) W'))
    (W : World) (h0 : J [] W) :
    CallsIn F n Tryd.prog 62 #[.func (.yield l) #[] #[]] W fun e W' => (∃ v, e = .returned v) ∧
      ((∃ ys, ys = wvs 124 ∧ J ys W') ∨ (∃ pre, pre <+: wvs 124 ∧ Jx pre W')) := by
  refine callsIn_of_wp Tryd.func62 rfl hF ?_ hro
  simp only [Tryd.ntmps62, List.size_toArray, List.length_cons, List.length_nil, Nat.reduceAdd, Nat.reduceSub, Array.replicate_succ, Array.replicate_zero, List.push_toArray, List.append_toArray, List.nil_append, List.cons_append]
  gi_wp2
  gi_loopw [4] (fun p wr => ∃ o : Nat, o ≤ 4 ∧ p = .int .i64 (o : Nat) ∧ J (wvs (31 * o)) wr) (fun p _ => 4 - (intOf p).toNat)
  case atStart => exact ⟨0, by omega, rfl, h0⟩
  case round =>
    obtain ⟨o, ho, rfl, hJo⟩ := hrel
    by_cases hlt : o < 4
    · have hlt' : (o : Int) < 4 := by omega
      gi_wp2
      gi_loopw [7] (fun p wi => ∃ s : Nat, s ≤ 31 ∧ p = .int .i64 (s : Nat) ∧ J (wvs (31 * o + s)) wi) (fun p _ => 31 - (intOf p).toNat)
      case atStart => exact ⟨0, by omega, rfl, hJo⟩
      case round =>
        obtain ⟨s, hs, rfl, hJs⟩ := hrel
        by_cases hls : s < 31
        · have hls' : (s : Int) < 31 := by omega
          have ew : wayV (wy (31 * o + s)) = .agg #[.int .i64 (o : Nat), .int .i64 (s : Nat)] := by
            have e1 : (31 * o + s) / 31 % 4 = o := by omega
            have e2 : (31 * o + s) % 31 = s := by omega
            simp only [wayV, wy, e1, e2]
          have hy0 := hY (wvs (31 * o + s)) (wy (31 * o + s)) _ hJs (by rw [wvs_length]; omega)
          rw [ew] at hy0
          obtain ⟨fn, tmps, assign, body, hy, hR⟩ := hy0
          gi_wp2
          refine hR.mono ?_
          rintro e W3 (⟨rfl, hJ3, hk3⟩ | ⟨rfl, hJx3⟩)
          · gi_wp2
            go_roundw
            case rel => exact ⟨s + 1, by omega, by go_num, by rw [← Nat.add_assoc, wvs_succ]; exact hJ3⟩
            case measure => simp [intOf]; omega
          · gi_wp2
            refine bodyPost_ret (results_none rfl _ _ _) rfl ?_
            exact ⟨⟨_, rfl⟩, .inr ⟨_, by rw [← wvs_succ]; exact wvs_prefix (by omega), hJx3⟩⟩
        · obtain rfl : s = 31 := by omega
          gi_wp2
          go_roundw
          case rel => exact ⟨o + 1, by omega, by go_num, by rw [Nat.mul_add]; exact hJs⟩
          case measure => simp [intOf]; omega
    · obtain rfl : o = 4 := by omega
      gi_wp2
      go_end0
      exact ⟨⟨_, rfl⟩, .inl ⟨_, rfl, hJo⟩⟩

theorem ways_stops (F : Fence) (n : Nat) (hF : F.fn 62) (hro : F.round = none) (hn : 1 ≤ n) (Kp : World → World → Prop) (w : World) :
    SeqStopsK F n Tryd.prog 62 #[] (fun x : Way => #[wayV x]) Kp (fun ys => ys = wvs 124) (fun pre => pre <+: wvs 124) 124 w := fun l J Jx W _ _ _ hY h0 =>
  ways1_in F n hF hro hn l Kp J Jx hY W h0
end Go.Proofs.YtoochleabcjljaaDoor

/- Codes: the best way. -/
namespace Go.Proofs.YtoochleabcjljaaDoor
open Go.RowKit Go.Shelf
attribute [local go_sem] Oper.semAt_some

/-- a block of plain cells -/
def Blk (W : World) (B : Nat) (t : TypeId) (cs : Array Value) : Prop := W.heap[B]? = some (.cells cs t (0, 0))
theorem Blk.lt {W : World} {B : Nat} {t : TypeId} {cs : Array Value} (h : Blk W B t cs) : B < W.heap.size := (Array.getElem?_eq_some_iff.1 h).1
theorem Blk.kept {W W' : World} {row : Option Nat} {B : Nat} {t : TypeId} {cs : Array Value} (h : Blk W B t cs) (hg : W.grownBy W' row) (hne : some B ≠ row) : Blk W' B t cs := (hg.block B h.lt hne).trans h
theorem Blk.alloc {W : World} {B : Nat} {t : TypeId} {cs : Array Value} (h : Blk W B t cs) (o : Obj) : Blk (W.alloc o) B t cs := h.kept (World.grownBy_alloc W o none) (by simp)
theorem Blk.new (W : World) (t : TypeId) (cs : Array Value) : Blk (W.alloc (.cells cs t)) W.heap.size t cs := World.alloc_heap_new W _
theorem blk_own {β : Type} (B : Nat) (t : TypeId) (f : β → Array Value) : Own (fun s W => Blk W B t (f s)) := fun s X Y row hs hg hrow =>
  hs.kept hg (fun e' => by obtain ⟨o, ho, hc⟩ := hrow B e'.symm; rw [show X.heap[B]? = _ from hs] at ho; cases ho; cases hc)
theorem Blk.below {W W' : World} {B n : Nat} {t : TypeId} {cs : Array Value} (h : Blk W B t cs) (hb : Below n W W') (hn : B < n) : Blk W' B t cs := (hb.block B hn).trans h
theorem keepsFrom_below {W W' : World} (B : Nat) (h : Below W.heap.size W W') : KeepsFrom B W W' := ⟨h.size, fun k _ _ ho _ => (h.block k (Array.getElem?_eq_some_iff.1 ho).1).trans ho⟩

theorem Blk.c0 {W : World} {B : Nat} {t : TypeId} {u : Value} {l : List Value} (h : Blk W B t (u :: l).toArray) : W.cell? ⟨B, 0, none⟩ = some u := by simp [World.cell?, show W.heap[B]? = _ from h]
theorem Blk.c1 {W : World} {B : Nat} {t : TypeId} {u v : Value} {l : List Value} (h : Blk W B t (u :: v :: l).toArray) : W.cell? ⟨B, 1, none⟩ = some v := by simp [World.cell?, show W.heap[B]? = _ from h]
theorem Blk.free {W : World} {B : Nat} {t : TypeId} {cs : Array Value} (h : Blk W B t cs) (i : Nat) : W.frozen? ⟨B, i, none⟩ = false := by simp [World.frozen?, show W.heap[B]? = _ from h]
theorem Blk.set0 {W : World} {B : Nat} {t : TypeId} {v : Value} {l : List Value} (u : Value) (h : Blk W B t (v :: l).toArray) : Blk (W.setCell ⟨B, 0, none⟩ u) B t (u :: l).toArray := by
  obtain ⟨hlt, hk⟩ := Array.getElem?_eq_some_iff.1 h
  show (W.heap.modify B _)[B]? = _
  rw [Array.getElem?_eq_getElem (by rw [Array.size_modify]; exact hlt), Array.getElem_modify_self, hk]
  rfl
theorem Blk.set1 {W : World} {B : Nat} {t : TypeId} {x v : Value} {l : List Value} (u : Value) (h : Blk W B t (x :: v :: l).toArray) : Blk (W.setCell ⟨B, 1, none⟩ u) B t (x :: u :: l).toArray := by
  obtain ⟨hlt, hk⟩ := Array.getElem?_eq_some_iff.1 h
  show (W.heap.modify B _)[B]? = _
  rw [Array.getElem?_eq_getElem (by rw [Array.size_modify]; exact hlt), Array.getElem_modify_self, hk]
  rfl
theorem Blk.other {W : World} {B B' : Nat} {t : TypeId} {cs : Array Value} (h : Blk W B t cs) (hne : B ≠ B') (i : Nat) (u : Value) : Blk (W.setCell ⟨B', i, none⟩ u) B t cs := (Below.heap_setCell _ _ _ _ hne).trans h
theorem Blk.drew {W : World} {B : Nat} {t : TypeId} {cs : Array Value} (h : Blk W B t cs) : Blk W.drew B t cs := h

/-- how many bits a way takes; the best way -/
def cost (xs : List Int) (o s : Nat) : Nat := (encL o s (resid xs o)).length
def stepB (xs : List Int) (b : (Nat × Nat) × Nat) (x : Way) : (Nat × Nat) × Nat := if x.1 = (0, 0) ∨ cost xs x.1.1 x.1.2 < b.2 then (x.1, cost xs x.1.1 x.1.2) else b
def bestF (xs : List Int) (pre : List Way) : (Nat × Nat) × Nat := pre.foldl (stepB xs) ((0, 0), 0)
theorem bestF_snoc (xs : List Int) (pre : List Way) (x : Way) : bestF xs (pre ++ [x]) = stepB xs (bestF xs pre) x := by simp [bestF]

theorem flat_le (l : List Int) (s : Nat) (hs : s ≤ 30) : (l.flatMap fun r => encU (foldU r) s).length ≤ 52 * l.length := flat_length l s hs
theorem cost_le (xs : List Int) (o s : Nat) (hs : s ≤ 30) : cost xs o s ≤ 7 + 52 * xs.length := by
  have := flat_le (resid xs o) s hs
  rw [resid_length] at this
  rw [cost, encL, List.length_append, List.length_append, binL_length, binL_length]; omega

theorem write_ct (bc : Nat) (o sh : Nat) (ho : o ≤ 3) (hsh : sh ≤ 30) (al : Option Addr) (l : List Int) (cl : Nat) (w : World) (h9 : Blk w bc 114 #[.int .i64 0]) (hna : ∀ b off, al = some ⟨b, off, none⟩ → bc < b)
    (hc : Cells w al (l.map (Value.int .i64))) (hlen : l.length ≤ 4096) (hr : ∀ r ∈ l, -67108864 ≤ r ∧ r ≤ 67108864) :
    Calls Tryd.prog 48 #[.agg #[.int .i64 (o : Nat), .int .i64 (sh : Nat)], .iface 115 (.pointer (some ⟨bc, 0, none⟩)), .slice al l.length cl] w fun e w' => e = .returned (.tuple #[]) ∧ Blk w' bc 114 #[.int .i64 ((encL o sh l).length : Nat)] ∧ Below bc w w' := by
  refine (write_any (counter_ok bc bc) (fun k => k < w.heap.size ∧ k ≠ bc) o sh ho hsh al l cl [] w ⟨Nat.le_refl _, h9, fun k hk => hk⟩ (fun b off hb hne => ?_) hc hlen (by simp) hr).mono ?_
  · subst hb
    refine ⟨?_, Nat.ne_of_gt (hna b off rfl)⟩
    obtain ⟨r, hr0⟩ := get_of_lt (List.length_pos_iff.2 hne)
    exact World.block_lt_of_cell? w _ (hc.at (j := 0) (by rw [List.getElem?_map, hr0]; rfl))
  · rintro e w' ⟨rfl, h, hk⟩
    exact ⟨rfl, h.2.1, hk.below⟩

set_option maxRecDepth 100000 in
set_option maxHeartbeats 4000000 in
theorem best_any (ao : Option Addr) (xs : List Int) (cap : Nat) (w : World) (hc : Cells w ao (xs.map (Value.int .i64))) (hl : xs.length ≤ 4096) (hx : ∀ x ∈ xs, -8388608 ≤ x ∧ x ≤ 8388608) :
    Calls Tryd.prog 47 #[.slice ao xs.length cap] w fun e w' => e = .returned (.agg #[.int .i64 ((bestF xs (wvs 124)).1.1 : Nat), .int .i64 ((bestF xs (wvs 124)).1.2 : Nat)]) ∧ Below w.heap.size w w' := by
  have HC := Lib.hid hc; have HX := Lib.hid hx; clear hc hx
  refine (callsIn_wide (n := 8)).1 ?_
  refine callsIn_of_wp_marks Tryd.func47 rfl trivial ?_ rfl
  simp only [Tryd.ntmps47, List.size_toArray, List.length_cons, List.length_nil, Nat.reduceAdd, Nat.reduceSub, Array.replicate_succ, Array.replicate_zero, List.push_toArray, List.append_toArray, List.nil_append, List.cons_append]
  gi_wp2
  have b0 := (((Blk.new w 25 #[.slice ao xs.length cap]).alloc (.cells #[.int .i64 0, .int .i64 0] 94)).alloc (.cells #[.int .i64 0, .int .i64 0] 94)).alloc (.cells #[.int .i64 0] 3)
  have b1 := ((Blk.new (w.alloc (.cells #[.slice ao xs.length cap] 25)) 94 #[.int .i64 0, .int .i64 0]).alloc (.cells #[.int .i64 0, .int .i64 0] 94)).alloc (.cells #[.int .i64 0] 3)
  have b2 := (Blk.new ((w.alloc (.cells #[.slice ao xs.length cap] 25)).alloc (.cells #[.int .i64 0, .int .i64 0] 94)) 94 #[.int .i64 0, .int .i64 0]).alloc (.cells #[.int .i64 0] 3)
  have b3 := Blk.new (((w.alloc (.cells #[.slice ao xs.length cap] 25)).alloc (.cells #[.int .i64 0, .int .i64 0] 94)).alloc (.cells #[.int .i64 0, .int .i64 0] 94)) 3 #[.int .i64 0]
  simp only [World.size_alloc] at b1 b2 b3
  have hB0 := ((((Below.refl w.heap.size w).alloc (Nat.le_refl _) (.cells #[.slice ao xs.length cap] 25)).alloc (by simp) (.cells #[.int .i64 0, .int .i64 0] 94)).alloc (by simp; omega) (.cells #[.int .i64 0, .int .i64 0] 94)).alloc (by simp; omega) (.cells #[.int .i64 0] 3)
  have hsz : ((((w.alloc (.cells #[.slice ao xs.length cap] 25)).alloc (.cells #[.int .i64 0, .int .i64 0] 94)).alloc (.cells #[.int .i64 0, .int .i64 0] 94)).alloc (.cells #[.int .i64 0] 3)).heap.size = w.heap.size + 4 := by simp
  obtain ⟨W0, hW0⟩ : ∃ W0, ((((w.alloc (.cells #[.slice ao xs.length cap] 25)).alloc (.cells #[.int .i64 0, .int .i64 0] 94)).alloc (.cells #[.int .i64 0, .int .i64 0] 94)).alloc (.cells #[.int .i64 0] 3)) = W0 := ⟨_, rfl⟩
  rw [hW0] at b0 b1 b2 b3 hB0 hsz ⊢
  clear hW0
  refine wpIn_rangeFunc_ownH rfl (by decide) (gf := 62) (lb := #[]) rfl trivial (enters_of Tryd.func62 (by kernel_rfl) rfl)
    (ways_stops _ _ trivial rfl (by decide) (Below w.heap.size) W0) belowK_t (belowK_b (by omega)) (Below.refl _ _) (fun _ => rfl)
    (fun pre W => (((Blk W w.heap.size 25 #[.slice ao xs.length cap] ∧ Blk W (w.heap.size + 1) 94 #[.int .i64 0, .int .i64 0]) ∧
      Blk W (w.heap.size + 1 + 1) 94 #[.int .i64 ((bestF xs pre).1.1 : Nat), .int .i64 ((bestF xs pre).1.2 : Nat)]) ∧ Blk W (w.heap.size + 1 + 1 + 1) 3 #[.int .i64 ((bestF xs pre).2 : Nat)]) ∧ Below w.heap.size w W)
    (fun _ _ _ => False)
    (OwnFrom.and (OwnFrom.and (OwnFrom.and (OwnFrom.and (Own.from (blk_own _ _ _) _) (Own.from (blk_own _ _ _) _)) (Own.from (blk_own _ _ (fun pre => #[.int .i64 ((bestF xs pre).1.1 : Nat), .int .i64 ((bestF xs pre).1.2 : Nat)])) _)) (Own.from (blk_own _ _ (fun pre => #[.int .i64 ((bestF xs pre).2 : Nat)])) _)) (ownFrom_below (Nat.le_refl _) (by omega)))
    (fun _ _ _ _ _ hs _ _ => hs)
    ⟨⟨⟨⟨b0, b1⟩, b2⟩, b3⟩, hB0⟩
    (fun x a' W => ∃ Bx, w.heap.size + 1 + 1 + 1 < Bx ∧ Blk W Bx 94 #[.int .i64 (x.1.1 : Nat), .int .i64 (x.1.2 : Nat)] ∧ a' = { tmps := #[.slice ao xs.length cap, .pointer (some ⟨w.heap.size, 0, none⟩), .pointer (some ⟨w.heap.size + 1, 0, none⟩), .pointer (some ⟨w.heap.size + 1 + 1, 0, none⟩), .pointer (some ⟨w.heap.size + 1 + 1 + 1, 0, none⟩), .pointer (some ⟨Bx, 0, none⟩), undef, wayV x, undef, undef, undef, undef, undef, undef, undef, undef, undef, undef, undef, undef, undef, undef, undef, undef, undef, undef], defers := [] })
    (fun x a' _ X Y row hs hg hr => by obtain ⟨Bx, h1, h2, h3⟩ := hs; exact ⟨Bx, h1, blk_own Bx _ (fun (_ : Unit) => #[Value.int .i64 (x.1.1 : Nat), .int .i64 (x.1.2 : Nat)]) () X Y row h2 hg (fun r e => (hr r e).2), h3⟩)
    ?assign ?body ?done ?stop
  case assign =>
    rintro l pre x W K ⟨⟨⟨⟨c0, c1⟩, c2⟩, c3⟩, hB1⟩ hK
    simp only [wayV] at hK ⊢
    gi_wp2
    exact hK _ _ ((KeepsOthers.alloc _ _).from _) ((Below.refl _ W).alloc hB1.size _) ⟨⟨⟨⟨c0.alloc _, c1.alloc _⟩, c2.alloc _⟩, c3.alloc _⟩, hB1.alloc hB1.size _⟩ ⟨W.heap.size, c3.lt, Blk.new W _ _, rfl⟩
  case body =>
    rintro l pre x a' W hl2 ⟨r, hr⟩ ⟨⟨⟨⟨c0, c1⟩, c2⟩, c3⟩, hB1⟩ ⟨Bx, hBx, cx, rfl⟩ hlt
    have hn := hB1.size
    have hcl := cost_le xs x.1.1 x.1.2 (by have := x.2.2; omega)
    have hx1 : x.1.1 ≤ 3 := by have := x.2.1; omega
    have hx2 : x.1.2 ≤ 30 := by have := x.2.2; omega
    have HCw : Hid (Cells (W.alloc (.cells #[.int .i64 0] 114)) ao (xs.map (Value.int .i64))) := Lib.hid ((HC.out.below hB1 (Nat.le_refl _)).below ((Below.refl _ W).alloc (Nat.le_refl _) _) (Nat.le_refl _))
    have hmx : Tryd.prog.follows .mixedOrders = true := by kernel_rfl
    simp only [wayV]
    clear hr
    gi_wp2
    have d0 := c0.alloc (.cells #[.int .i64 0] 114)
    have dx := cx.alloc (.cells #[.int .i64 0] 114)
    have d9 := Blk.new W 114 #[.int .i64 0]
    have hBc := (Below.refl W.heap.size W).alloc (Nat.le_refl _) (.cells #[.int .i64 0] 114)
    have hsc : (W.alloc (.cells #[.int .i64 0] 114)).heap.size = W.heap.size + 1 := by simp
    have hlx := cx.lt
    generalize (W.alloc (.cells #[.int .i64 0] 114)) = Wc at *
    have HCd : Cells Wc.drew ao (xs.map (Value.int .i64)) := HCw.out.below ((Below.refl Wc.heap.size Wc).drew) (Nat.le_refl _)
    replace HCd := Lib.hid HCd
    have d00 := d0.c0
    have e0 := dx.c0
    have e1 := dx.c1
    refine wpIn_mono (Q := fun e a w3 => e = .normal ∧ ∃ (a1 : Option Addr) (k1 : Nat), a = { tmps := #[.slice ao xs.length cap, .pointer (some ⟨w.heap.size, 0, none⟩), .pointer (some ⟨w.heap.size + 1, 0, none⟩), .pointer (some ⟨w.heap.size + 1 + 1, 0, none⟩), .pointer (some ⟨w.heap.size + 1 + 1 + 1, 0, none⟩), .pointer (some ⟨Bx, 0, none⟩), .pointer (some ⟨W.heap.size, 0, none⟩), .agg #[.int .i64 (x.1.1 : Nat), .int .i64 (x.1.2 : Nat)], .agg #[.int .i64 (x.1.1 : Nat), .int .i64 (x.1.2 : Nat)], .iface 115 (.pointer (some ⟨W.heap.size, 0, none⟩)), .slice ao xs.length cap, .pointer (some ⟨Bx, 0, none⟩), .int .i64 (x.1.1 : Nat), .slice a1 (resid xs x.1.1).length k1, .tuple #[], undef, undef, undef, undef, undef, undef, undef, undef, undef, undef, undef], defers := [] } ∧ Blk w3 W.heap.size 114 #[.int .i64 (cost xs x.1.1 x.1.2 : Nat)] ∧ Below W.heap.size W w3) ?reg ?after
    case reg =>
      gi_region_with_o (first
        | (refine ⟨trivial, ?_⟩; gi_at_call 49; refine (CallsIn.inRound l (callsIn_wide.2 (residues_any ao xs cap x.1.1 Wc.drew HCd.out hl hx1 HX.out))).mono ?_; rintro e w1 ⟨⟨a1, k1, rfl, hca, hna⟩, hb1⟩; have HCA := Lib.hid hca; have HNA := Lib.hid hna; clear hca hna; have dx1 := dx.drew.below hb1 (show Bx < Wc.heap.size by omega); have e10 := dx1.c0; have e11 := dx1.c1)
        | (refine ⟨trivial, ?_⟩; gi_at_call 48; refine (CallsIn.inRound l (callsIn_wide.2 (write_ct W.heap.size x.1.1 x.1.2 hx1 hx2 a1 (resid xs x.1.1) k1 w1 (d9.drew.below hb1 (show W.heap.size < Wc.heap.size by omega)) (fun b off hb => Nat.lt_of_lt_of_le (show W.heap.size < Wc.heap.size by omega) (HNA.out b off hb)) HCA.out (by rw [resid_length]; exact hl) (resid_bd HX.out x.1.1 hx1)))).mono ?_; rintro e w3 ⟨rfl, d93, hb3⟩; have dx3 := dx1.below hb3 hlx; have e30 := dx3.c0; have e31 := dx3.c1))
      all_goals exact ⟨rfl, a1, k1, rfl, d93, (hBc.drew.trans (hb1.mono (show W.heap.size ≤ Wc.heap.size by omega))).trans hb3⟩
    case after =>
      rintro e aa w3 ⟨rfl, a1, k1, rfl, d93, hW3⟩
      have q0 := c0.below hW3 c0.lt
      have q1 := c1.below hW3 c1.lt
      have q2 := c2.below hW3 c2.lt
      have q3 := c3.below hW3 c3.lt
      have q5 := cx.below hW3 hlx
      have q30 := q3.c0
      have q90 := d93.c0
      have q50 := q5.c0
      have q51 := q5.c1
      have hB3 : Below w.heap.size w w3 := hB1.trans (hW3.mono hn)
      have hB4 : Below w.heap.size W w3 := hW3.mono hn
      have hK4 : KeepsFrom W0.heap.size W w3 := keepsFrom_below _ hW3
      clear HCw HCd d0 dx d9 hBc hsc d00 e0 e1 q50 q51 q90 q30
      have hst : bestF xs (pre ++ [x]) = if (x.1.1 = 0 ∧ x.1.2 = 0) ∨ cost xs x.1.1 x.1.2 < (bestF xs pre).2 then ((x.1.1, x.1.2), cost xs x.1.1 x.1.2) else bestF xs pre := by
        rw [bestF_snoc, stepB]
        have e0 : (x.1 = (0, 0)) ↔ (x.1.1 = 0 ∧ x.1.2 = 0) := by rw [Prod.ext_iff]
        simp only [e0]
      have HST := Lib.hid hst; clear hst
      have HI : Hid (∀ w4 : World, KeepsFrom W0.heap.size w3 w4 → Below w.heap.size w3 w4 → Blk w4 w.heap.size 25 #[.slice ao xs.length cap] → Blk w4 (w.heap.size + 1) 94 #[.int .i64 0, .int .i64 0] →
          Blk w4 (w.heap.size + 1 + 1) 94 #[.int .i64 ((bestF xs (pre ++ [x])).1.1 : Nat), .int .i64 ((bestF xs (pre ++ [x])).1.2 : Nat)] → Blk w4 (w.heap.size + 1 + 1 + 1) 3 #[.int .i64 ((bestF xs (pre ++ [x])).2 : Nat)] →
          KeepsFrom W0.heap.size W w4 ∧ Below w.heap.size W w4 ∧ (((Blk w4 w.heap.size 25 #[.slice ao xs.length cap] ∧ Blk w4 (w.heap.size + 1) 94 #[.int .i64 0, .int .i64 0]) ∧
      Blk w4 (w.heap.size + 1 + 1) 94 #[.int .i64 ((bestF xs (pre ++ [x])).1.1 : Nat), .int .i64 ((bestF xs (pre ++ [x])).1.2 : Nat)]) ∧ Blk w4 (w.heap.size + 1 + 1 + 1) 3 #[.int .i64 ((bestF xs (pre ++ [x])).2 : Nat)]) ∧ Below w.heap.size w w4) :=
        Lib.hid fun w4 k1 k2 k3 k4 k5 k6 => ⟨hK4.trans k1, hB4.trans k2, ⟨⟨⟨k3, k4⟩, k5⟩, k6⟩, hB3.trans k2⟩
      have n1 : Bx ≠ w.heap.size + 1 + 1 := by omega
      have n2 : Bx ≠ w.heap.size + 1 + 1 + 1 := by omega
      have n3 : W.heap.size ≠ w.heap.size + 1 + 1 := by omega
      have n4 : W.heap.size ≠ w.heap.size + 1 + 1 + 1 := by omega
      have n1' := n1.symm
      have n2' := n2.symm
      have n3' := n3.symm
      have n4' := n4.symm
      clear hK4 hB4 hB3 hB1 hW3 c0 c1 c2 c3 cx hcl hlt hn HC HX hlx hBx hsz
      generalize bestF xs pre = bo at *
      obtain ⟨⟨bo1, bo2⟩, m⟩ := bo
      generalize cost xs x.1.1 x.1.2 = c at *
      generalize (resid xs x.1.1).length = rl at *
      generalize x.1.1 = o at *
      generalize x.1.2 = sh at *
      dsimp only at q2 q3 HST
      have q30 := q3.c0
      have q90 := d93.c0
      have q50 := q5.c0
      have q51 := q5.c1
      have q20 := q2.c0
      have q21 := q2.c1
      have f20 := q2.free 0
      have f21 := q2.free 1
      have f30 := q3.free 0
      rcases Nat.eq_zero_or_pos o with rfl | ho0 <;> rcases Nat.eq_zero_or_pos sh with rfl | hs0 <;> by_cases hcm : c < m
      all_goals gi_wp2
      all_goals first
        | (have hst := HST.out
           rw [if_neg (by omega)] at hst
           exact HI.out w3 (KeepsFrom.refl _ _) (Below.refl _ _) q0 q1 (by rw [hst]; exact q2) (by rw [hst]; exact q3))
        | (have hst := HST.out
           rw [if_pos (by first | omega | simp)] at hst
           replace hst := Lib.hid hst
           refine wpIn_mono (Q := fun e _ w4 => e = .normal ∧ (KeepsFrom W0.heap.size W w4 ∧ Below w.heap.size W w4 ∧ (((Blk w4 w.heap.size 25 #[.slice ao xs.length cap] ∧ Blk w4 (w.heap.size + 1) 94 #[.int .i64 0, .int .i64 0]) ∧
      Blk w4 (w.heap.size + 1 + 1) 94 #[.int .i64 ((bestF xs (pre ++ [x])).1.1 : Nat), .int .i64 ((bestF xs (pre ++ [x])).1.2 : Nat)]) ∧ Blk w4 (w.heap.size + 1 + 1 + 1) 3 #[.int .i64 ((bestF xs (pre ++ [x])).2 : Nat)]) ∧ Below w.heap.size w w4)) ?_ ?_
           · gi_region_with_o fail
             all_goals (have hst := hst.out)
             all_goals exact ⟨rfl, HI.out _ ((((KeepsOthers.drew w3).trans (KeepsOthers.setCell _ _ _)).trans (KeepsOthers.setCell _ _ _)).trans (KeepsOthers.setCell _ _ _) |>.from _)
               (((((Below.refl w.heap.size w3).drew).setCell (p := ⟨w.heap.size + 1 + 1, 0, none⟩) (by simp; omega) _).setCell (p := ⟨w.heap.size + 1 + 1, 1, none⟩) (by simp; omega) _).setCell (p := ⟨w.heap.size + 1 + 1 + 1, 0, none⟩) (by simp; omega) _)
               (((q0.drew.other (by omega) _ _).other (by omega) _ _).other (by omega) _ _)
               (((q1.drew.other (by omega) _ _).other (by omega) _ _).other (by omega) _ _)
               (by rw [hst]; exact ((q2.drew.set0 _).set1 _).other (by omega) _ _)
               (by rw [hst]; exact ((q3.drew.other (by omega) _ _).other (by omega) _ _).set0 _)⟩
           · rintro e aa w4 ⟨rfl, h4⟩
             gi_wp2
             exact h4)
  case done =>
    rintro D zs W hD rfl ⟨⟨⟨⟨c0, c1⟩, c2⟩, c3⟩, hB1⟩ hK
    have d0 := c2.c0
    have d1 := c2.c1
    have f0 := c1.free 0
    have f1 := c1.free 1
    have r0 := c1.c0
    have r1 := c1.c1
    have g1 := (c1.set0 (.int .i64 ((bestF xs (wvs 124)).1.1 : Nat))).set1 (.int .i64 ((bestF xs (wvs 124)).1.2 : Nat))
    have hDn : w.heap.size + 1 ≠ D := by omega
    have hKd : ((W.setCell ⟨w.heap.size + 1, 0, none⟩ (.int .i64 ((bestF xs (wvs 124)).1.1 : Nat))).setCell ⟨w.heap.size + 1, 1, none⟩ (.int .i64 ((bestF xs (wvs 124)).1.2 : Nat))).heap[D]? = some (.deferred (some [])) := by
      rw [Below.heap_setCell _ _ _ _ (by simpa using hDn.symm), Below.heap_setCell _ _ _ _ (by simpa using hDn.symm)]; exact hK
    have hBd : Below w.heap.size w ((W.setCell ⟨w.heap.size + 1, 0, none⟩ (.int .i64 ((bestF xs (wvs 124)).1.1 : Nat))).setCell ⟨w.heap.size + 1, 1, none⟩ (.int .i64 ((bestF xs (wvs 124)).1.2 : Nat))) :=
      (hB1.setCell (p := ⟨w.heap.size + 1, 0, none⟩) (by simp) _).setCell (p := ⟨w.heap.size + 1, 1, none⟩) (by simp) _
    gi_wp2
    generalize ((W.setCell ⟨w.heap.size + 1, 0, none⟩ (.int .i64 ((bestF xs (wvs 124)).1.1 : Nat))).setCell ⟨w.heap.size + 1, 1, none⟩ (.int .i64 ((bestF xs (wvs 124)).1.2 : Nat))) = wd at *
    have g2 : Blk (wd.putObj D (.deferred none)) (w.heap.size + 1) _ _ := g1.kept (grownBy_putObj' _ D (.deferred none)) (by simpa using hDn)
    have s0 := g2.c0
    have s1 := g2.c1
    refine ⟨by simp, .inl ⟨_, _, rfl, run_takeDeferred hKd, ?_⟩⟩
    refine ⟨.agg #[.int .i64 ((bestF xs (wvs 124)).1.1 : Nat), .int .i64 ((bestF xs (wvs 124)).1.2 : Nat)], by simp [results, Tryd.results47, go_sem, s0, s1], rfl, ?_⟩
    exact hBd.trans (belowK_b (w := w) (Nat.le_refl _) wd D _ _ (by omega) hKd rfl rfl)
  case stop =>
    rintro D c pre W _ _ h _
    exact h.elim
end Go.Proofs.YtoochleabcjljaaDoor

/- Codes: whole bytes; the code of a frame in plain words. -/
namespace Go.Proofs.YtoochleabcjljaaDoor
open Go.RowKit

theorem octs_append (a : List Nat) (h : a.length % 8 = 0) (b : List Nat) : octs (a ++ b) = octs a ++ octs b := by
  suffices ∀ r : List Nat, octs (a ++ r.reverse) = octs a ++ octs r.reverse by simpa using this b.reverse
  intro r
  induction r with
  | nil => simp [octs_nil]
  | cons x r ih =>
    rw [List.reverse_cons, ← List.append_assoc, octs_snoc, octs_snoc, ih, List.length_append]
    generalize r.reverse = q
    have hl := octs_len q
    unfold pushBit
    by_cases h0 : q.length % 8 = 0
    · rw [if_pos (by omega), if_pos h0, List.append_assoc]
    · rw [if_neg (by omega), if_neg h0]
      have hp : 0 < (octs q).length := by omega
      have hm : (a.length + q.length) % 8 = q.length % 8 := by omega
      rw [hm, List.length_append, List.set_append_right _ _ (by omega), List.getD_eq_getElem?_getD, List.getD_eq_getElem?_getD, List.getElem?_append_right (by omega)]
      rw [show (octs a).length + (octs q).length - 1 - (octs a).length = (octs q).length - 1 by omega]

theorem octs_byte : ∀ b : Fin 256, octs (binL (b.val : Int) 8) = [b.val] := by decide +kernel
/-- the bits of bytes -/
def unB (l : List Nat) : List Nat := l.flatMap fun (b : Nat) => binL (b : Int) 8
theorem unB_length (l : List Nat) : (unB l).length = 8 * l.length := by
  induction l with
  | nil => rfl
  | cons b l ih => rw [unB, List.flatMap_cons, List.length_append, binL_length, List.length_cons]; rw [unB] at ih; omega
theorem unB_bits (l : List Nat) : ∀ b ∈ unB l, b ≤ 1 := by
  intro b hb
  obtain ⟨x, _, hx⟩ := List.mem_flatMap.1 hb
  exact binL_bits _ _ b hx
theorem octs_unB (l : List Nat) (hl : ∀ d ∈ l, d < 256) : octs (unB l) = l := by
  induction l with
  | nil => rfl
  | cons b l ih =>
    rw [unB, List.flatMap_cons, octs_append _ (by rw [binL_length]), octs_byte ⟨b, hl b (by simp)⟩]
    have := ih fun d hd => hl d (by simp [hd])
    rw [unB] at this
    rw [this]; rfl

/-- the way of a channel's samples, their bits; the bits of a frame; its code -/
def wayOf (x : List Int) : Nat × Nat := (bestF x (wvs 124)).1
def encC (x : List Int) : List Nat := encL (wayOf x).1 (wayOf x).2 (resid x (wayOf x).1)
def frBits (st : Int) (xss : List (List Int)) : List Nat := binL st 32 ++ xss.flatMap encC
def hdB (body : List Nat) : List Nat := [165, 90] ++ octs (binL (body.length : Nat) 16) ++ body
def encB (st : Int) (xss : List (List Int)) : List Nat := hdB (octs (frBits st xss)) ++ octs (binL (chkL (hdB (octs (frBits st xss))) : Nat) 24)

theorem way_bd (x : Way) : x.1.1 ≤ 3 ∧ x.1.2 ≤ 30 := by have := x.2; omega
theorem bestF_bd (xs : List Int) (pre : List Way) : (bestF xs pre).1.1 ≤ 3 ∧ (bestF xs pre).1.2 ≤ 30 := by
  suffices ∀ b : (Nat × Nat) × Nat, b.1.1 ≤ 3 ∧ b.1.2 ≤ 30 → (pre.foldl (stepB xs) b).1.1 ≤ 3 ∧ (pre.foldl (stepB xs) b).1.2 ≤ 30 from this _ ⟨by simp, by simp⟩
  induction pre with
  | nil => intro b h; exact h
  | cons x l ih =>
    intro b h
    rw [List.foldl_cons]
    refine ih _ ?_
    unfold stepB
    split
    · exact way_bd x
    · exact h
theorem wayOf_bd (x : List Int) : (wayOf x).1 ≤ 3 ∧ (wayOf x).2 ≤ 30 := by
  have h := bestF_bd x (wvs 124)
  unfold wayOf
  generalize wvs 124 = q at *
  exact h
theorem encC_length (x : List Int) : (encC x).length ≤ 7 + 52 * x.length := cost_le x _ _ (wayOf_bd x).2
theorem encU_bits (u : Int) (sh : Nat) : ∀ b ∈ encU u sh, b ≤ 1 := by
  intro b hb
  unfold encU at hb
  split at hb
  · rcases List.mem_append.1 hb with h | h <;> exact binL_bits _ _ b h
  · rcases List.mem_append.1 hb with h | h <;> exact binL_bits _ _ b h
theorem flat_encC (xss : List (List Int)) (n : Nat) (h : ∀ xs ∈ xss, xs.length ≤ n) : (xss.flatMap encC).length ≤ (7 + 52 * n) * xss.length := by
  induction xss with
  | nil => simp
  | cons x l ih =>
    have h1 := ih fun y hy => h y (by simp [hy])
    have h2 := encC_length x
    have h3 := h x (by simp)
    rw [List.flatMap_cons, List.length_append, List.length_cons, Nat.mul_succ]
    omega
end Go.Proofs.YtoochleabcjljaaDoor

/- Codes: encode. -/
namespace Go.Proofs.YtoochleabcjljaaDoor
open Go.RowKit Go.Shelf

theorem grown_of_below {n : Nat} {w w' : World} (hb : Below n w w') (hn : w.heap.size ≤ n) (row : Option Nat) : w.grownBy w' row := ⟨hb.os, hb.tape, hb.output, hb.size, fun k hk _ => hb.block k (by omega)⟩
theorem own_base {w : World} {B B' : Nat} {e : TypeId} {s : Nat} {v : Value} {n : Nat} {xs : List Value} (h : w.ownsRow B e s v n xs) (hB : B' ≤ B) : w.ownsRow B' e s v n xs := by
  refine ⟨h.1, h.2.imp id ?_⟩
  rintro ⟨g, cap, cur, h1, h2, h3⟩
  exact ⟨g, cap, cur, h1, by omega, h3⟩
theorem own_below {w w' : World} {B n : Nat} {e : TypeId} {s : Nat} {v : Value} {m : Nat} {xs : List Value} (h : w.ownsRow B e s v m xs) (hb : Below n w w') (hn : w.heap.size ≤ n) : w'.ownsRow B e s v m xs :=
  h.kept (row := none) (grown_of_below hb hn none) (by cases hv : v.ownBlock <;> simp)
theorem WrS.wide {B bW n : Nat} {S : Nat → Prop} {w w' : World} {bs : List Nat} (h : WrS B bW S w bs) (hb : Below n w w') (hn : w.heap.size ≤ n) : WrS B bW (fun k => S k ∨ (w.heap.size ≤ k ∧ k < w'.heap.size)) w' bs := by
  obtain ⟨h1, h2, v, h3, h4, h5, h6⟩ := h
  have hl := heap_lt h3
  refine ⟨h1, h2, v, by rw [hb.block _ (by omega)]; exact h3, own_below h4 hb hn, h5, fun k hk => ?_⟩
  have hs := hb.size
  rcases hk with hk | ⟨hk1, hk2⟩
  · have := h6 k hk; exact ⟨by omega, this.2⟩
  · exact ⟨hk2, by omega, fun e => by have := (h4.lt _ e).2; omega⟩
theorem WrS.new (B : Nat) (S : Nat → Prop) (W : World) (hB : B ≤ W.heap.size) (hS : ∀ k, S k → k < W.heap.size) : WrS B W.heap.size S (W.alloc (.cells #[.slice none 0 0, .int .i64 0] 91)) [] :=
  ⟨hB, by simp, .slice none 0 0, World.alloc_heap_new W _, by rw [octs_nil]; exact World.ownsRow_nil _ _ _ _, by simp [Value.ownBlock], fun k hk => ⟨by have := hS k hk; simp; omega, by have := hS k hk; omega, by simp [Value.ownBlock]⟩⟩
theorem frBits_bits (st : Int) (xss : List (List Int)) : ∀ b ∈ frBits st xss, b ≤ 1 := by
  intro b hb
  rcases List.mem_append.1 hb with h | h
  · exact binL_bits _ _ b h
  · obtain ⟨x, _, hx⟩ := List.mem_flatMap.1 h
    unfold encC encL at hx
    rcases List.mem_append.1 hx with h | h
    · rcases List.mem_append.1 h with h | h <;> exact binL_bits _ _ b h
    · obtain ⟨r, _, hr⟩ := List.mem_flatMap.1 h
      exact encU_bits _ _ b hr

theorem best_way (ao : Option Addr) (xs : List Int) (cap : Nat) (w : World) (hc : Cells w ao (xs.map (Value.int .i64))) (hl : xs.length ≤ 4096) (hx : ∀ x ∈ xs, -8388608 ≤ x ∧ x ≤ 8388608) :
    Calls Tryd.prog 47 #[.slice ao xs.length cap] w fun e w' => ∃ o s : Nat, wayOf xs = (o, s) ∧ e = .returned (.agg #[.int .i64 (o : Nat), .int .i64 (s : Nat)]) ∧ Below w.heap.size w w' := by
  have h := best_any ao xs cap w hc hl hx
  unfold wayOf
  generalize wvs 124 = q at *
  exact h.mono fun e w' h => ⟨_, _, rfl, h⟩

theorem enc_write {B bW : Nat} (S : Nat → Prop) (o sh : Nat) (ho : o ≤ 3) (hsh : sh ≤ 30) (al : Option Addr) (l : List Int) (cl : Nat) (bs : List Nat) {n : Nat} (w : World)
    (hst : WrS B bW S w bs) (hS : ∀ b, n ≤ b ∧ b < w.heap.size → S b) (hl : ∀ b off, al = some ⟨b, off, none⟩ → n ≤ b) (hc : Cells w al (l.map (Value.int .i64))) (hlen : l.length ≤ 4096) (hbs : bs.length ≤ 1000000) (hr : ∀ r ∈ l, -67108864 ≤ r ∧ r ≤ 67108864) :
    Calls Tryd.prog 48 #[.agg #[.int .i64 (o : Nat), .int .i64 (sh : Nat)], .iface 89 (.pointer (some ⟨bW, 0, none⟩)), .slice al l.length cl] w fun e w' => e = .returned (.tuple #[]) ∧ WrS B bW S w' (bs ++ encL o sh l) ∧ KeepS S B w w' := by
  refine write_any (writer_ok B bW) S o sh ho hsh al l cl bs w hst (fun b off hb hne => hS b ⟨hl b off hb, ?_⟩) hc hlen hbs hr
  subst hb
  obtain ⟨r, hr0⟩ := get_of_lt (List.length_pos_iff.2 hne)
  exact World.block_lt_of_cell? w _ (hc.at (j := 0) (by rw [List.getElem?_map, hr0]; rfl))

theorem WrS.lit (w : World) : WrS w.heap.size (w.heap.size + 1) (fun k => k < w.heap.size) ((w.alloc (.cells #[.int .u8 165, .int .u8 90] 5)).alloc (.cells #[.slice (some ⟨w.heap.size, 0, none⟩) 2 2, .int .i64 0] 91)) (unB [165, 90]) := by
  refine ⟨by omega, unB_bits _, .slice (some ⟨w.heap.size, 0, none⟩) 2 2, ?_, ?_, by simp [Value.ownBlock], fun k hk => ⟨by simp; omega, by omega, by simp [Value.ownBlock]; omega⟩⟩
  · have h := World.alloc_heap_new (w.alloc (.cells #[.int .u8 165, .int .u8 90] 5)) (.cells #[.slice (some ⟨w.heap.size, 0, none⟩) 2 2, .int .i64 0] 91)
    rw [World.size_alloc] at h
    exact h
  · rw [octs_unB _ (by decide)]
    refine ⟨rfl, .inr ⟨w.heap.size, 2, #[.int .u8 165, .int .u8 90], rfl, Nat.le_refl _, ?_, by decide, by unfold maxLen; omega, rfl, rfl⟩⟩
    rw [Below.heap_alloc _ _ _ (by simp)]
    exact World.alloc_heap_new w _

set_option maxRecDepth 100000 in
set_option maxHeartbeats 2000000 in
theorem encode_any (ao : Option Addr) (nb : Nat) (cap : Nat) (st : Int) (asm : Option Addr) (vs : List Value) (xss : List (List Int)) (cs : Nat) (w : World) (hl : nb ≤ 16) (hnb : xss.length = nb) (hs : Cells w asm vs) (hr : RowsV w vs xss)
    (hst0 : 0 ≤ st) (hst1 : st ≤ 1073741824) (hxl : ∀ xs ∈ xss, xs.length ≤ 64) (hxb : ∀ xs ∈ xss, ∀ x ∈ xs, -8388608 ≤ x ∧ x ≤ 8388608) :
    Calls Tryd.prog 38 #[.slice ao nb cap, .agg #[.int .i64 st, .slice asm nb cs]] w fun e w' => (∃ v, e = .returned v ∧ w'.ownsRow w.heap.size 5 1 v (encB st xss).length (bys (encB st xss))) ∧ Below w.heap.size w w' := by
  have HS := Lib.hid hs; have HR := Lib.hid hr; have HXL := Lib.hid hxl; have HXB := Lib.hid hxb; have HNB := Lib.hid hnb
  clear hs hr hxl hxb hnb
  go_enter Tryd.func38, Tryd.ntmps38
  go_wp2_with fail
  have hw0 := WrS.new (w.heap.size + 1) (fun _ => False) (w.alloc (.cells #[.int .i64 st, .slice asm nb cs] 53)) (by simp) (fun k h => h.elim)
  rw [World.size_alloc] at hw0
  refine (writer_put _ _ _ _ st 32 _ hw0 hst0 (by omega) (by omega) (by simp)).mono ?_
  rintro e w1 ⟨rfl, hw1, hk1⟩
  have hb1 : Below (w.heap.size + 1) (w.alloc (.cells #[.int .i64 st, .slice asm nb cs] 53)) w1 := ((Below.refl _ _).alloc (by simp) _).trans hk1.below
  have HW1 := Lib.hid hw1
  clear hw0 hw1 hk1
  go_wp2
  go_loopw [18] (fun i wr => ∃ k : Nat, k ≤ nb ∧ i = .int .i64 k ∧ WrS (w.heap.size + 1) (w.heap.size + 1) (fun _ => False) wr (frBits st (xss.take k)) ∧ Below (w.heap.size + 1) (w.alloc (.cells #[.int .i64 st, .slice asm nb cs] 53)) wr) (fun i _ => nb - (intOf i).toNat)
  case atStart => exact ⟨0, Nat.zero_le _, rfl, by simpa [frBits] using HW1.out, hb1⟩
  case round =>
    clear hb1 HW1
    obtain ⟨k, hk, rfl, hwr, hb⟩ := hrel
    have HWR := Lib.hid hwr; clear hwr
    have hsz : w.heap.size + 1 ≤ wr.heap.size := by have := hb.size; simpa using this
    by_cases hlt : k < nb
    · obtain ⟨xs, hxs⟩ := get_of_lt (show k < xss.length by have := HNB.out; omega)
      obtain ⟨v, hv⟩ := get_of_lt (show k < vs.length by have := HR.out.1; have := HNB.out; omega)
      obtain ⟨b2, off2, rfl⟩ := HS.out.addr (List.ne_nil_of_length_pos (by have := HR.out.1; have := HNB.out; omega))
      have hbw : Below w.heap.size w wr := ((Below.refl _ _).alloc (Nat.le_refl _) _).trans (hb.mono (by omega))
      have c3 := cell_keep (HS.out.at hv) hbw (Nat.le_refl _)
      have p1 : wr.cell? ⟨w.heap.size, 1, none⟩ = some (.slice (some ⟨b2, off2, none⟩) nb cs) := box_keep hb (by simp) 1
      obtain ⟨ax, cx, rfl, hax, _⟩ := HR.out.2 k v xs hv hxs
      have hmem := List.mem_of_getElem? hxs
      have hxl := HXL.out xs hmem
      have hxb := HXB.out xs hmem
      have hax2 := hax.below hbw (Nat.le_refl _)
      have HXB2 := Lib.hid hxb; have HAX := Lib.hid hax2
      have HT : Hid (frBits st (xss.take (k + 1)) = frBits st (xss.take k) ++ encC xs) := Lib.hid (by
        rw [frBits, frBits, take_get hxs, List.flatMap_append]; simp)
      have HFL : Hid ((frBits st (xss.take k)).length ≤ 32 + 3335 * 16) := Lib.hid (by
        have h1 := flat_encC (xss.take k) 64 (fun y hy => HXL.out y (List.mem_of_mem_take hy))
        rw [List.length_take, Nat.min_eq_left (by have := HNB.out; omega)] at h1
        rw [frBits, List.length_append, binL_length]; omega)
      clear hv hxs hax hax2 hxb hmem
      go_wp2_with fail
      refine (best_way ax xs cx wr HAX.out (by omega) HXB2.out).mono ?_
      rintro e w1 ⟨o, sh, hwy, rfl, hb1⟩
      have hwb := wayOf_bd xs
      rw [hwy] at hwb
      obtain ⟨ho, hsh⟩ := hwb
      simp only at ho hsh
      have HE : Hid (encC xs = encL o sh (resid xs o)) := Lib.hid (by rw [encC, hwy])
      clear hwy
      have hb2 := hb.trans (hb1.mono hsz)
      have hbx := hb1.alloc hb1.size (.cells #[.int .i64 o, .int .i64 sh] 94)
      have HW2 := Lib.hid ((HWR.out.wide hbx (Nat.le_refl _)))
      have hn1 := hb1.size
      go_wp2
      have hax3 := HAX.out.below hbx.drew (Nat.le_refl _)
      have HAX3 := Lib.hid hax3
      have bw := (Blk.new w1 94 #[.int .i64 o, .int .i64 sh]).drew
      have HWd : Hid (WrS (w.heap.size + 1) (w.heap.size + 1) (fun k => False ∨ (wr.heap.size ≤ k ∧ k < (w1.alloc (.cells #[.int .i64 o, .int .i64 sh] 94)).drew.heap.size)) (w1.alloc (.cells #[.int .i64 o, .int .i64 sh] 94)).drew (frBits st (xss.take k))) := Lib.hid HW2.out
      have hsc : (w1.alloc (.cells #[.int .i64 o, .int .i64 sh] 94)).drew.heap.size = w1.heap.size + 1 := by simp
      have hbd := hbx.drew
      clear hax3 HW2 HAX hb1 hbx c3 p1
      have e0 := bw.c0
      have e1 := bw.c1
      have HBW := Lib.hid bw; have HSC := Lib.hid hsc
      clear bw hsc
      generalize (w1.alloc (.cells #[.int .i64 o, .int .i64 sh] 94)) = Wc at *
      go_region_with (first
        | (go_at_call 49; refine (residues_any ax xs cx o Wc.drew HAX3.out (by omega) ho HXB2.out).mono ?_; rintro e w2 ⟨⟨a1, k1, rfl, hca, hna⟩, hb3⟩; have HCA := Lib.hid hca; have HNA := Lib.hid hna; clear hca hna; have d0 := cell_keep e0 hb3 (Nat.le_refl _); have d1 := cell_keep e1 hb3 (Nat.le_refl _))
        | (go_at_call 48; refine (enc_write _ o sh ho hsh a1 (resid xs o) k1 _ w2 (HWd.out.wide hb3 (Nat.le_refl _)) (fun b hb => .inr hb) HNA.out HCA.out (by rw [resid_length]; omega) (by have := HFL.out; omega) (resid_bd HXB2.out o ho)).mono ?_; rintro e w3 ⟨rfl, hw3, hk3⟩; have hb4 := hk3.below; have HW3 := Lib.hid hw3; clear hw3 hk3))
      all_goals
        have hbz := (hb.trans ((hbd.mono hsz).trans (hb3.mono (Nat.le_trans hsz hbd.size)))).trans hb4
        have HBZ := Lib.hid hbz
        clear hbz hb4 hb3 hbd hb
        go_wp2
        go_roundw
        case rel => exact ⟨k + 1, by omega, by go_num, by rw [HT.out, HE.out]; exact (writer_ok _ _).mono _ _ _ _ (fun k h => h.elim) HW3.out, HBZ.out⟩
        case measure => simp [intOf]; omega
    · obtain rfl : k = nb := by omega
      have ht : xss.take k = xss := by rw [List.take_of_length_le (by have := HNB.out; omega)]
      rw [ht] at HWR
      have hfl : (frBits st xss).length ≤ 32 + 3335 * 16 := by
        have h1 := flat_encC xss 64 HXL.out
        have := HNB.out
        rw [frBits, List.length_append, binL_length]; omega
      have hfl2 : 32 ≤ (frBits st xss).length := by rw [frBits, List.length_append, binL_length]; omega
      have HBI := Lib.hid (frBits_bits st xss)
      have hol := octs_len (frBits st xss)
      have hbw : Below w.heap.size w wr := ((Below.refl _ _).alloc (Nat.le_refl _) _).trans (hb.mono (by omega))
      clear ht hb
      have HENC : Hid (encB st xss = hdB (octs (frBits st xss)) ++ octs (binL (chkL (hdB (octs (frBits st xss))) : Nat) 24)) := Lib.hid rfl
      have hok := (octs_ok _ HBI.out).1
      obtain ⟨eb, heb⟩ : ∃ eb, eb = encB st xss := ⟨_, rfl⟩
      rw [← heb] at HENC
      have HEB := Lib.hid heb
      clear heb
      generalize frBits st xss = fb at *
      have hn1 : 4 ≤ (octs fb).length := by omega
      have hn2 : (octs fb).length ≤ 6674 := by omega
      have HOK := Lib.hid hok
      clear hol hfl hfl2 hok
      obtain ⟨_, _, v1, hbk, hown, hne, _⟩ := HWR.out
      generalize octs fb = body at *
      obtain ⟨a1, c1, rfl, hca⟩ := own_cells hown
      obtain ⟨bv, ov, rfl⟩ := hca.addr (bys_ne (by omega))
      have p0 : wr.cell? ⟨w.heap.size + 1, 0, none⟩ = some (.slice (some ⟨bv, ov, none⟩) body.length c1) := by rw [Lib.cell_of_heap hbk]; rfl
      have hlt1 := heap_lt hbk
      have hlt2 := (hown.lt bv rfl).2
      have HBK := Lib.hid hbk; have HCA := Lib.hid hca; have HNE := Lib.hid hne
      have hba := (((Below.refl wr.heap.size wr).alloc (Nat.le_refl _) (.cells #[.int .u8 165, .int .u8 90] 5)).alloc (by simp) (.cells #[.slice (some ⟨wr.heap.size, 0, none⟩) 2 2, .int .i64 0] 91))
      have p1 := cell_keep p0 hba (Nat.le_refl _)
      have HPK := Lib.hid p0
      clear hbk hown hca hne HWR
      go_wp2_with fail
      have hw2 := WrS.lit wr
      clear p0 p1
      generalize ((wr.alloc (.cells #[.int .u8 165, .int .u8 90] 5)).alloc (.cells #[.slice (some ⟨wr.heap.size, 0, none⟩) 2 2, .int .i64 0] 91)) = wq at *
      refine (writer_put _ _ _ _ (body.length : Nat) 16 _ hw2 (by omega) (by omega) (by omega) (by rw [unB_length]; simp)).mono ?_
      rintro e w2 ⟨rfl, hw3, hk3⟩
      have hb3 := hba.trans hk3.below
      obtain ⟨_, hbits2, v2, hbk2, hown2, hne2, _⟩ := hw3
      have hoc : octs (unB [165, 90] ++ binL (body.length : Nat) 16) = [165, 90] ++ octs (binL (body.length : Nat) 16) := by
        rw [octs_append _ (by rw [unB_length]; rfl), octs_unB _ (by decide)]
      have hol := octs_len (binL (body.length : Nat) 16)
      rw [binL_length] at hol
      have hfr : freeOf (unB [165, 90] ++ binL (body.length : Nat) 16).length = 0 := by rw [List.length_append, unB_length, binL_length]; rfl
      rw [hoc] at hown2
      rw [hfr] at hbk2
      have hln : ([165, 90] ++ octs (binL (body.length : Nat) 16)).length = 4 := by rw [List.length_append, hol]; rfl
      rw [hln] at hown2
      have p2 := cell_keep HPK.out hb3 (Nat.le_refl _)
      have HC2 := Lib.hid hoc; have HLN := Lib.hid hln; have HBT := Lib.hid hbits2
      clear hoc hln hbits2 hol hfr hk3
      obtain ⟨g2, cg2, rfl, hg2, hg2l⟩ := hown2.form (by omega)
      have hne3 : g2 ≠ wr.heap.size + 1 := by simpa [Value.ownBlock] using hne2
      have q0 : w2.cell? ⟨wr.heap.size + 1, 0, none⟩ = some (.slice (some ⟨g2, 0, none⟩) 4 cg2) := by rw [Lib.cell_of_heap hbk2]; rfl
      have f0 : w2.frozen? ⟨wr.heap.size + 1, 0, none⟩ = false := Lib.frozen_of_heap hbk2 0
      have hl2 := heap_lt hbk2
      have hcb := HCA.out.below hb3 (Nat.le_refl _)
      have HCB := Lib.hid hcb; have HB2 := Lib.hid hbk2; have HO2 := Lib.hid hown2
      clear hne2 hcb hbk2 hown2 HNE HBK
      obtain ⟨i0, hi, hz0, hz1, hz2⟩ := info_parts Tryd.infoByte
      have hsz2 := hb3.size
      go_wp2
      have FA : ∀ (g : Nat) (wz : World), w2.drew.grownBy wz (some g2) → wz.frozen? ⟨wr.heap.size + 1, 0, none⟩ = false ∧ ∃ u, wz.cell? ⟨wr.heap.size + 1, 0, none⟩ = some u := fun g wz hg => by
        have e := hg.block (wr.heap.size + 1) hl2 (by simpa using Ne.symm hne3)
        have e2 := e.trans HB2.out
        exact ⟨Lib.frozen_of_heap e2 0, _, by rw [Lib.cell_of_heap e2]; rfl⟩
      replace FA := Lib.hid FA
      go_region_law (refine step_append_lies _ (by rfl) _ _ _ (by rfl) wr.heap.size 5 i0 _ 1 1 Tryd.underlying64 hi hz0 hz1 hz2 rfl (by omega) (.slice (some ⟨g2, 0, none⟩) 4 cg2) 4 _ (by rfl) (own_drewN HO2.out 1) ⟨bv, ov, none⟩ body.length c1 (bys body) (by rfl) (by simp [bys_length]) (fun j u hu => by rw [Addr.add_lit]; exact HCB.out.at hu) (by intro u hu; obtain ⟨d, _, rfl⟩ := List.mem_map.1 hu; rfl) (by omega) (by unfold maxLen; omega) (by omega) (by simp; omega) w2.heap.size (by simp) ?_; intro gg cp wz hown1 hgrow hat hlt1; obtain ⟨f9, u9, c9⟩ := FA.out gg wz hgrow)
      all_goals
        have hgne : gg ≠ wr.heap.size + 1 := by
          rcases hat with h | h
          · simp [Value.ownBlock] at h; omega
          · omega
        have hbz : wz.heap[wr.heap.size + 1]? = some (.cells #[.slice (some ⟨g2, 0, none⟩) 4 cg2, .int .i64 (0 : Nat)] 91 (0, 0)) := (hgrow.block (wr.heap.size + 1) hl2 (by simpa [Value.ownBlock] using Ne.symm hne3)).trans HB2.out
        have hbel : Below wr.heap.size wr wz := (hb3.drew).grown hgrow (by simpa using hsz2) (fun j e => by simp [Value.ownBlock] at e; omega)
        have hy1 := heap_set1 (u := .int .i64 0) (heap_set0 (u := .slice (some ⟨gg, 0, none⟩) (4 + body.length) cp) hbz)
        have hy2 := own_set_other (p := ⟨wr.heap.size + 1, 1, none⟩) (u := .int .i64 0) (own_set_other (p := ⟨wr.heap.size + 1, 0, none⟩) (u := .slice (some ⟨gg, 0, none⟩) (4 + body.length) cp) hown1 (by simpa [Value.ownBlock] using hgne)) (by simpa [Value.ownBlock] using hgne)
        have hy3 := (hbel.setCell (p := ⟨wr.heap.size + 1, 0, none⟩) (by simp) (.slice (some ⟨gg, 0, none⟩) (4 + body.length) cp)).setCell (p := ⟨wr.heap.size + 1, 1, none⟩) (by simp) (.int .i64 0)
        have f1 := Lib.frozen_of_heap hbz 1
        have c1' : ∃ u, wz.cell? ⟨wr.heap.size + 1, 1, none⟩ = some u := ⟨_, by rw [Lib.cell_of_heap hbz]; rfl⟩
        obtain ⟨_, c1'⟩ := c1'
        have HY1 := Lib.hid hy1; have HY2 := Lib.hid hy2; have HY3 := Lib.hid hy3
        clear hown1 hgrow hat hbz hbel hy1 hy2 hy3
        have hhd : bys ([165, 90] ++ octs (binL (body.length : Nat) 16)) ++ bys body = bys (hdB body) := by rw [hdB, bys_append (_ ++ _)]
        have hhl : (hdB body).length = 4 + body.length := by rw [hdB, List.length_append, HLN.out]
        have hhok : ∀ d ∈ hdB body, d < 256 := by
          intro d hd
          rcases List.mem_append.1 hd with h | h
          · have := (octs_ok (unB [165, 90] ++ binL (body.length : Nat) 16) HBT.out).1 d
            rw [HC2.out] at this
            exact this h
          · exact HOK.out d h
        have HHD := Lib.hid hhd; have HHL := Lib.hid hhl; have HHOK := Lib.hid hhok
        clear hhd hhl hhok
        go_wp2_with fail
        clear f1 f9 c9 c1'
        generalize ((wz.setCell ⟨wr.heap.size + 1, 0, none⟩ (.slice (some ⟨gg, 0, none⟩) (4 + body.length) cp)).setCell ⟨wr.heap.size + 1, 1, none⟩ (.int .i64 0)) = wx at *
        have hown4 := HY2.out
        rw [HHD.out] at hown4
        have hck := check_any (some ⟨gg, 0, none⟩) (hdB body) cp wx (by obtain ⟨a, c, h1, h2⟩ := own_cells hown4; simp at h1; rw [h1.1]; exact h2) HHOK.out (by rw [HHL.out]; omega)
        rw [HHL.out] at hck
        refine hck.mono ?_
        rintro e w4 ⟨rfl, rfl⟩
        clear hck
        go_wp2_with fail
        have hwx : WrS wr.heap.size (wr.heap.size + 1) (fun _ => False) wx (unB [165, 90] ++ binL (body.length : Nat) 16 ++ unB body) := by
          have ho : octs (unB [165, 90] ++ binL (body.length : Nat) 16 ++ unB body) = hdB body := by
            rw [octs_append _ (by rw [List.length_append, unB_length, binL_length]; rfl), HC2.out, octs_unB _ HOK.out]; rfl
          refine ⟨by omega, ?_, .slice (some ⟨gg, 0, none⟩) (4 + body.length) cp, ?_, ?_, by simpa [Value.ownBlock] using hgne, fun k h => h.elim⟩
          · intro b hb
            rcases List.mem_append.1 hb with h | h
            · exact HBT.out b h
            · exact unB_bits _ b h
          · have : freeOf (unB [165, 90] ++ binL (body.length : Nat) 16 ++ unB body).length = 0 := by
              unfold freeOf; rw [List.length_append, List.length_append, unB_length, unB_length, binL_length]; simp
            rw [this]; exact HY1.out
          · rw [ho, HHL.out]; exact hown4
        have hcl := chkL_lt (hdB body)
        have hpt := writer_put _ _ _ _ (chkL (hdB body) : Nat) 24 _ hwx (by omega) (by omega) (by omega) (by rw [List.length_append, List.length_append, unB_length, unB_length, binL_length]; simp <;> omega)
        have HPT := Lib.hid hpt
        clear hpt hwx hown4
        refine HPT.out.mono ?_
        rintro e w5 ⟨rfl, hw5, hk5⟩
        have hb5 := HY3.out.trans hk5.below
        obtain ⟨_, _, v5, hbk5, hown5, _, _⟩ := hw5
        have ho5 : octs (unB [165, 90] ++ binL (body.length : Nat) 16 ++ unB body ++ binL (chkL (hdB body) : Nat) 24) = eb := by
          rw [HENC.out, octs_append _ (by rw [List.length_append, List.length_append, unB_length, unB_length, binL_length]; simp <;> omega), octs_append _ (by rw [List.length_append, unB_length, binL_length]; rfl), HC2.out, octs_unB _ HOK.out]; rfl
        rw [ho5] at hown5
        have q5 : w5.cell? ⟨wr.heap.size + 1, 0, none⟩ = some v5 := by rw [Lib.cell_of_heap hbk5]; rfl
        have HO5 := Lib.hid (own_base hown5 (show w.heap.size ≤ wr.heap.size by omega))
        have hfin := hbw.trans (hb5.mono hbw.size)
        clear hbk5 hown5 ho5 hk5
        go_wp2_with fail
        go_ret
        exact ⟨⟨v5, rfl, by rw [← HEB.out]; exact HO5.out⟩, hfin⟩
end Go.Proofs.YtoochleabcjljaaDoor

/- Records: between, Gaps. -/
namespace Go.Proofs.YtoochleabcjljaaDoor
open Go.RowKit

def btwErr (bs : List Chan) (l : List Frm) (fr tt : Int) : Int := if recErr bs l ≠ 0 then recErr bs l else if fr < 0 ∨ tt < fr ∨ 1073741824 < tt then 8 else 0

set_option maxRecDepth 100000 in
theorem between_any (ao : Option Addr) (bs : List Chan) (cap : Nat) (al : Option Addr) (l : List Frm) (cl : Nat) (fr tt : Int) (w : World) (hb : BookIn w ao bs cap) (hr : RecIn w al l) :
    Calls Tryd.prog 30 #[.slice ao bs.length cap, .slice al l.length cl, .int .i64 fr, .int .i64 tt] w fun e w' => e = .returned (.int .i64 (btwErr bs l fr tt)) ∧ Below w.heap.size w w' := by
  have hck := checkRecord_any ao bs cap al l cl w hb hr
  have HCK := Lib.hid hck
  clear hck hb hr
  by_cases h1 : recErr bs l = 0
  · have H1 := Lib.hid h1
    have he : btwErr bs l fr tt = if fr < 0 ∨ tt < fr ∨ 1073741824 < tt then 8 else 0 := by rw [btwErr, if_neg (by simpa using h1)]
    have HE := Lib.hid he
    clear h1 he
    by_cases h2 : fr < 0
    · go_enter Tryd.func30, Tryd.ntmps30
      go_wp2_with fail
      refine HCK.out.mono ?_
      rintro e w1 ⟨rfl, hb1⟩
      rw [H1.out]
      go_wp2
      go_ret
      exact ⟨ret_int (by rw [HE.out, if_pos (.inl h2)]), hb1⟩
    · by_cases h3 : tt < fr
      · go_enter Tryd.func30, Tryd.ntmps30
        go_wp2_with fail
        refine HCK.out.mono ?_
        rintro e w1 ⟨rfl, hb1⟩
        rw [H1.out]
        go_wp2
        go_ret
        exact ⟨ret_int (by rw [HE.out, if_pos (.inr (.inl h3))]), hb1⟩
      · by_cases h4 : 1073741824 < tt
        · go_enter Tryd.func30, Tryd.ntmps30
          go_wp2_with fail
          refine HCK.out.mono ?_
          rintro e w1 ⟨rfl, hb1⟩
          rw [H1.out]
          go_wp2
          go_ret
          exact ⟨ret_int (by rw [HE.out, if_pos (.inr (.inr h4))]), hb1⟩
        · go_enter Tryd.func30, Tryd.ntmps30
          go_wp2_with fail
          refine HCK.out.mono ?_
          rintro e w1 ⟨rfl, hb1⟩
          rw [H1.out]
          go_wp2
          go_ret
          exact ⟨ret_int (by rw [HE.out, if_neg (by omega)]), hb1⟩
  · have he : btwErr bs l fr tt = recErr bs l := by simp [btwErr, h1]
    have h3 : (recErr bs l != 0) = true := by simpa using h1
    have h4 : (recErr bs l == 0) = false := by simpa using h1
    have HE := Lib.hid he; clear he
    go_enter Tryd.func30, Tryd.ntmps30
    go_wp2_with fail
    refine HCK.out.mono ?_
    rintro e w1 ⟨rfl, hb1⟩
    go_wp2
    go_ret
    exact ⟨ret_int HE.out.symm, hb1⟩

/-- one more span, if it is not empty -/
def addS (at_ : Int) (ss : List (Int × Int)) (e : Int) : List (Int × Int) := if at_ < e then ss ++ [(at_, e)] else ss
/-- the gaps till now: where the next one begins, and those that are done -/
structure GapS (base bA bO : Nat) (at_ : Int) (ss : List (Int × Int)) (v : Value) (w : World) : Prop where
  a : Blk w bA 3 #[.int .i64 at_]
  o : Blk w bO 45 #[v]
  own : w.ownsRow base 50 2 v ss.length (prs ss)

theorem Tryd.infoSpan : (Tryd.prog.info? 50).map (fun i => (i.zero, i.size, i.bytes)) = some (some (.agg #[.int .i64 0, .int .i64 0]), 2, 16) := by kernel_rfl
theorem blk_own_ne {w : World} {b base : Nat} {T e : TypeId} {cs : Array Value} {s n : Nat} {v : Value} {xs : List Value} (h : Blk w b T cs) (ho : w.ownsRow base e s v n xs) (hT : T ≠ e) : v.ownBlock ≠ some b := by
  intro hv
  rcases ho.2 with ⟨rfl, _⟩ | ⟨g, cap, cur, rfl, _, hg, _⟩
  · simp [Value.ownBlock] at hv
  · simp [Value.ownBlock] at hv
    subst hv
    rw [show w.heap[g]? = _ from h] at hg
    simp at hg
    exact hT hg.2

set_option maxRecDepth 100000 in
theorem gaps1_any (base bA bO : Nat) (hA : base ≤ bA) (hO : base ≤ bO) (hne : bA ≠ bO) (at_ e_ : Int) (ss : List (Int × Int)) (v : Value) (w : World) (h : GapS base bA bO at_ ss v w) (hl : ss.length ≤ 1000) :
    Calls Tryd.prog 31 #[.int .i64 e_, .pointer (some ⟨bA, 0, none⟩), .pointer (some ⟨bO, 0, none⟩)] w fun e w' => e = .returned (.tuple #[]) ∧ (∃ v', GapS base bA bO at_ (addS at_ ss e_) v' w') ∧ Below base w w' ∧ ∀ j, j < w.heap.size → j ≠ bO → v.ownBlock ≠ some j → w'.heap[j]? = w.heap[j]? := by
  have c1 := h.a.c0
  have c2 := h.o.c0
  have f2 := h.o.free 0
  have HG := Lib.hid h
  clear h
  by_cases hlt : at_ < e_
  · have hs : addS at_ ss e_ = ss ++ [(at_, e_)] := by rw [addS, if_pos hlt]
    have HS := Lib.hid hs; clear hs
    obtain ⟨i0, hi, hz0, hz1, hz2⟩ := info_parts Tryd.infoSpan
    have hsz : base ≤ w.heap.size := by have := HG.out.a.lt; omega
    have HOW := Lib.hid HG.out.own
    go_enter Tryd.func31, Tryd.ntmps31
    go_wp2_with (at_builtin; refine wpList_append_lies _ rfl _ _ _ rfl base 50 i0 (.agg #[.int .i64 0, .int .i64 0]) 2 16 Tryd.underlying45 hi hz0 hz1 hz2 rfl (by decide) v ss.length (prs ss) rfl (HOW.out.alloc _) ⟨w.heap.size, 0, none⟩ 1 1 [.int .i64 at_, .int .i64 e_] rfl rfl (World.news_of_block (cs := #[.int .i64 at_, .int .i64 e_]) (t := 50) (fr := (0, 0)) (heap_alloc_new w _)) (by simp [Value.oneCell']) (by omega) (by unfold maxLen; omega) (by omega) (by simp; omega) (w.heap.size + 1) (by simp) ?_)
    intro gg cp wz hown1 hgrow hat hlt1
    have k1 := (HG.out.a.alloc (.cells #[.int .i64 at_, .int .i64 e_] 50)).kept hgrow (fun e => blk_own_ne HG.out.a HG.out.own (by decide) e.symm)
    have k2 := (HG.out.o.alloc (.cells #[.int .i64 at_, .int .i64 e_] 50)).kept hgrow (fun e => blk_own_ne HG.out.o HG.out.own (by decide) e.symm)
    have z2 := k2.c0
    have g2 := k2.free 0
    have t2 := blk_own_ne k2 hown1 (by decide)
    have hfin : GapS base bA bO at_ (addS at_ ss e_) (.slice (some ⟨gg, 0, none⟩) (ss.length + 1) cp) (wz.setCell ⟨bO, 0, none⟩ (.slice (some ⟨gg, 0, none⟩) (ss.length + 1) cp)) := by
      refine ⟨k1.other hne _ _, k2.set0 _, ?_⟩
      rw [HS.out, List.length_append, prs_append]
      exact own_set_other hown1 t2
    have hbz := (((Below.refl base w).alloc hsz (.cells #[.int .i64 at_, .int .i64 e_] 50)).grown hgrow (by simp; omega) (fun j e => (HOW.out.lt j e).1)).setCell (p := ⟨bO, 0, none⟩) hO (.slice (some ⟨gg, 0, none⟩) (ss.length + 1) cp)
    have hkeep : ∀ j, j < w.heap.size → j ≠ bO → v.ownBlock ≠ some j → (wz.setCell ⟨bO, 0, none⟩ (.slice (some ⟨gg, 0, none⟩) (ss.length + 1) cp)).heap[j]? = w.heap[j]? := fun j hj hjo hjv => by
      rw [Below.heap_setCell _ _ _ _ hjo, hgrow.block j (by simp; omega) (fun e => hjv e.symm), Below.heap_alloc _ _ _ hj]
    have HF := Lib.hid hfin; have HKP := Lib.hid hkeep
    clear hown1 hgrow hat hlt1 k1 k2 t2 hfin hkeep
    go_wp2
    go_end0
    exact ⟨rfl, ⟨_, HF.out⟩, hbz, HKP.out⟩
  · have hs : addS at_ ss e_ = ss := by rw [addS, if_neg hlt]
    have HS := Lib.hid hs; clear hs
    go_enter Tryd.func31, Tryd.ntmps31
    go_wp2
    go_end0
    exact ⟨rfl, ⟨v, by rw [HS.out]; exact HG.out⟩, Below.refl _ _, fun _ _ _ _ => rfl⟩
end Go.Proofs.YtoochleabcjljaaDoor

/- Records: Gaps. -/
namespace Go.Proofs.YtoochleabcjljaaDoor
open Go.RowKit

def gapStep (fr tt : Int) (s : Int × List (Int × Int)) (f : Frm) : Int × List (Int × Int) := if fr ≤ f.st ∧ f.st < tt then (f.st + 1, addS s.1 s.2 f.st) else s
def gapsTo (fr tt : Int) (l : List Frm) : Int × List (Int × Int) := l.foldl (gapStep fr tt) (fr, [])
def gapsOf (fr tt : Int) (l : List Frm) : List (Int × Int) := addS (gapsTo fr tt l).1 (gapsTo fr tt l).2 tt
def gapsRes (bs : List Chan) (l : List Frm) (fr tt : Int) : List (Int × Int) := if btwErr bs l fr tt = 0 then gapsOf fr tt l else []
theorem gapsTo_snoc (fr tt : Int) (l : List Frm) (f : Frm) : gapsTo fr tt (l ++ [f]) = gapStep fr tt (gapsTo fr tt l) f := by simp [gapsTo]
theorem addS_length (a : Int) (ss : List (Int × Int)) (e : Int) : (addS a ss e).length ≤ ss.length + 1 := by unfold addS; split <;> simp
theorem gapsTo_length (fr tt : Int) (l : List Frm) : (gapsTo fr tt l).2.length ≤ l.length := by
  suffices ∀ n (l : List Frm), l.length = n → (gapsTo fr tt l).2.length ≤ n by exact this _ l rfl
  intro n
  induction n with
  | zero => intro l hl; rw [List.length_eq_zero_iff.1 hl]; simp [gapsTo]
  | succ n ih =>
    intro l hl
    obtain ⟨l', f, rfl⟩ : ∃ l' f, l = l' ++ [f] := by
      rcases List.eq_nil_or_concat l with rfl | ⟨l', b, rfl⟩
      · simp at hl
      · exact ⟨l', b, by simp⟩
    simp at hl
    have h := ih l' hl
    rw [gapsTo_snoc, gapStep]
    split
    · have := addS_length (gapsTo fr tt l').1 (gapsTo fr tt l').2 f.st
      simp only; omega
    · omega

theorem recErr_zero {bs : List Chan} {l : List Frm} (h : recErr bs l = 0) : bookErr bs = 0 ∧ l.length ≤ 64 ∧ (∀ f ∈ l, frOK bs f.st f.xss = true) ∧ upTo l l.length = true := by
  unfold recErr at h
  split at h
  · contradiction
  · rename_i h1
    split at h
    · contradiction
    · rename_i h2
      split at h
      · contradiction
      · rename_i h3
        split at h
        · contradiction
        · rename_i h4
          refine ⟨by simpa using h1, by omega, fun f hf => ?_, by simpa using h4⟩
          have h3 := (Bool.not_eq_true _).mp h3
          have := List.any_eq_false.1 h3 f hf
          simpa using this
theorem btwErr_zero {bs : List Chan} {l : List Frm} {fr tt : Int} (h : btwErr bs l fr tt = 0) : recErr bs l = 0 ∧ 0 ≤ fr ∧ fr ≤ tt ∧ tt ≤ 1073741824 := by
  unfold btwErr at h
  split at h
  · contradiction
  · rename_i h1
    split at h
    · contradiction
    · exact ⟨by simpa using h1, by omega, by omega, by omega⟩

set_option maxRecDepth 100000 in
set_option maxHeartbeats 1000000 in
theorem gaps_any (ao : Option Addr) (bs : List Chan) (cap : Nat) (al : Option Addr) (l : List Frm) (cl : Nat) (fr tt : Int) (w : World) (hb : BookIn w ao bs cap) (hr : RecIn w al l) :
    Calls Tryd.prog 18 #[.slice ao bs.length cap, .slice al l.length cl, .int .i64 fr, .int .i64 tt] w fun e w' => (∃ a c, e = .returned (.tuple #[.slice a (gapsRes bs l fr tt).length c, .int .i64 (btwErr bs l fr tt)]) ∧ Cells w' a (prs (gapsRes bs l fr tt))) ∧ Below w.heap.size w w' := by
  have hck := between_any ao bs cap al l cl fr tt w hb hr
  have HCK := Lib.hid hck; have HR := Lib.hid hr
  clear hck hb hr
  by_cases h1 : btwErr bs l fr tt = 0
  · have he : gapsRes bs l fr tt = gapsOf fr tt l := by rw [gapsRes, if_pos h1]
    obtain ⟨z0, z1, z2, z3⟩ := btwErr_zero h1
    obtain ⟨_, z4, _, _⟩ := recErr_zero z0
    have HE := Lib.hid he; have H1 := Lib.hid h1
    clear he h1 z0
    go_enter Tryd.func18, Tryd.ntmps18
    go_wp2_with fail
    refine HCK.out.mono ?_
    rintro e w1 ⟨rfl, hb1⟩
    rw [H1.out]
    have hg0 : GapS w1.heap.size (w1.heap.size + 1) w1.heap.size fr [] (.slice none 0 0) ((w1.alloc (.cells #[.slice none 0 0] 45)).alloc (.cells #[.int .i64 fr] 3)) := by
      refine ⟨?_, (Blk.new w1 45 #[.slice none 0 0]).alloc _, World.ownsRow_nil _ _ _ _⟩
      have := Blk.new (w1.alloc (.cells #[.slice none 0 0] 45)) 3 #[.int .i64 fr]
      rwa [World.size_alloc] at this
    have hbw := (((Below.refl w1.heap.size w1).alloc (Nat.le_refl _) (.cells #[.slice none 0 0] 45)).alloc (by simp) (.cells #[.int .i64 fr] 3))
    have HG0 := Lib.hid hg0
    have HR1 := Lib.hid (HR.out.below hb1 (Nat.le_refl _))
    clear hg0
    go_wp2
    go_loopw [28] (fun i wr => ∃ k : Nat, k ≤ l.length ∧ i = .int .i64 k ∧ (∃ v, GapS w1.heap.size (w1.heap.size + 1) w1.heap.size (gapsTo fr tt (l.take k)).1 (gapsTo fr tt (l.take k)).2 v wr) ∧ Below w1.heap.size w1 wr) (fun i _ => l.length - (intOf i).toNat)
    case atStart => exact ⟨0, Nat.zero_le _, rfl, ⟨_, HG0.out⟩, hbw⟩
    case round =>
      clear hbw HG0
      obtain ⟨k, hk, rfl, ⟨v, hg⟩, hbr⟩ := hrel
      have HG := Lib.hid hg; clear hg
      have hgl := gapsTo_length fr tt (l.take k)
      rw [List.length_take, Nat.min_eq_left hk] at hgl
      by_cases hlt : k < l.length
      · obtain ⟨x, hx⟩ := get_of_lt hlt
        obtain ⟨bl, ol, rfl⟩ := HR1.out.cells.addr (frs_ne (by omega))
        have c0 := cell_keep (HR1.out.cells.at (frs_get hx).1) hbr (Nat.le_refl _)
        have c1 := cell_keep (HR1.out.cells.at (frs_get hx).2) hbr (Nat.le_refl _)
        rw [← Nat.add_assoc] at c1
        have hst : gapsTo fr tt (l.take (k + 1)) = gapStep fr tt (gapsTo fr tt (l.take k)) x := by rw [take_get hx, gapsTo_snoc]
        have HST := Lib.hid hst
        have hz := hbr.size
        clear hst hx
        by_cases hin : fr ≤ x.st ∧ x.st < tt
        · obtain ⟨hi1, hi2⟩ := hin
          have hgs : gapStep fr tt (gapsTo fr tt (l.take k)) x = (x.st + 1, addS (gapsTo fr tt (l.take k)).1 (gapsTo fr tt (l.take k)).2 x.st) := by rw [gapStep, if_pos ⟨hi1, hi2⟩]
          have HGS := Lib.hid hgs
          clear hgs
          have hb0 := (Below.refl wr.heap.size wr).alloc (Nat.le_refl _) (.cells #[.int .i64 x.st, .slice x.a x.xss.length x.c] 53)
          have hga : GapS w1.heap.size (w1.heap.size + 1) w1.heap.size (gapsTo fr tt (l.take k)).1 (gapsTo fr tt (l.take k)).2 v (wr.alloc (.cells #[.int .i64 x.st, .slice x.a x.xss.length x.c] 53)) := ⟨HG.out.a.alloc _, HG.out.o.alloc _, HG.out.own.alloc _⟩
          have hba := hbr.alloc hz (.cells #[.int .i64 x.st, .slice x.a x.xss.length x.c] 53)
          have hxb := Blk.new wr 53 #[.int .i64 x.st, .slice x.a x.xss.length x.c]
          have HXB := Lib.hid hxb
          have HGA := Lib.hid hga
          have hgA := HG.out.a.lt
          clear hga hxb hb0
          go_wp2_with fail
          refine (gaps1_any w1.heap.size (w1.heap.size + 1) w1.heap.size (by omega) (by omega) (by omega) (gapsTo fr tt (l.take k)).1 x.st (gapsTo fr tt (l.take k)).2 v _ HGA.out (by omega)).mono ?_
          rintro e w2 ⟨rfl, ⟨v', hg2⟩, hb2, hkp⟩
          have hx2 : Blk w2 wr.heap.size 53 #[.int .i64 x.st, .slice x.a x.xss.length x.c] :=
            (hkp wr.heap.size (by simp) (by omega) (fun e => by have := (HG.out.own.lt _ e).2; omega)).trans HXB.out
          have r0 := hx2.c0
          have hq : GapS w1.heap.size (w1.heap.size + 1) w1.heap.size (gapsTo fr tt (l.take (k + 1))).1 (gapsTo fr tt (l.take (k + 1))).2 v' (w2.setCell ⟨w1.heap.size + 1, 0, none⟩ (.int .i64 (x.st + 1))) := by
            rw [HST.out, HGS.out]
            exact ⟨hg2.a.set0 _, hg2.o.other (by omega) _ _, own_set_other hg2.own (blk_own_ne hg2.a hg2.own (by decide))⟩
          have hbq := (hba.trans hb2).setCell (p := ⟨w1.heap.size + 1, 0, none⟩) (by simp) (.int .i64 (x.st + 1))
          have s0 := hg2.a.c0
          have s1 := hg2.a.free 0
          have HQ := Lib.hid hq
          clear hq hg2 hx2 hkp hb2 hba
          go_wp2
          go_roundw
          case rel => exact ⟨k + 1, by omega, by go_num, ⟨v', HQ.out⟩, hbq⟩
          case measure => simp [intOf]; omega
        · have hgs : gapStep fr tt (gapsTo fr tt (l.take k)) x = gapsTo fr tt (l.take k) := by rw [gapStep, if_neg hin]
          have hga : GapS w1.heap.size (w1.heap.size + 1) w1.heap.size (gapsTo fr tt (l.take (k + 1))).1 (gapsTo fr tt (l.take (k + 1))).2 v (wr.alloc (.cells #[.int .i64 x.st, .slice x.a x.xss.length x.c] 53)) := by
            rw [HST.out, hgs]; exact ⟨HG.out.a.alloc _, HG.out.o.alloc _, HG.out.own.alloc _⟩
          have hba := hbr.alloc hz (.cells #[.int .i64 x.st, .slice x.a x.xss.length x.c] 53)
          have HGA := Lib.hid hga
          clear hga hgs
          have hjj : x.st < fr ∨ (fr ≤ x.st ∧ tt ≤ x.st) := by omega
          clear hin
          rcases hjj with h | ⟨h, h'⟩
          all_goals
            go_wp2
            go_roundw
            case rel => exact ⟨k + 1, by omega, by go_num, ⟨v, HGA.out⟩, hba⟩
            case measure => simp [intOf]; omega
      · obtain rfl : k = l.length := by omega
        rw [List.take_length] at HG hgl
        go_wp2_with fail
        refine (gaps1_any w1.heap.size (w1.heap.size + 1) w1.heap.size (by omega) (by omega) (by omega) (gapsTo fr tt l).1 tt (gapsTo fr tt l).2 v _ HG.out (by omega)).mono ?_
        rintro e w2 ⟨rfl, ⟨v', hg2⟩, hb2, _⟩
        have hbq := hb1.trans ((hbr.trans hb2).mono hb1.size)
        have r0 := hg2.o.c0
        obtain ⟨a, c, rfl, hcs⟩ := own_cells hg2.own
        have HCS := Lib.hid hcs
        clear hg2 hb2 hbr hcs
        go_wp2
        go_ret2
        exact ⟨⟨a, c, by rw [HE.out, H1.out]; rfl, by rw [HE.out]; exact HCS.out⟩, hbq⟩
  · have he : gapsRes bs l fr tt = [] := by rw [gapsRes, if_neg h1]
    have h3 : (btwErr bs l fr tt != 0) = true := by simpa using h1
    have h4 : (btwErr bs l fr tt == 0) = false := by simpa using h1
    have HE := Lib.hid he; clear he
    go_enter Tryd.func18, Tryd.ntmps18
    go_wp2_with fail
    refine HCK.out.mono ?_
    rintro e w1 ⟨rfl, hb1⟩
    go_wp2
    go_ret2
    exact ⟨⟨none, 0, by rw [HE.out]; rfl, by rw [HE.out]; exact Cells.nil _ _⟩, hb1⟩
end Go.Proofs.YtoochleabcjljaaDoor

/- Codes: Encode. -/
namespace Go.Proofs.YtoochleabcjljaaDoor
open Go.RowKit

theorem frTo_get {bs : List Chan} {xss : List (List Int)} {n : Nat} (h : frTo bs xss n = true) {i : Nat} {c : Chan} {xs : List Int} (hi : i < n) (hc : bs[i]? = some c) (hx : xss[i]? = some xs) : smpOK c xs = true := by
  induction n with
  | zero => omega
  | succ n ih =>
    simp only [frTo, Bool.and_eq_true] at h
    by_cases hin : i < n
    · exact ih h.1 hin
    · obtain rfl : i = n := by omega
      have := h.2
      rw [hc, hx] at this
      exact this
theorem frmErr_zero {bs : List Chan} {st : Int} {xss : List (List Int)} (h : frmErr bs st xss = 0) : bookOK bs = true ∧ bs.length ≤ 16 ∧ xss.length = bs.length ∧ 0 ≤ st ∧ st ≤ 1073741824 ∧ (∀ xs ∈ xss, xs.length ≤ 64) ∧ ∀ xs ∈ xss, ∀ x ∈ xs, -8388608 ≤ x ∧ x ≤ 8388608 := by
  unfold frmErr at h
  split at h
  · contradiction
  · rename_i hb
    have hb : bookErr bs = 0 := by simpa using hb
    have hk := bookErr_zero hb
    split at h
    · rename_i hf
      simp only [frOK, Bool.and_eq_true, decide_eq_true_eq] at hf
      obtain ⟨h1, h2, h3⟩ := hf
      have hk2 := hk
      simp only [bookOK, inB, Bool.and_eq_true, decide_eq_true_eq] at hk2
      simp only [inB, decide_eq_true_eq] at h1
      have key : ∀ xs ∈ xss, ∃ c, (1 ≤ c.rate ∧ c.rate ≤ 64 ∧ 2 ≤ c.bits ∧ c.bits ≤ 24) ∧ smpOK c xs = true := by
        intro xs hxs
        obtain ⟨i, hi, hx⟩ := List.mem_iff_getElem.1 hxs
        obtain ⟨c, hc⟩ := get_of_lt (show i < bs.length by omega)
        exact ⟨c, book_get hk hc, frTo_get h3 (by omega) hc (by rw [List.getElem?_eq_getElem hi, hx])⟩
      refine ⟨hk, by omega, h2, h1.1, h1.2, fun xs hxs => ?_, fun xs hxs x hx => ?_⟩
      · obtain ⟨c, hc, hs⟩ := key xs hxs
        simp only [smpOK, Bool.and_eq_true, decide_eq_true_eq] at hs
        omega
      · obtain ⟨c, hc, hs⟩ := key xs hxs
        simp only [smpOK, Bool.and_eq_true] at hs
        have h4 := hs.2
        obtain ⟨m1, m2, _⟩ := most_bd hc.2.2.1 hc.2.2.2
        rw [Bool.not_eq_true'] at h4
        have h5 := List.any_eq_false.1 h4 x hx
        simp [inB] at h5
        omega
    · contradiction
def encRes (bs : List Chan) (st : Int) (xss : List (List Int)) : List Nat := if frmErr bs st xss = 0 then encB st xss else []

set_option maxRecDepth 100000 in
theorem Encode_any (ao : Option Addr) (bs : List Chan) (cap : Nat) (st : Int) (asm : Option Addr) (vs : List Value) (xss : List (List Int)) (cs : Nat) (w : World) (hb : BookIn w ao bs cap) (hs : Cells w asm vs) (hr : RowsV w vs xss) (hls : xss.length ≤ 9223372036854775807) :
    Calls Tryd.prog 26 #[.slice ao bs.length cap, .agg #[.int .i64 st, .slice asm xss.length cs]] w fun e w' => (∃ v, e = .returned (.tuple #[v, .int .i64 (frmErr bs st xss)]) ∧ w'.ownsRow w.heap.size 5 1 v (encRes bs st xss).length (bys (encRes bs st xss))) ∧ Below w.heap.size w w' := by
  have HB := Lib.hid hb; have HS := Lib.hid hs; have HR := Lib.hid hr
  have hlen := hb.len
  clear hs hr hb
  have hck := fun wx h1 h2 h3 => checkFrame_any ao bs cap st asm vs xss cs wx h1 h2 h3 hls
  have HCK := Lib.hid hck; clear hck
  by_cases h1 : frmErr bs st xss = 0
  · have he : encRes bs st xss = encB st xss := by rw [encRes, if_pos h1]
    obtain ⟨_, z1, z2, z3, z4, z5, z6⟩ := frmErr_zero h1
    have hen := fun wx h1 h2 => encode_any ao bs.length cap st asm vs xss cs wx z1 z2 h1 h2 z3 z4 z5 z6
    rw [z2] at HCK ⊢
    have HEN := Lib.hid hen; have HE := Lib.hid he; have H1 := Lib.hid h1
    clear hen he h1 z1 z2 z3 z4 z5 z6 hls
    go_enter Tryd.func26, Tryd.ntmps26
    go_wp2_with fail
    have hb0 := (Below.refl w.heap.size w).alloc (Nat.le_refl _) (.cells #[.int .i64 st, .slice asm bs.length cs] 53)
    refine (HCK.out _ (HB.out.below hb0 (Nat.le_refl _)) (HS.out.below hb0 (Nat.le_refl _)) (HR.out.below hb0 (Nat.le_refl _))).mono ?_
    rintro e w1 ⟨rfl, hb1⟩
    rw [H1.out]
    have q0 : w1.cell? ⟨w.heap.size, 0, none⟩ = some (.int .i64 st) := box_keep hb1 (by simp) 0
    have q1 : w1.cell? ⟨w.heap.size, 1, none⟩ = some (.slice asm bs.length cs) := box_keep hb1 (by simp) 1
    have hbw := hb0.trans (hb1.mono (by simp))
    go_wp2_with fail
    refine (HEN.out _ (HS.out.below hbw (Nat.le_refl _)) (HR.out.below hbw (Nat.le_refl _))).mono ?_
    rintro e w2 ⟨⟨v, rfl, hown⟩, hb2⟩
    have HO := Lib.hid (own_base hown hbw.size)
    have hfin := hbw.trans (hb2.mono hbw.size)
    clear hown hb0 hb1 hbw hb2
    go_wp2
    go_ret2
    exact ⟨⟨v, by rw [H1.out]; rfl, by rw [HE.out]; exact HO.out⟩, hfin⟩
  · have he : encRes bs st xss = [] := by rw [encRes, if_neg h1]
    have h3 : (frmErr bs st xss != 0) = true := by simpa using h1
    have h4 : (frmErr bs st xss == 0) = false := by simpa using h1
    have HE := Lib.hid he; clear he
    go_enter Tryd.func26, Tryd.ntmps26
    go_wp2_with fail
    have hb0 := (Below.refl w.heap.size w).alloc (Nat.le_refl _) (.cells #[.int .i64 st, .slice asm xss.length cs] 53)
    refine (HCK.out _ (HB.out.below hb0 (Nat.le_refl _)) (HS.out.below hb0 (Nat.le_refl _)) (HR.out.below hb0 (Nat.le_refl _))).mono ?_
    rintro e w1 ⟨rfl, hb1⟩
    have hbw := hb0.trans (hb1.mono (by simp))
    go_wp2
    go_ret2
    exact ⟨⟨_, rfl, by rw [HE.out]; exact World.ownsRow_nil _ _ _ _⟩, hbw⟩
end Go.Proofs.YtoochleabcjljaaDoor
