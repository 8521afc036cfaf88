/- Parts of a proof, in build order: E7, E8, E9, C0, C1, C2, C3, C4. -/
import Derived.Test.YtmafjfhnejeogaaGreatDoorKl8
import Derived.RangeFuncNested
import Derived.RangeFuncBound
import Derived.RangeFuncCalls
import Derived.RangeFuncLeaves
import Derived.Shelf.Abstract
import Derived.Shelf.RegionOpen
import Derived.WalkKit
import Derived.OwnWalkIn
import Derived.TacticsInMore
import Derived.LoopNIn
import Derived.LoopIn

/- Codes: the ways, by an iterator. -/
namespace Go.Proofs.YtmafjfhnejeogaaGreatDoor
open Go.RowKit Go.Shelf
attribute [local go_sem] Oper.semAt_some

/-- a way: an order and a shift -/
abbrev Way := { p : Nat × Nat // p.1 < 4 ∧ p.2 < 31 }
def wy (k : Nat) : Way := ⟨(k / 31 % 4, k % 31), Nat.mod_lt _ (by decide), Nat.mod_lt _ (by decide)⟩
def wvs (k : Nat) : List Way := (List.range k).map wy
theorem wvs_succ (k : Nat) : wvs (k + 1) = wvs k ++ [wy k] := by simp [wvs, List.range_succ]
theorem wvs_length (k : Nat) : (wvs k).length = k := by simp [wvs]
theorem wvs_prefix {k m : Nat} (h : k ≤ m) : wvs k <+: wvs m := by
  obtain ⟨d, rfl⟩ : ∃ d, m = k + d := ⟨m - k, by omega⟩
  induction d with
  | zero => exact List.prefix_refl _
  | succ d ih => exact (ih (by omega)).trans (by rw [← Nat.add_assoc, wvs_succ]; exact List.prefix_append _ _)
def wayV (x : Way) : Value := .agg #[.int .i64 (x.1.1 : Nat), .int .i64 (x.1.2 : Nat)]

set_option maxRecDepth 100000 in
set_option maxHeartbeats 1000000 in
theorem ways1_in (F : Fence) (n : Nat) (hF : F.fn 217) (hro : F.round = none) (hn : 1 ≤ n) (l : Nat) (Kp : World → World → Prop) (J Jx : List Way → World → Prop)
    (hY : ∀ pre x W, J pre W → pre.length < 124 → YieldAt F (n - 1) Tryz.prog l #[wayV x] W fun e W' =>
      (e = .returned (.bool true) ∧ J (pre ++ [x]) W' ∧ Kp W W') ∨ (e = .returned (.bool false) ∧ Jx (pre ++ [x]) W'))
    (W : World) (h0 : J [] W) :
    CallsIn F n Tryz.prog 217 #[.func (.yield l) #[] #[]] W fun e W' => (∃ v, e = .returned v) ∧
      ((∃ ys, ys = wvs 124 ∧ J ys W') ∨ (∃ pre, pre <+: wvs 124 ∧ Jx pre W')) := by
  refine callsIn_of_wp Tryz.func217 rfl hF ?_ hro
  simp only [Tryz.ntmps217, List.size_toArray, List.length_cons, List.length_nil, Nat.reduceAdd, Nat.reduceSub, Array.replicate_succ, Array.replicate_zero, List.push_toArray, List.append_toArray, List.nil_append, List.cons_append]
  gi_wp2
  gi_loopw [4] (fun p wr => ∃ o : Nat, o ≤ 4 ∧ p = .int .i64 (o : Nat) ∧ J (wvs (31 * o)) wr) (fun p _ => 4 - (intOf p).toNat)
  case atStart => exact ⟨0, by omega, rfl, h0⟩
  case round =>
    obtain ⟨o, ho, rfl, hJo⟩ := hrel
    by_cases hlt : o < 4
    · have hlt' : (o : Int) < 4 := by omega
      gi_wp2
      gi_loopw [7] (fun p wi => ∃ s : Nat, s ≤ 31 ∧ p = .int .i64 (s : Nat) ∧ J (wvs (31 * o + s)) wi) (fun p _ => 31 - (intOf p).toNat)
      case atStart => exact ⟨0, by omega, rfl, hJo⟩
      case round =>
        obtain ⟨s, hs, rfl, hJs⟩ := hrel
        by_cases hls : s < 31
        · have hls' : (s : Int) < 31 := by omega
          have ew : wayV (wy (31 * o + s)) = .agg #[.int .i64 (o : Nat), .int .i64 (s : Nat)] := by
            have e1 : (31 * o + s) / 31 % 4 = o := by omega
            have e2 : (31 * o + s) % 31 = s := by omega
            simp only [wayV, wy, e1, e2]
          have hy0 := hY (wvs (31 * o + s)) (wy (31 * o + s)) _ hJs (by rw [wvs_length]; omega)
          rw [ew] at hy0
          obtain ⟨fn, tmps, assign, body, hy, hR⟩ := hy0
          gi_wp2
          refine hR.mono ?_
          rintro e W3 (⟨rfl, hJ3, hk3⟩ | ⟨rfl, hJx3⟩)
          · gi_wp2
            go_roundw
            case rel => exact ⟨s + 1, by omega, by go_num, by rw [← Nat.add_assoc, wvs_succ]; exact hJ3⟩
            case measure => simp [intOf]; omega
          · gi_wp2
            refine bodyPost_ret (results_none rfl _ _ _) rfl ?_
            exact ⟨⟨_, rfl⟩, .inr ⟨_, by rw [← wvs_succ]; exact wvs_prefix (by omega), hJx3⟩⟩
        · obtain rfl : s = 31 := by omega
          gi_wp2
          go_roundw
          case rel => exact ⟨o + 1, by omega, by go_num, by rw [Nat.mul_add]; exact hJs⟩
          case measure => simp [intOf]; omega
    · obtain rfl : o = 4 := by omega
      gi_wp2
      go_end0
      exact ⟨⟨_, rfl⟩, .inl ⟨_, rfl, hJo⟩⟩

theorem ways_stops (F : Fence) (n : Nat) (hF : F.fn 217) (hro : F.round = none) (hn : 1 ≤ n) (Kp : World → World → Prop) (w : World) :
    SeqStopsK F n Tryz.prog 217 #[] (fun x : Way => #[wayV x]) Kp (fun ys => ys = wvs 124) (fun pre => pre <+: wvs 124) 124 w := fun l J Jx W _ _ _ hY h0 =>
  ways1_in F n hF hro hn l Kp J Jx hY W h0
end Go.Proofs.YtmafjfhnejeogaaGreatDoor

/- Codes: the best way. -/
namespace Go.Proofs.YtmafjfhnejeogaaGreatDoor
open Go.RowKit Go.Shelf
attribute [local go_sem] Oper.semAt_some

theorem blk_own {β : Type} (B : Nat) (t : TypeId) (f : β → Array Value) : Own (fun s W => Blk W B t (f s)) := fun s X Y row hs hg hrow =>
  hs.kept hg (fun e' => by obtain ⟨o, ho, hc⟩ := hrow B e'.symm; rw [show X.heap[B]? = _ from hs] at ho; cases ho; cases hc)
theorem keepsFrom_below {W W' : World} (B : Nat) (h : Below W.heap.size W W') : KeepsFrom B W W' := ⟨h.size, fun k _ _ ho _ => (h.block k (Array.getElem?_eq_some_iff.1 ho).1).trans ho⟩


/-- how many bits a way takes; the best way -/
def cost (xs : List Int) (o s : Nat) : Nat := (encL o s (resid xs o)).length
def stepB (xs : List Int) (b : (Nat × Nat) × Nat) (x : Way) : (Nat × Nat) × Nat := if x.1 = (0, 0) ∨ cost xs x.1.1 x.1.2 < b.2 then (x.1, cost xs x.1.1 x.1.2) else b
def bestF (xs : List Int) (pre : List Way) : (Nat × Nat) × Nat := pre.foldl (stepB xs) ((0, 0), 0)
theorem bestF_snoc (xs : List Int) (pre : List Way) (x : Way) : bestF xs (pre ++ [x]) = stepB xs (bestF xs pre) x := by simp [bestF]

theorem flat_le (l : List Int) (s : Nat) (hs : s ≤ 30) : (l.flatMap fun r => encU (foldU r) s).length ≤ 52 * l.length := flat_length l s hs
theorem cost_le (xs : List Int) (o s : Nat) (hs : s ≤ 30) : cost xs o s ≤ 7 + 52 * xs.length := by
  have := flat_le (resid xs o) s hs
  rw [resid_length] at this
  rw [cost, encL, List.length_append, List.length_append, binL_length, binL_length]; omega

theorem write_ct (bc : Nat) (o sh : Nat) (ho : o ≤ 3) (hsh : sh ≤ 30) (al : Option Addr) (l : List Int) (cl : Nat) (w : World) (h9 : Blk w bc 266 #[.int .i64 0]) (hna : ∀ b off, al = some ⟨b, off, none⟩ → bc < b)
    (hc : Cells w al (l.map (Value.int .i64))) (hlen : l.length ≤ 4096) (hr : ∀ r ∈ l, -67108864 ≤ r ∧ r ≤ 67108864) :
    Calls Tryz.prog 178 #[.agg #[.int .i64 (o : Nat), .int .i64 (sh : Nat)], .iface 267 (.pointer (some ⟨bc, 0, none⟩)), .slice al l.length cl] w fun e w' => e = .returned (.tuple #[]) ∧ Blk w' bc 266 #[.int .i64 ((encL o sh l).length : Nat)] ∧ Below bc w w' := by
  refine (write_any (counter_ok bc bc) (fun k => k < w.heap.size ∧ k ≠ bc) o sh ho hsh al l cl [] w ⟨Nat.le_refl _, h9, fun k hk => hk⟩ (fun b off hb hne => ?_) hc hlen (by simp) hr).mono ?_
  · subst hb
    refine ⟨?_, Nat.ne_of_gt (hna b off rfl)⟩
    obtain ⟨r, hr0⟩ := get_of_lt (List.length_pos_iff.2 hne)
    exact World.block_lt_of_cell? w _ (hc.at (j := 0) (by rw [List.getElem?_map, hr0]; rfl))
  · rintro e w' ⟨rfl, h, hk⟩
    exact ⟨rfl, h.2.1, hk.below⟩

set_option maxRecDepth 100000 in
set_option maxHeartbeats 4000000 in
theorem best_any (ao : Option Addr) (xs : List Int) (cap : Nat) (w : World) (hc : Cells w ao (xs.map (Value.int .i64))) (hl : xs.length ≤ 4096) (hx : ∀ x ∈ xs, -8388608 ≤ x ∧ x ≤ 8388608) :
    Calls Tryz.prog 177 #[.slice ao xs.length cap] w fun e w' => e = .returned (.agg #[.int .i64 ((bestF xs (wvs 124)).1.1 : Nat), .int .i64 ((bestF xs (wvs 124)).1.2 : Nat)]) ∧ Below w.heap.size w w' := by
  have HC := Lib.hid hc; have HX := Lib.hid hx; clear hc hx
  refine (callsIn_wide (n := 8)).1 ?_
  refine callsIn_of_wp_marks Tryz.func177 rfl trivial ?_ rfl
  simp only [Tryz.ntmps177, List.size_toArray, List.length_cons, List.length_nil, Nat.reduceAdd, Nat.reduceSub, Array.replicate_succ, Array.replicate_zero, List.push_toArray, List.append_toArray, List.nil_append, List.cons_append]
  gi_wp2
  have b0 := (((Blk.new w 22 #[.slice ao xs.length cap]).alloc (.cells #[.int .i64 0, .int .i64 0] 234)).alloc (.cells #[.int .i64 0, .int .i64 0] 234)).alloc (.cells #[.int .i64 0] 3)
  have b1 := ((Blk.new (w.alloc (.cells #[.slice ao xs.length cap] 22)) 234 #[.int .i64 0, .int .i64 0]).alloc (.cells #[.int .i64 0, .int .i64 0] 234)).alloc (.cells #[.int .i64 0] 3)
  have b2 := (Blk.new ((w.alloc (.cells #[.slice ao xs.length cap] 22)).alloc (.cells #[.int .i64 0, .int .i64 0] 234)) 234 #[.int .i64 0, .int .i64 0]).alloc (.cells #[.int .i64 0] 3)
  have b3 := Blk.new (((w.alloc (.cells #[.slice ao xs.length cap] 22)).alloc (.cells #[.int .i64 0, .int .i64 0] 234)).alloc (.cells #[.int .i64 0, .int .i64 0] 234)) 3 #[.int .i64 0]
  simp only [World.size_alloc] at b1 b2 b3
  have hB0 := ((((Below.refl w.heap.size w).alloc (Nat.le_refl _) (.cells #[.slice ao xs.length cap] 22)).alloc (by simp) (.cells #[.int .i64 0, .int .i64 0] 234)).alloc (by simp; omega) (.cells #[.int .i64 0, .int .i64 0] 234)).alloc (by simp; omega) (.cells #[.int .i64 0] 3)
  have hsz : ((((w.alloc (.cells #[.slice ao xs.length cap] 22)).alloc (.cells #[.int .i64 0, .int .i64 0] 234)).alloc (.cells #[.int .i64 0, .int .i64 0] 234)).alloc (.cells #[.int .i64 0] 3)).heap.size = w.heap.size + 4 := by simp
  obtain ⟨W0, hW0⟩ : ∃ W0, ((((w.alloc (.cells #[.slice ao xs.length cap] 22)).alloc (.cells #[.int .i64 0, .int .i64 0] 234)).alloc (.cells #[.int .i64 0, .int .i64 0] 234)).alloc (.cells #[.int .i64 0] 3)) = W0 := ⟨_, rfl⟩
  rw [hW0] at b0 b1 b2 b3 hB0 hsz ⊢
  clear hW0
  refine wpIn_rangeFunc_ownH rfl (by decide) (gf := 217) (lb := #[]) rfl trivial (enters_of Tryz.func217 (by kernel_rfl) rfl)
    (ways_stops _ _ trivial rfl (by decide) (Below w.heap.size) W0) belowK_t (belowK_b (by omega)) (Below.refl _ _) (fun _ => rfl)
    (fun pre W => (((Blk W w.heap.size 22 #[.slice ao xs.length cap] ∧ Blk W (w.heap.size + 1) 234 #[.int .i64 0, .int .i64 0]) ∧
      Blk W (w.heap.size + 1 + 1) 234 #[.int .i64 ((bestF xs pre).1.1 : Nat), .int .i64 ((bestF xs pre).1.2 : Nat)]) ∧ Blk W (w.heap.size + 1 + 1 + 1) 3 #[.int .i64 ((bestF xs pre).2 : Nat)]) ∧ Below w.heap.size w W)
    (fun _ _ _ => False)
    (OwnFrom.and (OwnFrom.and (OwnFrom.and (OwnFrom.and (Own.from (blk_own _ _ _) _) (Own.from (blk_own _ _ _) _)) (Own.from (blk_own _ _ (fun pre => #[.int .i64 ((bestF xs pre).1.1 : Nat), .int .i64 ((bestF xs pre).1.2 : Nat)])) _)) (Own.from (blk_own _ _ (fun pre => #[.int .i64 ((bestF xs pre).2 : Nat)])) _)) (ownFrom_below (Nat.le_refl _) (by omega)))
    (fun _ _ _ _ _ hs _ _ => hs)
    ⟨⟨⟨⟨b0, b1⟩, b2⟩, b3⟩, hB0⟩
    (fun x a' W => ∃ Bx, w.heap.size + 1 + 1 + 1 < Bx ∧ Blk W Bx 234 #[.int .i64 (x.1.1 : Nat), .int .i64 (x.1.2 : Nat)] ∧ a' = { tmps := #[.slice ao xs.length cap, .pointer (some ⟨w.heap.size, 0, none⟩), .pointer (some ⟨w.heap.size + 1, 0, none⟩), .pointer (some ⟨w.heap.size + 1 + 1, 0, none⟩), .pointer (some ⟨w.heap.size + 1 + 1 + 1, 0, none⟩), .pointer (some ⟨Bx, 0, none⟩), undef, wayV x, undef, undef, undef, undef, undef, undef, undef, undef, undef, undef, undef, undef, undef, undef, undef, undef, undef, undef], defers := [] })
    (fun x a' _ X Y row hs hg hr => by obtain ⟨Bx, h1, h2, h3⟩ := hs; exact ⟨Bx, h1, blk_own Bx _ (fun (_ : Unit) => #[Value.int .i64 (x.1.1 : Nat), .int .i64 (x.1.2 : Nat)]) () X Y row h2 hg (fun r e => (hr r e).2), h3⟩)
    ?assign ?body ?done ?stop
  case assign =>
    rintro l pre x W K ⟨⟨⟨⟨c0, c1⟩, c2⟩, c3⟩, hB1⟩ hK
    simp only [wayV] at hK ⊢
    gi_wp2
    exact hK _ _ ((KeepsOthers.alloc _ _).from _) ((Below.refl _ W).alloc hB1.size _) ⟨⟨⟨⟨c0.alloc _, c1.alloc _⟩, c2.alloc _⟩, c3.alloc _⟩, hB1.alloc hB1.size _⟩ ⟨W.heap.size, c3.lt, Blk.new W _ _, rfl⟩
  case body =>
    rintro l pre x a' W hl2 ⟨r, hr⟩ ⟨⟨⟨⟨c0, c1⟩, c2⟩, c3⟩, hB1⟩ ⟨Bx, hBx, cx, rfl⟩ hlt
    have hn := hB1.size
    have hcl := cost_le xs x.1.1 x.1.2 (by have := x.2.2; omega)
    have hx1 : x.1.1 ≤ 3 := by have := x.2.1; omega
    have hx2 : x.1.2 ≤ 30 := by have := x.2.2; omega
    have HCw : Hid (Cells (W.alloc (.cells #[.int .i64 0] 266)) ao (xs.map (Value.int .i64))) := Lib.hid ((HC.out.below hB1 (Nat.le_refl _)).below ((Below.refl _ W).alloc (Nat.le_refl _) _) (Nat.le_refl _))
    have hmx : Tryz.prog.follows .mixedOrders = true := by kernel_rfl
    simp only [wayV]
    clear hr
    gi_wp2
    have d0 := c0.alloc (.cells #[.int .i64 0] 266)
    have dx := cx.alloc (.cells #[.int .i64 0] 266)
    have d9 := Blk.new W 266 #[.int .i64 0]
    have hBc := (Below.refl W.heap.size W).alloc (Nat.le_refl _) (.cells #[.int .i64 0] 266)
    have hsc : (W.alloc (.cells #[.int .i64 0] 266)).heap.size = W.heap.size + 1 := by simp
    have hlx := cx.lt
    generalize (W.alloc (.cells #[.int .i64 0] 266)) = Wc at *
    have HCd : Cells Wc.drew ao (xs.map (Value.int .i64)) := HCw.out.below ((Below.refl Wc.heap.size Wc).drew) (Nat.le_refl _)
    replace HCd := Lib.hid HCd
    have d00 := d0.c0
    have e0 := dx.c0
    have e1 := dx.c1
    refine wpIn_mono (Q := fun e a w3 => e = .normal ∧ ∃ (a1 : Option Addr) (k1 : Nat), a = { tmps := #[.slice ao xs.length cap, .pointer (some ⟨w.heap.size, 0, none⟩), .pointer (some ⟨w.heap.size + 1, 0, none⟩), .pointer (some ⟨w.heap.size + 1 + 1, 0, none⟩), .pointer (some ⟨w.heap.size + 1 + 1 + 1, 0, none⟩), .pointer (some ⟨Bx, 0, none⟩), .pointer (some ⟨W.heap.size, 0, none⟩), .agg #[.int .i64 (x.1.1 : Nat), .int .i64 (x.1.2 : Nat)], .agg #[.int .i64 (x.1.1 : Nat), .int .i64 (x.1.2 : Nat)], .iface 267 (.pointer (some ⟨W.heap.size, 0, none⟩)), .slice ao xs.length cap, .pointer (some ⟨Bx, 0, none⟩), .int .i64 (x.1.1 : Nat), .slice a1 (resid xs x.1.1).length k1, .tuple #[], undef, undef, undef, undef, undef, undef, undef, undef, undef, undef, undef], defers := [] } ∧ Blk w3 W.heap.size 266 #[.int .i64 (cost xs x.1.1 x.1.2 : Nat)] ∧ Below W.heap.size W w3) ?reg ?after
    case reg =>
      gi_region_with_o (first
        | (refine ⟨trivial, ?_⟩; gi_at_call 179; refine (CallsIn.inRound l (callsIn_wide.2 (residues_any ao xs cap x.1.1 Wc.drew HCd.out hl hx1 HX.out))).mono ?_; rintro e w1 ⟨⟨a1, k1, rfl, hca, hna⟩, hb1⟩; have HCA := Lib.hid hca; have HNA := Lib.hid hna; clear hca hna; have dx1 := dx.drew.below hb1 (show Bx < Wc.heap.size by omega); have e10 := dx1.c0; have e11 := dx1.c1)
        | (refine ⟨trivial, ?_⟩; gi_at_call 178; refine (CallsIn.inRound l (callsIn_wide.2 (write_ct W.heap.size x.1.1 x.1.2 hx1 hx2 a1 (resid xs x.1.1) k1 w1 (d9.drew.below hb1 (show W.heap.size < Wc.heap.size by omega)) (fun b off hb => Nat.lt_of_lt_of_le (show W.heap.size < Wc.heap.size by omega) (HNA.out b off hb)) HCA.out (by rw [resid_length]; exact hl) (resid_bd HX.out x.1.1 hx1)))).mono ?_; rintro e w3 ⟨rfl, d93, hb3⟩; have dx3 := dx1.below hb3 hlx; have e30 := dx3.c0; have e31 := dx3.c1))
      all_goals exact ⟨rfl, a1, k1, rfl, d93, (hBc.drew.trans (hb1.mono (show W.heap.size ≤ Wc.heap.size by omega))).trans hb3⟩
    case after =>
      rintro e aa w3 ⟨rfl, a1, k1, rfl, d93, hW3⟩
      have q0 := c0.below hW3 c0.lt
      have q1 := c1.below hW3 c1.lt
      have q2 := c2.below hW3 c2.lt
      have q3 := c3.below hW3 c3.lt
      have q5 := cx.below hW3 hlx
      have q30 := q3.c0
      have q90 := d93.c0
      have q50 := q5.c0
      have q51 := q5.c1
      have hB3 : Below w.heap.size w w3 := hB1.trans (hW3.mono hn)
      have hB4 : Below w.heap.size W w3 := hW3.mono hn
      have hK4 : KeepsFrom W0.heap.size W w3 := keepsFrom_below _ hW3
      clear HCw HCd d0 dx d9 hBc hsc d00 e0 e1 q50 q51 q90 q30
      have hst : bestF xs (pre ++ [x]) = if (x.1.1 = 0 ∧ x.1.2 = 0) ∨ cost xs x.1.1 x.1.2 < (bestF xs pre).2 then ((x.1.1, x.1.2), cost xs x.1.1 x.1.2) else bestF xs pre := by
        rw [bestF_snoc, stepB]
        have e0 : (x.1 = (0, 0)) ↔ (x.1.1 = 0 ∧ x.1.2 = 0) := by rw [Prod.ext_iff]
        simp only [e0]
      have HST := Lib.hid hst; clear hst
      have HI : Hid (∀ w4 : World, KeepsFrom W0.heap.size w3 w4 → Below w.heap.size w3 w4 → Blk w4 w.heap.size 22 #[.slice ao xs.length cap] → Blk w4 (w.heap.size + 1) 234 #[.int .i64 0, .int .i64 0] →
          Blk w4 (w.heap.size + 1 + 1) 234 #[.int .i64 ((bestF xs (pre ++ [x])).1.1 : Nat), .int .i64 ((bestF xs (pre ++ [x])).1.2 : Nat)] → Blk w4 (w.heap.size + 1 + 1 + 1) 3 #[.int .i64 ((bestF xs (pre ++ [x])).2 : Nat)] →
          KeepsFrom W0.heap.size W w4 ∧ Below w.heap.size W w4 ∧ (((Blk w4 w.heap.size 22 #[.slice ao xs.length cap] ∧ Blk w4 (w.heap.size + 1) 234 #[.int .i64 0, .int .i64 0]) ∧
      Blk w4 (w.heap.size + 1 + 1) 234 #[.int .i64 ((bestF xs (pre ++ [x])).1.1 : Nat), .int .i64 ((bestF xs (pre ++ [x])).1.2 : Nat)]) ∧ Blk w4 (w.heap.size + 1 + 1 + 1) 3 #[.int .i64 ((bestF xs (pre ++ [x])).2 : Nat)]) ∧ Below w.heap.size w w4) :=
        Lib.hid fun w4 k1 k2 k3 k4 k5 k6 => ⟨hK4.trans k1, hB4.trans k2, ⟨⟨⟨k3, k4⟩, k5⟩, k6⟩, hB3.trans k2⟩
      have n1 : Bx ≠ w.heap.size + 1 + 1 := by omega
      have n2 : Bx ≠ w.heap.size + 1 + 1 + 1 := by omega
      have n3 : W.heap.size ≠ w.heap.size + 1 + 1 := by omega
      have n4 : W.heap.size ≠ w.heap.size + 1 + 1 + 1 := by omega
      have n1' := n1.symm
      have n2' := n2.symm
      have n3' := n3.symm
      have n4' := n4.symm
      clear hK4 hB4 hB3 hB1 hW3 c0 c1 c2 c3 cx hcl hlt hn HC HX hlx hBx hsz
      generalize bestF xs pre = bo at *
      obtain ⟨⟨bo1, bo2⟩, m⟩ := bo
      generalize cost xs x.1.1 x.1.2 = c at *
      generalize (resid xs x.1.1).length = rl at *
      generalize x.1.1 = o at *
      generalize x.1.2 = sh at *
      dsimp only at q2 q3 HST
      have q30 := q3.c0
      have q90 := d93.c0
      have q50 := q5.c0
      have q51 := q5.c1
      have q20 := q2.c0
      have q21 := q2.c1
      have f20 := q2.free 0
      have f21 := q2.free 1
      have f30 := q3.free 0
      rcases Nat.eq_zero_or_pos o with rfl | ho0 <;> rcases Nat.eq_zero_or_pos sh with rfl | hs0 <;> by_cases hcm : c < m
      all_goals gi_wp2
      all_goals first
        | (have hst := HST.out
           rw [if_neg (by omega)] at hst
           exact HI.out w3 (KeepsFrom.refl _ _) (Below.refl _ _) q0 q1 (by rw [hst]; exact q2) (by rw [hst]; exact q3))
        | (have hst := HST.out
           rw [if_pos (by first | omega | simp)] at hst
           replace hst := Lib.hid hst
           refine wpIn_mono (Q := fun e _ w4 => e = .normal ∧ (KeepsFrom W0.heap.size W w4 ∧ Below w.heap.size W w4 ∧ (((Blk w4 w.heap.size 22 #[.slice ao xs.length cap] ∧ Blk w4 (w.heap.size + 1) 234 #[.int .i64 0, .int .i64 0]) ∧
      Blk w4 (w.heap.size + 1 + 1) 234 #[.int .i64 ((bestF xs (pre ++ [x])).1.1 : Nat), .int .i64 ((bestF xs (pre ++ [x])).1.2 : Nat)]) ∧ Blk w4 (w.heap.size + 1 + 1 + 1) 3 #[.int .i64 ((bestF xs (pre ++ [x])).2 : Nat)]) ∧ Below w.heap.size w w4)) ?_ ?_
           · gi_region_with_o fail
             all_goals (have hst := hst.out)
             all_goals exact ⟨rfl, HI.out _ ((((KeepsOthers.drew w3).trans (KeepsOthers.setCell _ _ _)).trans (KeepsOthers.setCell _ _ _)).trans (KeepsOthers.setCell _ _ _) |>.from _)
               (((((Below.refl w.heap.size w3).drew).setCell (p := ⟨w.heap.size + 1 + 1, 0, none⟩) (by simp; omega) _).setCell (p := ⟨w.heap.size + 1 + 1, 1, none⟩) (by simp; omega) _).setCell (p := ⟨w.heap.size + 1 + 1 + 1, 0, none⟩) (by simp; omega) _)
               (((q0.drew.other (by omega) _ _).other (by omega) _ _).other (by omega) _ _)
               (((q1.drew.other (by omega) _ _).other (by omega) _ _).other (by omega) _ _)
               (by rw [hst]; exact ((q2.drew.set0 _).set1 _).other (by omega) _ _)
               (by rw [hst]; exact ((q3.drew.other (by omega) _ _).other (by omega) _ _).set0 _)⟩
           · rintro e aa w4 ⟨rfl, h4⟩
             gi_wp2
             exact h4)
  case done =>
    rintro D zs W hD rfl ⟨⟨⟨⟨c0, c1⟩, c2⟩, c3⟩, hB1⟩ hK
    have d0 := c2.c0
    have d1 := c2.c1
    have f0 := c1.free 0
    have f1 := c1.free 1
    have r0 := c1.c0
    have r1 := c1.c1
    have g1 := (c1.set0 (.int .i64 ((bestF xs (wvs 124)).1.1 : Nat))).set1 (.int .i64 ((bestF xs (wvs 124)).1.2 : Nat))
    have hDn : w.heap.size + 1 ≠ D := by omega
    have hKd : ((W.setCell ⟨w.heap.size + 1, 0, none⟩ (.int .i64 ((bestF xs (wvs 124)).1.1 : Nat))).setCell ⟨w.heap.size + 1, 1, none⟩ (.int .i64 ((bestF xs (wvs 124)).1.2 : Nat))).heap[D]? = some (.deferred (some [])) := by
      rw [Below.heap_setCell _ _ _ _ (by simpa using hDn.symm), Below.heap_setCell _ _ _ _ (by simpa using hDn.symm)]; exact hK
    have hBd : Below w.heap.size w ((W.setCell ⟨w.heap.size + 1, 0, none⟩ (.int .i64 ((bestF xs (wvs 124)).1.1 : Nat))).setCell ⟨w.heap.size + 1, 1, none⟩ (.int .i64 ((bestF xs (wvs 124)).1.2 : Nat))) :=
      (hB1.setCell (p := ⟨w.heap.size + 1, 0, none⟩) (by simp) _).setCell (p := ⟨w.heap.size + 1, 1, none⟩) (by simp) _
    gi_wp2
    generalize ((W.setCell ⟨w.heap.size + 1, 0, none⟩ (.int .i64 ((bestF xs (wvs 124)).1.1 : Nat))).setCell ⟨w.heap.size + 1, 1, none⟩ (.int .i64 ((bestF xs (wvs 124)).1.2 : Nat))) = wd at *
    have g2 : Blk (wd.putObj D (.deferred none)) (w.heap.size + 1) _ _ := g1.kept (grownBy_putObj' _ D (.deferred none)) (by simpa using hDn)
    have s0 := g2.c0
    have s1 := g2.c1
    refine ⟨by simp, .inl ⟨_, _, rfl, run_takeDeferred hKd, ?_⟩⟩
    refine ⟨.agg #[.int .i64 ((bestF xs (wvs 124)).1.1 : Nat), .int .i64 ((bestF xs (wvs 124)).1.2 : Nat)], by simp [results, Tryz.results177, go_sem, s0, s1], rfl, ?_⟩
    exact hBd.trans (belowK_b (w := w) (Nat.le_refl _) wd D _ _ (by omega) hKd rfl rfl)
  case stop =>
    rintro D c pre W _ _ h _
    exact h.elim
end Go.Proofs.YtmafjfhnejeogaaGreatDoor

/- Codes: whole bytes; the code of a frame in plain words. -/
namespace Go.Proofs.YtmafjfhnejeogaaGreatDoor
open Go.RowKit

theorem octs_append (a : List Nat) (h : a.length % 8 = 0) (b : List Nat) : octs (a ++ b) = octs a ++ octs b := by
  suffices ∀ r : List Nat, octs (a ++ r.reverse) = octs a ++ octs r.reverse by simpa using this b.reverse
  intro r
  induction r with
  | nil => simp [octs_nil]
  | cons x r ih =>
    rw [List.reverse_cons, ← List.append_assoc, octs_snoc, octs_snoc, ih, List.length_append]
    generalize r.reverse = q
    have hl := octs_len q
    unfold pushBit
    by_cases h0 : q.length % 8 = 0
    · rw [if_pos (by omega), if_pos h0, List.append_assoc]
    · rw [if_neg (by omega), if_neg h0]
      have hp : 0 < (octs q).length := by omega
      have hm : (a.length + q.length) % 8 = q.length % 8 := by omega
      rw [hm, List.length_append, List.set_append_right _ _ (by omega), List.getD_eq_getElem?_getD, List.getD_eq_getElem?_getD, List.getElem?_append_right (by omega)]
      rw [show (octs a).length + (octs q).length - 1 - (octs a).length = (octs q).length - 1 by omega]

theorem octs_byte : ∀ b : Fin 256, octs (binL (b.val : Int) 8) = [b.val] := by decide +kernel
/-- the bits of bytes -/
def unB (l : List Nat) : List Nat := l.flatMap fun (b : Nat) => binL (b : Int) 8
theorem unB_length (l : List Nat) : (unB l).length = 8 * l.length := by
  induction l with
  | nil => rfl
  | cons b l ih => rw [unB, List.flatMap_cons, List.length_append, binL_length, List.length_cons]; rw [unB] at ih; omega
theorem unB_bits (l : List Nat) : ∀ b ∈ unB l, b ≤ 1 := by
  intro b hb
  obtain ⟨x, _, hx⟩ := List.mem_flatMap.1 hb
  exact binL_bits _ _ b hx
theorem octs_unB (l : List Nat) (hl : ∀ d ∈ l, d < 256) : octs (unB l) = l := by
  induction l with
  | nil => rfl
  | cons b l ih =>
    rw [unB, List.flatMap_cons, octs_append _ (by rw [binL_length]), octs_byte ⟨b, hl b (by simp)⟩]
    have := ih fun d hd => hl d (by simp [hd])
    rw [unB] at this
    rw [this]; rfl

/-- the way of a channel's samples, their bits; the bits of a frame; its code -/
def wayOf (x : List Int) : Nat × Nat := (bestF x (wvs 124)).1
def encC (x : List Int) : List Nat := encL (wayOf x).1 (wayOf x).2 (resid x (wayOf x).1)
def frBits (st : Int) (xss : List (List Int)) : List Nat := binL st 32 ++ xss.flatMap encC
def hdB (body : List Nat) : List Nat := [165, 90] ++ octs (binL (body.length : Nat) 16) ++ body
def encB (st : Int) (xss : List (List Int)) : List Nat := hdB (octs (frBits st xss)) ++ octs (binL (chkL (hdB (octs (frBits st xss))) : Nat) 24)

theorem way_bd (x : Way) : x.1.1 ≤ 3 ∧ x.1.2 ≤ 30 := by have := x.2; omega
theorem bestF_bd (xs : List Int) (pre : List Way) : (bestF xs pre).1.1 ≤ 3 ∧ (bestF xs pre).1.2 ≤ 30 := by
  suffices ∀ b : (Nat × Nat) × Nat, b.1.1 ≤ 3 ∧ b.1.2 ≤ 30 → (pre.foldl (stepB xs) b).1.1 ≤ 3 ∧ (pre.foldl (stepB xs) b).1.2 ≤ 30 from this _ ⟨by simp, by simp⟩
  induction pre with
  | nil => intro b h; exact h
  | cons x l ih =>
    intro b h
    rw [List.foldl_cons]
    refine ih _ ?_
    unfold stepB
    split
    · exact way_bd x
    · exact h
theorem wayOf_bd (x : List Int) : (wayOf x).1 ≤ 3 ∧ (wayOf x).2 ≤ 30 := by
  have h := bestF_bd x (wvs 124)
  unfold wayOf
  generalize wvs 124 = q at *
  exact h
theorem encC_length (x : List Int) : (encC x).length ≤ 7 + 52 * x.length := cost_le x _ _ (wayOf_bd x).2
theorem encU_bits (u : Int) (sh : Nat) : ∀ b ∈ encU u sh, b ≤ 1 := by
  intro b hb
  unfold encU at hb
  split at hb
  · rcases List.mem_append.1 hb with h | h <;> exact binL_bits _ _ b h
  · rcases List.mem_append.1 hb with h | h <;> exact binL_bits _ _ b h
theorem flat_encC (xss : List (List Int)) (n : Nat) (h : ∀ xs ∈ xss, xs.length ≤ n) : (xss.flatMap encC).length ≤ (7 + 52 * n) * xss.length := by
  induction xss with
  | nil => simp
  | cons x l ih =>
    have h1 := ih fun y hy => h y (by simp [hy])
    have h2 := encC_length x
    have h3 := h x (by simp)
    rw [List.flatMap_cons, List.length_append, List.length_cons, Nat.mul_succ]
    omega
end Go.Proofs.YtmafjfhnejeogaaGreatDoor

/- Names: num.IsName. -/
namespace Go.Proofs.YtmafjfhnejeogaaGreatDoor
open Go.RowKit

/-- may the byte c (a number) stand at the place i of a name? -/
def chOK (i : Nat) (c : Nat) : Bool := decide (97 ≤ c ∧ c ≤ 122 ∨ i ≠ 0 ∧ (c = 95 ∨ 48 ≤ c ∧ c ≤ 57))
def chAt (s : ByteArray) (i : Nat) : Nat := (s.data.toList.getD i 0).toNat
def nameTo (s : ByteArray) (k : Nat) : Bool := (List.range k).all fun i => chOK i (chAt s i)
def nameOK (s : ByteArray) : Bool := nameTo s s.size && (decide (1 ≤ s.size) && decide (s.size ≤ 16))
theorem nameTo_succ (s : ByteArray) (k : Nat) : nameTo s (k + 1) = (nameTo s k && chOK k (chAt s k)) := by simp [nameTo, List.range_succ, List.all_append]
theorem nameTo_false {s : ByteArray} {k : Nat} (h : chOK k (chAt s k) = false) (hk : k < s.size) : nameOK s = false := by
  have : nameTo s s.size = false := by
    rw [nameTo, List.all_eq_false]; exact ⟨k, by simpa using hk, by simp [h]⟩
  simp [nameOK, this]
theorem chAt_eq {s : ByteArray} {k : Nat} (h : k < s.size) : chAt s k = s[k].toNat := by
  unfold chAt
  rw [List.getD_eq_getElem?_getD, List.getElem?_eq_getElem (by simpa using h)]; rfl

set_option maxRecDepth 100000 in
theorem isName_any (s : ByteArray) (w : World) (hs : s.size ≤ 9223372036854775807) :
    Calls Tryz.prog 213 #[.string s] w fun e w' => e = .returned (.bool (nameOK s)) ∧ w = w' := by
  go_enter Tryz.func213, Tryz.ntmps213
  go_wp2
  go_loop [8] (fun i => ∃ k : Nat, k ≤ s.size ∧ i = .int .i64 k ∧ nameTo s k = true) (fun i => s.size - (intOf i).toNat)
  case atStart => exact ⟨0, Nat.zero_le _, rfl, rfl⟩
  case round =>
    obtain ⟨k, hk, rfl, hn⟩ := hrel
    by_cases hlt : k < s.size
    · have hsu := nameTo_succ s k
      rw [hn, Bool.true_and] at hsu
      have hfa := fun h => nameTo_false (s := s) (k := k) h hlt
      rw [chAt_eq hlt] at hsu hfa
      have HSU := Lib.hid hsu; have HFA := Lib.hid hfa; clear hsu hfa hn
      have hc : chOK k s[k].toNat = true ∨ chOK k s[k].toNat = false := by cases chOK k s[k].toNat <;> simp
      rcases hc with hc | hc
      · have HSU2 : Hid (nameTo s (k + 1) = true) := by show nameTo s (k + 1) = true; rw [HSU.out, hc]
        simp only [chOK, decide_eq_true_eq] at hc
        rcases hc with ⟨h1, h2⟩ | ⟨h0, h3 | ⟨h1, h2⟩⟩
        · have g1 : (97 : Int) ≤ s[k].toNat := by omega
          have g2 : (s[k].toNat : Int) ≤ 122 := by omega
          clear h1 h2
          go_wp2
          go_round
          case rel => exact ⟨k + 1, by omega, by go_num, HSU2.out⟩
          case measure => simp [intOf]; omega
        · have g0 : ((k : Int) == 0) = false := by rw [beq_eq_false_iff_ne]; omega
          have g1 : ¬ (97 : Int) ≤ s[k].toNat := by omega
          have g2 : ((s[k].toNat : Int) != 95) = false := by simp [h3]
          clear h3 h0
          go_wp2
          go_round
          case rel => exact ⟨k + 1, by omega, by go_num, HSU2.out⟩
          case measure => simp [intOf]; omega
        · have g0 : ((k : Int) == 0) = false := by rw [beq_eq_false_iff_ne]; omega
          have g1 : ¬ (97 : Int) ≤ s[k].toNat := by omega
          have g2 : ((s[k].toNat : Int) != 95) = true := by rw [bne_iff_ne]; omega
          have g3 : ¬ (s[k].toNat : Int) < 48 := by omega
          have g4 : ¬ (57 : Int) < s[k].toNat := by omega
          clear h1 h2 h0
          go_wp2
          go_round
          case rel => exact ⟨k + 1, by omega, by go_num, HSU2.out⟩
          case measure => simp [intOf]; omega
      · have HF : Hid (nameOK s = false) := HFA.out hc
        simp only [chOK, decide_eq_false_iff_not] at hc
        have g1 : (s[k].toNat : Int) < 97 ∨ (122 : Int) < s[k].toNat := by omega
        have g2 : k = 0 ∨ 0 < k := by omega
        rcases g1 with g1 | g1
        all_goals
          try have g5 : decide ((s[k].toNat : Int) ≤ 122) = false := by rw [decide_eq_false_iff_not]; omega
          rcases g2 with g2 | g2
          · subst g2
            clear hc
            go_wp2
            go_ret
            exact ⟨ret_bool HF.out.symm, rfl⟩
          · have g0 : ((k : Int) == 0) = false := by rw [beq_eq_false_iff_ne]; omega
            have g4 : ((s[k].toNat : Int) != 95) = true := by rw [bne_iff_ne]; omega
            have g3 : (s[k].toNat : Int) < 48 ∨ 57 < (s[k].toNat : Int) := by omega
            clear hc g2
            rcases g3 with g3 | g3
            all_goals first | (exfalso; omega) | (go_wp2; go_ret; exact ⟨ret_bool HF.out.symm, rfl⟩)
    · obtain rfl : k = s.size := by omega
      have hf : nameOK s = (decide (1 ≤ s.size) && decide (s.size ≤ 16)) := by rw [nameOK, hn, Bool.true_and]
      have HF := Lib.hid hf; clear hf hn
      by_cases h1 : (1 : Int) ≤ s.size
      · go_wp2
        go_ret
        exact ⟨ret_bool (by rw [HF.out, Bool.eq_iff_iff]; simp; omega), rfl⟩
      · go_wp2
        go_ret
        exact ⟨ret_bool (by rw [HF.out, Bool.eq_iff_iff]; simp; omega), rfl⟩
end Go.Proofs.YtmafjfhnejeogaaGreatDoor

/- Books: slices of channels; slices.IndexFunc and ContainsFunc over them. -/
namespace Go.Proofs.YtmafjfhnejeogaaGreatDoor
open Go.RowKit

structure Chan where
  name : ByteArray
  rate : Int
  bits : Int

/-- channels, cell by cell -/
def chs (l : List Chan) : List Value := l.flatMap fun t => [.string t.name, .int .i64 t.rate, .int .i64 t.bits]
theorem chs_cons (t : Chan) (l : List Chan) : chs (t :: l) = .string t.name :: .int .i64 t.rate :: .int .i64 t.bits :: chs l := rfl
theorem chs_append (a b : List Chan) : chs (a ++ b) = chs a ++ chs b := by simp [chs]
theorem chs_length (l : List Chan) : (chs l).length = l.length * 3 := by
  induction l with
  | nil => rfl
  | cons t l ih => simp only [chs_cons, List.length_cons, ih]; omega
theorem chs_get {l : List Chan} {i : Nat} {t : Chan} (h : l[i]? = some t) : (chs l)[i * 3]? = some (.string t.name) ∧ (chs l)[i * 3 + 1]? = some (.int .i64 t.rate) ∧ (chs l)[i * 3 + 2]? = some (.int .i64 t.bits) := by
  induction l generalizing i with
  | nil => simp at h
  | cons s l ih =>
    cases i with
    | zero => simp at h; subst h; simp [chs_cons]
    | succ i =>
      have e : (i + 1) * 3 = i * 3 + 1 + 1 + 1 := by omega
      have e1 : (i + 1) * 3 + 1 = i * 3 + 1 + 1 + 1 + 1 := by omega
      have e2 : (i + 1) * 3 + 2 = i * 3 + 2 + 1 + 1 + 1 := by omega
      rw [chs_cons, e2, e1, e]
      simp only [List.getElem?_cons_succ]
      exact ih (by simpa using h)
theorem chs_ne {l : List Chan} (h : 0 < l.length) : chs l ≠ [] := by
  intro e; have := chs_length l; rw [e] at this; simp at this; omega
theorem chs_take (l : List Chan) (i : Nat) : chs (l.take i) = (chs l).take (i * 3) := by
  induction l generalizing i with
  | nil => simp [chs]
  | cons t l ih =>
    cases i with
    | zero => simp [chs]
    | succ i =>
      have e : (i + 1) * 3 = i * 3 + 1 + 1 + 1 := by omega
      rw [List.take_succ_cons, chs_cons, chs_cons, e, List.take_succ_cons, List.take_succ_cons, List.take_succ_cons, ih]
theorem Cells.take' {w : World} {ao : Option Addr} {cs : List Value} (h : Cells w ao cs) (n : Nat) : Cells w ao (cs.take n) := by
  rcases h with h | ⟨b, off, h1, h2⟩
  · exact .inl (by simp [h])
  · refine .inr ⟨b, off, h1, fun j u hu => h2 j u ?_⟩
    rw [List.getElem?_take] at hu
    split at hu
    · exact hu
    · simp at hu

set_option maxRecDepth 100000 in
/-- slices.IndexFunc over channels -/
theorem indexFunc_chans (F : FuncId) (capd : Array Value) (p : Chan → Bool) (ao : Option Addr) (xs : List Chan) (cap : Nat) (w : World) (hc : Cells w ao (chs xs)) (hl : xs.length ≤ 9223372036854775807)
    (hcf : ∀ (vs : Array Value) (wx : World), Sem.run Tryz.prog (callFunc F vs) wx = .ok (.enter F vs) wx)
    (hF : ∀ x wx, x ∈ xs → Below w.heap.size w wx → Calls Tryz.prog F (#[.agg #[.string x.name, .int .i64 x.rate, .int .i64 x.bits]] ++ capd) wx fun e w' => e = .returned (.bool (p x)) ∧ Below wx.heap.size wx w') :
    Calls Tryz.prog 238 #[.slice ao xs.length cap, .func (.func F) #[] capd] w fun e w' => (∃ r : Int, e = .returned (.int .i64 r) ∧ (0 ≤ r ↔ xs.any p = true) ∧ (∀ i : Nat, r = i → ∃ x, xs[i]? = some x ∧ p x = true ∧ (xs.take i).any p = false)) ∧ Below w.heap.size w w' := by
  go_enter Tryz.func238, Tryz.ntmps238
  go_wp2
  go_loopw [8] (fun i wr => ∃ k : Nat, k ≤ xs.length ∧ i = .int .i64 k ∧ (xs.take k).any p = false ∧ Below w.heap.size w wr) (fun i _ => xs.length - (intOf i).toNat)
  case atStart => exact ⟨0, Nat.zero_le _, rfl, rfl, Below.refl _ _⟩
  case round =>
    obtain ⟨k, hk, rfl, hany, hb⟩ := hrel
    by_cases hlt : k < xs.length
    · obtain ⟨x, hx⟩ := get_of_lt hlt
      obtain ⟨b, off, rfl⟩ := hc.addr (chs_ne (by omega))
      obtain ⟨g0, g1, g2⟩ := chs_get hx
      have hcell1 := cell_keep (hc.at g0) hb (Nat.le_refl _)
      have hcell2 := cell_keep (hc.at g1) hb (Nat.le_refl _)
      have hcell3 := cell_keep (hc.at g2) hb (Nat.le_refl _)
      rw [← Nat.add_assoc] at hcell2 hcell3
      clear g0 g1 g2
      have HX := Lib.hid hx; clear hx
      have HC := Lib.hid hc; clear hc
      have HF := Lib.hid hF; clear hF
      have HA := Lib.hid hany; clear hany
      go_wp2_with fail
      refine (HF.out x wr (List.mem_of_getElem? HX.out) hb).mono ?_
      rintro e w1 ⟨rfl, hb1⟩
      have hb2 := hb.trans (hb1.mono hb.size)
      clear hb1
      by_cases hp : p x = true
      · go_wp2
        go_ret
        refine ⟨⟨_, rfl, ?_, ?_⟩, hb2⟩
        · simp only [Int.natCast_nonneg, true_iff, List.any_eq_true]
          exact ⟨x, List.mem_of_getElem? HX.out, hp⟩
        · intro i hi
          obtain rfl : k = i := by omega
          exact ⟨x, HX.out, hp, HA.out⟩
      · simp only [Bool.not_eq_true] at hp
        go_wp2
        go_roundw
        case rel => exact ⟨k + 1, by omega, by go_num, by rw [take_get HX.out, List.any_append, HA.out]; simp [hp], hb2⟩
        case measure => simp [intOf]; omega
    · obtain rfl : k = xs.length := by omega
      rw [List.take_length] at hany
      have HA := Lib.hid hany; clear hany
      go_wp2
      go_ret
      exact ⟨⟨_, rfl, by rw [HA.out]; simp, fun i hi => by omega⟩, hb⟩

set_option maxRecDepth 100000 in
theorem containsFunc_chans (F : FuncId) (capd : Array Value) (p : Chan → Bool) (ao : Option Addr) (xs : List Chan) (cap : Nat) (w : World) (hc : Cells w ao (chs xs)) (hl : xs.length ≤ 9223372036854775807)
    (hcf : ∀ (vs : Array Value) (wx : World), Sem.run Tryz.prog (callFunc F vs) wx = .ok (.enter F vs) wx)
    (hF : ∀ x wx, x ∈ xs → Below w.heap.size w wx → Calls Tryz.prog F (#[.agg #[.string x.name, .int .i64 x.rate, .int .i64 x.bits]] ++ capd) wx fun e w' => e = .returned (.bool (p x)) ∧ Below wx.heap.size wx w') :
    Calls Tryz.prog 214 #[.slice ao xs.length cap, .func (.func F) #[] capd] w fun e w' => e = .returned (.bool (xs.any p)) ∧ Below w.heap.size w w' := by
  have HC := Lib.hid hc; clear hc
  have HF := Lib.hid hF; clear hF
  have HCF := Lib.hid hcf; clear hcf
  go_enter Tryz.func214, Tryz.ntmps214
  go_wp2_with fail
  refine (indexFunc_chans F capd p ao xs cap w HC.out hl HCF.out HF.out).mono ?_
  rintro e w1 ⟨⟨r, rfl, hr, _⟩, hb⟩
  have HR := Lib.hid hr; clear hr
  go_wp2
  go_ret
  exact ⟨ret_bool (by rw [Bool.eq_iff_iff, decide_eq_true_iff]; exact HR.out), hb⟩

/-- have two channels the same name? -/
def sameName (a b : ByteArray) : Bool := a.toList == b.toList

theorem checkBook1_any (x : Chan) (bc : Nat) (t : ByteArray) (w : World) (hc : w.cell? ⟨bc, 0, none⟩ = some (.string t)) :
    Calls Tryz.prog 215 #[.agg #[.string x.name, .int .i64 x.rate, .int .i64 x.bits], .pointer (some ⟨bc, 0, none⟩)] w fun e w' => e = .returned (.bool (sameName x.name t)) ∧ Below w.heap.size w w' := by
  have hc1 := cell_keep hc ((Below.refl _ _).alloc (Nat.le_refl _) (.cells #[.string x.name, .int .i64 x.rate, .int .i64 x.bits] 172)) (Nat.le_refl _)
  go_enter Tryz.func215, Tryz.ntmps215
  go_wp2
  go_ret
  exact ⟨rfl, (Below.refl _ _).alloc (Nat.le_refl _) _⟩
end Go.Proofs.YtmafjfhnejeogaaGreatDoor

/- Books: CheckBook. -/
namespace Go.Proofs.YtmafjfhnejeogaaGreatDoor
open Go.RowKit

def pow2B (r : Int) : Bool := decide (r = 1 ∨ r = 2 ∨ r = 4 ∨ r = 8 ∨ r = 16 ∨ r = 32 ∨ r = 64)
def chanOK (c : Chan) : Bool := nameOK c.name && (inB 1 c.rate 64 && (pow2B c.rate && inB 2 c.bits 24))
def dupB (bs : List Chan) (c : Chan) : Bool := bs.any fun x => sameName x.name c.name
def bookTo (bs : List Chan) : Nat → Bool
  | 0 => true
  | k + 1 => bookTo bs k && match bs[k]? with | some c => chanOK c && !dupB (bs.take k) c | none => true
def bookOK (bs : List Chan) : Bool := inB 1 bs.length 16 && bookTo bs bs.length
def bookErr (bs : List Chan) : Int := if bookOK bs then 0 else 50
theorem bookTo_succ {bs : List Chan} {k : Nat} {c : Chan} (h : bs[k]? = some c) : bookTo bs (k + 1) = (bookTo bs k && (chanOK c && !dupB (bs.take k) c)) := by
  simp [bookTo, h]

theorem pow2_nat : ∀ n : Fin 65, 1 ≤ n.val → (bits BinOp.and IntKind.i64 (n.val : Int) ((n.val : Int) - 1) == 0) = pow2B n.val := by decide +kernel
theorem pow2_bits {r : Int} (h1 : 1 ≤ r) (h2 : r ≤ 64) : (bits BinOp.and IntKind.i64 r (r - 1) == 0) = pow2B r := by
  obtain ⟨n, rfl⟩ := Int.eq_ofNat_of_zero_le (show 0 ≤ r by omega)
  exact pow2_nat ⟨n, by omega⟩ (by show 1 ≤ n; omega)

set_option maxRecDepth 100000 in
set_option maxHeartbeats 1000000 in
theorem checkBook_any (ao : Option Addr) (bs : List Chan) (cap : Nat) (w : World) (hc : Cells w ao (chs bs)) (hl : bs.length ≤ 9223372036854775807) (hcap : bs.length ≤ cap) (hcap2 : cap ≤ 9223372036854775807) (hn : ∀ c ∈ bs, c.name.size ≤ 9223372036854775807) (hr : ∀ c ∈ bs, -9223372036854775808 ≤ c.rate) :
    Calls Tryz.prog 174 #[.slice ao bs.length cap] w fun e w' => e = .returned (.int .i64 (bookErr bs)) ∧ Below w.heap.size w w' := by
  have HC := Lib.hid hc; clear hc
  have HN := Lib.hid hn; have HR := Lib.hid hr; clear hn hr
  go_enter Tryz.func174, Tryz.ntmps174
  go_wp2_with (go_at_call 44; refine (within_any _ _ _ _).mono ?_; rintro e w' ⟨rfl, rfl⟩)
  go_loopw [3, 11] (fun o i wr => ∃ k : Nat, k ≤ bs.length ∧ i = .int .i64 k ∧ o = .bool (inB 1 bs.length 16 && bookTo bs k) ∧ Below w.heap.size w wr) (fun _ i _ => bs.length - (intOf i).toNat)
  case atStart => exact ⟨0, Nat.zero_le _, rfl, by simp [bookTo], Below.refl _ _⟩
  case round =>
    obtain ⟨k, hk, rfl, rfl, hb⟩ := hrel
    by_cases hlt : k < bs.length
    · obtain ⟨c, hx⟩ := get_of_lt hlt
      obtain ⟨b, off, rfl⟩ := HC.out.addr (chs_ne (by omega))
      obtain ⟨g0, g1, g2⟩ := chs_get hx
      have hcell1 := cell_keep (HC.out.at g0) hb (Nat.le_refl _)
      have hcell2 := cell_keep (HC.out.at g1) hb (Nat.le_refl _)
      have hcell3 := cell_keep (HC.out.at g2) hb (Nat.le_refl _)
      rw [← Nat.add_assoc] at hcell2 hcell3
      clear g0 g1 g2
      have hst := bookTo_succ hx
      have hsz := hb.size
      have hnm := HN.out c (List.mem_of_getElem? hx)
      have hrt := HR.out c (List.mem_of_getElem? hx)
      have hn2 : (inB 1 bs.length 16 && bookTo bs (k + 1)) = ((inB 1 bs.length 16 && bookTo bs k) && (chanOK c && !dupB (bs.take k) c)) := by rw [hst, Bool.and_assoc]
      have HNX := Lib.hid hn2; clear hst hn2 hx
      generalize (inB 1 bs.length 16 && bookTo bs k) = o at *
      cases o
      · go_wp2
        go_roundw
        case rel => exact ⟨k + 1, by omega, by go_num, by rw [HNX.out]; rfl, hb.alloc hsz _⟩
        case measure => simp [intOf]; omega
      · cases h1 : nameOK c.name
        · have he : (chanOK c && !dupB (bs.take k) c) = false := by simp [chanOK, h1]
          have HE := Lib.hid he; clear he
          go_wp2_with fail
          refine (isName_any _ _ hnm).mono ?_
          rintro e w1 ⟨rfl, rfl⟩
          go_wp2
          go_roundw
          case rel => exact ⟨k + 1, by omega, by go_num, by rw [HNX.out, HE.out]; rfl, hb.alloc hsz _⟩
          case measure => simp [intOf]; omega
        · cases h2 : inB 1 c.rate 64
          · have he : (chanOK c && !dupB (bs.take k) c) = false := by simp [chanOK, h2]
            have HE := Lib.hid he; clear he
            go_wp2_with fail
            refine (isName_any _ _ hnm).mono ?_
            rintro e w1 ⟨rfl, rfl⟩
            rw [h1]
            go_wp2_with fail
            refine (within_any _ _ _ _).mono ?_
            rintro e w1 ⟨rfl, rfl⟩
            go_wp2
            go_roundw
            case rel => exact ⟨k + 1, by omega, by go_num, by rw [HNX.out, HE.out]; rfl, hb.alloc hsz _⟩
            case measure => simp [intOf]; omega
          · have H2 := Lib.hid h2
            have hr2 : 1 ≤ c.rate ∧ c.rate ≤ 64 := by simpa [inB] using h2
            obtain ⟨hr1, hr2⟩ := hr2
            have hp2 := pow2_bits hr1 hr2
            cases h3 : pow2B c.rate
            · have he : (chanOK c && !dupB (bs.take k) c) = false := by simp [chanOK, h3]
              have HE := Lib.hid he; clear he
              rw [h3] at hp2
              go_wp2_with fail
              refine (isName_any _ _ hnm).mono ?_
              rintro e w1 ⟨rfl, rfl⟩
              rw [h1]
              go_wp2_with fail
              refine (within_any _ _ _ _).mono ?_
              rintro e w1 ⟨rfl, rfl⟩
              rw [H2.out]
              go_wp2
              go_roundw
              case rel => exact ⟨k + 1, by omega, by go_num, by rw [HNX.out, HE.out]; rfl, hb.alloc hsz _⟩
              case measure => simp [intOf]; omega
            · cases h4 : inB 2 c.bits 24
              · have he : (chanOK c && !dupB (bs.take k) c) = false := by simp [chanOK, h4]
                have HE := Lib.hid he; clear he
                rw [h3] at hp2
                go_wp2_with fail
                refine (isName_any _ _ hnm).mono ?_
                rintro e w1 ⟨rfl, rfl⟩
                rw [h1]
                go_wp2_with fail
                refine (within_any _ _ _ _).mono ?_
                rintro e w1 ⟨rfl, rfl⟩
                rw [H2.out]
                go_wp2_with fail
                refine (within_any _ _ _ _).mono ?_
                rintro e w1 ⟨rfl, rfl⟩
                go_wp2
                go_roundw
                case rel => exact ⟨k + 1, by omega, by go_num, by rw [HNX.out, HE.out]; rfl, hb.alloc hsz _⟩
                case measure => simp [intOf]; omega
              · have he : (chanOK c && !dupB (bs.take k) c) = !dupB (bs.take k) c := by simp [chanOK, h1, h2, h3, h4]
                have HE := Lib.hid he; clear he
                rw [h3] at hp2
                have hlk : (bs.take k).length = k := by rw [List.length_take]; omega
                have hbx := hb.alloc hsz (.cells #[.string c.name, .int .i64 c.rate, .int .i64 c.bits] 172)
                have hcon := containsFunc_chans 215 #[.pointer (some ⟨wr.heap.size, 0, none⟩)] (fun x => sameName x.name c.name) (some ⟨b, off, none⟩) (bs.take k) cap (wr.alloc (.cells #[.string c.name, .int .i64 c.rate, .int .i64 c.bits] 172))
                  (by rw [chs_take]; exact (HC.out.below hbx (Nat.le_refl _)).take' _) (by rw [hlk]; omega) (fun _ _ => by kernel_rfl) (fun x wx _ hbe => checkBook1_any x wr.heap.size c.name wx (box_keep hbe (by simp) 0))
                rw [hlk] at hcon
                have HCON := Lib.hid hcon; clear hcon hlk
                have H4 := Lib.hid h4
                go_wp2_with fail
                refine (isName_any _ _ hnm).mono ?_
                rintro e w1 ⟨rfl, rfl⟩
                rw [h1]
                go_wp2_with fail
                refine (within_any _ _ _ _).mono ?_
                rintro e w1 ⟨rfl, rfl⟩
                rw [H2.out]
                go_wp2_with fail
                refine (within_any _ _ _ _).mono ?_
                rintro e w1 ⟨rfl, rfl⟩
                rw [H4.out]
                go_wp2_with fail
                refine HCON.out.mono ?_
                rintro e w1 ⟨rfl, hb1⟩
                go_wp2
                go_roundw
                case rel => exact ⟨k + 1, by omega, by go_num, by rw [HNX.out, HE.out]; rfl, hbx.trans (hb1.mono hbx.size)⟩
                case measure => simp [intOf]; omega
    · obtain rfl : k = bs.length := by omega
      have hf : bookErr bs = if (inB 1 bs.length 16 && bookTo bs bs.length) then 0 else 50 := rfl
      have HF := Lib.hid hf; clear hf
      generalize (inB 1 bs.length 16 && bookTo bs bs.length) = o at *
      cases o
      all_goals
        go_wp2
        go_ret
        exact ⟨ret_int (by rw [HF.out]; rfl), hb⟩
end Go.Proofs.YtmafjfhnejeogaaGreatDoor

/- Frames: frameOK, CheckFrame. -/
namespace Go.Proofs.YtmafjfhnejeogaaGreatDoor
open Go.RowKit

/-- a slice of numbers, and a slice of such -/
def RowV (w : World) (v : Value) (xs : List Int) : Prop := ∃ a c, v = .slice a xs.length c ∧ Cells w a (xs.map (Value.int .i64)) ∧ xs.length ≤ 9223372036854775807
theorem RowV.below {w w' : World} {B : Nat} {v : Value} {xs : List Int} (h : RowV w v xs) (hb : Below B w w') (hB : w.heap.size ≤ B) : RowV w' v xs := by
  obtain ⟨a, c, h1, h2, h3⟩ := h; exact ⟨a, c, h1, h2.below hb hB, h3⟩
def RowsV (w : World) (vs : List Value) (xss : List (List Int)) : Prop := vs.length = xss.length ∧ ∀ (i : Nat) v xs, vs[i]? = some v → xss[i]? = some xs → RowV w v xs
theorem RowsV.below {w w' : World} {B : Nat} {vs : List Value} {xss : List (List Int)} (h : RowsV w vs xss) (hb : Below B w w') (hB : w.heap.size ≤ B) : RowsV w' vs xss :=
  ⟨h.1, fun i v xs h1 h2 => (h.2 i v xs h1 h2).below hb hB⟩

/-- the greatest magnitude of a channel -/
def mostOf (c : Chan) : Int := 2 ^ (c.bits - 1).toNat
def smpOK (c : Chan) (xs : List Int) : Bool := decide ((xs.length : Int) = c.rate) && !xs.any fun n => !inB (-(mostOf c)) n (mostOf c - 1)
def frTo (bs : List Chan) (xss : List (List Int)) : Nat → Bool
  | 0 => true
  | k + 1 => frTo bs xss k && match bs[k]?, xss[k]? with | some c, some xs => smpOK c xs | _, _ => true
def frOK (bs : List Chan) (st : Int) (xss : List (List Int)) : Bool := inB 0 st 1073741824 && (decide (xss.length = bs.length) && frTo bs xss bs.length)
theorem frTo_succ {bs : List Chan} {xss : List (List Int)} {k : Nat} {c : Chan} {xs : List Int} (h : bs[k]? = some c) (h2 : xss[k]? = some xs) : frTo bs xss (k + 1) = (frTo bs xss k && smpOK c xs) := by simp [frTo, h, h2]
theorem frTo_false {bs : List Chan} {xss : List (List Int)} {k : Nat} (h : frTo bs xss k = false) {n : Nat} (hn : k ≤ n) : frTo bs xss n = false := by
  induction n with
  | zero => obtain rfl : k = 0 := by omega
            exact h
  | succ n ih =>
    by_cases hk : k ≤ n
    · simp [frTo, ih hk]
    · obtain rfl : k = n + 1 := by omega
      exact h

theorem bookTo_get {bs : List Chan} {n : Nat} (h : bookTo bs n = true) {i : Nat} {c : Chan} (hi : i < n) (hc : bs[i]? = some c) : chanOK c = true := by
  induction n with
  | zero => omega
  | succ n ih =>
    simp only [bookTo, Bool.and_eq_true] at h
    by_cases hin : i < n
    · exact ih h.1 hin
    · obtain rfl : i = n := by omega
      have := h.2
      rw [hc] at this
      simp only [Bool.and_eq_true] at this
      exact this.1
theorem book_get {bs : List Chan} (h : bookOK bs = true) {i : Nat} {c : Chan} (hc : bs[i]? = some c) : 1 ≤ c.rate ∧ c.rate ≤ 64 ∧ 2 ≤ c.bits ∧ c.bits ≤ 24 := by
  simp only [bookOK, Bool.and_eq_true] at h
  have h1 := bookTo_get h.2 (List.getElem?_eq_some_iff.1 hc).1 hc
  simp only [chanOK, inB, Bool.and_eq_true, decide_eq_true_eq] at h1
  omega

theorem frameOK1_any (n m : Int) (bc : Nat) (w : World) (hc : w.cell? ⟨bc, 0, none⟩ = some (.int .i64 m)) (h1 : 1 ≤ m) (h2 : m ≤ 8388608) :
    Calls Tryz.prog 216 #[.int .i64 n, .pointer (some ⟨bc, 0, none⟩)] w fun e w' => e = .returned (.bool (!inB (-m) n (m - 1))) ∧ w = w' := by
  go_enter Tryz.func216, Tryz.ntmps216
  go_wp2_with (go_at_call 44; refine (within_any _ _ _ _).mono ?_; rintro e w' ⟨rfl, rfl⟩)
  go_ret
  exact ⟨rfl, rfl⟩

theorem new2_cell (w : World) (o : Obj) (cs : Array Value) (T : TypeId) (i : Nat) : ((w.alloc o).alloc (.cells cs T)).cell? ⟨w.heap.size + 1, i, none⟩ = cs[i]? := by
  simp

theorem most_bd {c : Chan} (h1 : 2 ≤ c.bits) (h2 : c.bits ≤ 24) : 1 ≤ mostOf c ∧ mostOf c ≤ 8388608 ∧ (1 : Int) * 2 ^ (c.bits - 1).toNat = mostOf c := by
  have hn : (c.bits - 1).toNat ≤ 23 := by omega
  have h3 : (2 : Nat) ^ (c.bits - 1).toNat ≤ 2 ^ 23 := Nat.pow_le_pow_right (by decide) hn
  have h4 : ((2 ^ (c.bits - 1).toNat : Nat) : Int) = mostOf c := by simp [mostOf]
  have h5 : 0 < (2 : Nat) ^ (c.bits - 1).toNat := Nat.pow_pos (by decide)
  have h6 : (2 : Nat) ^ 23 = 8388608 := by decide
  refine ⟨by omega, by omega, by simp [mostOf]⟩

set_option maxRecDepth 100000 in
set_option maxHeartbeats 1000000 in
theorem frameOK_any (ao : Option Addr) (bs : List Chan) (cap : Nat) (st : Int) (asm : Option Addr) (vs : List Value) (xss : List (List Int)) (cs : Nat) (w : World) (hc : Cells w ao (chs bs)) (hl : bs.length ≤ 9223372036854775807) (hs : Cells w asm vs) (hr : RowsV w vs xss) (_hls : xss.length ≤ 9223372036854775807) (hbk : bookOK bs = true) :
    Calls Tryz.prog 175 #[.slice ao bs.length cap, .agg #[.int .i64 st, .slice asm xss.length cs]] w fun e w' => e = .returned (.bool (frOK bs st xss)) ∧ Below w.heap.size w w' := by
  have HC := Lib.hid hc; have HS := Lib.hid hs; have HR := Lib.hid hr; have HBK := Lib.hid hbk
  clear hc hs hr hbk
  cases h1 : inB 0 st 1073741824
  · have hf : frOK bs st xss = false := by simp [frOK, h1]
    have HF := Lib.hid hf; clear hf
    go_enter Tryz.func175, Tryz.ntmps175
    go_wp2_with (go_at_call 44; refine (within_any _ _ _ _).mono ?_; rintro e w' ⟨rfl, rfl⟩)
    go_ret
    exact ⟨ret_bool HF.out.symm, (Below.refl _ _).alloc (Nat.le_refl _) _⟩
  · by_cases h2 : xss.length = bs.length
    · have hf : frOK bs st xss = frTo bs xss bs.length := by simp [frOK, h1, h2]
      have HF := Lib.hid hf; clear hf
      have hlen : ((xss.length : Int) != bs.length) = false := by simp [h2]
      have H2 := Lib.hid h2; clear h2
      have hle1 : xss.length ≤ bs.length := by have := H2.out; omega
      have hle2 : bs.length ≤ xss.length := by have := H2.out; omega
      go_enter Tryz.func175, Tryz.ntmps175
      go_wp2_with (go_at_call 44; refine (within_any _ _ _ _).mono ?_; rintro e w' ⟨rfl, rfl⟩)
      go_loopw [22] (fun i wr => ∃ k : Nat, k ≤ bs.length ∧ i = .int .i64 k ∧ frTo bs xss k = true ∧ Below (w.heap.size + 1) (w.alloc (.cells #[.int .i64 st, .slice asm xss.length cs] 88)) wr) (fun i _ => bs.length - (intOf i).toNat)
      case atStart => exact ⟨0, Nat.zero_le _, rfl, rfl, Below.refl _ _⟩
      case round =>
        obtain ⟨k, hk, rfl, hfr, hb⟩ := hrel
        have HFR := Lib.hid hfr; clear hfr
        have p1 : wr.cell? ⟨w.heap.size, 1, none⟩ = some (.slice asm xss.length cs) := box_keep hb (by simp) 1
        have hbw : Below w.heap.size w wr := ((Below.refl _ _).alloc (Nat.le_refl _) _).trans (hb.mono (by omega))
        have hsz : w.heap.size + 1 ≤ wr.heap.size := by have := hb.size; simpa using this
        by_cases hlt : k < bs.length
        · obtain ⟨c, hx⟩ := get_of_lt hlt
          obtain ⟨xs, hxs⟩ := get_of_lt (show k < xss.length by omega)
          obtain ⟨v, hv⟩ := get_of_lt (show k < vs.length by have := HR.out.1; omega)
          obtain ⟨b, off, rfl⟩ := HC.out.addr (chs_ne (by omega))
          obtain ⟨b2, off2, rfl⟩ := HS.out.addr (List.ne_nil_of_length_pos (by have := HR.out.1; omega))
          obtain ⟨g0, g1, g2⟩ := chs_get hx
          have c0 := cell_keep (HC.out.at g0) hbw (Nat.le_refl _)
          have c1 := cell_keep (HC.out.at g1) hbw (Nat.le_refl _)
          have c2 := cell_keep (HC.out.at g2) hbw (Nat.le_refl _)
          rw [← Nat.add_assoc] at c1 c2
          have c3 := cell_keep (HS.out.at hv) hbw (Nat.le_refl _)
          have hrow := HR.out.2 k v xs hv hxs
          obtain ⟨ax, cx, rfl, hax, haxl⟩ := hrow
          have hck := book_get HBK.out hx
          obtain ⟨k1, k2, k3, k4⟩ := hck
          obtain ⟨m1, m2, m3⟩ := most_bd k3 k4
          have hst := frTo_succ hx hxs
          rw [HFR.out, Bool.true_and] at hst
          have HST := Lib.hid hst; have HAX := Lib.hid hax; have M3 := Lib.hid m3
          clear g0 g1 g2 hst hax hx hxs hv m3
          have hmx : (c.bits - 1).toNat ≤ 23 := by omega
          have hmin : min (c.bits - 1).toNat 64 = (c.bits - 1).toNat := by omega
          have hpw : (2 : Int) ^ (c.bits.toNat - 1) = mostOf c := by rw [mostOf]; congr 1; omega
          go_wp2
          clear hpw hmx hmin
          have hbq := (hb.alloc hsz (.cells #[.string c.name, .int .i64 c.rate, .int .i64 c.bits] 172)).alloc (by simp; omega) (.cells #[.int .i64 (mostOf c)] 3)
          have hwq := ((Below.refl wr.heap.size wr).alloc (Nat.le_refl _) (.cells #[.string c.name, .int .i64 c.rate, .int .i64 c.bits] 172)).alloc (by simp) (.cells #[.int .i64 (mostOf c)] 3)
          have q3 := cell_keep c3 hwq (Nat.le_refl _)
          have qr : ((wr.alloc (.cells #[.string c.name, .int .i64 c.rate, .int .i64 c.bits] 172)).alloc (.cells #[.int .i64 (mostOf c)] 3)).cell? ⟨wr.heap.size, 1, none⟩ = some (.int .i64 c.rate) := by simp
          have qm : ((wr.alloc (.cells #[.string c.name, .int .i64 c.rate, .int .i64 c.bits] 172)).alloc (.cells #[.int .i64 (mostOf c)] 3)).cell? ⟨wr.heap.size + 1, 0, none⟩ = some (.int .i64 (mostOf c)) := new2_cell _ _ _ _ 0
          have hsq : wr.heap.size + 2 ≤ ((wr.alloc (.cells #[.string c.name, .int .i64 c.rate, .int .i64 c.bits] 172)).alloc (.cells #[.int .i64 (mostOf c)] 3)).heap.size := by simp
          generalize ((wr.alloc (.cells #[.string c.name, .int .i64 c.rate, .int .i64 c.bits] 172)).alloc (.cells #[.int .i64 (mostOf c)] 3)) = wq at *
          clear c0 c1 c2 c3 p1 hb hwq
          have p1 : wq.cell? ⟨w.heap.size, 1, none⟩ = some (.slice (some ⟨b2, off2, none⟩) xss.length cs) := box_keep hbq (by simp) 1
          have hbw2 : Below w.heap.size w wq := ((Below.refl _ _).alloc (Nat.le_refl _) _).trans (hbq.mono (by omega))
          have ki1 : (k : Int) < xss.length := by omega
          by_cases hlr : (xs.length : Int) = c.rate
          · have hst : frTo bs xss (k + 1) = !xs.any (fun n => !inB (-(mostOf c)) n (mostOf c - 1)) := by rw [HST.out]; simp [smpOK, hlr]
            have HST2 := Lib.hid hst; clear hst
            have hneq : ((xs.length : Int) != c.rate) = false := by simp [hlr]
            clear hlr
            go_still_tail 16, (by kernel_rfl)
            change wpList _ _ _ _ _ wq.drew
            have qm2 : wq.drew.cell? ⟨wr.heap.size + 1, 0, none⟩ = some (.int .i64 (mostOf c)) := qm
            have hbd : Below w.heap.size w wq.drew := hbw2.drew
            have hbqd : Below (w.heap.size + 1) (w.alloc (.cells #[.int .i64 st, .slice (some ⟨b2, off2, none⟩) xss.length cs] 88)) wq.drew := hbq.drew
            have hsq2 : wr.heap.size + 2 ≤ wq.drew.heap.size := hsq
            generalize wq.drew = wd at *
            clear qm qr q3 p1 hbq hbw2 hsq
            go_wp2_with fail
            refine (containsFunc_ints 216 #[.pointer (some ⟨wr.heap.size + 1, 0, none⟩)] (fun n => !inB (-(mostOf c)) n (mostOf c - 1)) ax xs cx wd (HAX.out.below hbd (Nat.le_refl _)) (by omega) (fun _ _ => by kernel_rfl) (fun x wx _ hbe => (frameOK1_any x (mostOf c) (wr.heap.size + 1) wx (cell_keep qm2 hbe (Nat.le_refl _)) m1 m2).mono fun e w' h => ⟨h.1, h.2 ▸ Below.refl _ _⟩)).mono ?_
            rintro e w1 ⟨rfl, hb1⟩
            have hbz := hbqd.trans (hb1.mono (by omega))
            cases hany : xs.any (fun n => !inB (-(mostOf c)) n (mostOf c - 1))
            · have hfr2 : frTo bs xss (k + 1) = true := by rw [HST2.out, hany]; rfl
              have HFR2 := Lib.hid hfr2; clear hfr2 hany
              go_wp2
              go_roundw
              case rel => exact ⟨k + 1, by omega, by go_num, HFR2.out, hbz⟩
              case measure => simp [intOf]; omega
            · have hfr2 : frTo bs xss bs.length = false := frTo_false (k := k + 1) (by rw [HST2.out, hany]; rfl) (by omega)
              have HFR2 := Lib.hid hfr2; clear hfr2 hany
              go_wp2
              go_ret
              exact ⟨ret_bool (by rw [HF.out, HFR2.out]), ((Below.refl _ _).alloc (Nat.le_refl _) _).trans (hbz.mono (by omega))⟩
          · have hfr2 : frTo bs xss bs.length = false := frTo_false (k := k + 1) (by rw [HST.out]; simp [smpOK, hlr]) (by omega)
            have HFR2 := Lib.hid hfr2; clear hfr2
            have hneq : ((xs.length : Int) != c.rate) = true := by simpa using hlr
            go_quiet (fail)
            go_wp2
            go_ret
            exact ⟨ret_bool (by rw [HF.out, HFR2.out]), bel_drewN hbw2 _⟩
        · obtain rfl : k = bs.length := by omega
          go_wp2
          go_ret
          exact ⟨ret_bool (by rw [HF.out, HFR.out]), hbw⟩
    · have hf : frOK bs st xss = false := by simp [frOK, h2]
      have HF := Lib.hid hf; clear hf
      have hlen : ((xss.length : Int) != bs.length) = true := by simp; omega
      go_enter Tryz.func175, Tryz.ntmps175
      go_wp2_with (go_at_call 44; refine (within_any _ _ _ _).mono ?_; rintro e w' ⟨rfl, rfl⟩)
      go_ret
      exact ⟨ret_bool HF.out.symm, (Below.refl _ _).alloc (Nat.le_refl _) _⟩
end Go.Proofs.YtmafjfhnejeogaaGreatDoor

/- Frames: CheckFrame. -/
namespace Go.Proofs.YtmafjfhnejeogaaGreatDoor
open Go.RowKit

def frmErr (bs : List Chan) (st : Int) (xss : List (List Int)) : Int := if bookErr bs ≠ 0 then bookErr bs else if frOK bs st xss then 0 else 51
theorem bookErr_zero {bs : List Chan} (h : bookErr bs = 0) : bookOK bs = true := by
  cases e : bookOK bs
  · simp [bookErr, e] at h
  · rfl

/-- what is asked of a book, whatever it holds -/
structure BookIn (w : World) (ao : Option Addr) (bs : List Chan) (cap : Nat) : Prop where
  cells : Cells w ao (chs bs)
  len : bs.length ≤ 9223372036854775807
  lecap : bs.length ≤ cap
  cap2 : cap ≤ 9223372036854775807
  names : ∀ c ∈ bs, c.name.size ≤ 9223372036854775807
  rates : ∀ c ∈ bs, -9223372036854775808 ≤ c.rate
theorem BookIn.below {w w' : World} {B : Nat} {ao : Option Addr} {bs : List Chan} {cap : Nat} (h : BookIn w ao bs cap) (hb : Below B w w') (hB : w.heap.size ≤ B) : BookIn w' ao bs cap :=
  ⟨h.cells.below hb hB, h.len, h.lecap, h.cap2, h.names, h.rates⟩

set_option maxRecDepth 100000 in
theorem checkFrame_any (ao : Option Addr) (bs : List Chan) (cap : Nat) (st : Int) (asm : Option Addr) (vs : List Value) (xss : List (List Int)) (cs : Nat) (w : World) (hb : BookIn w ao bs cap) (hs : Cells w asm vs) (hr : RowsV w vs xss) (hls : xss.length ≤ 9223372036854775807) :
    Calls Tryz.prog 119 #[.slice ao bs.length cap, .agg #[.int .i64 st, .slice asm xss.length cs]] w fun e w' => e = .returned (.int .i64 (frmErr bs st xss)) ∧ Below w.heap.size w w' := by
  have HB := Lib.hid hb; have HS := Lib.hid hs; have HR := Lib.hid hr
  have hlen := hb.len
  clear hs hr hb
  have hck := fun wx (h : BookIn wx ao bs cap) => checkBook_any ao bs cap wx h.cells (by have := h.len; omega) h.lecap h.cap2 h.names h.rates
  have HCK := Lib.hid hck; clear hck
  by_cases h1 : bookErr bs = 0
  · have hok := bookErr_zero h1
    have hfr := fun wx h2 h3 h4 => frameOK_any ao bs cap st asm vs xss cs wx h2 hlen h3 h4 hls hok
    have HFR := Lib.hid hfr; clear hfr hok
    have he : frmErr bs st xss = if frOK bs st xss then 0 else 51 := by simp [frmErr, h1]
    have HE := Lib.hid he; have H1 := Lib.hid h1; clear he h1
    cases h2 : frOK bs st xss
    all_goals
      have H2 := Lib.hid h2
      go_enter Tryz.func119, Tryz.ntmps119
      go_wp2_with fail
      refine (HCK.out _ (HB.out.below ((Below.refl _ _).alloc (Nat.le_refl _) _) (Nat.le_refl _))).mono ?_
      rintro e w1 ⟨rfl, hb1⟩
      rw [H1.out]
      have hbw : Below w.heap.size w w1 := ((Below.refl _ _).alloc (Nat.le_refl _) _).trans (hb1.mono (by simp))
      have q0 : w1.cell? ⟨w.heap.size, 0, none⟩ = some (.int .i64 st) := box_keep hb1 (by simp) 0
      have q1 : w1.cell? ⟨w.heap.size, 1, none⟩ = some (.slice asm xss.length cs) := box_keep hb1 (by simp) 1
      go_wp2_with fail
      refine (HFR.out _ (HB.out.below hbw (Nat.le_refl _)).cells (HS.out.below hbw (Nat.le_refl _)) (HR.out.below hbw (Nat.le_refl _))).mono ?_
      rintro e w2 ⟨rfl, hb2⟩
      go_wp2
      go_ret
      exact ⟨ret_int (by rw [HE.out, H2.out]; rfl), hbw.trans (hb2.mono hbw.size)⟩
  · have he : frmErr bs st xss = bookErr bs := by simp [frmErr, h1]
    have h3 : (bookErr bs != 0) = true := by simpa using h1
    have h4 : (bookErr bs == 0) = false := by simpa using h1
    have HE := Lib.hid he; clear he
    go_enter Tryz.func119, Tryz.ntmps119
    go_wp2_with fail
    refine (HCK.out _ (HB.out.below ((Below.refl _ _).alloc (Nat.le_refl _) _) (Nat.le_refl _))).mono ?_
    rintro e w1 ⟨rfl, hb1⟩
    go_wp2
    go_ret
    exact ⟨ret_int HE.out.symm, ((Below.refl _ _).alloc (Nat.le_refl _) _).trans (hb1.mono (by simp))⟩
end Go.Proofs.YtmafjfhnejeogaaGreatDoor
