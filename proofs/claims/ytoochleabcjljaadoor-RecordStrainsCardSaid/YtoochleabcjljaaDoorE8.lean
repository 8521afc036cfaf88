/- Codes: the best way. -/
import Derived.Test.YtoochleabcjljaaDoorE7
namespace Go.Proofs.YtoochleabcjljaaDoor
open Go.RowKit Go.Shelf
attribute [local go_sem] Oper.semAt_some

/-- a block of plain cells -/
def Blk (W : World) (B : Nat) (t : TypeId) (cs : Array Value) : Prop := W.heap[B]? = some (.cells cs t (0, 0))
theorem Blk.lt {W : World} {B : Nat} {t : TypeId} {cs : Array Value} (h : Blk W B t cs) : B < W.heap.size := (Array.getElem?_eq_some_iff.1 h).1
theorem Blk.kept {W W' : World} {row : Option Nat} {B : Nat} {t : TypeId} {cs : Array Value} (h : Blk W B t cs) (hg : W.grownBy W' row) (hne : some B ≠ row) : Blk W' B t cs := (hg.block B h.lt hne).trans h
theorem Blk.alloc {W : World} {B : Nat} {t : TypeId} {cs : Array Value} (h : Blk W B t cs) (o : Obj) : Blk (W.alloc o) B t cs := h.kept (World.grownBy_alloc W o none) (by simp)
theorem Blk.new (W : World) (t : TypeId) (cs : Array Value) : Blk (W.alloc (.cells cs t)) W.heap.size t cs := World.alloc_heap_new W _
theorem blk_own {β : Type} (B : Nat) (t : TypeId) (f : β → Array Value) : Own (fun s W => Blk W B t (f s)) := fun s X Y row hs hg hrow =>
  hs.kept hg (fun e' => by obtain ⟨o, ho, hc⟩ := hrow B e'.symm; rw [show X.heap[B]? = _ from hs] at ho; cases ho; cases hc)
theorem Blk.below {W W' : World} {B n : Nat} {t : TypeId} {cs : Array Value} (h : Blk W B t cs) (hb : Below n W W') (hn : B < n) : Blk W' B t cs := (hb.block B hn).trans h
theorem keepsFrom_below {W W' : World} (B : Nat) (h : Below W.heap.size W W') : KeepsFrom B W W' := ⟨h.size, fun k o _ ho _ => (h.block k (Array.getElem?_eq_some_iff.1 ho).1).trans ho⟩

theorem Blk.c0 {W : World} {B : Nat} {t : TypeId} {u : Value} {l : List Value} (h : Blk W B t (u :: l).toArray) : W.cell? ⟨B, 0, none⟩ = some u := by simp [World.cell?, show W.heap[B]? = _ from h]
theorem Blk.c1 {W : World} {B : Nat} {t : TypeId} {u v : Value} {l : List Value} (h : Blk W B t (u :: v :: l).toArray) : W.cell? ⟨B, 1, none⟩ = some v := by simp [World.cell?, show W.heap[B]? = _ from h]
theorem Blk.free {W : World} {B : Nat} {t : TypeId} {cs : Array Value} (h : Blk W B t cs) (i : Nat) : W.frozen? ⟨B, i, none⟩ = false := by simp [World.frozen?, show W.heap[B]? = _ from h]
theorem Blk.set0 {W : World} {B : Nat} {t : TypeId} {v : Value} {l : List Value} (u : Value) (h : Blk W B t (v :: l).toArray) : Blk (W.setCell ⟨B, 0, none⟩ u) B t (u :: l).toArray := by
  obtain ⟨hlt, hk⟩ := Array.getElem?_eq_some_iff.1 h
  show (W.heap.modify B _)[B]? = _
  rw [Array.getElem?_eq_getElem (by rw [Array.size_modify]; exact hlt), Array.getElem_modify_self, hk]
  rfl
theorem Blk.set1 {W : World} {B : Nat} {t : TypeId} {x v : Value} {l : List Value} (u : Value) (h : Blk W B t (x :: v :: l).toArray) : Blk (W.setCell ⟨B, 1, none⟩ u) B t (x :: u :: l).toArray := by
  obtain ⟨hlt, hk⟩ := Array.getElem?_eq_some_iff.1 h
  show (W.heap.modify B _)[B]? = _
  rw [Array.getElem?_eq_getElem (by rw [Array.size_modify]; exact hlt), Array.getElem_modify_self, hk]
  rfl
theorem Blk.other {W : World} {B B' : Nat} {t : TypeId} {cs : Array Value} (h : Blk W B t cs) (hne : B ≠ B') (i : Nat) (u : Value) : Blk (W.setCell ⟨B', i, none⟩ u) B t cs := (Below.heap_setCell _ _ _ _ hne).trans h
theorem Blk.drew {W : World} {B : Nat} {t : TypeId} {cs : Array Value} (h : Blk W B t cs) : Blk W.drew B t cs := h

/-- how many bits a way takes; the best way -/
def cost (xs : List Int) (o s : Nat) : Nat := (encL o s (resid xs o)).length
def stepB (xs : List Int) (b : (Nat × Nat) × Nat) (x : Way) : (Nat × Nat) × Nat := if x.1 = (0, 0) ∨ cost xs x.1.1 x.1.2 < b.2 then (x.1, cost xs x.1.1 x.1.2) else b
def bestF (xs : List Int) (pre : List Way) : (Nat × Nat) × Nat := pre.foldl (stepB xs) ((0, 0), 0)
theorem bestF_snoc (xs : List Int) (pre : List Way) (x : Way) : bestF xs (pre ++ [x]) = stepB xs (bestF xs pre) x := by simp [bestF]

theorem flat_le (l : List Int) (s : Nat) (hs : s ≤ 30) : (l.flatMap fun r => encU (foldU r) s).length ≤ 52 * l.length := flat_length l s hs
theorem cost_le (xs : List Int) (o s : Nat) (hs : s ≤ 30) : cost xs o s ≤ 7 + 52 * xs.length := by
  have := flat_le (resid xs o) s hs
  rw [resid_length] at this
  rw [cost, encL, List.length_append, List.length_append, binL_length, binL_length]; omega

theorem write_ct (bc : Nat) (o sh : Nat) (ho : o ≤ 3) (hsh : sh ≤ 30) (al : Option Addr) (l : List Int) (cl : Nat) (w : World) (h9 : Blk w bc 114 #[.int .i64 0]) (hna : ∀ b off, al = some ⟨b, off, none⟩ → bc < b)
    (hc : Cells w al (l.map (Value.int .i64))) (hlen : l.length ≤ 4096) (hr : ∀ r ∈ l, -67108864 ≤ r ∧ r ≤ 67108864) :
    Calls Tryd.prog 48 #[.agg #[.int .i64 (o : Nat), .int .i64 (sh : Nat)], .iface 115 (.pointer (some ⟨bc, 0, none⟩)), .slice al l.length cl] w fun e w' => e = .returned (.tuple #[]) ∧ Blk w' bc 114 #[.int .i64 ((encL o sh l).length : Nat)] ∧ Below bc w w' := by
  refine (write_any (counter_ok bc bc) (fun k => k < w.heap.size ∧ k ≠ bc) o sh ho hsh al l cl [] w ⟨Nat.le_refl _, h9, fun k hk => hk⟩ (fun b off hb hne => ?_) hc hlen (by simp) hr).mono ?_
  · subst hb
    refine ⟨?_, Nat.ne_of_gt (hna b off rfl)⟩
    obtain ⟨r, hr0⟩ := get_of_lt (List.length_pos_iff.2 hne)
    exact World.block_lt_of_cell? w _ (hc.at (j := 0) (by rw [List.getElem?_map, hr0]; rfl))
  · rintro e w' ⟨rfl, h, hk⟩
    exact ⟨rfl, h.2.1, hk.below⟩

set_option maxRecDepth 100000 in
set_option maxHeartbeats 4000000 in
theorem best_any (ao : Option Addr) (xs : List Int) (cap : Nat) (w : World) (hc : Cells w ao (xs.map (Value.int .i64))) (hl : xs.length ≤ 4096) (hx : ∀ x ∈ xs, -8388608 ≤ x ∧ x ≤ 8388608) :
    Calls Tryd.prog 47 #[.slice ao xs.length cap] w fun e w' => e = .returned (.agg #[.int .i64 ((bestF xs (wvs 124)).1.1 : Nat), .int .i64 ((bestF xs (wvs 124)).1.2 : Nat)]) ∧ Below w.heap.size w w' := by
  have HC := Lib.hid hc; have HX := Lib.hid hx; clear hc hx
  refine (callsIn_wide (n := 8)).1 ?_
  refine callsIn_of_wp_marks Tryd.func47 rfl trivial ?_ rfl
  simp only [Tryd.ntmps47, List.size_toArray, List.length_cons, List.length_nil, Nat.reduceAdd, Nat.reduceSub, Array.replicate_succ, Array.replicate_zero, List.push_toArray, List.append_toArray, List.nil_append, List.cons_append]
  gi_wp2
  have b0 := (((Blk.new w 25 #[.slice ao xs.length cap]).alloc (.cells #[.int .i64 0, .int .i64 0] 94)).alloc (.cells #[.int .i64 0, .int .i64 0] 94)).alloc (.cells #[.int .i64 0] 3)
  have b1 := ((Blk.new (w.alloc (.cells #[.slice ao xs.length cap] 25)) 94 #[.int .i64 0, .int .i64 0]).alloc (.cells #[.int .i64 0, .int .i64 0] 94)).alloc (.cells #[.int .i64 0] 3)
  have b2 := (Blk.new ((w.alloc (.cells #[.slice ao xs.length cap] 25)).alloc (.cells #[.int .i64 0, .int .i64 0] 94)) 94 #[.int .i64 0, .int .i64 0]).alloc (.cells #[.int .i64 0] 3)
  have b3 := Blk.new (((w.alloc (.cells #[.slice ao xs.length cap] 25)).alloc (.cells #[.int .i64 0, .int .i64 0] 94)).alloc (.cells #[.int .i64 0, .int .i64 0] 94)) 3 #[.int .i64 0]
  simp only [World.size_alloc] at b1 b2 b3
  have hB0 := ((((Below.refl w.heap.size w).alloc (Nat.le_refl _) (.cells #[.slice ao xs.length cap] 25)).alloc (by simp) (.cells #[.int .i64 0, .int .i64 0] 94)).alloc (by simp; omega) (.cells #[.int .i64 0, .int .i64 0] 94)).alloc (by simp; omega) (.cells #[.int .i64 0] 3)
  have hsz : ((((w.alloc (.cells #[.slice ao xs.length cap] 25)).alloc (.cells #[.int .i64 0, .int .i64 0] 94)).alloc (.cells #[.int .i64 0, .int .i64 0] 94)).alloc (.cells #[.int .i64 0] 3)).heap.size = w.heap.size + 4 := by simp
  obtain ⟨W0, hW0⟩ : ∃ W0, ((((w.alloc (.cells #[.slice ao xs.length cap] 25)).alloc (.cells #[.int .i64 0, .int .i64 0] 94)).alloc (.cells #[.int .i64 0, .int .i64 0] 94)).alloc (.cells #[.int .i64 0] 3)) = W0 := ⟨_, rfl⟩
  rw [hW0] at b0 b1 b2 b3 hB0 hsz ⊢
  clear hW0
  refine wpIn_rangeFunc_ownH rfl (by decide) (gf := 62) (lb := #[]) rfl trivial (enters_of Tryd.func62 (by kernel_rfl) rfl)
    (ways_stops _ _ trivial rfl (by decide) (Below w.heap.size) W0) belowK_t (belowK_b (by omega)) (Below.refl _ _) (fun _ => rfl)
    (fun pre W => (((Blk W w.heap.size 25 #[.slice ao xs.length cap] ∧ Blk W (w.heap.size + 1) 94 #[.int .i64 0, .int .i64 0]) ∧
      Blk W (w.heap.size + 1 + 1) 94 #[.int .i64 ((bestF xs pre).1.1 : Nat), .int .i64 ((bestF xs pre).1.2 : Nat)]) ∧ Blk W (w.heap.size + 1 + 1 + 1) 3 #[.int .i64 ((bestF xs pre).2 : Nat)]) ∧ Below w.heap.size w W)
    (fun _ _ _ => False)
    (OwnFrom.and (OwnFrom.and (OwnFrom.and (OwnFrom.and (Own.from (blk_own _ _ _) _) (Own.from (blk_own _ _ _) _)) (Own.from (blk_own _ _ (fun pre => #[.int .i64 ((bestF xs pre).1.1 : Nat), .int .i64 ((bestF xs pre).1.2 : Nat)])) _)) (Own.from (blk_own _ _ (fun pre => #[.int .i64 ((bestF xs pre).2 : Nat)])) _)) (ownFrom_below (Nat.le_refl _) (by omega)))
    (fun _ _ _ _ _ hs _ _ => hs)
    ⟨⟨⟨⟨b0, b1⟩, b2⟩, b3⟩, hB0⟩
    (fun x a' W => ∃ Bx, w.heap.size + 1 + 1 + 1 < Bx ∧ Blk W Bx 94 #[.int .i64 (x.1.1 : Nat), .int .i64 (x.1.2 : Nat)] ∧ a' = { tmps := #[.slice ao xs.length cap, .pointer (some ⟨w.heap.size, 0, none⟩), .pointer (some ⟨w.heap.size + 1, 0, none⟩), .pointer (some ⟨w.heap.size + 1 + 1, 0, none⟩), .pointer (some ⟨w.heap.size + 1 + 1 + 1, 0, none⟩), .pointer (some ⟨Bx, 0, none⟩), undef, wayV x, undef, undef, undef, undef, undef, undef, undef, undef, undef, undef, undef, undef, undef, undef, undef, undef, undef, undef], defers := [] })
    (fun x a' _ X Y row hs hg hr => by obtain ⟨Bx, h1, h2, h3⟩ := hs; exact ⟨Bx, h1, blk_own Bx _ (fun (_ : Unit) => #[Value.int .i64 (x.1.1 : Nat), .int .i64 (x.1.2 : Nat)]) () X Y row h2 hg (fun r e => (hr r e).2), h3⟩)
    ?assign ?body ?done ?stop
  case assign =>
    rintro l pre x W K ⟨⟨⟨⟨c0, c1⟩, c2⟩, c3⟩, hB1⟩ hK
    simp only [wayV] at hK ⊢
    gi_wp2
    exact hK _ _ ((KeepsOthers.alloc _ _).from _) ((Below.refl _ W).alloc hB1.size _) ⟨⟨⟨⟨c0.alloc _, c1.alloc _⟩, c2.alloc _⟩, c3.alloc _⟩, hB1.alloc hB1.size _⟩ ⟨W.heap.size, c3.lt, Blk.new W _ _, rfl⟩
  case body =>
    rintro l pre x a' W hl2 ⟨r, hr⟩ ⟨⟨⟨⟨c0, c1⟩, c2⟩, c3⟩, hB1⟩ ⟨Bx, hBx, cx, rfl⟩ hlt
    have hn := hB1.size
    have hcl := cost_le xs x.1.1 x.1.2 (by have := x.2.2; omega)
    have hx1 : x.1.1 ≤ 3 := by have := x.2.1; omega
    have hx2 : x.1.2 ≤ 30 := by have := x.2.2; omega
    have HCw : Hid (Cells (W.alloc (.cells #[.int .i64 0] 114)) ao (xs.map (Value.int .i64))) := Lib.hid ((HC.out.below hB1 (Nat.le_refl _)).below ((Below.refl _ W).alloc (Nat.le_refl _) _) (Nat.le_refl _))
    have hmx : Tryd.prog.follows .mixedOrders = true := by kernel_rfl
    simp only [wayV]
    clear hr
    gi_wp2
    have d0 := c0.alloc (.cells #[.int .i64 0] 114)
    have dx := cx.alloc (.cells #[.int .i64 0] 114)
    have d9 := Blk.new W 114 #[.int .i64 0]
    have hBc := (Below.refl W.heap.size W).alloc (Nat.le_refl _) (.cells #[.int .i64 0] 114)
    have hsc : (W.alloc (.cells #[.int .i64 0] 114)).heap.size = W.heap.size + 1 := by simp
    have hlx := cx.lt
    generalize (W.alloc (.cells #[.int .i64 0] 114)) = Wc at *
    have HCd : Cells Wc.drew ao (xs.map (Value.int .i64)) := HCw.out.below ((Below.refl Wc.heap.size Wc).drew) (Nat.le_refl _)
    replace HCd := Lib.hid HCd
    have d00 := d0.c0
    have e0 := dx.c0
    have e1 := dx.c1
    refine wpIn_mono (Q := fun e a w3 => e = .normal ∧ ∃ (a1 : Option Addr) (k1 : Nat), a = { tmps := #[.slice ao xs.length cap, .pointer (some ⟨w.heap.size, 0, none⟩), .pointer (some ⟨w.heap.size + 1, 0, none⟩), .pointer (some ⟨w.heap.size + 1 + 1, 0, none⟩), .pointer (some ⟨w.heap.size + 1 + 1 + 1, 0, none⟩), .pointer (some ⟨Bx, 0, none⟩), .pointer (some ⟨W.heap.size, 0, none⟩), .agg #[.int .i64 (x.1.1 : Nat), .int .i64 (x.1.2 : Nat)], .agg #[.int .i64 (x.1.1 : Nat), .int .i64 (x.1.2 : Nat)], .iface 115 (.pointer (some ⟨W.heap.size, 0, none⟩)), .slice ao xs.length cap, .pointer (some ⟨Bx, 0, none⟩), .int .i64 (x.1.1 : Nat), .slice a1 (resid xs x.1.1).length k1, .tuple #[], undef, undef, undef, undef, undef, undef, undef, undef, undef, undef, undef], defers := [] } ∧ Blk w3 W.heap.size 114 #[.int .i64 (cost xs x.1.1 x.1.2 : Nat)] ∧ Below W.heap.size W w3) ?reg ?after
    case reg =>
      gi_region_with_o (first
        | (refine ⟨trivial, ?_⟩; gi_at_call 49; refine (CallsIn.inRound l (callsIn_wide.2 (residues_any ao xs cap x.1.1 Wc.drew HCd.out hl hx1 HX.out))).mono ?_; rintro e w1 ⟨⟨a1, k1, rfl, hca, hna⟩, hb1⟩; have HCA := Lib.hid hca; have HNA := Lib.hid hna; clear hca hna; have dx1 := dx.drew.below hb1 (show Bx < Wc.heap.size by omega); have e10 := dx1.c0; have e11 := dx1.c1)
        | (refine ⟨trivial, ?_⟩; gi_at_call 48; refine (CallsIn.inRound l (callsIn_wide.2 (write_ct W.heap.size x.1.1 x.1.2 hx1 hx2 a1 (resid xs x.1.1) k1 w1 (d9.drew.below hb1 (show W.heap.size < Wc.heap.size by omega)) (fun b off hb => Nat.lt_of_lt_of_le (show W.heap.size < Wc.heap.size by omega) (HNA.out b off hb)) HCA.out (by rw [resid_length]; exact hl) (resid_bd HX.out x.1.1 hx1)))).mono ?_; rintro e w3 ⟨rfl, d93, hb3⟩; have dx3 := dx1.below hb3 hlx; have e30 := dx3.c0; have e31 := dx3.c1))
      all_goals exact ⟨rfl, a1, k1, rfl, d93, (hBc.drew.trans (hb1.mono (show W.heap.size ≤ Wc.heap.size by omega))).trans hb3⟩
    case after =>
      rintro e aa w3 ⟨rfl, a1, k1, rfl, d93, hW3⟩
      have q0 := c0.below hW3 c0.lt
      have q1 := c1.below hW3 c1.lt
      have q2 := c2.below hW3 c2.lt
      have q3 := c3.below hW3 c3.lt
      have q5 := cx.below hW3 hlx
      have q30 := q3.c0
      have q90 := d93.c0
      have q50 := q5.c0
      have q51 := q5.c1
      have hB3 : Below w.heap.size w w3 := hB1.trans (hW3.mono hn)
      have hB4 : Below w.heap.size W w3 := hW3.mono hn
      have hK4 : KeepsFrom W0.heap.size W w3 := keepsFrom_below _ hW3
      clear HCw HCd d0 dx d9 hBc hsc d00 e0 e1 q50 q51 q90 q30
      have hst : bestF xs (pre ++ [x]) = if (x.1.1 = 0 ∧ x.1.2 = 0) ∨ cost xs x.1.1 x.1.2 < (bestF xs pre).2 then ((x.1.1, x.1.2), cost xs x.1.1 x.1.2) else bestF xs pre := by
        rw [bestF_snoc, stepB]
        have e0 : (x.1 = (0, 0)) ↔ (x.1.1 = 0 ∧ x.1.2 = 0) := by rw [Prod.ext_iff]
        simp only [e0]
      have HST := Lib.hid hst; clear hst
      have HI : Hid (∀ w4 : World, KeepsFrom W0.heap.size w3 w4 → Below w.heap.size w3 w4 → Blk w4 w.heap.size 25 #[.slice ao xs.length cap] → Blk w4 (w.heap.size + 1) 94 #[.int .i64 0, .int .i64 0] →
          Blk w4 (w.heap.size + 1 + 1) 94 #[.int .i64 ((bestF xs (pre ++ [x])).1.1 : Nat), .int .i64 ((bestF xs (pre ++ [x])).1.2 : Nat)] → Blk w4 (w.heap.size + 1 + 1 + 1) 3 #[.int .i64 ((bestF xs (pre ++ [x])).2 : Nat)] →
          KeepsFrom W0.heap.size W w4 ∧ Below w.heap.size W w4 ∧ (((Blk w4 w.heap.size 25 #[.slice ao xs.length cap] ∧ Blk w4 (w.heap.size + 1) 94 #[.int .i64 0, .int .i64 0]) ∧
      Blk w4 (w.heap.size + 1 + 1) 94 #[.int .i64 ((bestF xs (pre ++ [x])).1.1 : Nat), .int .i64 ((bestF xs (pre ++ [x])).1.2 : Nat)]) ∧ Blk w4 (w.heap.size + 1 + 1 + 1) 3 #[.int .i64 ((bestF xs (pre ++ [x])).2 : Nat)]) ∧ Below w.heap.size w w4) :=
        Lib.hid fun w4 k1 k2 k3 k4 k5 k6 => ⟨hK4.trans k1, hB4.trans k2, ⟨⟨⟨k3, k4⟩, k5⟩, k6⟩, hB3.trans k2⟩
      have n1 : Bx ≠ w.heap.size + 1 + 1 := by omega
      have n2 : Bx ≠ w.heap.size + 1 + 1 + 1 := by omega
      have n3 : W.heap.size ≠ w.heap.size + 1 + 1 := by omega
      have n4 : W.heap.size ≠ w.heap.size + 1 + 1 + 1 := by omega
      have n1' := n1.symm
      have n2' := n2.symm
      have n3' := n3.symm
      have n4' := n4.symm
      clear hK4 hB4 hB3 hB1 hW3 c0 c1 c2 c3 cx hcl hlt hn HC HX hlx hBx hsz
      generalize bestF xs pre = bo at *
      obtain ⟨⟨bo1, bo2⟩, m⟩ := bo
      generalize cost xs x.1.1 x.1.2 = c at *
      generalize (resid xs x.1.1).length = rl at *
      generalize x.1.1 = o at *
      generalize x.1.2 = sh at *
      dsimp only at q2 q3 HST
      have q30 := q3.c0
      have q90 := d93.c0
      have q50 := q5.c0
      have q51 := q5.c1
      have q20 := q2.c0
      have q21 := q2.c1
      have f20 := q2.free 0
      have f21 := q2.free 1
      have f30 := q3.free 0
      rcases Nat.eq_zero_or_pos o with rfl | ho0 <;> rcases Nat.eq_zero_or_pos sh with rfl | hs0 <;> by_cases hcm : c < m
      all_goals gi_wp2
      all_goals first
        | (have hst := HST.out
           rw [if_neg (by omega)] at hst
           exact HI.out w3 (KeepsFrom.refl _ _) (Below.refl _ _) q0 q1 (by rw [hst]; exact q2) (by rw [hst]; exact q3))
        | (have hst := HST.out
           rw [if_pos (by first | omega | simp)] at hst
           replace hst := Lib.hid hst
           refine wpIn_mono (Q := fun e _ w4 => e = .normal ∧ (KeepsFrom W0.heap.size W w4 ∧ Below w.heap.size W w4 ∧ (((Blk w4 w.heap.size 25 #[.slice ao xs.length cap] ∧ Blk w4 (w.heap.size + 1) 94 #[.int .i64 0, .int .i64 0]) ∧
      Blk w4 (w.heap.size + 1 + 1) 94 #[.int .i64 ((bestF xs (pre ++ [x])).1.1 : Nat), .int .i64 ((bestF xs (pre ++ [x])).1.2 : Nat)]) ∧ Blk w4 (w.heap.size + 1 + 1 + 1) 3 #[.int .i64 ((bestF xs (pre ++ [x])).2 : Nat)]) ∧ Below w.heap.size w w4)) ?_ ?_
           · gi_region_with_o fail
             all_goals (have hst := hst.out)
             all_goals exact ⟨rfl, HI.out _ ((((KeepsOthers.drew w3).trans (KeepsOthers.setCell _ _ _)).trans (KeepsOthers.setCell _ _ _)).trans (KeepsOthers.setCell _ _ _) |>.from _)
               (((((Below.refl w.heap.size w3).drew).setCell (p := ⟨w.heap.size + 1 + 1, 0, none⟩) (by simp; omega) _).setCell (p := ⟨w.heap.size + 1 + 1, 1, none⟩) (by simp; omega) _).setCell (p := ⟨w.heap.size + 1 + 1 + 1, 0, none⟩) (by simp; omega) _)
               (((q0.drew.other (by omega) _ _).other (by omega) _ _).other (by omega) _ _)
               (((q1.drew.other (by omega) _ _).other (by omega) _ _).other (by omega) _ _)
               (by rw [hst]; exact ((q2.drew.set0 _).set1 _).other (by omega) _ _)
               (by rw [hst]; exact ((q3.drew.other (by omega) _ _).other (by omega) _ _).set0 _)⟩
           · rintro e aa w4 ⟨rfl, h4⟩
             gi_wp2
             exact h4)
  case done =>
    rintro D zs W hD rfl ⟨⟨⟨⟨c0, c1⟩, c2⟩, c3⟩, hB1⟩ hK
    have d0 := c2.c0
    have d1 := c2.c1
    have f0 := c1.free 0
    have f1 := c1.free 1
    have r0 := c1.c0
    have r1 := c1.c1
    have g1 := (c1.set0 (.int .i64 ((bestF xs (wvs 124)).1.1 : Nat))).set1 (.int .i64 ((bestF xs (wvs 124)).1.2 : Nat))
    have hDn : w.heap.size + 1 ≠ D := by omega
    have hKd : ((W.setCell ⟨w.heap.size + 1, 0, none⟩ (.int .i64 ((bestF xs (wvs 124)).1.1 : Nat))).setCell ⟨w.heap.size + 1, 1, none⟩ (.int .i64 ((bestF xs (wvs 124)).1.2 : Nat))).heap[D]? = some (.deferred (some [])) := by
      rw [Below.heap_setCell _ _ _ _ (by simpa using hDn.symm), Below.heap_setCell _ _ _ _ (by simpa using hDn.symm)]; exact hK
    have hBd : Below w.heap.size w ((W.setCell ⟨w.heap.size + 1, 0, none⟩ (.int .i64 ((bestF xs (wvs 124)).1.1 : Nat))).setCell ⟨w.heap.size + 1, 1, none⟩ (.int .i64 ((bestF xs (wvs 124)).1.2 : Nat))) :=
      (hB1.setCell (p := ⟨w.heap.size + 1, 0, none⟩) (by simp) _).setCell (p := ⟨w.heap.size + 1, 1, none⟩) (by simp) _
    gi_wp2
    generalize ((W.setCell ⟨w.heap.size + 1, 0, none⟩ (.int .i64 ((bestF xs (wvs 124)).1.1 : Nat))).setCell ⟨w.heap.size + 1, 1, none⟩ (.int .i64 ((bestF xs (wvs 124)).1.2 : Nat))) = wd at *
    have g2 : Blk (wd.putObj D (.deferred none)) (w.heap.size + 1) _ _ := g1.kept (grownBy_putObj' _ D (.deferred none)) (by simpa using hDn)
    have s0 := g2.c0
    have s1 := g2.c1
    refine ⟨by simp, .inl ⟨_, _, rfl, run_takeDeferred hKd, ?_⟩⟩
    refine ⟨.agg #[.int .i64 ((bestF xs (wvs 124)).1.1 : Nat), .int .i64 ((bestF xs (wvs 124)).1.2 : Nat)], by simp [results, Tryd.results47, go_sem, s0, s1], rfl, ?_⟩
    exact hBd.trans (belowK_b (w := w) (Nat.le_refl _) wd D _ _ (by omega) hKd rfl rfl)
  case stop =>
    rintro D c pre W _ _ h _
    exact h.elim
end Go.Proofs.YtoochleabcjljaaDoor
