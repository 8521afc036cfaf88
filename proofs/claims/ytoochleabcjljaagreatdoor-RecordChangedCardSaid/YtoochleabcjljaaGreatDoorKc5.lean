/- Parts of a proof, in build order: D5, D7, D8, R2, D6. -/
import Derived.Test.YtoochleabcjljaaGreatDoorKc4
import Derived.Laws.ResultCell

/- Codes: equal bytes; frames of one's own. -/
namespace Go.Proofs.YtoochleabcjljaaGreatDoor
open Go.RowKit

theorem equal_bytes (aa ab : Option Addr) (xs ys : List Nat) (ca cb : Nat) (w : World) (ha : Cells w aa (bys xs)) (hb : Cells w ab (bys ys)) (hl : xs.length ≤ 9223372036854775807) (hl' : ys.length ≤ 9223372036854775807) :
    Calls Tryz.prog 132 #[.slice aa xs.length ca, .slice ab ys.length cb] w fun e w' => e = .returned (.bool (decide (xs = ys))) ∧ Below w.heap.size w w' := by
  by_cases hlen : xs.length = ys.length
  · have h1 : ((xs.length : Int) != ys.length) = false := by simp [hlen]
    have hlt : (ys.length : Int) ≤ xs.length := by omega
    have HL := Lib.hid hlen; clear hlen
    have HA := Lib.hid ha; have HB := Lib.hid hb; clear ha hb
    go_enter Tryz.func132, Tryz.ntmps132
    go_wp2
    go_loopw [13] (fun i wr => ∃ k : Nat, k ≤ xs.length ∧ i = .int .i64 k ∧ xs.take k = ys.take k ∧ Below w.heap.size w wr) (fun i _ => xs.length - (intOf i).toNat)
    case atStart => exact ⟨0, Nat.zero_le _, rfl, rfl, Below.refl _ _⟩
    case round =>
      obtain ⟨k, hk, rfl, heq, hbe⟩ := hrel
      have HQ := Lib.hid heq; clear heq
      by_cases hlt : k < xs.length
      · have hlt2 : k < ys.length := by have := HL.out; omega
        obtain ⟨x, hx⟩ := get_of_lt hlt
        obtain ⟨y, hy⟩ := get_of_lt hlt2
        obtain ⟨b, off, rfl⟩ := HA.out.addr (bys_ne (by omega))
        obtain ⟨b2, off2, rfl⟩ := HB.out.addr (bys_ne (by omega))
        have c1 := cell_keep (HA.out.at (bys_get hx)) hbe (Nat.le_refl _)
        have c2 := cell_keep (HB.out.at (bys_get hy)) hbe (Nat.le_refl _)
        have i1 : (k : Int) < xs.length := by omega
        have i2 : (k : Int) < ys.length := by omega
        have i3 : (0 : Int) ≤ k := by omega
        by_cases hxy : x = y
        · obtain rfl := hxy
          have ht : xs.take (k + 1) = ys.take (k + 1) := by rw [take_get hx, take_get hy, HQ.out]
          have HT := Lib.hid ht; clear ht hx hy
          go_wp2
          go_quiet (fail)
          go_wp2
          go_roundw
          case rel => exact ⟨k + 1, by omega, by go_num, HT.out, bel_drewN hbe _⟩
          case measure => simp [intOf]; omega
        · have hne : decide (xs = ys) = false := by
            rw [decide_eq_false_iff_not]; rintro rfl
            rw [hx] at hy; simp at hy; exact hxy hy
          have HNE := Lib.hid hne; clear hne hx hy
          have hb1 : ((x : Int) == y) = false := by rw [beq_eq_false_iff_ne]; omega
          have hb2 : ((x : Int) != y) = true := by rw [bne_iff_ne]; omega
          go_wp2
          go_quiet (fail)
          go_wp2
          go_ret
          exact ⟨ret_bool HNE.out.symm, bel_drewN hbe _⟩
      · obtain rfl : k = xs.length := by omega
        have he : decide (xs = ys) = true := by
          rw [decide_eq_true_iff]
          have := HQ.out
          rw [List.take_length, HL.out, List.take_length] at this; exact this
        have HE := Lib.hid he; clear he
        go_wp2
        go_ret
        exact ⟨ret_bool HE.out.symm, hbe⟩
  · have h1 : ((xs.length : Int) != ys.length) = true := by simp; omega
    have he : decide (xs = ys) = false := by
      rw [decide_eq_false_iff_not]; rintro rfl; exact hlen rfl
    have HE := Lib.hid he; clear he
    go_enter Tryz.func132, Tryz.ntmps132
    go_wp2
    go_ret
    exact ⟨ret_bool HE.out.symm, Below.refl _ _⟩

theorem Tryz.infoInts : (Tryz.prog.info? 22).map (fun i => (i.zero, i.size, i.bytes)) = some (some (.slice none 0 0), 1, 24) := by kernel_rfl
/-- rows of different types lie apart -/
theorem own_own_ne {w : World} {b b' : Nat} {T e : TypeId} {s s' n n' : Nat} {v v' : Value} {xs xs' : List Value} (h : w.ownsRow b T s v n xs) (ho : w.ownsRow b' e s' v' n' xs') (hT : T ≠ e) : v.ownBlock = none ∨ v.ownBlock ≠ v'.ownBlock := by
  rcases h.2 with ⟨rfl, _⟩ | ⟨g, cap, cur, rfl, _, hg, _⟩
  · exact .inl rfl
  · refine .inr fun e' => ?_
    have hb : Blk w g T cur := hg
    exact blk_own_ne hb ho hT (by rw [← e']; rfl)
/-- the rows of a frame, all of one's own -/
def FrO (base : Nat) (w : World) (v : Value) (xss : List (List Int)) : Prop :=
  ∃ vs, vs.length = xss.length ∧ w.ownsRow base 22 1 v xss.length vs ∧ ∀ (i : Nat) x xs, vs[i]? = some x → xss[i]? = some xs → w.ownsRow base 3 1 x xs.length (xs.map (Value.int .i64))
theorem FrO.kept {base : Nat} {w w' : World} {v : Value} {xss : List (List Int)} {row : Option Nat} (h : FrO base w v xss) (hg : w.grownBy w' row) (hr : ∀ k, row = some k → base ≤ k → ∀ cs T, w.heap[k]? = some (.cells cs T (0, 0)) → T ≠ 3 ∧ T ≠ 22) : FrO base w' v xss := by
  have key : ∀ (T : TypeId) (s n : Nat) (v : Value) (xs : List Value), (T = 3 ∨ T = 22) → w.ownsRow base T s v n xs → w'.ownsRow base T s v n xs := by
    intro T s n v xs hT ho
    refine ho.kept hg ?_
    rcases ho.2 with ⟨rfl, _⟩ | ⟨g, cap, cur, rfl, hb, hgg, _⟩
    · exact .inl rfl
    · refine .inr fun e => ?_
      have := hr g e.symm hb cur T hgg
      rcases hT with h | h
      · exact this.1 h
      · exact this.2 h
  obtain ⟨vs, h1, h2, h3⟩ := h
  exact ⟨vs, h1, key _ _ _ _ _ (.inr rfl) h2, fun i x xs hx hxs => key _ _ _ _ _ (.inl rfl) (h3 i x xs hx hxs)⟩
theorem FrO.below {base : Nat} {w w' : World} {v : Value} {xss : List (List Int)} (h : FrO base w v xss) (hb : Below w.heap.size w w') : FrO base w' v xss := by
  refine h.kept (row := none) ⟨hb.os, hb.tape, hb.output, hb.size, fun k hk _ => hb.block k hk⟩ (fun k e => by simp at e)
theorem FrO.base {base base' : Nat} {w : World} {v : Value} {xss : List (List Int)} (h : FrO base w v xss) (hb : base' ≤ base) : FrO base' w v xss := by
  obtain ⟨vs, h1, h2, h3⟩ := h
  exact ⟨vs, h1, own_base h2 hb, fun i x xs hx hxs => own_base (h3 i x xs hx hxs) hb⟩
theorem FrO.nil (base : Nat) (w : World) : FrO base w (.slice none 0 0) [] := ⟨[], rfl, World.ownsRow_nil _ _ _ _, fun i x xs hx => by simp at hx⟩
theorem FrO.cells {base : Nat} {w : World} {v : Value} {xss : List (List Int)} (h : FrO base w v xss) : ∃ a c vs, v = .slice a xss.length c ∧ Cells w a vs ∧ RowsV w vs xss ∧ xss.length ≤ 9223372036854775807 := by
  obtain ⟨vs, h1, h2, h3⟩ := h
  obtain ⟨a, c, rfl, hc, hn, hm⟩ := own_cap h2
  have hmx : maxLen = 9223372036854775807 := rfl
  refine ⟨a, c, vs, rfl, hc, ⟨h1, fun i x xs hx hxs => ?_⟩, by omega⟩
  obtain ⟨a', c', rfl, hc', hn', hm'⟩ := own_cap (h3 i x xs hx hxs)
  exact ⟨a', c', rfl, hc', by omega⟩
theorem RdS.blk {B bR : Nat} {l r : List Nat} {w : World} (h : RdS B bR l w r) : ∃ cs, Blk w bR 180 cs := by
  obtain ⟨_, a, cap, at_, _, _, h3, _⟩ := h; exact ⟨_, h3⟩
theorem FrO.kept_blk {base : Nat} {w w' : World} {v : Value} {xss : List (List Int)} {b : Nat} {T : TypeId} {cs : Array Value} (h : FrO base w v xss) (hg : w.grownBy w' (some b)) (hb : Blk w b T cs) (h1 : T ≠ 3) (h2 : T ≠ 22) : FrO base w' v xss := by
  refine h.kept hg (fun k e _ cs' T' hk => ?_)
  obtain rfl : b = k := by simpa using e
  have hbb : w.heap[b]? = _ := hb
  rw [hbb] at hk
  simp at hk
  exact ⟨by rw [← hk.2]; exact h1, by rw [← hk.2]; exact h2⟩
/-- one row more -/
theorem FrO.snoc {base : Nat} {w w' : World} {v v' x : Value} {xss : List (List Int)} {xs : List Int} {vs : List Value} (h1 : vs.length = xss.length) (h3 : ∀ (i : Nat) x xs, vs[i]? = some x → xss[i]? = some xs → w.ownsRow base 3 1 x xs.length (xs.map (Value.int .i64))) (h2 : w.ownsRow base 22 1 v xss.length vs) (hx : w.ownsRow base 3 1 x xs.length (xs.map (Value.int .i64)))
    (hg : w.grownBy w' v.ownBlock) (ho : w'.ownsRow base 22 1 v' (xss.length + 1) (vs ++ [x])) : FrO base w' v' (xss ++ [xs]) := by
  refine ⟨vs ++ [x], by simp [h1], by simpa using ho, fun i y ys hy hys => ?_⟩
  have key : ∀ (y : Value) (ys : List Int), w.ownsRow base 3 1 y ys.length (ys.map (Value.int .i64)) → w'.ownsRow base 3 1 y ys.length (ys.map (Value.int .i64)) := fun y ys hh => hh.kept hg (own_own_ne hh h2 (by decide))
  rcases Nat.lt_trichotomy i xss.length with hi | hi | hi
  · rw [List.getElem?_append_left (by omega)] at hy hys
    exact key _ _ (h3 i y ys hy hys)
  · subst hi
    rw [← h1, List.getElem?_append_right (Nat.le_refl _), Nat.sub_self] at hy
    rw [List.getElem?_append_right (Nat.le_refl _), Nat.sub_self] at hys
    simp at hy hys
    subst hy; subst hys
    exact key _ _ hx
  · rw [List.getElem?_eq_none (by simp; omega)] at hys
    contradiction
end Go.Proofs.YtoochleabcjljaaGreatDoor

/- Codes: the frame with whose code bytes begin. -/
namespace Go.Proofs.YtoochleabcjljaaGreatDoor
open Go.RowKit

/-- what first returns -/
def FirstRes (base : Nat) (ac : Option Addr) (res : Option ((Int × List (List Int)) × Nat)) (e : Ending) (w' : World) : Prop := match res with
  | some p => ∃ v cc, e = .returned (.tuple #[.agg #[.int .i64 p.1.1, v], .slice ac p.2 cc, .bool true]) ∧ FrO base w' v p.1.2
  | none => e = .returned (.tuple #[.agg #[.int .i64 0, .slice none 0 0], .slice none 0 0, .bool false])
theorem firstR_none {bs : List Chan} {l : List Nat} (h : ¬ (7 ≤ l.length ∧ l.getD 0 0 = 165 ∧ l.getD 1 0 = 90 ∧ endR l ≤ l.length)) : firstR bs l = none := by unfold firstR; rw [if_neg h]
theorem getD_of {l : List Nat} {i d : Nat} (h : l[i]? = some d) : l.getD i 0 = d := by rw [List.getD_eq_getElem?_getD, h]; rfl

theorem results_cell2 {P : Program} {fn : Func} {p u v : Tmp} {ty : TypeId} (h : fn.results = #[.cell p ty, .tmp u, .tmp v]) (tmps : Array Value) (w : World) :
    (results fn tmps).run P w = ((asAddr (tmps.getD p undef)).run P w).andThen fun a w₁ => ((loadVar ty a).run P w₁).andThen fun x w₂ => .ok (.tuple #[x, tmps.getD u undef, tmps.getD v undef]) w₂ := by
  simp only [results, h]
  simp [Sem.run_bind, Result.andThen]

set_option maxRecDepth 100000 in
set_option maxHeartbeats 4000000 in
theorem first_code (ao : Option Addr) (bs : List Chan) (cap : Nat) (ac : Option Addr) (l : List Nat) (cc : Nat) (w : World) (hb : BookIn w ao bs cap) (hok : bookOK bs = true) (hc : Cells w ac (bys l)) (hd : ∀ d ∈ l, d < 256) (hl : l.length ≤ 1099511627776) (hcap : l.length ≤ cc) (hcap2 : cc ≤ 9223372036854775807) :
    Calls Tryz.prog 82 #[.slice ao bs.length cap, .slice ac l.length cc] w fun e w' => FirstRes w.heap.size ac (firstR bs l) e w' ∧ Below w.heap.size w w' := by
  have hbw := (Below.refl w.heap.size w).alloc (Nat.le_refl _) (.cells #[.int .i64 0, .slice none 0 0] 43)
  by_cases h7 : 7 ≤ l.length
  · obtain ⟨d0, hd0⟩ := get_of_lt (show 0 < l.length by omega)
    obtain ⟨d1, hd1⟩ := get_of_lt (show 1 < l.length by omega)
    obtain ⟨d2, hd2⟩ := get_of_lt (show 2 < l.length by omega)
    obtain ⟨d3, hd3⟩ := get_of_lt (show 3 < l.length by omega)
    obtain ⟨b, off, rfl⟩ := hc.addr (bys_ne (by omega))
    have c0 := cell_keep (hc.at (bys_get hd0)) hbw (Nat.le_refl _)
    rw [Nat.add_zero] at c0
    have c1 := cell_keep (hc.at (bys_get hd1)) hbw (Nat.le_refl _)
    have c2 := cell_keep (hc.at (bys_get hd2)) hbw (Nat.le_refl _)
    have c3 := cell_keep (hc.at (bys_get hd3)) hbw (Nat.le_refl _)
    have e2 := hd d2 (List.mem_of_getElem? hd2)
    have e3 := hd d3 (List.mem_of_getElem? hd3)
    have i0 : (0 : Int) < l.length := by omega
    have i1 : (1 : Int) < l.length := by omega
    have i2 : (2 : Int) < l.length := by omega
    have i3 : (3 : Int) < l.length := by omega
    have h7i : ¬ (l.length : Int) < 7 := by omega
    by_cases h0 : d0 = 165
    · subst h0
      by_cases h1 : d1 = 90
      · subst h1
        have hen : endR l = 4 + d2 * 256 + d3 + 3 := by unfold endR; rw [getD_of hd2, getD_of hd3]
        have w2 : wrap64 (d2 : Int) = d2 := by simp only [wrap64]; omega
        have w3 : wrap64 (d3 : Int) = d3 := by simp only [wrap64]; omega
        by_cases hend : endR l ≤ l.length
        · have HC := Lib.hid hc; have HB := Lib.hid hb; have HD := Lib.hid hd; have HOK := Lib.hid hok
          obtain ⟨en, hen2⟩ : ∃ en, en = endR l := ⟨_, rfl⟩
          have hbs16 : bs.length ≤ 16 ∧ 1 ≤ bs.length := by
            have := hok
            simp only [bookOK, inB, Bool.and_eq_true, decide_eq_true_eq] at this
            omega
          obtain ⟨hbs16, hbs1⟩ := hbs16
          have HCND : Hid (7 ≤ l.length ∧ l.getD 0 0 = 165 ∧ l.getD 1 0 = 90 ∧ endR l ≤ l.length) := Lib.hid ⟨h7, getD_of hd0, getD_of hd1, hend⟩
          rw [← hen2] at hen hend
          have hEN : (4 : Int) + (d2 : Int) * 256 + d3 + 3 = (en : Int) := by omega
          have hlt : ¬ (l.length : Int) < 4 + (d2 : Int) * 256 + d3 + 3 := by omega
          have hle7 : 7 ≤ en := by omega
          have HE2 := Lib.hid hen2
          have HEN := Lib.hid hEN
          clear hEN
          have hbd := bel_drewN hbw
          clear hc hb hd hok hen2
          have HEN3 := Lib.hid hen
          clear hen
          by_cases h77 : en = 7
          · subst h77
            have hr7 : rowsR bs l = none := by
              have h1 : (l.take (7 - 3)).drop 4 = [] := by
                apply List.eq_nil_of_length_eq_zero
                rw [List.length_drop, List.length_take]; omega
              unfold rowsR
              rw [← HE2.out, h1]; rfl
            have hn : firstR bs l = none := by
              unfold firstR; rw [if_pos HCND.out, hr7]
            have HN := Lib.hid hn
            obtain ⟨c, hx⟩ := get_of_lt (show 0 < bs.length by omega)
            obtain ⟨bb, bo, rfl⟩ := HB.out.cells.addr (chs_ne (by omega))
            have hi0 : (0 : Int) < bs.length := by omega
            have HX := Lib.hid hx
            clear hr7 hn hx
            go_enter Tryz.func82, Tryz.ntmps82
            go_wp2_with fail
            go_quiet (fail)
            have k1 : ¬ (l.length : Int) < (7 : Int) := by omega
            have k2 : (7 : Int) ≤ cc := by omega
            have k3 : 7 ≤ cc := by omega
            rw [HEN.out]
            clear HEN hlt w2 w3 c0 c1 c2 c3 hd0 hd1 hd2 hd3
            go_wp2_with fail
            have hblt : b < w.heap.size := by
              have h1 := HC.out.at (bys_get (get_of_lt (show 0 < l.length by omega)).choose_spec)
              have h2 := World.block_lt_of_cell? w _ h1
              simpa using h2
            have hw1 := (bel_drewN hbw nq).alloc (by simp) (.cells #[.slice (some ⟨b, off, none⟩) 0 0, .int .i64 0] 180)
            have hbx1 : Blk (((w.alloc (.cells #[.int .i64 0, .slice none 0 0] 43)).drewN nq).alloc (.cells #[.slice (some ⟨b, off, none⟩) 0 0, .int .i64 0] 180)) w.heap.size 43 #[.int .i64 0, .slice none 0 0] := Blk.alloc (W := (w.alloc (.cells #[.int .i64 0, .slice none 0 0] 43)).drewN nq) (Blk.new w 43 #[.int .i64 0, .slice none 0 0]) _
            have hrd1 : RdS w.heap.size (w.heap.size + 1) [] (((w.alloc (.cells #[.int .i64 0, .slice none 0 0] 43)).drewN nq).alloc (.cells #[.slice (some ⟨b, off, none⟩) 0 0, .int .i64 0] 180)) [] := by
              refine ⟨by omega, some ⟨b, off, none⟩, 0, 0, Nat.zero_le _, rfl, ?_, Cells.nil _ _, fun b' off' e => by simp at e; omega⟩
              have h1 := World.alloc_heap_new ((w.alloc (.cells #[.int .i64 0, .slice none 0 0] 43)).drewN nq) (.cells #[.slice (some ⟨b, off, none⟩) 0 0, .int .i64 0] 180)
              have h2 : ((w.alloc (.cells #[.int .i64 0, .slice none 0 0] 43)).drewN nq).heap.size = w.heap.size + 1 := by simp
              rw [h2] at h1
              exact h1
            generalize ((w.alloc (.cells #[.int .i64 0, .slice none 0 0] 43)).drewN nq).alloc (.cells #[.slice (some ⟨b, off, none⟩) 0 0, .int .i64 0] 180) = W1 at *
            refine (reader_take w.heap.size (w.heap.size + 1) [] [] 32 W1 hrd1 (by simp) (by simp) (by omega)).mono ?_
            rintro e w2 ⟨rfl, hs2, hg2⟩
            have ht0 : takeR [] 32 = ((0, false), []) := rfl
            rw [ht0]
            have hbx2 := hbx1.kept hg2 (by simp)
            have hb2 : Below w.heap.size w w2 := hw1.grown hg2 (by have := hw1.size; omega) (fun k e => by simp at e; omega)
            have hz2 := hb2.size
            have hb3 := hb2.alloc hz2 (.cells #[.int .i64 0, .slice none 0 0] 43)
            have hb4 := hb3.alloc (by simp; omega) (.cells #[.string c.name, .int .i64 c.rate, .int .i64 c.bits] 106)
            have hbx4 := (hbx2.alloc (.cells #[.int .i64 0, .slice none 0 0] 43)).alloc (.cells #[.string c.name, .int .i64 c.rate, .int .i64 c.bits] 106)
            obtain ⟨g0, g1, g2⟩ := chs_get HX.out
            have c0 := cell_keep (HB.out.cells.at g0) hb3 (Nat.le_refl _)
            have c1 := cell_keep (HB.out.cells.at g1) hb3 (Nat.le_refl _)
            have c2 := cell_keep (HB.out.cells.at g2) hb3 (Nat.le_refl _)
            rw [← Nat.add_assoc] at c1 c2
            simp only [Nat.zero_mul, Nat.add_zero] at c0 c1 c2
            have x0 := hbx4.c0
            have x1 := hbx4.c1
            have y0 := hbx4.free 0
            have y1 := hbx4.free 1
            clear hs2 hg2 hw1 hbx1 hrd1 hbd hbw g0 g1 g2 hbx2 ht0
            go_wp2_with fail
            refine wp_loop_rounds 1 ?_
            rw [rounds_succ]
            go_wp2_with fail
            (try simp only [Exit.inBlock, Exit.then])
            refine bodyPost_ret (v := .tuple #[.agg #[.int .i64 0, .slice none 0 0], .slice none 0 0, .bool false]) (by rw [results_cell2 rfl]; go_simp) rfl ⟨by rw [HN.out]; exact rfl, ?_⟩
            exact (hb4.setCell (p := ⟨w.heap.size, 0, none⟩) (Nat.le_refl _) _).setCell (p := ⟨w.heap.size, 1, none⟩) (Nat.le_refl _) _
          · go_enter Tryz.func82, Tryz.ntmps82
            go_wp2_with fail
            go_quiet (fail)
            have k1 : ¬ (l.length : Int) < (en : Int) := by omega
            have k2 : (en : Int) ≤ cc := by omega
            have k3 : IntKind.i64.wrap ((en : Int) - 3) = (en : Int) - 3 := IntWalk.i64_in _ (by omega)
            have k4 : (4 : Int) ≤ (en : Int) - 3 := by omega
            have k5 : (en : Int) - 3 ≤ en := by omega
            have k6 : (0 : Int) ≤ (en : Int) - 3 := by omega
            have k7 : ((en : Int) - 3).toNat = en - 3 := by omega
            have k8 : ¬ (en - 3 - 4 = 0) := by omega
            have k9 : ¬ (en ≤ 7) := by omega
            rw [HEN.out]
            clear HEN hlt w2 w3 c0 c1 c2 c3 hd0 hd1 hd2 hd3
            go_wp2_with fail
            have hblt : b < w.heap.size := by
              have h1 := HC.out.at (bys_get (get_of_lt (show 0 < l.length by omega)).choose_spec)
              have h2 := World.block_lt_of_cell? w _ h1
              simpa using h2
            obtain ⟨body, hbody⟩ : ∃ body, body = (l.take (en - 3)).drop 4 := ⟨_, rfl⟩
            have hbl : body.length = en - 3 - 4 := by rw [hbody, List.length_drop, List.length_take]; omega
            have hcb : Cells w (some ⟨b, off + 4, none⟩) (bys body) := by
              refine .inr ⟨b, off + 4, rfl, fun j u hu => ?_⟩
              have h1 : (bys l)[4 + j]? = some u := by
                rw [← hu, hbody, bys, bys, List.map_drop, List.map_take, List.getElem?_drop, List.getElem?_take, if_pos]
                have := (List.getElem?_eq_some_iff.1 hu).1
                rw [bys_length] at this; omega
              have h2 := HC.out.at h1
              rwa [← Nat.add_assoc] at h2
            have hbd256 : ∀ d ∈ body, d < 256 := fun d hd => HD.out d (List.mem_of_mem_take (List.mem_of_mem_drop (by rw [← hbody]; exact hd)))
            have hw1 := (bel_drewN hbw nq).alloc (by simp) (.cells #[.slice (some ⟨b, off + 4, none⟩) (en - 3 - 4) (en - 3 - 4), .int .i64 0] 180)
            have hbx1 : Blk (((w.alloc (.cells #[.int .i64 0, .slice none 0 0] 43)).drewN nq).alloc (.cells #[.slice (some ⟨b, off + 4, none⟩) (en - 3 - 4) (en - 3 - 4), .int .i64 0] 180)) w.heap.size 43 #[.int .i64 0, .slice none 0 0] := Blk.alloc (W := (w.alloc (.cells #[.int .i64 0, .slice none 0 0] 43)).drewN nq) (Blk.new w 43 #[.int .i64 0, .slice none 0 0]) _
            have hrd1 : RdS w.heap.size (w.heap.size + 1) body (((w.alloc (.cells #[.int .i64 0, .slice none 0 0] 43)).drewN nq).alloc (.cells #[.slice (some ⟨b, off + 4, none⟩) (en - 3 - 4) (en - 3 - 4), .int .i64 0] 180)) (unB body) := by
              refine ⟨by omega, some ⟨b, off + 4, none⟩, en - 3 - 4, 0, Nat.zero_le _, rfl, ?_, hcb.below hw1 (Nat.le_refl _), fun b' off' e => by simp at e; omega⟩
              have h1 := World.alloc_heap_new ((w.alloc (.cells #[.int .i64 0, .slice none 0 0] 43)).drewN nq) (.cells #[.slice (some ⟨b, off + 4, none⟩) (en - 3 - 4) (en - 3 - 4), .int .i64 0] 180)
              have h2 : ((w.alloc (.cells #[.int .i64 0, .slice none 0 0] 43)).drewN nq).heap.size = w.heap.size + 1 := by simp
              rw [h2] at h1
              rw [hbl]; exact h1
            have hz1 : (((w.alloc (.cells #[.int .i64 0, .slice none 0 0] 43)).drewN nq).alloc (.cells #[.slice (some ⟨b, off + 4, none⟩) (en - 3 - 4) (en - 3 - 4), .int .i64 0] 180)).heap.size = w.heap.size + 2 := by simp
            generalize ((w.alloc (.cells #[.int .i64 0, .slice none 0 0] 43)).drewN nq).alloc (.cells #[.slice (some ⟨b, off + 4, none⟩) (en - 3 - 4) (en - 3 - 4), .int .i64 0] 180) = W1 at *
            have htk := reader_take w.heap.size (w.heap.size + 1) body (unB body) 32 W1 hrd1 hbd256 (by omega) (by omega)
            have hrow : rowsR bs l = if (takeR (unB body) 32).1.2 then chR bs (takeR (unB body) 32).2 [] else none := by rw [rowsR, ← HE2.out, ← hbody]
            have hsta : startR l = (takeR (unB body) 32).1.1 := by rw [startR, ← HE2.out, ← hbody]
            have hfst : firstR bs l = match rowsR bs l with | none => none | some xss => if frOK bs (startR l : Nat) xss && decide (encB (startR l : Nat) xss = l.take en) then some (((startR l : Nat), xss), en) else none := by
              unfold firstR; rw [if_pos HCND.out, HE2.out]; cases rowsR bs l <;> rfl
            have hb32 := takeR_bd hrd1.bits 32
            obtain ⟨hst32, -⟩ := hb32
            rw [hsta] at hfst
            have HTK := Lib.hid htk; have HROW := Lib.hid hrow; have HFST := Lib.hid hfst
            have HW1 := Lib.hid hw1; have HBX1 := Lib.hid hbx1; have HBD := Lib.hid hbd256
            clear htk hrow hfst hw1 hbx1 hbd256 hrd1 hcb hbody hsta
            generalize takeR (unB body) 32 = T at *
            obtain ⟨⟨st, ok⟩, r1⟩ := T
            simp only at HROW HFST hst32
            generalize rowsR bs l = rows at *
            clear hbd hbw HE2 HEN3 HCND
            refine HTK.out.mono ?_
            rintro e w2 ⟨rfl, hs2, hg2⟩
            have hbx2 := HBX1.out.kept hg2 (by simp)
            have hb2 : Below w.heap.size w w2 := HW1.out.grown hg2 (by omega) (fun k e => by simp at e; omega)
            have hz2 := hg2.size
            have HS2 := Lib.hid hs2
            clear hg2 hs2 HTK HBX1 HW1
            go_wp2_with fail
            have hbx3 := hbx2.alloc (.cells #[.int .i64 st, .slice none 0 0] 43)
            have hf3 := Blk.new w2 43 #[.int .i64 (st : Nat), .slice none 0 0]
            have hb3 := hb2.alloc (by omega) (.cells #[.int .i64 st, .slice none 0 0] 43)
            have hz3 : (w2.alloc (.cells #[.int .i64 (st : Nat), .slice none 0 0] 43)).heap.size = w2.heap.size + 1 := by simp
            have hst3 : (ok = true ∧ ∃ (s : List Nat) (acc : List (List Int)) (v : Value), RdS w.heap.size (w.heap.size + 1) body (w2.alloc (.cells #[.int .i64 (st : Nat), .slice none 0 0] 43)) s ∧ Blk (w2.alloc (.cells #[.int .i64 (st : Nat), .slice none 0 0] 43)) w2.heap.size 43 #[.int .i64 (st : Nat), v] ∧ FrO w.heap.size (w2.alloc (.cells #[.int .i64 (st : Nat), .slice none 0 0] 43)) v acc ∧ acc.length = 0 ∧ chR (bs.drop 0) s acc = rows) ∨ (ok = false ∧ rows = none) := by
              cases ok with
              | true => exact .inl ⟨rfl, r1, [], .slice none 0 0, HS2.out.kept (World.grownBy_alloc w2 _ none) (fun k e => by simp at e), hf3, FrO.nil _ _, rfl, by rw [List.drop_zero, HROW.out, if_pos rfl]⟩
              | false => exact .inr ⟨rfl, by rw [HROW.out, if_neg (by simp)]⟩
            have HST3 := Lib.hid hst3; have HBX3 := Lib.hid hbx3; have HB3 := Lib.hid hb3
            clear hst3 hbx3 hf3 hb3 hbx2 hb2 HS2 HROW
            go_loopw [11, 70] (fun okv i wr => ∃ k : Nat, k ≤ bs.length ∧ i = .int .i64 k ∧ Blk wr w.heap.size 43 #[.int .i64 0, .slice none 0 0] ∧ Below w.heap.size w wr ∧ w2.heap.size < wr.heap.size ∧
              ((okv = .bool true ∧ ∃ (s : List Nat) (acc : List (List Int)) (v : Value), RdS w.heap.size (w.heap.size + 1) body wr s ∧ Blk wr w2.heap.size 43 #[.int .i64 (st : Nat), v] ∧ FrO w.heap.size wr v acc ∧ acc.length = k ∧ chR (bs.drop k) s acc = rows) ∨ (okv = .bool false ∧ rows = none))) (fun _ i _ => bs.length - (intOf i).toNat)
            case atStart =>
              refine ⟨0, Nat.zero_le _, rfl, HBX3.out, HB3.out, by omega, ?_⟩
              rcases HST3.out with ⟨rfl, h⟩ | ⟨rfl, h⟩
              · exact .inl ⟨rfl, h⟩
              · exact .inr ⟨rfl, h⟩
            case round =>
              clear HST3 HBX3 HB3 hz3
              obtain ⟨k, hk, rfl, hbx, hbe, hzr, hcase⟩ := hrel
              rcases hcase with ⟨rfl, s, acc, v, hrd, hf, hfo, hal, hch⟩ | ⟨rfl, hno⟩
              · by_cases hlt : k < bs.length
                · obtain ⟨c, hx⟩ := get_of_lt hlt
                  obtain ⟨bb, bo, rfl⟩ := HB.out.cells.addr (chs_ne (by omega))
                  obtain ⟨g0, g1, g2⟩ := chs_get hx
                  have c0 := cell_keep (HB.out.cells.at g0) hbe (Nat.le_refl _)
                  have c1 := cell_keep (HB.out.cells.at g1) hbe (Nat.le_refl _)
                  have c2 := cell_keep (HB.out.cells.at g2) hbe (Nat.le_refl _)
                  rw [← Nat.add_assoc] at c1 c2
                  obtain ⟨q1, q2, -, -⟩ := book_get HOK.out hx
                  obtain ⟨m, hm⟩ := Int.eq_ofNat_of_zero_le (show 0 ≤ c.rate by omega)
                  have hch2 : chR (bs.drop k) s acc = match readR m s with | some (x, r') => chR (bs.drop (k + 1)) r' (acc ++ [x]) | none => none := by
                    rw [List.drop_eq_getElem_cons hlt, (List.getElem?_eq_some_iff.1 hx).2, chR, hm, Int.toNat_natCast]
                    cases readR m s <;> rfl
                  have hi1 : (k : Int) < bs.length := by omega
                  rw [hm] at c1 q1 q2
                  have hwa := World.grownBy_alloc wr (.cells #[.string c.name, .int .i64 (m : Nat), .int .i64 c.bits] 106)
                  have hra := read_any w.heap.size (w.heap.size + 1) body s m _ (hrd.kept (hwa none) (fun k e => by simp at e)) HBD.out (by omega) (by omega)
                  obtain ⟨crd, hcrd⟩ := hrd.blk
                  have HCRD := Lib.hid hcrd
                  have HRA := Lib.hid hra; have HF := Lib.hid hf; have HFO := Lib.hid hfo; have HBX := Lib.hid hbx; have HCH := Lib.hid (hch2.symm.trans hch); have HWA := Lib.hid hwa; have HX := Lib.hid hx
                  clear hra hf hfo hbx hch hch2 hwa hx hrd g0 g1 g2 hm hcrd
                  go_wp2_with fail
                  refine HRA.out.mono ?_
                  rintro e w4 ⟨hres, hg4⟩
                  have hg5 : wr.grownBy w4 (some (w.heap.size + 1)) := (HWA.out _).trans hg4
                  have hbx4 := HBX.out.kept hg5 (by simp)
                  have hf4 := HF.out.kept hg5 (by simp; omega)
                  have hfo4 := HFO.out.kept_blk hg5 HCRD.out (by decide) (by decide)
                  have hbe4 := hbe.grown hg5 (by omega) (fun k e => by simp at e; omega)
                  have hz4 := hg5.size
                  obtain ⟨vs, hvl, hov, hrs⟩ := hfo4
                  obtain ⟨i0, hi, hy0, hy1, hy2⟩ := info_parts Tryz.infoInts
                  have z1 := hf4.c1
                  have z2 := hf4.free 1
                  have HF4 := Lib.hid hf4; have HBX4 := Lib.hid hbx4; have HOV := Lib.hid hov; have HRS := Lib.hid hrs; have HVL := Lib.hid hvl
                  clear hbx4 hf4 hov hrs HF HFO HBX HRA hg5 hg4 HWA hbe hvl
                  cases hR : readR m s with
                  | none =>
                    rw [hR] at hres
                    obtain rfl : e = .returned (.tuple #[.slice none 0 0, .bool false]) := hres
                    have hch := HCH.out
                    rw [hR] at hch
                    have HN := Lib.hid hch.symm
                    clear hch
                    go_wp2_with (at_builtin; refine wpList_append_lies _ rfl _ _ _ rfl w.heap.size 22 i0 (.slice none 0 0) 1 24 Tryz.underlying41 hi hy0 hy1 hy2 rfl (by decide) v acc.length vs rfl (HOV.out.alloc _) ⟨w4.heap.size, 0, none⟩ 1 1 [.slice none 0 0] rfl rfl (news1 _ _ _) (by simp [Value.oneCell']) (by omega) (by unfold maxLen; omega) (by omega) (by simp; omega) (w4.heap.size + 1) (by simp) ?_)
                    intro g1 cg1 w5 hown5 hgrow hat hlt1
                    have hf5 := (HF4.out.alloc (.cells #[.slice none 0 0] 22)).kept hgrow (fun e => blk_own_ne HF4.out HOV.out (by decide) e.symm)
                    have hbx5 := (HBX4.out.alloc (.cells #[.slice none 0 0] 22)).kept hgrow (fun e => blk_own_ne HBX4.out HOV.out (by decide) e.symm)
                    have hbe5 := (hbe4.alloc (by omega) (.cells #[.slice none 0 0] 22)).grown hgrow (by simp; omega) (fun j e => (HOV.out.lt j e).1)
                    have hz5 : w2.heap.size < w5.heap.size := by have := hgrow.size; simp at this; omega
                    have y1 := hf5.c1
                    have y2 := hf5.free 1
                    have hbx6 := hbx5.other (B' := w2.heap.size) (by omega) 1 (.slice (some ⟨g1, 0, none⟩) (k + 1) cg1)
                    have hbe6 := hbe5.setCell (p := ⟨w2.heap.size, 1, none⟩) (by simp; omega) (.slice (some ⟨g1, 0, none⟩) (k + 1) cg1)
                    have HBX6 := Lib.hid hbx6
                    clear hf5 hbx5 hgrow hown5 hat hlt1 hbx6 z1 z2 hbe4 hbe5
                    go_wp2
                    go_roundw
                    case rel => exact ⟨k + 1, by omega, by go_num, HBX6.out, hbe6, by simpa using hz5, .inr ⟨rfl, HN.out⟩⟩
                    case measure => simp [intOf]; omega
                  | some p =>
                    obtain ⟨xs, r'⟩ := p
                    rw [hR] at hres
                    obtain ⟨⟨x, rfl, hox⟩, hs4⟩ := hres
                    have hch := HCH.out
                    rw [hR] at hch
                    have HCH2 := Lib.hid hch
                    have HOX := Lib.hid (own_base hox (show w.heap.size ≤ (wr.alloc (.cells #[.string c.name, .int .i64 (m : Nat), .int .i64 c.bits] 106)).heap.size by simp; omega))
                    have HS4 := Lib.hid hs4
                    clear hch hox hs4
                    obtain ⟨xa, xc, rfl, -⟩ := own_cells HOX.out
                    go_wp2_with (at_builtin; refine wpList_append_lies _ rfl _ _ _ rfl w.heap.size 22 i0 (.slice none 0 0) 1 24 Tryz.underlying41 hi hy0 hy1 hy2 rfl (by decide) v acc.length vs rfl (HOV.out.alloc _) ⟨w4.heap.size, 0, none⟩ 1 1 [.slice xa xs.length xc] rfl rfl (news1 _ _ _) (by simp [Value.oneCell']) (by omega) (by unfold maxLen; omega) (by omega) (by simp; omega) (w4.heap.size + 1) (by simp) ?_)
                    intro g1 cg1 w5 hown5 hgrow hat hlt1
                    have hrd5 := (HS4.out.kept (World.grownBy_alloc w4 (.cells #[.slice xa xs.length xc] 22) none) (fun k e => by simp at e)).kept hgrow (fun j e => ⟨(HOV.out.lt j e).1, fun e2 => by
                      obtain ⟨cs, hcs⟩ := HS4.out.blk
                      exact blk_own_ne hcs HOV.out (by decide) (by rw [← e2]; exact e)⟩)
                    have hfo5 := FrO.snoc (w := w4.alloc (.cells #[.slice xa xs.length xc] 22)) (v' := .slice (some ⟨g1, 0, none⟩) (k + 1) cg1) (xss := acc) (xs := xs) HVL.out (fun i x xs hx hxs => (HRS.out i x xs hx hxs).alloc _) (HOV.out.alloc _) (HOX.out.alloc _) hgrow (by rw [hal]; exact hown5)
                    have hf5 := (HF4.out.alloc (.cells #[.slice xa xs.length xc] 22)).kept hgrow (fun e => blk_own_ne HF4.out HOV.out (by decide) e.symm)
                    have hbx5 := (HBX4.out.alloc (.cells #[.slice xa xs.length xc] 22)).kept hgrow (fun e => blk_own_ne HBX4.out HOV.out (by decide) e.symm)
                    have hbe5 := (hbe4.alloc (by omega) (.cells #[.slice xa xs.length xc] 22)).grown hgrow (by simp; omega) (fun j e => (HOV.out.lt j e).1)
                    have hz5 : w2.heap.size < w5.heap.size := by have := hgrow.size; simp at this; omega
                    have y1 := hf5.c1
                    have y2 := hf5.free 1
                    have hgs := grown_set w5 ⟨w2.heap.size, 1, none⟩ (.slice (some ⟨g1, 0, none⟩) (k + 1) cg1)
                    have hrd6 := hrd5.kept hgs (fun j e => by simp at e; omega)
                    have hfo6 := hfo5.kept_blk hgs hf5 (by decide) (by decide)
                    have hf6 := hf5.set1 (.slice (some ⟨g1, 0, none⟩) (k + 1) cg1)
                    have hbx6 := hbx5.other (B' := w2.heap.size) (by omega) 1 (.slice (some ⟨g1, 0, none⟩) (k + 1) cg1)
                    have hbe6 := hbe5.setCell (p := ⟨w2.heap.size, 1, none⟩) (by simp; omega) (.slice (some ⟨g1, 0, none⟩) (k + 1) cg1)
                    have HBX6 := Lib.hid hbx6; have HRD6 := Lib.hid hrd6; have HFO6 := Lib.hid hfo6; have HF6 := Lib.hid hf6
                    clear hf5 hbx5 hgrow hown5 hat hlt1 hbx6 z1 z2 hbe4 hbe5 hrd5 hfo5 hrd6 hfo6 hf6 hgs
                    go_wp2
                    go_roundw
                    case rel => exact ⟨k + 1, by omega, by go_num, HBX6.out, hbe6, by simpa using hz5, .inl ⟨rfl, r', acc ++ [xs], _, HRD6.out, HF6.out, HFO6.out, by rw [List.length_append, hal]; rfl, HCH2.out⟩⟩
                    case measure => simp [intOf]; omega
                · obtain rfl : k = bs.length := by omega
                  rw [List.drop_length, chR] at hch
                  have hz := hbe.size
                  obtain ⟨a, c, vs, rfl, hca, hrv, hal2⟩ := hfo.cells
                  have hfk := frameOK_any ao bs cap (st : Nat) a vs acc c wr (HB.out.cells.below hbe (Nat.le_refl _)) (by omega) hca hrv hal2 HOK.out
                  have hfo2 := hfo
                  have hen := fun (W : World) (h : Cells W a vs) (h2 : RowsV W vs acc) (hfr : frOK bs (st : Nat) acc = true) => encode_any ao acc.length cap (st : Nat) a vs acc c W (by omega) rfl h h2 (by omega)
                  rw [hal] at hfk hf hfo hen
                  have z0 := hf.c0
                  have z1 := hf.c1
                  have x0 := hbx.c0
                  have x1 := hbx.c1
                  have y0 := hbx.free 0
                  have y1 := hbx.free 1
                  have HFK := Lib.hid hfk; have HF := Lib.hid hf; have HFO := Lib.hid hfo; have HBX := Lib.hid hbx; have HCA := Lib.hid hca; have HRV := Lib.hid hrv; have HEN := Lib.hid hen
                  have HRW := Lib.hid hch
                  clear hfk hf hfo hbx hca hrv hch hfo2 hen hrd
                  go_wp2_with fail
                  refine HFK.out.mono ?_
                  rintro e w3 ⟨rfl, hb3⟩
                  have hbe3 := hbe.trans (hb3.mono hz)
                  have hbx3 := HBX.out.below hb3 (by omega)
                  have hf3 := HF.out.below hb3 (by omega)
                  have x0 := hbx3.c0
                  have x1 := hbx3.c1
                  have y0 := hbx3.free 0
                  have y1 := hbx3.free 1
                  have z0 := hf3.c0
                  have z1 := hf3.c1
                  have HBX3 := Lib.hid hbx3; have HF3 := Lib.hid hf3; have HB3 := Lib.hid hb3
                  clear hbx3 hf3 hb3
                  cases hfr : frOK bs (st : Nat) acc with
                  | false =>
                    have hn : firstR bs l = none := by rw [HFST.out, ← HRW.out]; simp [hfr]
                    have HN := Lib.hid hn
                    clear hn hfr
                    go_wp2_with fail
                    (try simp only [Exit.inBlock, Exit.then])
                    refine bodyPost_ret (v := .tuple #[.agg #[.int .i64 0, .slice none 0 0], .slice none 0 0, .bool false]) (by rw [results_cell2 rfl]; go_simp) rfl ⟨by rw [HN.out]; exact rfl, ?_⟩
                    exact (hbe3.setCell (p := ⟨w.heap.size, 0, none⟩) (Nat.le_refl _) _).setCell (p := ⟨w.heap.size, 1, none⟩) (Nat.le_refl _) _
                  | true =>
                    have hz0 : frmErr bs (st : Nat) acc = 0 := by
                      have : bookErr bs = 0 := by simp [bookErr, HOK.out]
                      simp [frmErr, this, hfr]
                    obtain ⟨-, -, -, -, hs1, hx64, hxb⟩ := frmErr_zero hz0
                    have HXX := Lib.hid (And.intro hs1 (And.intro hx64 hxb))
                    have HFR := Lib.hid hfr
                    clear hz0 hs1 hx64 hxb hfr
                    have hn3 := HB3.out.size
                    go_wp2_with fail
                    refine (HEN.out w3 (HCA.out.below HB3.out (Nat.le_refl _)) (HRV.out.below HB3.out (Nat.le_refl _)) HFR.out HXX.out.1 HXX.out.2.1 HXX.out.2.2).mono ?_
                    rintro e w4 ⟨⟨ve, rfl, hoe⟩, hb4⟩
                    have hbe4 := hbe3.trans (hb4.mono (by omega))
                    have hbx4 := HBX3.out.below hb4 (by omega)
                    have hf4 := HF3.out.below hb4 (by omega)
                    obtain ⟨ea, ec, rfl, hce, hce1, hce2⟩ := own_cap hoe
                    have hlt : (l.take en).length = en := by rw [List.length_take]; omega
                    have hct : Cells w (some ⟨b, off, none⟩) (bys (l.take en)) := by
                      refine .inr ⟨b, off, rfl, fun j u hu => ?_⟩
                      refine HC.out.at ?_
                      rw [← hu, bys, bys, List.map_take, List.getElem?_take, if_pos]
                      have := (List.getElem?_eq_some_iff.1 hu).1
                      rw [bys_length, hlt] at this; exact this
                    have heq := equal_bytes ea (some ⟨b, off, none⟩) (encB (st : Nat) acc) (l.take en) ec en w4 hce (hct.below hbe4 (Nat.le_refl _)) (by unfold maxLen at hce2; omega) (by omega)
                    rw [hlt] at heq
                    have HEQ := Lib.hid heq; have HBX4 := Lib.hid hbx4; have HF4 := Lib.hid hf4; have HB4 := Lib.hid hb4
                    have hn4 := hb4.size
                    clear hoe hce hct heq hbx4 hf4 x0 x1 y0 y1 z0 z1 hlt hb4
                    go_wp2_with fail
                    refine HEQ.out.mono ?_
                    rintro e w5 ⟨rfl, hb5⟩
                    have hbe5 := hbe4.trans (hb5.mono (by omega))
                    have hbx5 := HBX4.out.below hb5 (by omega)
                    have hf5 := HF4.out.below hb5 (by omega)
                    have x0 := hbx5.c0
                    have x1 := hbx5.c1
                    have y0 := hbx5.free 0
                    have y1 := hbx5.free 1
                    have z0 := hf5.c0
                    have z1 := hf5.c1
                    have HB5 := Lib.hid hb5; have HBX5 := Lib.hid hbx5
                    clear hbx5 hf5 hb5
                    by_cases hee : encB (st : Nat) acc = l.take en
                    · have hn : firstR bs l = some ((((st : Nat) : Int), acc), en) := by rw [HFST.out, ← HRW.out]; simp [HFR.out, hee]
                      have HN := Lib.hid hn
                      have hed : decide (encB (st : Nat) acc = l.take en) = true := by rw [decide_eq_true_iff]; exact hee
                      rw [hed]
                      clear hn hed hee
                      have hfo5 := ((HFO.out.below HB3.out).below HB4.out).below HB5.out
                      have hgs0 := grown_set w5 ⟨w.heap.size, 0, none⟩ (.int .i64 (st : Nat))
                      have hgs1 := grown_set (w5.setCell ⟨w.heap.size, 0, none⟩ (.int .i64 (st : Nat))) ⟨w.heap.size, 1, none⟩ (.slice a bs.length c)
                      have hfo6 := (hfo5.kept_blk hgs0 HBX5.out (by decide) (by decide)).kept_blk hgs1 (HBX5.out.set0 _) (by decide) (by decide)
                      have HFO6 := Lib.hid hfo6
                      clear hfo5 hgs0 hgs1 hfo6
                      go_wp2_with fail
                      (try simp only [Exit.inBlock, Exit.then])
                      refine bodyPost_ret (v := .tuple #[.agg #[.int .i64 (st : Nat), .slice a bs.length c], .slice (some ⟨b, off, none⟩) en en, .bool true]) (by rw [results_cell2 rfl]; go_simp) rfl ⟨by rw [HN.out]; exact ⟨_, _, rfl, HFO6.out⟩, ?_⟩
                      exact (hbe5.setCell (p := ⟨w.heap.size, 0, none⟩) (Nat.le_refl _) _).setCell (p := ⟨w.heap.size, 1, none⟩) (Nat.le_refl _) _
                    · have hn : firstR bs l = none := by rw [HFST.out, ← HRW.out]; simp [hee]
                      have HN := Lib.hid hn
                      have hed : decide (encB (st : Nat) acc = l.take en) = false := by rw [decide_eq_false_iff_not]; exact hee
                      rw [hed]
                      clear hn hed hee
                      go_wp2_with fail
                      (try simp only [Exit.inBlock, Exit.then])
                      refine bodyPost_ret (v := .tuple #[.agg #[.int .i64 0, .slice none 0 0], .slice none 0 0, .bool false]) (by rw [results_cell2 rfl]; go_simp) rfl ⟨by rw [HN.out]; exact rfl, ?_⟩
                      exact (hbe5.setCell (p := ⟨w.heap.size, 0, none⟩) (Nat.le_refl _) _).setCell (p := ⟨w.heap.size, 1, none⟩) (Nat.le_refl _) _
              · have hn : firstR bs l = none := by rw [HFST.out, hno]
                have HN := Lib.hid hn
                have x0 := hbx.c0
                have x1 := hbx.c1
                have y0 := hbx.free 0
                have y1 := hbx.free 1
                have hz := hbe.size
                have HBX := Lib.hid hbx
                clear hbx hn hno
                by_cases hlt : k < bs.length
                · obtain ⟨c, hx⟩ := get_of_lt hlt
                  obtain ⟨bb, bo, rfl⟩ := HB.out.cells.addr (chs_ne (by omega))
                  obtain ⟨g0, g1, g2⟩ := chs_get hx
                  have c0 := cell_keep (HB.out.cells.at g0) hbe (Nat.le_refl _)
                  have c1 := cell_keep (HB.out.cells.at g1) hbe (Nat.le_refl _)
                  have c2 := cell_keep (HB.out.cells.at g2) hbe (Nat.le_refl _)
                  rw [← Nat.add_assoc] at c1 c2
                  have hi1 : (k : Int) < bs.length := by omega
                  have hbe2 := hbe.alloc hz (.cells #[.string c.name, .int .i64 c.rate, .int .i64 c.bits] 106)
                  have hbx2 := HBX.out.alloc (.cells #[.string c.name, .int .i64 c.rate, .int .i64 c.bits] 106)
                  have x0 := hbx2.c0
                  have x1 := hbx2.c1
                  have y0 := hbx2.free 0
                  have y1 := hbx2.free 1
                  clear hx g0 g1 g2 hbx2
                  go_wp2_with fail
                  (try simp only [Exit.inBlock, Exit.then])
                  refine bodyPost_ret (v := .tuple #[.agg #[.int .i64 0, .slice none 0 0], .slice none 0 0, .bool false]) (by rw [results_cell2 rfl]; go_simp) rfl ⟨by rw [HN.out]; exact rfl, ?_⟩
                  exact (hbe2.setCell (p := ⟨w.heap.size, 0, none⟩) (Nat.le_refl _) _).setCell (p := ⟨w.heap.size, 1, none⟩) (Nat.le_refl _) _
                · obtain rfl : k = bs.length := by omega
                  go_wp2_with fail
                  (try simp only [Exit.inBlock, Exit.then])
                  refine bodyPost_ret (v := .tuple #[.agg #[.int .i64 0, .slice none 0 0], .slice none 0 0, .bool false]) (by rw [results_cell2 rfl]; go_simp) rfl ⟨by rw [HN.out]; exact rfl, ?_⟩
                  exact (hbe.setCell (p := ⟨w.heap.size, 0, none⟩) (Nat.le_refl _) _).setCell (p := ⟨w.heap.size, 1, none⟩) (Nat.le_refl _) _
        · have hn := firstR_none (bs := bs) (l := l) (fun h => hend h.2.2.2)
          have HN := Lib.hid hn
          have hlt : (l.length : Int) < 4 + (d2 : Int) * 256 + d3 + 3 := by omega
          clear hn hc hb
          go_enter Tryz.func82, Tryz.ntmps82
          go_wp2_with fail
          go_quiet (fail)
          go_wp2_with fail
          (try simp only [Exit.inBlock, Exit.then])
          refine bodyPost_ret (v := .tuple #[.agg #[.int .i64 0, .slice none 0 0], .slice none 0 0, .bool false]) (by rw [results_cell2 rfl]; go_simp) rfl ⟨by rw [HN.out]; exact rfl, ?_⟩
          exact ((bel_drewN hbw _).setCell (p := ⟨w.heap.size, 0, none⟩) (Nat.le_refl _) _).setCell (p := ⟨w.heap.size, 1, none⟩) (Nat.le_refl _) _
      · have hn := firstR_none (bs := bs) (l := l) (fun h => h1 (by have := h.2.2.1; rw [getD_of hd1] at this; exact this))
        have HN := Lib.hid hn
        have hne : ((d1 : Int) != 90) = true := by rw [bne_iff_ne]; omega
        clear hn hc hb
        go_enter Tryz.func82, Tryz.ntmps82
        go_wp2_with fail
        (try simp only [Exit.inBlock, Exit.then])
        refine bodyPost_ret (v := .tuple #[.agg #[.int .i64 0, .slice none 0 0], .slice none 0 0, .bool false]) (by rw [results_cell2 rfl]; go_simp) rfl ⟨by rw [HN.out]; exact rfl, ?_⟩
        exact hbw
    · have hn := firstR_none (bs := bs) (l := l) (fun h => h0 (by have := h.2.1; rw [getD_of hd0] at this; exact this))
      have HN := Lib.hid hn
      have hne : ((d0 : Int) != 165) = true := by rw [bne_iff_ne]; omega
      clear hn hc hb
      go_enter Tryz.func82, Tryz.ntmps82
      go_wp2_with fail
      (try simp only [Exit.inBlock, Exit.then])
      refine bodyPost_ret (v := .tuple #[.agg #[.int .i64 0, .slice none 0 0], .slice none 0 0, .bool false]) (by rw [results_cell2 rfl]; go_simp) rfl ⟨by rw [HN.out]; exact rfl, ?_⟩
      exact hbw
  · have hn := firstR_none (bs := bs) (l := l) (fun h => h7 h.1)
    have HN := Lib.hid hn
    have h7i : (l.length : Int) < 7 := by omega
    clear hn hc hb
    go_enter Tryz.func82, Tryz.ntmps82
    go_wp2_with fail
    (try simp only [Exit.inBlock, Exit.then])
    refine bodyPost_ret (v := .tuple #[.agg #[.int .i64 0, .slice none 0 0], .slice none 0 0, .bool false]) (by rw [results_cell2 rfl]; go_simp) rfl ⟨by rw [HN.out]; exact rfl, ?_⟩
    exact hbw
end Go.Proofs.YtoochleabcjljaaGreatDoor

/- Codes: Decode. -/
namespace Go.Proofs.YtoochleabcjljaaGreatDoor
open Go.RowKit

/-- what Decode returns: the frame, the error -/
def decR (bs : List Chan) (l : List Nat) : Option (Int × List (List Int)) := if bookErr bs = 0 then (match firstR bs l with | some p => if p.2 = l.length then some p.1 else none | none => none) else none
def decErr (bs : List Chan) (l : List Nat) : Int := if bookErr bs ≠ 0 then bookErr bs else if (decR bs l).isSome then 0 else 5
def DecRes (base : Nat) (res : Option (Int × List (List Int))) (err : Int) (e : Ending) (w' : World) : Prop := match res with
  | some x => ∃ v, e = .returned (.tuple #[.agg #[.int .i64 x.1, v], .int .i64 err]) ∧ FrO base w' v x.2
  | none => e = .returned (.tuple #[.agg #[.int .i64 0, .slice none 0 0], .int .i64 err])
/-- bytes that were handed in -/
structure ByIn (w : World) (ac : Option Addr) (l : List Nat) (cc : Nat) : Prop where
  cells : Cells w ac (bys l)
  byte : ∀ d ∈ l, d < 256
  len : l.length ≤ 1099511627776
  lecap : l.length ≤ cc
  cap2 : cc ≤ 9223372036854775807
theorem ByIn.below {w w' : World} {B : Nat} {ac : Option Addr} {l : List Nat} {cc : Nat} (h : ByIn w ac l cc) (hb : Below B w w') (hB : w.heap.size ≤ B) : ByIn w' ac l cc :=
  ⟨h.cells.below hb hB, h.byte, h.len, h.lecap, h.cap2⟩

set_option maxRecDepth 100000 in
set_option maxHeartbeats 2000000 in
theorem decode_any (ao : Option Addr) (bs : List Chan) (cap : Nat) (ac : Option Addr) (l : List Nat) (cc : Nat) (w : World) (hb : BookIn w ao bs cap) (hc : ByIn w ac l cc) :
    Calls Tryz.prog 39 #[.slice ao bs.length cap, .slice ac l.length cc] w fun e w' => DecRes w.heap.size (decR bs l) (decErr bs l) e w' ∧ Below w.heap.size w w' := by
  have HB := Lib.hid hb; have HC := Lib.hid hc
  have hlen := hb.len
  have hcl := hc.len
  have hbw := (Below.refl w.heap.size w).alloc (Nat.le_refl _) (.cells #[.int .i64 0, .slice none 0 0] 43)
  have hb1 := hb.below hbw (Nat.le_refl _)
  have hck := checkBook_any ao bs cap _ hb1.cells (by omega) hb1.lecap hb1.cap2 hb1.names hb1.rates
  have HCK := Lib.hid hck
  have HX := Lib.hid (Blk.new w 43 #[.int .i64 0, .slice none 0 0])
  clear hb hc hb1 hck
  by_cases h1 : bookErr bs = 0
  · have hok := bookErr_zero h1
    have H1 := Lib.hid h1
    have HR : Hid (decR bs l = match firstR bs l with | some p => if p.2 = l.length then some p.1 else none | none => none) := Lib.hid (by rw [decR, if_pos h1])
    have HE : Hid (decErr bs l = if (decR bs l).isSome then 0 else 5) := Lib.hid (by rw [decErr, if_neg (by simpa using h1)])
    have hfc := fun (W : World) (h : BookIn W ao bs cap) (h2 : ByIn W ac l cc) => first_code ao bs cap ac l cc W h hok h2.cells h2.byte h2.len h2.lecap h2.cap2
    have HFC := Lib.hid hfc
    clear h1 hok hfc
    go_enter Tryz.func39, Tryz.ntmps39
    go_wp2_with fail
    refine HCK.out.mono ?_
    rintro e w1 ⟨rfl, hb1⟩
    rw [H1.out]
    have hx1 := HX.out.below hb1 (by simp)
    have hbe1 := hbw.trans (hb1.mono (by simp))
    have hz1 := hb1.size
    simp only [World.size_alloc] at hz1
    have HX1 := Lib.hid hx1
    clear hb1 hx1
    go_wp2_with fail
    refine (HFC.out w1 (HB.out.below hbe1 (Nat.le_refl _)) (HC.out.below hbe1 (Nat.le_refl _))).mono ?_
    rintro e w2 ⟨hres, hb2⟩
    have hx2 := HX1.out.below hb2 (by omega)
    have hbe2 := hbe1.trans (hb2.mono (by omega))
    have hz2 := hb2.size
    have HX2 := Lib.hid hx2
    clear hb2 hx2 HCK HFC HX HX1
    cases hf : firstR bs l with
    | none =>
      rw [hf] at hres
      obtain rfl : e = .returned (.tuple #[.agg #[.int .i64 0, .slice none 0 0], .slice none 0 0, .bool false]) := hres
      have hr : decR bs l = none := by rw [HR.out, hf]
      have he : decErr bs l = 5 := by rw [HE.out, hr]; rfl
      have HR2 := Lib.hid hr; have HE2 := Lib.hid he
      have hbe3 := hbe2.alloc (by omega) (.cells #[.int .i64 0, .slice none 0 0] 43)
      have hx3 := HX2.out.alloc (.cells #[.int .i64 0, .slice none 0 0] 43)
      have x0 := hx3.c0
      have x1 := hx3.c1
      have y0 := hx3.free 0
      have y1 := hx3.free 1
      clear hr he hf hx3
      go_wp2_with fail
      (try simp only [Exit.inBlock, Exit.then])
      refine bodyPost_ret (v := .tuple #[.agg #[.int .i64 0, .slice none 0 0], .int .i64 5]) (by rw [results_cell_tmp rfl]; go_simp) rfl ⟨by rw [HR2.out, HE2.out]; exact rfl, ?_⟩
      exact (hbe3.setCell (p := ⟨w.heap.size, 0, none⟩) (Nat.le_refl _) _).setCell (p := ⟨w.heap.size, 1, none⟩) (Nat.le_refl _) _
    | some p =>
      obtain ⟨⟨st, xss⟩, n⟩ := p
      rw [hf] at hres
      obtain ⟨v, c2, rfl, hfo⟩ := hres
      obtain ⟨a, c, vs, rfl, -, -, -⟩ := hfo.cells
      have hbe3 := hbe2.alloc (by omega) (.cells #[.int .i64 st, .slice a xss.length c] 43)
      have hx3 := HX2.out.alloc (.cells #[.int .i64 st, .slice a xss.length c] 43)
      have x0 := hx3.c0
      have x1 := hx3.c1
      have y0 := hx3.free 0
      have y1 := hx3.free 1
      have HX3 := Lib.hid hx3
      have HFO := Lib.hid hfo
      clear hx3 hfo
      by_cases hn : n = l.length
      · have hr : decR bs l = some (st, xss) := by rw [HR.out, hf]; simp [hn]
        have he : decErr bs l = 0 := by rw [HE.out, hr]; rfl
        have HR2 := Lib.hid hr; have HE2 := Lib.hid he
        have hf3 := Blk.new w2 43 #[.int .i64 st, .slice a xss.length c]
        have z0 := hf3.c0
        have z1 := hf3.c1
        have hne : ((n : Int) != l.length) = false := by simp [hn]
        have hfo3 := (HFO.out.base (show w.heap.size ≤ w1.heap.size by omega)).kept (World.grownBy_alloc w2 (.cells #[.int .i64 st, .slice a xss.length c] 43) none) (fun k e => by simp at e)
        have hgs0 := grown_set (w2.alloc (.cells #[.int .i64 st, .slice a xss.length c] 43)) ⟨w.heap.size, 0, none⟩ (.int .i64 st)
        have hgs1 := grown_set ((w2.alloc (.cells #[.int .i64 st, .slice a xss.length c] 43)).setCell ⟨w.heap.size, 0, none⟩ (.int .i64 st)) ⟨w.heap.size, 1, none⟩ (.slice a xss.length c)
        have hfo6 := (hfo3.kept_blk hgs0 HX3.out (by decide) (by decide)).kept_blk hgs1 (HX3.out.set0 _) (by decide) (by decide)
        have HFO6 := Lib.hid hfo6
        clear hr he hf hn hf3 hfo3 hgs0 hgs1 hfo6
        go_wp2_with fail
        (try simp only [Exit.inBlock, Exit.then])
        refine bodyPost_ret (v := .tuple #[.agg #[.int .i64 st, .slice a xss.length c], .int .i64 0]) (by rw [results_cell_tmp rfl]; go_simp) rfl ⟨by rw [HR2.out, HE2.out]; exact ⟨_, rfl, HFO6.out⟩, ?_⟩
        exact (hbe3.setCell (p := ⟨w.heap.size, 0, none⟩) (Nat.le_refl _) _).setCell (p := ⟨w.heap.size, 1, none⟩) (Nat.le_refl _) _
      · have hr : decR bs l = none := by rw [HR.out, hf]; simp [hn]
        have he : decErr bs l = 5 := by rw [HE.out, hr]; rfl
        have HR2 := Lib.hid hr; have HE2 := Lib.hid he
        have hne : ((n : Int) != l.length) = true := by rw [bne_iff_ne]; omega
        clear hr he hf
        go_wp2_with fail
        (try simp only [Exit.inBlock, Exit.then])
        refine bodyPost_ret (v := .tuple #[.agg #[.int .i64 0, .slice none 0 0], .int .i64 5]) (by rw [results_cell_tmp rfl]; go_simp) rfl ⟨by rw [HR2.out, HE2.out]; exact rfl, ?_⟩
        exact (hbe3.setCell (p := ⟨w.heap.size, 0, none⟩) (Nat.le_refl _) _).setCell (p := ⟨w.heap.size, 1, none⟩) (Nat.le_refl _) _
  · have hr : decR bs l = none := by rw [decR, if_neg h1]
    have he : decErr bs l = bookErr bs := by rw [decErr, if_pos h1]
    have HR2 := Lib.hid hr; have HE2 := Lib.hid he
    have h3 : (bookErr bs != 0) = true := by simpa using h1
    have h4 : (bookErr bs == 0) = false := by simpa using h1
    clear hr he
    go_enter Tryz.func39, Tryz.ntmps39
    go_wp2_with fail
    refine HCK.out.mono ?_
    rintro e w1 ⟨rfl, hb1⟩
    have hx1 := HX.out.below hb1 (by simp)
    have hbe1 := hbw.trans (hb1.mono (by simp))
    have x0 := hx1.c0
    have x1 := hx1.c1
    have y0 := hx1.free 0
    have y1 := hx1.free 1
    clear hx1 hb1
    go_wp2_with fail
    (try simp only [Exit.inBlock, Exit.then])
    refine bodyPost_ret (v := .tuple #[.agg #[.int .i64 0, .slice none 0 0], .int .i64 (bookErr bs)]) (by rw [results_cell_tmp rfl]; go_simp) rfl ⟨by rw [HR2.out, HE2.out]; exact rfl, ?_⟩
    exact (hbe1.setCell (p := ⟨w.heap.size, 0, none⟩) (Nat.le_refl _) _).setCell (p := ⟨w.heap.size, 1, none⟩) (Nat.le_refl _) _
end Go.Proofs.YtoochleabcjljaaGreatDoor

/- Records: Gaps. -/
namespace Go.Proofs.YtoochleabcjljaaGreatDoor
open Go.RowKit

def gapStep (fr tt : Int) (s : Int × List (Int × Int)) (f : Frm) : Int × List (Int × Int) := if fr ≤ f.st ∧ f.st < tt then (f.st + 1, addS s.1 s.2 f.st) else s
def gapsTo (fr tt : Int) (l : List Frm) : Int × List (Int × Int) := l.foldl (gapStep fr tt) (fr, [])
def gapsOf (fr tt : Int) (l : List Frm) : List (Int × Int) := addS (gapsTo fr tt l).1 (gapsTo fr tt l).2 tt
def gapsRes (bs : List Chan) (l : List Frm) (fr tt : Int) : List (Int × Int) := if btwErr bs l fr tt = 0 then gapsOf fr tt l else []
theorem gapsTo_snoc (fr tt : Int) (l : List Frm) (f : Frm) : gapsTo fr tt (l ++ [f]) = gapStep fr tt (gapsTo fr tt l) f := by simp [gapsTo]
theorem addS_length (a : Int) (ss : List (Int × Int)) (e : Int) : (addS a ss e).length ≤ ss.length + 1 := by unfold addS; split <;> simp
theorem gapsTo_length (fr tt : Int) (l : List Frm) : (gapsTo fr tt l).2.length ≤ l.length := by
  suffices ∀ n (l : List Frm), l.length = n → (gapsTo fr tt l).2.length ≤ n by exact this _ l rfl
  intro n
  induction n with
  | zero => intro l hl; rw [List.length_eq_zero_iff.1 hl]; simp [gapsTo]
  | succ n ih =>
    intro l hl
    obtain ⟨l', f, rfl⟩ : ∃ l' f, l = l' ++ [f] := by
      rcases List.eq_nil_or_concat l with rfl | ⟨l', b, rfl⟩
      · simp at hl
      · exact ⟨l', b, by simp⟩
    simp at hl
    have h := ih l' hl
    rw [gapsTo_snoc, gapStep]
    split
    · have := addS_length (gapsTo fr tt l').1 (gapsTo fr tt l').2 f.st
      simp only; omega
    · omega

theorem recErr_zero {bs : List Chan} {l : List Frm} (h : recErr bs l = 0) : bookErr bs = 0 ∧ l.length ≤ 64 ∧ (∀ f ∈ l, frOK bs f.st f.xss = true) ∧ upTo l l.length = true := by
  unfold recErr at h
  split at h
  · contradiction
  · rename_i h1
    split at h
    · contradiction
    · rename_i h2
      split at h
      · contradiction
      · rename_i h3
        split at h
        · contradiction
        · rename_i h4
          refine ⟨by simpa using h1, by omega, fun f hf => ?_, by simpa using h4⟩
          have h3 := (Bool.not_eq_true _).mp h3
          have := List.any_eq_false.1 h3 f hf
          simpa using this
theorem btwErr_zero {bs : List Chan} {l : List Frm} {fr tt : Int} (h : btwErr bs l fr tt = 0) : recErr bs l = 0 ∧ 0 ≤ fr ∧ fr ≤ tt ∧ tt ≤ 1073741824 := by
  unfold btwErr at h
  split at h
  · contradiction
  · rename_i h1
    split at h
    · contradiction
    · exact ⟨by simpa using h1, by omega, by omega, by omega⟩

set_option maxRecDepth 100000 in
set_option maxHeartbeats 1000000 in
theorem gaps_any (ao : Option Addr) (bs : List Chan) (cap : Nat) (al : Option Addr) (l : List Frm) (cl : Nat) (fr tt : Int) (w : World) (hb : BookIn w ao bs cap) (hr : RecIn w al l) :
    Calls Tryz.prog 34 #[.slice ao bs.length cap, .slice al l.length cl, .int .i64 fr, .int .i64 tt] w fun e w' => (∃ a c, e = .returned (.tuple #[.slice a (gapsRes bs l fr tt).length c, .int .i64 (btwErr bs l fr tt)]) ∧ Cells w' a (prs (gapsRes bs l fr tt))) ∧ Below w.heap.size w w' := by
  have hck := between_any ao bs cap al l cl fr tt w hb hr
  have HCK := Lib.hid hck; have HR := Lib.hid hr
  clear hck hb hr
  by_cases h1 : btwErr bs l fr tt = 0
  · have he : gapsRes bs l fr tt = gapsOf fr tt l := by rw [gapsRes, if_pos h1]
    obtain ⟨z0, z1, z2, z3⟩ := btwErr_zero h1
    obtain ⟨_, z4, _, _⟩ := recErr_zero z0
    have HE := Lib.hid he; have H1 := Lib.hid h1
    clear he h1 z0
    go_enter Tryz.func34, Tryz.ntmps34
    go_wp2_with fail
    refine HCK.out.mono ?_
    rintro e w1 ⟨rfl, hb1⟩
    rw [H1.out]
    have hg0 : GapS w1.heap.size (w1.heap.size + 1) w1.heap.size fr [] (.slice none 0 0) ((w1.alloc (.cells #[.slice none 0 0] 54)).alloc (.cells #[.int .i64 fr] 3)) := by
      refine ⟨?_, (Blk.new w1 54 #[.slice none 0 0]).alloc _, World.ownsRow_nil _ _ _ _⟩
      have := Blk.new (w1.alloc (.cells #[.slice none 0 0] 54)) 3 #[.int .i64 fr]
      rwa [World.size_alloc] at this
    have hbw := (((Below.refl w1.heap.size w1).alloc (Nat.le_refl _) (.cells #[.slice none 0 0] 54)).alloc (by simp) (.cells #[.int .i64 fr] 3))
    have HG0 := Lib.hid hg0
    have HR1 := Lib.hid (HR.out.below hb1 (Nat.le_refl _))
    clear hg0
    go_wp2
    go_loopw [28] (fun i wr => ∃ k : Nat, k ≤ l.length ∧ i = .int .i64 k ∧ (∃ v, GapS w1.heap.size (w1.heap.size + 1) w1.heap.size (gapsTo fr tt (l.take k)).1 (gapsTo fr tt (l.take k)).2 v wr) ∧ Below w1.heap.size w1 wr) (fun i _ => l.length - (intOf i).toNat)
    case atStart => exact ⟨0, Nat.zero_le _, rfl, ⟨_, HG0.out⟩, hbw⟩
    case round =>
      clear hbw HG0
      obtain ⟨k, hk, rfl, ⟨v, hg⟩, hbr⟩ := hrel
      have HG := Lib.hid hg; clear hg
      have hgl := gapsTo_length fr tt (l.take k)
      rw [List.length_take, Nat.min_eq_left hk] at hgl
      by_cases hlt : k < l.length
      · obtain ⟨x, hx⟩ := get_of_lt hlt
        obtain ⟨bl, ol, rfl⟩ := HR1.out.cells.addr (frs_ne (by omega))
        have c0 := cell_keep (HR1.out.cells.at (frs_get hx).1) hbr (Nat.le_refl _)
        have c1 := cell_keep (HR1.out.cells.at (frs_get hx).2) hbr (Nat.le_refl _)
        rw [← Nat.add_assoc] at c1
        have hst : gapsTo fr tt (l.take (k + 1)) = gapStep fr tt (gapsTo fr tt (l.take k)) x := by rw [take_get hx, gapsTo_snoc]
        have HST := Lib.hid hst
        have hz := hbr.size
        clear hst hx
        by_cases hin : fr ≤ x.st ∧ x.st < tt
        · obtain ⟨hi1, hi2⟩ := hin
          have hgs : gapStep fr tt (gapsTo fr tt (l.take k)) x = (x.st + 1, addS (gapsTo fr tt (l.take k)).1 (gapsTo fr tt (l.take k)).2 x.st) := by rw [gapStep, if_pos ⟨hi1, hi2⟩]
          have HGS := Lib.hid hgs
          clear hgs
          have hb0 := (Below.refl wr.heap.size wr).alloc (Nat.le_refl _) (.cells #[.int .i64 x.st, .slice x.a x.xss.length x.c] 43)
          have hga : GapS w1.heap.size (w1.heap.size + 1) w1.heap.size (gapsTo fr tt (l.take k)).1 (gapsTo fr tt (l.take k)).2 v (wr.alloc (.cells #[.int .i64 x.st, .slice x.a x.xss.length x.c] 43)) := ⟨HG.out.a.alloc _, HG.out.o.alloc _, HG.out.own.alloc _⟩
          have hba := hbr.alloc hz (.cells #[.int .i64 x.st, .slice x.a x.xss.length x.c] 43)
          have hxb := Blk.new wr 43 #[.int .i64 x.st, .slice x.a x.xss.length x.c]
          have HXB := Lib.hid hxb
          have HGA := Lib.hid hga
          have hgA := HG.out.a.lt
          clear hga hxb hb0
          go_wp2_with fail
          refine (gaps1_any w1.heap.size (w1.heap.size + 1) w1.heap.size (by omega) (by omega) (by omega) (gapsTo fr tt (l.take k)).1 x.st (gapsTo fr tt (l.take k)).2 v _ HGA.out (by omega)).mono ?_
          rintro e w2 ⟨rfl, ⟨v', hg2⟩, hb2, hkp⟩
          have hx2 : Blk w2 wr.heap.size 43 #[.int .i64 x.st, .slice x.a x.xss.length x.c] :=
            (hkp wr.heap.size (by simp) (by omega) (fun e => by have := (HG.out.own.lt _ e).2; omega)).trans HXB.out
          have r0 := hx2.c0
          have hq : GapS w1.heap.size (w1.heap.size + 1) w1.heap.size (gapsTo fr tt (l.take (k + 1))).1 (gapsTo fr tt (l.take (k + 1))).2 v' (w2.setCell ⟨w1.heap.size + 1, 0, none⟩ (.int .i64 (x.st + 1))) := by
            rw [HST.out, HGS.out]
            exact ⟨hg2.a.set0 _, hg2.o.other (by omega) _ _, own_set_other hg2.own (blk_own_ne hg2.a hg2.own (by decide))⟩
          have hbq := (hba.trans hb2).setCell (p := ⟨w1.heap.size + 1, 0, none⟩) (by simp) (.int .i64 (x.st + 1))
          have s0 := hg2.a.c0
          have s1 := hg2.a.free 0
          have HQ := Lib.hid hq
          clear hq hg2 hx2 hkp hb2 hba
          go_wp2
          go_roundw
          case rel => exact ⟨k + 1, by omega, by go_num, ⟨v', HQ.out⟩, hbq⟩
          case measure => simp [intOf]; omega
        · have hgs : gapStep fr tt (gapsTo fr tt (l.take k)) x = gapsTo fr tt (l.take k) := by rw [gapStep, if_neg hin]
          have hga : GapS w1.heap.size (w1.heap.size + 1) w1.heap.size (gapsTo fr tt (l.take (k + 1))).1 (gapsTo fr tt (l.take (k + 1))).2 v (wr.alloc (.cells #[.int .i64 x.st, .slice x.a x.xss.length x.c] 43)) := by
            rw [HST.out, hgs]; exact ⟨HG.out.a.alloc _, HG.out.o.alloc _, HG.out.own.alloc _⟩
          have hba := hbr.alloc hz (.cells #[.int .i64 x.st, .slice x.a x.xss.length x.c] 43)
          have HGA := Lib.hid hga
          clear hga hgs
          have hjj : x.st < fr ∨ (fr ≤ x.st ∧ tt ≤ x.st) := by omega
          clear hin
          rcases hjj with h | ⟨h, h'⟩
          all_goals
            go_wp2
            go_roundw
            case rel => exact ⟨k + 1, by omega, by go_num, ⟨v, HGA.out⟩, hba⟩
            case measure => simp [intOf]; omega
      · obtain rfl : k = l.length := by omega
        rw [List.take_length] at HG hgl
        go_wp2_with fail
        refine (gaps1_any w1.heap.size (w1.heap.size + 1) w1.heap.size (by omega) (by omega) (by omega) (gapsTo fr tt l).1 tt (gapsTo fr tt l).2 v _ HG.out (by omega)).mono ?_
        rintro e w2 ⟨rfl, ⟨v', hg2⟩, hb2, _⟩
        have hbq := hb1.trans ((hbr.trans hb2).mono hb1.size)
        have r0 := hg2.o.c0
        obtain ⟨a, c, rfl, hcs⟩ := own_cells hg2.own
        have HCS := Lib.hid hcs
        clear hg2 hb2 hbr hcs
        go_wp2
        go_ret2
        exact ⟨⟨a, c, by rw [HE.out, H1.out]; rfl, by rw [HE.out]; exact HCS.out⟩, hbq⟩
  · have he : gapsRes bs l fr tt = [] := by rw [gapsRes, if_neg h1]
    have h3 : (btwErr bs l fr tt != 0) = true := by simpa using h1
    have h4 : (btwErr bs l fr tt == 0) = false := by simpa using h1
    have HE := Lib.hid he; clear he
    go_enter Tryz.func34, Tryz.ntmps34
    go_wp2_with fail
    refine HCK.out.mono ?_
    rintro e w1 ⟨rfl, hb1⟩
    go_wp2
    go_ret2
    exact ⟨⟨none, 0, by rw [HE.out]; rfl, by rw [HE.out]; exact Cells.nil _ _⟩, hb1⟩
end Go.Proofs.YtoochleabcjljaaGreatDoor

/- Codes: Unpack and Salvage, in plain words. -/
namespace Go.Proofs.YtoochleabcjljaaGreatDoor
open Go.RowKit

abbrev Fr := Int × List (List Int)
def encF (f : Fr) : List Nat := encB f.1 f.2
/-- the start of the last frame -/
def lastR (out : List Fr) : Int := match out.getLast? with | some f => f.1 | none => -1
theorem lastR_snoc (out : List Fr) (x : Fr) : lastR (out ++ [x]) = x.1 := by simp [lastR]
theorem lastR_nil : lastR [] = -1 := rfl
def unpackR (bs : List Chan) : Nat → List Nat → List Fr → Option (List Fr)
  | _, [], out => some out
  | 0, _ :: _, _ => none
  | f + 1, b :: l, out => match firstR bs (b :: l) with
    | none => none
    | some (x, n) => if out.length = 64 ∨ x.1 ≤ lastR out then none else unpackR bs f ((b :: l).drop n) (out ++ [x])
theorem unpackR_nil (bs : List Chan) (f : Nat) (out : List Fr) : unpackR bs f [] out = some out := by cases f <;> rfl
theorem unpackR_none {bs : List Chan} {f : Nat} {l : List Nat} {out : List Fr} (h0 : 0 < l.length) (h : firstR bs l = none) : unpackR bs f l out = none := by
  match f, l, h0 with
  | 0, b :: l, _ => rfl
  | f + 1, b :: l, _ => rw [unpackR, h]
theorem unpackR_bad {bs : List Chan} {f : Nat} {l : List Nat} {out : List Fr} {x : Fr} {n : Nat} (h0 : 0 < l.length) (h : firstR bs l = some (x, n)) (h2 : out.length = 64 ∨ x.1 ≤ lastR out) : unpackR bs f l out = none := by
  match f, l, h0 with
  | 0, b :: l, _ => rfl
  | f + 1, b :: l, _ => rw [unpackR, h]; simp only; rw [if_pos h2]
theorem unpackR_step {bs : List Chan} {f : Nat} {l : List Nat} {out : List Fr} {x : Fr} {n : Nat} (h0 : 0 < l.length) (h : firstR bs l = some (x, n)) (h2 : ¬ (out.length = 64 ∨ x.1 ≤ lastR out)) : unpackR bs (f + 1) l out = unpackR bs f (l.drop n) (out ++ [x]) := by
  match l, h0 with
  | b :: l, _ => rw [unpackR, h]; simp only; rw [if_neg h2]

/-- the seconds go up, from behind one on -/
def IncR : Int → List Fr → Prop
  | _, [] => True
  | a, f :: l => a < f.1 ∧ IncR f.1 l
theorem encF_pos (f : Fr) : 0 < (encF f).length := by unfold encF encB hdB; simp
theorem unpackR_enc {bs : List Chan} (hb : bookOK bs = true) : ∀ (l : List Fr) (f : Nat) (out : List Fr), (∀ x ∈ l, frOK bs x.1 x.2 = true) → IncR (lastR out) l → out.length + l.length ≤ 64 → l.length ≤ f → unpackR bs f (l.flatMap encF) out = some (out ++ l) := by
  intro l
  induction l with
  | nil => intro f out _ _ _ _; rw [List.flatMap_nil, unpackR_nil, List.append_nil]
  | cons x l ih =>
    intro f out h1 h2 h3 h4
    obtain ⟨f, rfl⟩ : ∃ g, f = g + 1 := ⟨f - 1, by simp at h4; omega⟩
    have hf := firstR_enc hb (h1 x (by simp)) (l.flatMap encF)
    have he : encB x.1 x.2 = encF x := rfl
    rw [he] at hf
    have hp := encF_pos x
    simp only [List.length_cons] at h3 h4
    rw [List.flatMap_cons, unpackR_step (by rw [List.length_append]; omega) hf (by have := h2.1; simp only; omega), List.drop_append_of_le_length (Nat.le_refl _), List.drop_eq_nil_of_le (Nat.le_refl _), List.nil_append]
    rw [ih f (out ++ [(x.1, x.2)]) (fun y hy => h1 y (by simp [hy])) (by rw [lastR_snoc]; exact h2.2) (by rw [List.length_append]; simp; omega) (by omega)]
    simp

def joinS (ss : List (Int × Int)) (i : Nat) : List (Int × Int) := match ss.getLast? with
  | some p => if p.2 = (i : Int) then ss.dropLast ++ [(p.1, (i : Int) + 1)] else ss ++ [((i : Int), (i : Int) + 1)]
  | none => ss ++ [((i : Int), (i : Int) + 1)]
/-- one more place: what is found so far and where it ends; is the place lost? -/
def salP (bs : List Chan) (l : List Nat) (s : List Fr × Nat) (i : Nat) : (List Fr × Nat) × Bool :=
  if i < s.2 then (s, false) else if s.1.length < 64 then
    match firstR bs (l.drop i) with
    | some (x, n) => if lastR s.1 < x.1 then ((s.1 ++ [x], i + n), false) else (s, true)
    | none => (s, true)
  else (s, true)
def salTo (bs : List Chan) (l : List Nat) : Nat → List Fr × Nat
  | 0 => ([], 0)
  | i + 1 => (salP bs l (salTo bs l i) i).1
def lostTo (bs : List Chan) (l : List Nat) : Nat → List (Int × Int)
  | 0 => []
  | i + 1 => if (salP bs l (salTo bs l i) i).2 then joinS (lostTo bs l i) i else lostTo bs l i
theorem salP_in {bs : List Chan} {l : List Nat} {s : List Fr × Nat} {i : Nat} (h : i < s.2) : salP bs l s i = (s, false) := by rw [salP, if_pos h]
theorem salP_full {bs : List Chan} {l : List Nat} {s : List Fr × Nat} {i : Nat} (h : ¬ i < s.2) (h2 : ¬ s.1.length < 64) : salP bs l s i = (s, true) := by rw [salP, if_neg h, if_neg h2]
theorem salP_none {bs : List Chan} {l : List Nat} {s : List Fr × Nat} {i : Nat} (h : ¬ i < s.2) (h2 : s.1.length < 64) (h3 : firstR bs (l.drop i) = none) : salP bs l s i = (s, true) := by rw [salP, if_neg h, if_pos h2, h3]
theorem salP_old {bs : List Chan} {l : List Nat} {s : List Fr × Nat} {i : Nat} {x : Fr} {n : Nat} (h : ¬ i < s.2) (h2 : s.1.length < 64) (h3 : firstR bs (l.drop i) = some (x, n)) (h4 : ¬ lastR s.1 < x.1) : salP bs l s i = (s, true) := by
  rw [salP, if_neg h, if_pos h2, h3]; simp only; rw [if_neg h4]
theorem salP_new {bs : List Chan} {l : List Nat} {s : List Fr × Nat} {i : Nat} {x : Fr} {n : Nat} (h : ¬ i < s.2) (h2 : s.1.length < 64) (h3 : firstR bs (l.drop i) = some (x, n)) (h4 : lastR s.1 < x.1) : salP bs l s i = ((s.1 ++ [x], i + n), false) := by
  rw [salP, if_neg h, if_pos h2, h3]; simp only; rw [if_pos h4]
theorem salP_bd (bs : List Chan) (l : List Nat) (s : List Fr × Nat) (i : Nat) (hs : s.2 ≤ l.length) (hi : i ≤ l.length) (h64 : s.1.length ≤ 64) : (salP bs l s i).1.2 ≤ l.length ∧ (salP bs l s i).1.1.length ≤ 64 := by
  unfold salP
  split
  · exact ⟨hs, h64⟩
  · split
    · rename_i h1 h2
      split
      · rename_i x n hx
        split
        · obtain ⟨-, -, h3, -⟩ := firstR_sound (st := x.1) (xss := x.2) hx
          rw [List.length_drop] at h3
          exact ⟨by simp only; omega, by simp only [List.length_append, List.length_singleton]; omega⟩
        · exact ⟨hs, h64⟩
      · exact ⟨hs, h64⟩
    · exact ⟨hs, h64⟩
theorem salTo_bd (bs : List Chan) (l : List Nat) (i : Nat) (hi : i ≤ l.length) : (salTo bs l i).2 ≤ l.length ∧ (salTo bs l i).1.length ≤ 64 := by
  induction i with
  | zero => exact ⟨Nat.zero_le _, by simp [salTo]⟩
  | succ i ih =>
    obtain ⟨h1, h2⟩ := ih (by omega)
    exact salP_bd bs l _ i h1 (by omega) h2
theorem joinS_length (ss : List (Int × Int)) (i : Nat) : (joinS ss i).length ≤ ss.length + 1 := by
  unfold joinS
  split
  · split
    · rw [List.length_append, List.length_dropLast]; simp <;> omega
    · simp
  · simp
theorem lostTo_length (bs : List Chan) (l : List Nat) (i : Nat) : (lostTo bs l i).length ≤ i := by
  induction i with
  | zero => simp [lostTo]
  | succ i ih =>
    rw [lostTo]
    split
    · have := joinS_length (lostTo bs l i) i; omega
    · omega

theorem sal_enc {bs : List Chan} (hb : bookOK bs = true) (l : List Fr) (h1 : ∀ x ∈ l, frOK bs x.1 x.2 = true) (hlen : l.length ≤ 64) :
    ∀ (j : Nat) (pre post : List Fr), l = pre ++ post → pre.length = j → (∀ (a b : List Fr) (x : Fr), l = a ++ x :: b → lastR a < x.1) →
      salTo bs (l.flatMap encF) (pre.flatMap encF).length = (pre, (pre.flatMap encF).length) ∧ lostTo bs (l.flatMap encF) (pre.flatMap encF).length = [] := by
  intro j
  induction j with
  | zero => intro pre post _ hp _; rw [List.length_eq_zero_iff.1 hp]; exact ⟨rfl, rfl⟩
  | succ j ih =>
    intro pre post hl hp hinc
    obtain ⟨pre, x, rfl⟩ : ∃ p x, pre = p ++ [x] := by
      rcases List.eq_nil_or_concat pre with rfl | ⟨l', b, rfl⟩
      · simp at hp
      · exact ⟨l', b, by simp⟩
    simp at hp
    have hl2 : l = pre ++ x :: post := by rw [hl]; simp
    obtain ⟨i1, i2⟩ := ih pre (x :: post) hl2 hp hinc
    have hlt := hinc pre post x hl2
    have hfm : l.flatMap encF = pre.flatMap encF ++ (encF x ++ post.flatMap encF) := by rw [hl2]; simp
    have hf := firstR_enc hb (h1 x (by rw [hl2]; simp)) (post.flatMap encF)
    have he : encB x.1 x.2 = encF x := rfl
    rw [he] at hf
    have hpl : pre.length < 64 := by rw [hl2] at hlen; simp at hlen; omega
    have hdr : (l.flatMap encF).drop (pre.flatMap encF).length = encF x ++ post.flatMap encF := by
      rw [hfm, List.drop_append_of_le_length (Nat.le_refl _), List.drop_eq_nil_of_le (Nat.le_refl _), List.nil_append]
    have hs := salP_new (bs := bs) (l := l.flatMap encF) (s := (pre, (pre.flatMap encF).length)) (i := (pre.flatMap encF).length) (x := (x.1, x.2)) (n := (encF x).length) (Nat.lt_irrefl _) hpl (by rw [hdr]; exact hf) hlt
    have hpos := encF_pos x
    have hl3 : ((pre ++ [x]).flatMap encF).length = (pre.flatMap encF).length + (encF x).length := by simp
    have key : ∀ t, t < (encF x).length → salTo bs (l.flatMap encF) ((pre.flatMap encF).length + 1 + t) = (pre ++ [x], (pre.flatMap encF).length + (encF x).length) ∧ lostTo bs (l.flatMap encF) ((pre.flatMap encF).length + 1 + t) = [] := by
      intro t
      induction t with
      | zero =>
        intro _
        rw [Nat.add_zero, salTo, lostTo, i1, hs]
        exact ⟨rfl, by simpa using i2⟩
      | succ t iht =>
        intro ht
        obtain ⟨t1, t2⟩ := iht (by omega)
        have hin := salP_in (bs := bs) (l := l.flatMap encF) (s := (pre ++ [x], (pre.flatMap encF).length + (encF x).length)) (i := (pre.flatMap encF).length + 1 + t) (by simp only; omega)
        rw [← Nat.add_assoc, salTo, lostTo, t1, hin]
        exact ⟨rfl, by simpa using t2⟩
    have hk := key ((encF x).length - 1) (by omega)
    rw [show (pre.flatMap encF).length + 1 + ((encF x).length - 1) = (pre.flatMap encF).length + (encF x).length from by omega] at hk
    rw [hl3]; exact hk

/-- the frames of a record, without their places -/
def frm (f : Frm) : Fr := (f.st, f.xss)
theorem upTo_get {l : List Frm} {n : Nat} (h : upTo l n = true) {k : Nat} (hk : k + 1 < n) : (l.getD k ⟨0, none, 0, []⟩).st < (l.getD (k + 1) ⟨0, none, 0, []⟩).st := by
  induction n with
  | zero => omega
  | succ n ih =>
    simp only [upTo, Bool.and_eq_true, Bool.or_eq_true, decide_eq_true_eq] at h
    by_cases hn : k + 1 < n
    · exact ih h.1 hn
    · obtain rfl : n = k + 1 := by omega
      rcases h.2 with h2 | h2
      · omega
      · simpa using h2
theorem rec_inc {bs : List Chan} {l : List Frm} (h : recErr bs l = 0) (a b : List Fr) (x : Fr) (he : l.map frm = a ++ x :: b) : lastR a < x.1 := by
  obtain ⟨-, -, h3, h4⟩ := recErr_zero h
  have hx : (l.map frm)[a.length]? = some x := by rw [he]; simp
  rw [List.getElem?_map, Option.map_eq_some_iff] at hx
  obtain ⟨f, hf, rfl⟩ := hx
  rcases List.eq_nil_or_concat a with rfl | ⟨a', y, rfl⟩
  · rw [lastR_nil]
    have := h3 f (List.mem_of_getElem? hf)
    simp only [frOK, inB, Bool.and_eq_true, decide_eq_true_eq] at this
    have := this.1.1
    show -1 < f.st
    omega
  · rw [List.concat_eq_append] at he hf
    have hy : (l.map frm)[a'.length]? = some y := by rw [he]; simp
    rw [List.getElem?_map, Option.map_eq_some_iff] at hy
    obtain ⟨g, hg, rfl⟩ := hy
    rw [List.length_append, List.length_singleton] at hf
    have hlt := (List.getElem?_eq_some_iff.1 hf).1
    have hu := upTo_get h4 hlt
    rw [List.getD_eq_getElem?_getD, List.getD_eq_getElem?_getD, hf, hg] at hu
    rw [List.concat_eq_append, lastR_snoc]
    exact hu
theorem inc_of {l : List Fr} (h : ∀ (a b : List Fr) (x : Fr), l = a ++ x :: b → lastR a < x.1) : ∀ (post pre : List Fr), l = pre ++ post → IncR (lastR pre) post := by
  intro post
  induction post with
  | nil => intro _ _; trivial
  | cons x post ih =>
    intro pre he
    refine ⟨h pre post x he, ?_⟩
    have := ih (pre ++ [x]) (by rw [he]; simp)
    rwa [lastR_snoc] at this
/-- what was packed is what is unpacked and salvaged -/
theorem pack_back {bs : List Chan} {l : List Frm} (h : recErr bs l = 0) (f : Nat) (hf : l.length ≤ f) :
    unpackR bs f ((l.map frm).flatMap encF) [] = some (l.map frm) ∧ salTo bs ((l.map frm).flatMap encF) ((l.map frm).flatMap encF).length = (l.map frm, ((l.map frm).flatMap encF).length) ∧ lostTo bs ((l.map frm).flatMap encF) ((l.map frm).flatMap encF).length = [] := by
  obtain ⟨h1, h2, h3, -⟩ := recErr_zero h
  have hb := bookErr_zero h1
  have hok : ∀ x ∈ l.map frm, frOK bs x.1 x.2 = true := by
    intro x hx
    obtain ⟨g, hg, rfl⟩ := List.mem_map.1 hx
    exact h3 g hg
  have hinc := rec_inc h
  have hi := inc_of hinc (l.map frm) [] rfl
  have hs := sal_enc hb (l.map frm) hok (by simpa using h2) _ (l.map frm) [] (by simp) rfl hinc
  refine ⟨?_, hs.1, hs.2⟩
  have := unpackR_enc hb (l.map frm) f [] hok hi (by simpa using h2) (by simpa using hf)
  simpa using this
end Go.Proofs.YtoochleabcjljaaGreatDoor
