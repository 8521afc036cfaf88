/- Parts of a proof, in build order: D7, T4, T5, S0. -/
import Derived.Test.YtoochleabcjljaaGreatDoorKd5

/- Codes: the frame with whose code bytes begin. -/
namespace Go.Proofs.YtoochleabcjljaaGreatDoor
open Go.RowKit

/-- what first returns -/
def FirstRes (base : Nat) (ac : Option Addr) (res : Option ((Int × List (List Int)) × Nat)) (e : Ending) (w' : World) : Prop := match res with
  | some p => ∃ v cc, e = .returned (.tuple #[.agg #[.int .i64 p.1.1, v], .slice ac p.2 cc, .bool true]) ∧ FrO base w' v p.1.2
  | none => e = .returned (.tuple #[.agg #[.int .i64 0, .slice none 0 0], .slice none 0 0, .bool false])
theorem firstR_none {bs : List Chan} {l : List Nat} (h : ¬ (7 ≤ l.length ∧ l.getD 0 0 = 165 ∧ l.getD 1 0 = 90 ∧ endR l ≤ l.length)) : firstR bs l = none := by unfold firstR; rw [if_neg h]
theorem getD_of {l : List Nat} {i d : Nat} (h : l[i]? = some d) : l.getD i 0 = d := by rw [List.getD_eq_getElem?_getD, h]; rfl

theorem results_cell2 {P : Program} {fn : Func} {p u v : Tmp} {ty : TypeId} (h : fn.results = #[.cell p ty, .tmp u, .tmp v]) (tmps : Array Value) (w : World) :
    (results fn tmps).run P w = ((asAddr (tmps.getD p undef)).run P w).andThen fun a w₁ => ((loadVar ty a).run P w₁).andThen fun x w₂ => .ok (.tuple #[x, tmps.getD u undef, tmps.getD v undef]) w₂ := by
  simp only [results, h]
  simp [Sem.run_bind, Result.andThen]

set_option maxRecDepth 100000 in
set_option maxHeartbeats 4000000 in
theorem first_code (ao : Option Addr) (bs : List Chan) (cap : Nat) (ac : Option Addr) (l : List Nat) (cc : Nat) (w : World) (hb : BookIn w ao bs cap) (hok : bookOK bs = true) (hc : Cells w ac (bys l)) (hd : ∀ d ∈ l, d < 256) (hl : l.length ≤ 1099511627776) (hcap : l.length ≤ cc) (hcap2 : cc ≤ 9223372036854775807) :
    Calls Tryz.prog 82 #[.slice ao bs.length cap, .slice ac l.length cc] w fun e w' => FirstRes w.heap.size ac (firstR bs l) e w' ∧ Below w.heap.size w w' := by
  have hbw := (Below.refl w.heap.size w).alloc (Nat.le_refl _) (.cells #[.int .i64 0, .slice none 0 0] 43)
  by_cases h7 : 7 ≤ l.length
  · obtain ⟨d0, hd0⟩ := get_of_lt (show 0 < l.length by omega)
    obtain ⟨d1, hd1⟩ := get_of_lt (show 1 < l.length by omega)
    obtain ⟨d2, hd2⟩ := get_of_lt (show 2 < l.length by omega)
    obtain ⟨d3, hd3⟩ := get_of_lt (show 3 < l.length by omega)
    obtain ⟨b, off, rfl⟩ := hc.addr (bys_ne (by omega))
    have c0 := cell_keep (hc.at (bys_get hd0)) hbw (Nat.le_refl _)
    rw [Nat.add_zero] at c0
    have c1 := cell_keep (hc.at (bys_get hd1)) hbw (Nat.le_refl _)
    have c2 := cell_keep (hc.at (bys_get hd2)) hbw (Nat.le_refl _)
    have c3 := cell_keep (hc.at (bys_get hd3)) hbw (Nat.le_refl _)
    have e2 := hd d2 (List.mem_of_getElem? hd2)
    have e3 := hd d3 (List.mem_of_getElem? hd3)
    have i0 : (0 : Int) < l.length := by omega
    have i1 : (1 : Int) < l.length := by omega
    have i2 : (2 : Int) < l.length := by omega
    have i3 : (3 : Int) < l.length := by omega
    have h7i : ¬ (l.length : Int) < 7 := by omega
    by_cases h0 : d0 = 165
    · subst h0
      by_cases h1 : d1 = 90
      · subst h1
        have hen : endR l = 4 + d2 * 256 + d3 + 3 := by unfold endR; rw [getD_of hd2, getD_of hd3]
        have w2 : wrap64 (d2 : Int) = d2 := by simp only [wrap64]; omega
        have w3 : wrap64 (d3 : Int) = d3 := by simp only [wrap64]; omega
        by_cases hend : endR l ≤ l.length
        · have HC := Lib.hid hc; have HB := Lib.hid hb; have HD := Lib.hid hd; have HOK := Lib.hid hok
          obtain ⟨en, hen2⟩ : ∃ en, en = endR l := ⟨_, rfl⟩
          have hbs16 : bs.length ≤ 16 ∧ 1 ≤ bs.length := by
            have := hok
            simp only [bookOK, inB, Bool.and_eq_true, decide_eq_true_eq] at this
            omega
          obtain ⟨hbs16, hbs1⟩ := hbs16
          have HCND : Hid (7 ≤ l.length ∧ l.getD 0 0 = 165 ∧ l.getD 1 0 = 90 ∧ endR l ≤ l.length) := Lib.hid ⟨h7, getD_of hd0, getD_of hd1, hend⟩
          rw [← hen2] at hen hend
          have hEN : (4 : Int) + (d2 : Int) * 256 + d3 + 3 = (en : Int) := by omega
          have hlt : ¬ (l.length : Int) < 4 + (d2 : Int) * 256 + d3 + 3 := by omega
          have hle7 : 7 ≤ en := by omega
          have HE2 := Lib.hid hen2
          have HEN := Lib.hid hEN
          clear hEN
          have hbd := bel_drewN hbw
          clear hc hb hd hok hen2
          have HEN3 := Lib.hid hen
          clear hen
          by_cases h77 : en = 7
          · subst h77
            have hr7 : rowsR bs l = none := by
              have h1 : (l.take (7 - 3)).drop 4 = [] := by
                apply List.eq_nil_of_length_eq_zero
                rw [List.length_drop, List.length_take]; omega
              unfold rowsR
              rw [← HE2.out, h1]; rfl
            have hn : firstR bs l = none := by
              unfold firstR; rw [if_pos HCND.out, hr7]
            have HN := Lib.hid hn
            obtain ⟨c, hx⟩ := get_of_lt (show 0 < bs.length by omega)
            obtain ⟨bb, bo, rfl⟩ := HB.out.cells.addr (chs_ne (by omega))
            have hi0 : (0 : Int) < bs.length := by omega
            have HX := Lib.hid hx
            clear hr7 hn hx
            go_enter Tryz.func82, Tryz.ntmps82
            go_wp2_with fail
            go_quiet (fail)
            have k1 : ¬ (l.length : Int) < (7 : Int) := by omega
            have k2 : (7 : Int) ≤ cc := by omega
            have k3 : 7 ≤ cc := by omega
            rw [HEN.out]
            clear HEN hlt w2 w3 c0 c1 c2 c3 hd0 hd1 hd2 hd3
            go_wp2_with fail
            have hblt : b < w.heap.size := by
              have h1 := HC.out.at (bys_get (get_of_lt (show 0 < l.length by omega)).choose_spec)
              have h2 := World.block_lt_of_cell? w _ h1
              simpa using h2
            have hw1 := (bel_drewN hbw nq).alloc (by simp) (.cells #[.slice (some ⟨b, off, none⟩) 0 0, .int .i64 0] 180)
            have hbx1 : Blk (((w.alloc (.cells #[.int .i64 0, .slice none 0 0] 43)).drewN nq).alloc (.cells #[.slice (some ⟨b, off, none⟩) 0 0, .int .i64 0] 180)) w.heap.size 43 #[.int .i64 0, .slice none 0 0] := Blk.alloc (W := (w.alloc (.cells #[.int .i64 0, .slice none 0 0] 43)).drewN nq) (Blk.new w 43 #[.int .i64 0, .slice none 0 0]) _
            have hrd1 : RdS w.heap.size (w.heap.size + 1) [] (((w.alloc (.cells #[.int .i64 0, .slice none 0 0] 43)).drewN nq).alloc (.cells #[.slice (some ⟨b, off, none⟩) 0 0, .int .i64 0] 180)) [] := by
              refine ⟨by omega, some ⟨b, off, none⟩, 0, 0, Nat.zero_le _, rfl, ?_, Cells.nil _ _, fun b' off' e => by simp at e; omega⟩
              have h1 := World.alloc_heap_new ((w.alloc (.cells #[.int .i64 0, .slice none 0 0] 43)).drewN nq) (.cells #[.slice (some ⟨b, off, none⟩) 0 0, .int .i64 0] 180)
              have h2 : ((w.alloc (.cells #[.int .i64 0, .slice none 0 0] 43)).drewN nq).heap.size = w.heap.size + 1 := by simp
              rw [h2] at h1
              exact h1
            generalize ((w.alloc (.cells #[.int .i64 0, .slice none 0 0] 43)).drewN nq).alloc (.cells #[.slice (some ⟨b, off, none⟩) 0 0, .int .i64 0] 180) = W1 at *
            refine (reader_take w.heap.size (w.heap.size + 1) [] [] 32 W1 hrd1 (by simp) (by simp) (by omega)).mono ?_
            rintro e w2 ⟨rfl, hs2, hg2⟩
            have ht0 : takeR [] 32 = ((0, false), []) := rfl
            rw [ht0]
            have hbx2 := hbx1.kept hg2 (by simp)
            have hb2 : Below w.heap.size w w2 := hw1.grown hg2 (by have := hw1.size; omega) (fun k e => by simp at e; omega)
            have hz2 := hb2.size
            have hb3 := hb2.alloc hz2 (.cells #[.int .i64 0, .slice none 0 0] 43)
            have hb4 := hb3.alloc (by simp; omega) (.cells #[.string c.name, .int .i64 c.rate, .int .i64 c.bits] 106)
            have hbx4 := (hbx2.alloc (.cells #[.int .i64 0, .slice none 0 0] 43)).alloc (.cells #[.string c.name, .int .i64 c.rate, .int .i64 c.bits] 106)
            obtain ⟨g0, g1, g2⟩ := chs_get HX.out
            have c0 := cell_keep (HB.out.cells.at g0) hb3 (Nat.le_refl _)
            have c1 := cell_keep (HB.out.cells.at g1) hb3 (Nat.le_refl _)
            have c2 := cell_keep (HB.out.cells.at g2) hb3 (Nat.le_refl _)
            rw [← Nat.add_assoc] at c1 c2
            simp only [Nat.zero_mul, Nat.add_zero] at c0 c1 c2
            have x0 := hbx4.c0
            have x1 := hbx4.c1
            have y0 := hbx4.free 0
            have y1 := hbx4.free 1
            clear hs2 hg2 hw1 hbx1 hrd1 hbd hbw g0 g1 g2 hbx2 ht0
            go_wp2_with fail
            refine wp_loop_rounds 1 ?_
            rw [rounds_succ]
            go_wp2_with fail
            (try simp only [Exit.inBlock, Exit.then])
            refine bodyPost_ret (v := .tuple #[.agg #[.int .i64 0, .slice none 0 0], .slice none 0 0, .bool false]) (by rw [results_cell2 rfl]; go_simp) rfl ⟨by rw [HN.out]; exact rfl, ?_⟩
            exact (hb4.setCell (p := ⟨w.heap.size, 0, none⟩) (Nat.le_refl _) _).setCell (p := ⟨w.heap.size, 1, none⟩) (Nat.le_refl _) _
          · go_enter Tryz.func82, Tryz.ntmps82
            go_wp2_with fail
            go_quiet (fail)
            have k1 : ¬ (l.length : Int) < (en : Int) := by omega
            have k2 : (en : Int) ≤ cc := by omega
            have k3 : IntKind.i64.wrap ((en : Int) - 3) = (en : Int) - 3 := IntWalk.i64_in _ (by omega)
            have k4 : (4 : Int) ≤ (en : Int) - 3 := by omega
            have k5 : (en : Int) - 3 ≤ en := by omega
            have k6 : (0 : Int) ≤ (en : Int) - 3 := by omega
            have k7 : ((en : Int) - 3).toNat = en - 3 := by omega
            have k8 : ¬ (en - 3 - 4 = 0) := by omega
            have k9 : ¬ (en ≤ 7) := by omega
            rw [HEN.out]
            clear HEN hlt w2 w3 c0 c1 c2 c3 hd0 hd1 hd2 hd3
            go_wp2_with fail
            have hblt : b < w.heap.size := by
              have h1 := HC.out.at (bys_get (get_of_lt (show 0 < l.length by omega)).choose_spec)
              have h2 := World.block_lt_of_cell? w _ h1
              simpa using h2
            obtain ⟨body, hbody⟩ : ∃ body, body = (l.take (en - 3)).drop 4 := ⟨_, rfl⟩
            have hbl : body.length = en - 3 - 4 := by rw [hbody, List.length_drop, List.length_take]; omega
            have hcb : Cells w (some ⟨b, off + 4, none⟩) (bys body) := by
              refine .inr ⟨b, off + 4, rfl, fun j u hu => ?_⟩
              have h1 : (bys l)[4 + j]? = some u := by
                rw [← hu, hbody, bys, bys, List.map_drop, List.map_take, List.getElem?_drop, List.getElem?_take, if_pos]
                have := (List.getElem?_eq_some_iff.1 hu).1
                rw [bys_length] at this; omega
              have h2 := HC.out.at h1
              rwa [← Nat.add_assoc] at h2
            have hbd256 : ∀ d ∈ body, d < 256 := fun d hd => HD.out d (List.mem_of_mem_take (List.mem_of_mem_drop (by rw [← hbody]; exact hd)))
            have hw1 := (bel_drewN hbw nq).alloc (by simp) (.cells #[.slice (some ⟨b, off + 4, none⟩) (en - 3 - 4) (en - 3 - 4), .int .i64 0] 180)
            have hbx1 : Blk (((w.alloc (.cells #[.int .i64 0, .slice none 0 0] 43)).drewN nq).alloc (.cells #[.slice (some ⟨b, off + 4, none⟩) (en - 3 - 4) (en - 3 - 4), .int .i64 0] 180)) w.heap.size 43 #[.int .i64 0, .slice none 0 0] := Blk.alloc (W := (w.alloc (.cells #[.int .i64 0, .slice none 0 0] 43)).drewN nq) (Blk.new w 43 #[.int .i64 0, .slice none 0 0]) _
            have hrd1 : RdS w.heap.size (w.heap.size + 1) body (((w.alloc (.cells #[.int .i64 0, .slice none 0 0] 43)).drewN nq).alloc (.cells #[.slice (some ⟨b, off + 4, none⟩) (en - 3 - 4) (en - 3 - 4), .int .i64 0] 180)) (unB body) := by
              refine ⟨by omega, some ⟨b, off + 4, none⟩, en - 3 - 4, 0, Nat.zero_le _, rfl, ?_, hcb.below hw1 (Nat.le_refl _), fun b' off' e => by simp at e; omega⟩
              have h1 := World.alloc_heap_new ((w.alloc (.cells #[.int .i64 0, .slice none 0 0] 43)).drewN nq) (.cells #[.slice (some ⟨b, off + 4, none⟩) (en - 3 - 4) (en - 3 - 4), .int .i64 0] 180)
              have h2 : ((w.alloc (.cells #[.int .i64 0, .slice none 0 0] 43)).drewN nq).heap.size = w.heap.size + 1 := by simp
              rw [h2] at h1
              rw [hbl]; exact h1
            have hz1 : (((w.alloc (.cells #[.int .i64 0, .slice none 0 0] 43)).drewN nq).alloc (.cells #[.slice (some ⟨b, off + 4, none⟩) (en - 3 - 4) (en - 3 - 4), .int .i64 0] 180)).heap.size = w.heap.size + 2 := by simp
            generalize ((w.alloc (.cells #[.int .i64 0, .slice none 0 0] 43)).drewN nq).alloc (.cells #[.slice (some ⟨b, off + 4, none⟩) (en - 3 - 4) (en - 3 - 4), .int .i64 0] 180) = W1 at *
            have htk := reader_take w.heap.size (w.heap.size + 1) body (unB body) 32 W1 hrd1 hbd256 (by omega) (by omega)
            have hrow : rowsR bs l = if (takeR (unB body) 32).1.2 then chR bs (takeR (unB body) 32).2 [] else none := by rw [rowsR, ← HE2.out, ← hbody]
            have hsta : startR l = (takeR (unB body) 32).1.1 := by rw [startR, ← HE2.out, ← hbody]
            have hfst : firstR bs l = match rowsR bs l with | none => none | some xss => if frOK bs (startR l : Nat) xss && decide (encB (startR l : Nat) xss = l.take en) then some (((startR l : Nat), xss), en) else none := by
              unfold firstR; rw [if_pos HCND.out, HE2.out]; cases rowsR bs l <;> rfl
            have hb32 := takeR_bd hrd1.bits 32
            obtain ⟨hst32, -⟩ := hb32
            rw [hsta] at hfst
            have HTK := Lib.hid htk; have HROW := Lib.hid hrow; have HFST := Lib.hid hfst
            have HW1 := Lib.hid hw1; have HBX1 := Lib.hid hbx1; have HBD := Lib.hid hbd256
            clear htk hrow hfst hw1 hbx1 hbd256 hrd1 hcb hbody hsta
            generalize takeR (unB body) 32 = T at *
            obtain ⟨⟨st, ok⟩, r1⟩ := T
            simp only at HROW HFST hst32
            generalize rowsR bs l = rows at *
            clear hbd hbw HE2 HEN3 HCND
            refine HTK.out.mono ?_
            rintro e w2 ⟨rfl, hs2, hg2⟩
            have hbx2 := HBX1.out.kept hg2 (by simp)
            have hb2 : Below w.heap.size w w2 := HW1.out.grown hg2 (by omega) (fun k e => by simp at e; omega)
            have hz2 := hg2.size
            have HS2 := Lib.hid hs2
            clear hg2 hs2 HTK HBX1 HW1
            go_wp2_with fail
            have hbx3 := hbx2.alloc (.cells #[.int .i64 st, .slice none 0 0] 43)
            have hf3 := Blk.new w2 43 #[.int .i64 (st : Nat), .slice none 0 0]
            have hb3 := hb2.alloc (by omega) (.cells #[.int .i64 st, .slice none 0 0] 43)
            have hz3 : (w2.alloc (.cells #[.int .i64 (st : Nat), .slice none 0 0] 43)).heap.size = w2.heap.size + 1 := by simp
            have hst3 : (ok = true ∧ ∃ (s : List Nat) (acc : List (List Int)) (v : Value), RdS w.heap.size (w.heap.size + 1) body (w2.alloc (.cells #[.int .i64 (st : Nat), .slice none 0 0] 43)) s ∧ Blk (w2.alloc (.cells #[.int .i64 (st : Nat), .slice none 0 0] 43)) w2.heap.size 43 #[.int .i64 (st : Nat), v] ∧ FrO w.heap.size (w2.alloc (.cells #[.int .i64 (st : Nat), .slice none 0 0] 43)) v acc ∧ acc.length = 0 ∧ chR (bs.drop 0) s acc = rows) ∨ (ok = false ∧ rows = none) := by
              cases ok with
              | true => exact .inl ⟨rfl, r1, [], .slice none 0 0, HS2.out.kept (World.grownBy_alloc w2 _ none) (fun k e => by simp at e), hf3, FrO.nil _ _, rfl, by rw [List.drop_zero, HROW.out, if_pos rfl]⟩
              | false => exact .inr ⟨rfl, by rw [HROW.out, if_neg (by simp)]⟩
            have HST3 := Lib.hid hst3; have HBX3 := Lib.hid hbx3; have HB3 := Lib.hid hb3
            clear hst3 hbx3 hf3 hb3 hbx2 hb2 HS2 HROW
            go_loopw [11, 70] (fun okv i wr => ∃ k : Nat, k ≤ bs.length ∧ i = .int .i64 k ∧ Blk wr w.heap.size 43 #[.int .i64 0, .slice none 0 0] ∧ Below w.heap.size w wr ∧ w2.heap.size < wr.heap.size ∧
              ((okv = .bool true ∧ ∃ (s : List Nat) (acc : List (List Int)) (v : Value), RdS w.heap.size (w.heap.size + 1) body wr s ∧ Blk wr w2.heap.size 43 #[.int .i64 (st : Nat), v] ∧ FrO w.heap.size wr v acc ∧ acc.length = k ∧ chR (bs.drop k) s acc = rows) ∨ (okv = .bool false ∧ rows = none))) (fun _ i _ => bs.length - (intOf i).toNat)
            case atStart =>
              refine ⟨0, Nat.zero_le _, rfl, HBX3.out, HB3.out, by omega, ?_⟩
              rcases HST3.out with ⟨rfl, h⟩ | ⟨rfl, h⟩
              · exact .inl ⟨rfl, h⟩
              · exact .inr ⟨rfl, h⟩
            case round =>
              clear HST3 HBX3 HB3 hz3
              obtain ⟨k, hk, rfl, hbx, hbe, hzr, hcase⟩ := hrel
              rcases hcase with ⟨rfl, s, acc, v, hrd, hf, hfo, hal, hch⟩ | ⟨rfl, hno⟩
              · by_cases hlt : k < bs.length
                · obtain ⟨c, hx⟩ := get_of_lt hlt
                  obtain ⟨bb, bo, rfl⟩ := HB.out.cells.addr (chs_ne (by omega))
                  obtain ⟨g0, g1, g2⟩ := chs_get hx
                  have c0 := cell_keep (HB.out.cells.at g0) hbe (Nat.le_refl _)
                  have c1 := cell_keep (HB.out.cells.at g1) hbe (Nat.le_refl _)
                  have c2 := cell_keep (HB.out.cells.at g2) hbe (Nat.le_refl _)
                  rw [← Nat.add_assoc] at c1 c2
                  obtain ⟨q1, q2, -, -⟩ := book_get HOK.out hx
                  obtain ⟨m, hm⟩ := Int.eq_ofNat_of_zero_le (show 0 ≤ c.rate by omega)
                  have hch2 : chR (bs.drop k) s acc = match readR m s with | some (x, r') => chR (bs.drop (k + 1)) r' (acc ++ [x]) | none => none := by
                    rw [List.drop_eq_getElem_cons hlt, (List.getElem?_eq_some_iff.1 hx).2, chR, hm, Int.toNat_natCast]
                    cases readR m s <;> rfl
                  have hi1 : (k : Int) < bs.length := by omega
                  rw [hm] at c1 q1 q2
                  have hwa := World.grownBy_alloc wr (.cells #[.string c.name, .int .i64 (m : Nat), .int .i64 c.bits] 106)
                  have hra := read_any w.heap.size (w.heap.size + 1) body s m _ (hrd.kept (hwa none) (fun k e => by simp at e)) HBD.out (by omega) (by omega)
                  obtain ⟨crd, hcrd⟩ := hrd.blk
                  have HCRD := Lib.hid hcrd
                  have HRA := Lib.hid hra; have HF := Lib.hid hf; have HFO := Lib.hid hfo; have HBX := Lib.hid hbx; have HCH := Lib.hid (hch2.symm.trans hch); have HWA := Lib.hid hwa; have HX := Lib.hid hx
                  clear hra hf hfo hbx hch hch2 hwa hx hrd g0 g1 g2 hm hcrd
                  go_wp2_with fail
                  refine HRA.out.mono ?_
                  rintro e w4 ⟨hres, hg4⟩
                  have hg5 : wr.grownBy w4 (some (w.heap.size + 1)) := (HWA.out _).trans hg4
                  have hbx4 := HBX.out.kept hg5 (by simp)
                  have hf4 := HF.out.kept hg5 (by simp; omega)
                  have hfo4 := HFO.out.kept_blk hg5 HCRD.out (by decide) (by decide)
                  have hbe4 := hbe.grown hg5 (by omega) (fun k e => by simp at e; omega)
                  have hz4 := hg5.size
                  obtain ⟨vs, hvl, hov, hrs⟩ := hfo4
                  obtain ⟨i0, hi, hy0, hy1, hy2⟩ := info_parts Tryz.infoInts
                  have z1 := hf4.c1
                  have z2 := hf4.free 1
                  have HF4 := Lib.hid hf4; have HBX4 := Lib.hid hbx4; have HOV := Lib.hid hov; have HRS := Lib.hid hrs; have HVL := Lib.hid hvl
                  clear hbx4 hf4 hov hrs HF HFO HBX HRA hg5 hg4 HWA hbe hvl
                  cases hR : readR m s with
                  | none =>
                    rw [hR] at hres
                    obtain rfl : e = .returned (.tuple #[.slice none 0 0, .bool false]) := hres
                    have hch := HCH.out
                    rw [hR] at hch
                    have HN := Lib.hid hch.symm
                    clear hch
                    go_wp2_with (at_builtin; refine wpList_append_lies _ rfl _ _ _ rfl w.heap.size 22 i0 (.slice none 0 0) 1 24 Tryz.underlying41 hi hy0 hy1 hy2 rfl (by decide) v acc.length vs rfl (HOV.out.alloc _) ⟨w4.heap.size, 0, none⟩ 1 1 [.slice none 0 0] rfl rfl (news1 _ _ _) (by simp [Value.oneCell']) (by omega) (by unfold maxLen; omega) (by omega) (by simp; omega) (w4.heap.size + 1) (by simp) ?_)
                    intro g1 cg1 w5 hown5 hgrow hat hlt1
                    have hf5 := (HF4.out.alloc (.cells #[.slice none 0 0] 22)).kept hgrow (fun e => blk_own_ne HF4.out HOV.out (by decide) e.symm)
                    have hbx5 := (HBX4.out.alloc (.cells #[.slice none 0 0] 22)).kept hgrow (fun e => blk_own_ne HBX4.out HOV.out (by decide) e.symm)
                    have hbe5 := (hbe4.alloc (by omega) (.cells #[.slice none 0 0] 22)).grown hgrow (by simp; omega) (fun j e => (HOV.out.lt j e).1)
                    have hz5 : w2.heap.size < w5.heap.size := by have := hgrow.size; simp at this; omega
                    have y1 := hf5.c1
                    have y2 := hf5.free 1
                    have hbx6 := hbx5.other (B' := w2.heap.size) (by omega) 1 (.slice (some ⟨g1, 0, none⟩) (k + 1) cg1)
                    have hbe6 := hbe5.setCell (p := ⟨w2.heap.size, 1, none⟩) (by simp; omega) (.slice (some ⟨g1, 0, none⟩) (k + 1) cg1)
                    have HBX6 := Lib.hid hbx6
                    clear hf5 hbx5 hgrow hown5 hat hlt1 hbx6 z1 z2 hbe4 hbe5
                    go_wp2
                    go_roundw
                    case rel => exact ⟨k + 1, by omega, by go_num, HBX6.out, hbe6, by simpa using hz5, .inr ⟨rfl, HN.out⟩⟩
                    case measure => simp [intOf]; omega
                  | some p =>
                    obtain ⟨xs, r'⟩ := p
                    rw [hR] at hres
                    obtain ⟨⟨x, rfl, hox⟩, hs4⟩ := hres
                    have hch := HCH.out
                    rw [hR] at hch
                    have HCH2 := Lib.hid hch
                    have HOX := Lib.hid (own_base hox (show w.heap.size ≤ (wr.alloc (.cells #[.string c.name, .int .i64 (m : Nat), .int .i64 c.bits] 106)).heap.size by simp; omega))
                    have HS4 := Lib.hid hs4
                    clear hch hox hs4
                    obtain ⟨xa, xc, rfl, -⟩ := own_cells HOX.out
                    go_wp2_with (at_builtin; refine wpList_append_lies _ rfl _ _ _ rfl w.heap.size 22 i0 (.slice none 0 0) 1 24 Tryz.underlying41 hi hy0 hy1 hy2 rfl (by decide) v acc.length vs rfl (HOV.out.alloc _) ⟨w4.heap.size, 0, none⟩ 1 1 [.slice xa xs.length xc] rfl rfl (news1 _ _ _) (by simp [Value.oneCell']) (by omega) (by unfold maxLen; omega) (by omega) (by simp; omega) (w4.heap.size + 1) (by simp) ?_)
                    intro g1 cg1 w5 hown5 hgrow hat hlt1
                    have hrd5 := (HS4.out.kept (World.grownBy_alloc w4 (.cells #[.slice xa xs.length xc] 22) none) (fun k e => by simp at e)).kept hgrow (fun j e => ⟨(HOV.out.lt j e).1, fun e2 => by
                      obtain ⟨cs, hcs⟩ := HS4.out.blk
                      exact blk_own_ne hcs HOV.out (by decide) (by rw [← e2]; exact e)⟩)
                    have hfo5 := FrO.snoc (w := w4.alloc (.cells #[.slice xa xs.length xc] 22)) (v' := .slice (some ⟨g1, 0, none⟩) (k + 1) cg1) (xss := acc) (xs := xs) HVL.out (fun i x xs hx hxs => (HRS.out i x xs hx hxs).alloc _) (HOV.out.alloc _) (HOX.out.alloc _) hgrow (by rw [hal]; exact hown5)
                    have hf5 := (HF4.out.alloc (.cells #[.slice xa xs.length xc] 22)).kept hgrow (fun e => blk_own_ne HF4.out HOV.out (by decide) e.symm)
                    have hbx5 := (HBX4.out.alloc (.cells #[.slice xa xs.length xc] 22)).kept hgrow (fun e => blk_own_ne HBX4.out HOV.out (by decide) e.symm)
                    have hbe5 := (hbe4.alloc (by omega) (.cells #[.slice xa xs.length xc] 22)).grown hgrow (by simp; omega) (fun j e => (HOV.out.lt j e).1)
                    have hz5 : w2.heap.size < w5.heap.size := by have := hgrow.size; simp at this; omega
                    have y1 := hf5.c1
                    have y2 := hf5.free 1
                    have hgs := grown_set w5 ⟨w2.heap.size, 1, none⟩ (.slice (some ⟨g1, 0, none⟩) (k + 1) cg1)
                    have hrd6 := hrd5.kept hgs (fun j e => by simp at e; omega)
                    have hfo6 := hfo5.kept_blk hgs hf5 (by decide) (by decide)
                    have hf6 := hf5.set1 (.slice (some ⟨g1, 0, none⟩) (k + 1) cg1)
                    have hbx6 := hbx5.other (B' := w2.heap.size) (by omega) 1 (.slice (some ⟨g1, 0, none⟩) (k + 1) cg1)
                    have hbe6 := hbe5.setCell (p := ⟨w2.heap.size, 1, none⟩) (by simp; omega) (.slice (some ⟨g1, 0, none⟩) (k + 1) cg1)
                    have HBX6 := Lib.hid hbx6; have HRD6 := Lib.hid hrd6; have HFO6 := Lib.hid hfo6; have HF6 := Lib.hid hf6
                    clear hf5 hbx5 hgrow hown5 hat hlt1 hbx6 z1 z2 hbe4 hbe5 hrd5 hfo5 hrd6 hfo6 hf6 hgs
                    go_wp2
                    go_roundw
                    case rel => exact ⟨k + 1, by omega, by go_num, HBX6.out, hbe6, by simpa using hz5, .inl ⟨rfl, r', acc ++ [xs], _, HRD6.out, HF6.out, HFO6.out, by rw [List.length_append, hal]; rfl, HCH2.out⟩⟩
                    case measure => simp [intOf]; omega
                · obtain rfl : k = bs.length := by omega
                  rw [List.drop_length, chR] at hch
                  have hz := hbe.size
                  obtain ⟨a, c, vs, rfl, hca, hrv, hal2⟩ := hfo.cells
                  have hfk := frameOK_any ao bs cap (st : Nat) a vs acc c wr (HB.out.cells.below hbe (Nat.le_refl _)) (by omega) hca hrv hal2 HOK.out
                  have hfo2 := hfo
                  have hen := fun (W : World) (h : Cells W a vs) (h2 : RowsV W vs acc) (hfr : frOK bs (st : Nat) acc = true) => encode_any ao acc.length cap (st : Nat) a vs acc c W (by omega) rfl h h2 (by omega)
                  rw [hal] at hfk hf hfo hen
                  have z0 := hf.c0
                  have z1 := hf.c1
                  have x0 := hbx.c0
                  have x1 := hbx.c1
                  have y0 := hbx.free 0
                  have y1 := hbx.free 1
                  have HFK := Lib.hid hfk; have HF := Lib.hid hf; have HFO := Lib.hid hfo; have HBX := Lib.hid hbx; have HCA := Lib.hid hca; have HRV := Lib.hid hrv; have HEN := Lib.hid hen
                  have HRW := Lib.hid hch
                  clear hfk hf hfo hbx hca hrv hch hfo2 hen hrd
                  go_wp2_with fail
                  refine HFK.out.mono ?_
                  rintro e w3 ⟨rfl, hb3⟩
                  have hbe3 := hbe.trans (hb3.mono hz)
                  have hbx3 := HBX.out.below hb3 (by omega)
                  have hf3 := HF.out.below hb3 (by omega)
                  have x0 := hbx3.c0
                  have x1 := hbx3.c1
                  have y0 := hbx3.free 0
                  have y1 := hbx3.free 1
                  have z0 := hf3.c0
                  have z1 := hf3.c1
                  have HBX3 := Lib.hid hbx3; have HF3 := Lib.hid hf3; have HB3 := Lib.hid hb3
                  clear hbx3 hf3 hb3
                  cases hfr : frOK bs (st : Nat) acc with
                  | false =>
                    have hn : firstR bs l = none := by rw [HFST.out, ← HRW.out]; simp [hfr]
                    have HN := Lib.hid hn
                    clear hn hfr
                    go_wp2_with fail
                    (try simp only [Exit.inBlock, Exit.then])
                    refine bodyPost_ret (v := .tuple #[.agg #[.int .i64 0, .slice none 0 0], .slice none 0 0, .bool false]) (by rw [results_cell2 rfl]; go_simp) rfl ⟨by rw [HN.out]; exact rfl, ?_⟩
                    exact (hbe3.setCell (p := ⟨w.heap.size, 0, none⟩) (Nat.le_refl _) _).setCell (p := ⟨w.heap.size, 1, none⟩) (Nat.le_refl _) _
                  | true =>
                    have hz0 : frmErr bs (st : Nat) acc = 0 := by
                      have : bookErr bs = 0 := by simp [bookErr, HOK.out]
                      simp [frmErr, this, hfr]
                    obtain ⟨-, -, -, -, hs1, hx64, hxb⟩ := frmErr_zero hz0
                    have HXX := Lib.hid (And.intro hs1 (And.intro hx64 hxb))
                    have HFR := Lib.hid hfr
                    clear hz0 hs1 hx64 hxb hfr
                    have hn3 := HB3.out.size
                    go_wp2_with fail
                    refine (HEN.out w3 (HCA.out.below HB3.out (Nat.le_refl _)) (HRV.out.below HB3.out (Nat.le_refl _)) HFR.out HXX.out.1 HXX.out.2.1 HXX.out.2.2).mono ?_
                    rintro e w4 ⟨⟨ve, rfl, hoe⟩, hb4⟩
                    have hbe4 := hbe3.trans (hb4.mono (by omega))
                    have hbx4 := HBX3.out.below hb4 (by omega)
                    have hf4 := HF3.out.below hb4 (by omega)
                    obtain ⟨ea, ec, rfl, hce, hce1, hce2⟩ := own_cap hoe
                    have hlt : (l.take en).length = en := by rw [List.length_take]; omega
                    have hct : Cells w (some ⟨b, off, none⟩) (bys (l.take en)) := by
                      refine .inr ⟨b, off, rfl, fun j u hu => ?_⟩
                      refine HC.out.at ?_
                      rw [← hu, bys, bys, List.map_take, List.getElem?_take, if_pos]
                      have := (List.getElem?_eq_some_iff.1 hu).1
                      rw [bys_length, hlt] at this; exact this
                    have heq := equal_bytes ea (some ⟨b, off, none⟩) (encB (st : Nat) acc) (l.take en) ec en w4 hce (hct.below hbe4 (Nat.le_refl _)) (by unfold maxLen at hce2; omega) (by omega)
                    rw [hlt] at heq
                    have HEQ := Lib.hid heq; have HBX4 := Lib.hid hbx4; have HF4 := Lib.hid hf4; have HB4 := Lib.hid hb4
                    have hn4 := hb4.size
                    clear hoe hce hct heq hbx4 hf4 x0 x1 y0 y1 z0 z1 hlt hb4
                    go_wp2_with fail
                    refine HEQ.out.mono ?_
                    rintro e w5 ⟨rfl, hb5⟩
                    have hbe5 := hbe4.trans (hb5.mono (by omega))
                    have hbx5 := HBX4.out.below hb5 (by omega)
                    have hf5 := HF4.out.below hb5 (by omega)
                    have x0 := hbx5.c0
                    have x1 := hbx5.c1
                    have y0 := hbx5.free 0
                    have y1 := hbx5.free 1
                    have z0 := hf5.c0
                    have z1 := hf5.c1
                    have HB5 := Lib.hid hb5; have HBX5 := Lib.hid hbx5
                    clear hbx5 hf5 hb5
                    by_cases hee : encB (st : Nat) acc = l.take en
                    · have hn : firstR bs l = some ((((st : Nat) : Int), acc), en) := by rw [HFST.out, ← HRW.out]; simp [HFR.out, hee]
                      have HN := Lib.hid hn
                      have hed : decide (encB (st : Nat) acc = l.take en) = true := by rw [decide_eq_true_iff]; exact hee
                      rw [hed]
                      clear hn hed hee
                      have hfo5 := ((HFO.out.below HB3.out).below HB4.out).below HB5.out
                      have hgs0 := grown_set w5 ⟨w.heap.size, 0, none⟩ (.int .i64 (st : Nat))
                      have hgs1 := grown_set (w5.setCell ⟨w.heap.size, 0, none⟩ (.int .i64 (st : Nat))) ⟨w.heap.size, 1, none⟩ (.slice a bs.length c)
                      have hfo6 := (hfo5.kept_blk hgs0 HBX5.out (by decide) (by decide)).kept_blk hgs1 (HBX5.out.set0 _) (by decide) (by decide)
                      have HFO6 := Lib.hid hfo6
                      clear hfo5 hgs0 hgs1 hfo6
                      go_wp2_with fail
                      (try simp only [Exit.inBlock, Exit.then])
                      refine bodyPost_ret (v := .tuple #[.agg #[.int .i64 (st : Nat), .slice a bs.length c], .slice (some ⟨b, off, none⟩) en en, .bool true]) (by rw [results_cell2 rfl]; go_simp) rfl ⟨by rw [HN.out]; exact ⟨_, _, rfl, HFO6.out⟩, ?_⟩
                      exact (hbe5.setCell (p := ⟨w.heap.size, 0, none⟩) (Nat.le_refl _) _).setCell (p := ⟨w.heap.size, 1, none⟩) (Nat.le_refl _) _
                    · have hn : firstR bs l = none := by rw [HFST.out, ← HRW.out]; simp [hee]
                      have HN := Lib.hid hn
                      have hed : decide (encB (st : Nat) acc = l.take en) = false := by rw [decide_eq_false_iff_not]; exact hee
                      rw [hed]
                      clear hn hed hee
                      go_wp2_with fail
                      (try simp only [Exit.inBlock, Exit.then])
                      refine bodyPost_ret (v := .tuple #[.agg #[.int .i64 0, .slice none 0 0], .slice none 0 0, .bool false]) (by rw [results_cell2 rfl]; go_simp) rfl ⟨by rw [HN.out]; exact rfl, ?_⟩
                      exact (hbe5.setCell (p := ⟨w.heap.size, 0, none⟩) (Nat.le_refl _) _).setCell (p := ⟨w.heap.size, 1, none⟩) (Nat.le_refl _) _
              · have hn : firstR bs l = none := by rw [HFST.out, hno]
                have HN := Lib.hid hn
                have x0 := hbx.c0
                have x1 := hbx.c1
                have y0 := hbx.free 0
                have y1 := hbx.free 1
                have hz := hbe.size
                have HBX := Lib.hid hbx
                clear hbx hn hno
                by_cases hlt : k < bs.length
                · obtain ⟨c, hx⟩ := get_of_lt hlt
                  obtain ⟨bb, bo, rfl⟩ := HB.out.cells.addr (chs_ne (by omega))
                  obtain ⟨g0, g1, g2⟩ := chs_get hx
                  have c0 := cell_keep (HB.out.cells.at g0) hbe (Nat.le_refl _)
                  have c1 := cell_keep (HB.out.cells.at g1) hbe (Nat.le_refl _)
                  have c2 := cell_keep (HB.out.cells.at g2) hbe (Nat.le_refl _)
                  rw [← Nat.add_assoc] at c1 c2
                  have hi1 : (k : Int) < bs.length := by omega
                  have hbe2 := hbe.alloc hz (.cells #[.string c.name, .int .i64 c.rate, .int .i64 c.bits] 106)
                  have hbx2 := HBX.out.alloc (.cells #[.string c.name, .int .i64 c.rate, .int .i64 c.bits] 106)
                  have x0 := hbx2.c0
                  have x1 := hbx2.c1
                  have y0 := hbx2.free 0
                  have y1 := hbx2.free 1
                  clear hx g0 g1 g2 hbx2
                  go_wp2_with fail
                  (try simp only [Exit.inBlock, Exit.then])
                  refine bodyPost_ret (v := .tuple #[.agg #[.int .i64 0, .slice none 0 0], .slice none 0 0, .bool false]) (by rw [results_cell2 rfl]; go_simp) rfl ⟨by rw [HN.out]; exact rfl, ?_⟩
                  exact (hbe2.setCell (p := ⟨w.heap.size, 0, none⟩) (Nat.le_refl _) _).setCell (p := ⟨w.heap.size, 1, none⟩) (Nat.le_refl _) _
                · obtain rfl : k = bs.length := by omega
                  go_wp2_with fail
                  (try simp only [Exit.inBlock, Exit.then])
                  refine bodyPost_ret (v := .tuple #[.agg #[.int .i64 0, .slice none 0 0], .slice none 0 0, .bool false]) (by rw [results_cell2 rfl]; go_simp) rfl ⟨by rw [HN.out]; exact rfl, ?_⟩
                  exact (hbe.setCell (p := ⟨w.heap.size, 0, none⟩) (Nat.le_refl _) _).setCell (p := ⟨w.heap.size, 1, none⟩) (Nat.le_refl _) _
        · have hn := firstR_none (bs := bs) (l := l) (fun h => hend h.2.2.2)
          have HN := Lib.hid hn
          have hlt : (l.length : Int) < 4 + (d2 : Int) * 256 + d3 + 3 := by omega
          clear hn hc hb
          go_enter Tryz.func82, Tryz.ntmps82
          go_wp2_with fail
          go_quiet (fail)
          go_wp2_with fail
          (try simp only [Exit.inBlock, Exit.then])
          refine bodyPost_ret (v := .tuple #[.agg #[.int .i64 0, .slice none 0 0], .slice none 0 0, .bool false]) (by rw [results_cell2 rfl]; go_simp) rfl ⟨by rw [HN.out]; exact rfl, ?_⟩
          exact ((bel_drewN hbw _).setCell (p := ⟨w.heap.size, 0, none⟩) (Nat.le_refl _) _).setCell (p := ⟨w.heap.size, 1, none⟩) (Nat.le_refl _) _
      · have hn := firstR_none (bs := bs) (l := l) (fun h => h1 (by have := h.2.2.1; rw [getD_of hd1] at this; exact this))
        have HN := Lib.hid hn
        have hne : ((d1 : Int) != 90) = true := by rw [bne_iff_ne]; omega
        clear hn hc hb
        go_enter Tryz.func82, Tryz.ntmps82
        go_wp2_with fail
        (try simp only [Exit.inBlock, Exit.then])
        refine bodyPost_ret (v := .tuple #[.agg #[.int .i64 0, .slice none 0 0], .slice none 0 0, .bool false]) (by rw [results_cell2 rfl]; go_simp) rfl ⟨by rw [HN.out]; exact rfl, ?_⟩
        exact hbw
    · have hn := firstR_none (bs := bs) (l := l) (fun h => h0 (by have := h.2.1; rw [getD_of hd0] at this; exact this))
      have HN := Lib.hid hn
      have hne : ((d0 : Int) != 165) = true := by rw [bne_iff_ne]; omega
      clear hn hc hb
      go_enter Tryz.func82, Tryz.ntmps82
      go_wp2_with fail
      (try simp only [Exit.inBlock, Exit.then])
      refine bodyPost_ret (v := .tuple #[.agg #[.int .i64 0, .slice none 0 0], .slice none 0 0, .bool false]) (by rw [results_cell2 rfl]; go_simp) rfl ⟨by rw [HN.out]; exact rfl, ?_⟩
      exact hbw
  · have hn := firstR_none (bs := bs) (l := l) (fun h => h7 h.1)
    have HN := Lib.hid hn
    have h7i : (l.length : Int) < 7 := by omega
    clear hn hc hb
    go_enter Tryz.func82, Tryz.ntmps82
    go_wp2_with fail
    (try simp only [Exit.inBlock, Exit.then])
    refine bodyPost_ret (v := .tuple #[.agg #[.int .i64 0, .slice none 0 0], .slice none 0 0, .bool false]) (by rw [results_cell2 rfl]; go_simp) rfl ⟨by rw [HN.out]; exact rfl, ?_⟩
    exact hbw
end Go.Proofs.YtoochleabcjljaaGreatDoor

/- Codes of the chapter: bytes. -/
namespace Go.Proofs.YtoochleabcjljaaGreatDoor
open Go.RowKit

theorem bys_one (l : List Nat) : ∀ u ∈ bys l, u.oneCell' = true := by
  intro u hu; obtain ⟨d, _, rfl⟩ := List.mem_map.1 hu; rfl

set_option maxRecDepth 100000 in
set_option maxHeartbeats 1000000 in
theorem refOctets_any (ao : Option Addr) (l : List Nat) (cap : Nat) (w : World) (hc : Cells w ao (bts l)) (hb : ∀ b ∈ l, b ≤ 1) (hl : l.length ≤ 1099511627776) :
    Calls Tryz.prog 128 #[.slice ao l.length cap] w fun e w' => (∃ v, e = .returned v ∧ w'.ownsRow w.heap.size 5 1 v (octs l).length (bys (octs l))) ∧ Below w.heap.size w w' := by
  obtain ⟨i0, hi, hz0, hz1, hz2⟩ := info_parts Tryz.infoByte
  have HC := Lib.hid hc; have HB := Lib.hid hb
  clear hc hb
  go_enter Tryz.func128, Tryz.ntmps128
  go_wp2
  go_loopw [3, 4] (fun v i wr => ∃ m : Nat, m ≤ l.length + 7 ∧ i = .int .i64 m ∧ m % 8 = 0 ∧ wr.ownsRow w.heap.size 5 1 v (octs (l.take m)).length (bys (octs (l.take m))) ∧ Below w.heap.size w wr) (fun _ i _ => l.length + 8 - (intOf i).toNat)
  case atStart => exact ⟨0, Nat.zero_le _, rfl, rfl, World.ownsRow_nil _ _ _ _, Below.refl _ _⟩
  case round =>
    obtain ⟨m, hm, rfl, hm8, hown, hbr⟩ := hrel
    have HO := Lib.hid hown; clear hown
    have hz := hbr.size
    have hol := octs_len (l.take m)
    rw [List.length_take] at hol
    have hol2 : (octs (l.take m)).length ≤ 1099511627783 := by omega
    have HOL := Lib.hid hol
    clear hol
    by_cases hlt : m < l.length
    · have hst := octs_take hlt hm8
      have hp8 := padP_lt (b := l.drop m) (fun x hx => HB.out x (List.mem_of_mem_drop hx)) 8
      have HST := Lib.hid hst; have HP8 := Lib.hid hp8
      have i1 : (m : Int) < l.length := by omega
      clear hst hp8
      go_wp2
      go_loop [5, 6] (fun nv kv => ∃ j : Nat, j ≤ 8 ∧ kv = .int .i64 ((m + j : Nat) : Int) ∧ nv = .int .i64 (padP (l.drop m) j : Nat)) (fun _ kv => m + 8 - (intOf kv).toNat)
      case atStart => exact ⟨0, Nat.zero_le _, rfl, rfl⟩
      case round =>
        obtain ⟨j, hj, rfl, rfl⟩ := hrel
        have hpj := padP_lt (b := l.drop m) (fun x hx => HB.out x (List.mem_of_mem_drop hx)) j
        have hp2 : (2 : Nat) ^ j ≤ 2 ^ 8 := Nat.pow_le_pow_right (by decide) hj
        have hps : padP (l.drop m) (j + 1) = 2 * padP (l.drop m) j + (l.drop m).getD j 0 := rfl
        have h28 : (2 : Nat) ^ 8 = 256 := by decide
        have hpb : padP (l.drop m) j < 256 := by omega
        have HPS := Lib.hid hps
        have em : ((m + j : Nat) : Int) = (m : Int) + j := by omega
        rw [em]
        clear hpj hp2 hps h28 em
        by_cases hj8 : j < 8
        · have j1 : (m : Int) + j < (m : Int) + 8 := by omega
          by_cases hin : m + j < l.length
          · obtain ⟨b, hb⟩ := get_of_lt hin
            have hb1 := HB.out b (List.mem_of_getElem? hb)
            obtain ⟨bb, ob, rfl⟩ := HC.out.addr (bts_ne (by omega))
            have c1 := cell_keep (HC.out.at (bts_get hb)) hbr (Nat.le_refl _)
            have hg : (l.drop m).getD j 0 = b := by rw [List.getD_eq_getElem?_getD, List.getElem?_drop, hb]; rfl
            rw [hg] at HPS
            have j2 : (m : Int) + j < l.length := by omega
            have j3 : (0 : Int) ≤ (m : Int) + j := by omega
            have j4 : ((m : Int) + j).toNat = m + j := by omega
            clear hb hg
            generalize padP (l.drop m) j = p at *
            go_wp2
            go_round
            case rel => exact ⟨j + 1, by omega, by go_num, by rw [HPS.out]; go_num⟩
            case measure => simp [intOf]; omega
          · have hg : (l.drop m).getD j 0 = 0 := by rw [List.getD_eq_getElem?_getD, List.getElem?_drop, List.getElem?_eq_none (by omega)]; rfl
            rw [hg] at HPS
            have j2 : ¬ (m : Int) + j < l.length := by omega
            clear hg
            generalize padP (l.drop m) j = p at *
            go_wp2
            go_round
            case rel => exact ⟨j + 1, by omega, by go_num, by rw [HPS.out]; go_num⟩
            case measure => simp [intOf]; omega
        · obtain rfl : j = 8 := by omega
          clear HPS
          generalize hp : padP (l.drop m) 8 = p at *
          have hcv : IntKind.u8.wrap (p : Int) = (p : Int) := IntWalk.u8_in _ (by omega)
          clear hp HP8
          have j1 : ¬ (m : Int) + 8 < (m : Int) + 8 := by omega
          go_wp2_with (at_builtin; refine wpList_append_own _ rfl _ _ 48 rfl w.heap.size 5 i0 (.int .u8 0) 1 1 Tryz.underlying48 hi hz0 hz1 hz2 rfl (by decide) _ _ _ rfl (HO.out.alloc _) ⟨wr.heap.size, 0, none⟩ 1 1 [.int .u8 (p : Nat)] rfl rfl (news1 _ _ _) (by simp [Value.oneCell']) (by unfold maxLen; omega) (by omega) (by simp; omega) ?_; intro v1 wz hown1 hgrow _)
          have hbz := (hbr.alloc hz (.cells #[.int .u8 (p : Nat)] 5)).grown hgrow (by simp; omega) (fun j e => (HO.out.lt j e).1)
          have hfin : wz.ownsRow w.heap.size 5 1 v1 (octs (l.take (m + 8))).length (bys (octs (l.take (m + 8)))) := by
            rw [HST.out, List.length_append, bys_append]; exact hown1
          have HF := Lib.hid hfin
          clear hown1 hgrow hfin hcv
          go_wp2
          go_roundw
          case rel => exact ⟨m + 8, by omega, by go_num, by omega, HF.out, hbz⟩
          case measure => simp [intOf]; omega
    · have ho := HO.out
      rw [List.take_of_length_le (by omega)] at ho
      have HF := Lib.hid ho
      have i1 : ¬ (m : Int) < l.length := by omega
      clear ho
      go_wp2
      go_ret
      exact ⟨⟨_, rfl, HF.out⟩, hbr⟩

set_option maxRecDepth 100000 in
theorem refLarge_any (n : Int) (k : Nat) (w : World) (hn0 : 0 ≤ n) (hn1 : n ≤ 4294967295) (hk : k ≤ 4) :
    Calls Tryz.prog 127 #[.int .i64 n, .int .i64 (k : Nat)] w fun e w' => (∃ v, e = .returned v ∧ w'.ownsRow w.heap.size 5 1 v (octs (binL n (8 * k))).length (bys (octs (binL n (8 * k))))) ∧ Below w.heap.size w w' := by
  have h8 : ((8 * k : Nat) : Int) = 8 * (k : Int) := by omega
  have hbn := fun W => refBinary_any n (8 * k) W hn0 hn1 (by omega)
  rw [h8] at hbn
  have HBN := Lib.hid hbn
  have hlen : (binL n (8 * k)).length = 8 * k := binL_length _ _
  have HLEN := Lib.hid hlen
  have hbits := binL_bits n (8 * k)
  have HBT := Lib.hid hbits
  clear hbn hlen hbits h8
  go_enter Tryz.func127, Tryz.ntmps127
  go_wp2_with fail
  refine (HBN.out _).mono ?_
  rintro e w1 ⟨⟨v1, rfl, ho1⟩, hb1⟩
  obtain ⟨a1, c1, rfl, hc1⟩ := own_cells ho1
  have hoc := refOctets_any a1 (binL n (8 * k)) c1 w1 hc1 HBT.out (by rw [HLEN.out]; omega)
  rw [HLEN.out] at hoc
  have HOC := Lib.hid hoc
  have hz := hb1.size
  clear ho1 hc1 hoc
  go_wp2_with fail
  refine HOC.out.mono ?_
  rintro e w2 ⟨⟨v2, rfl, ho2⟩, hb2⟩
  have HO2 := Lib.hid (own_base ho2 hz)
  have hbf := hb1.trans (hb2.mono hz)
  clear ho2
  go_wp2
  go_ret
  exact ⟨⟨_, rfl, HO2.out⟩, hbf⟩

theorem refCheckSum_any (ao : Option Addr) (l : List Nat) (cap : Nat) (w : World) (hc : Cells w ao (bys l)) (hb : ∀ d ∈ l, d < 256) (hl : l.length ≤ 9223372036854775807) :
    Calls Tryz.prog 129 #[.slice ao l.length cap] w fun e w' => e = .returned (.int .i64 (chkL l : Nat)) ∧ w = w' := by
  have HC := Lib.hid hc; have HB := Lib.hid hb
  clear hc hb
  go_enter Tryz.func129, Tryz.ntmps129
  go_wp2
  go_loop [3, 4] (fun c i => ∃ k : Nat, k ≤ l.length ∧ i = .int .i64 k ∧ c = .int .i64 (chkL (l.take k) : Nat)) (fun _ i => l.length - (intOf i).toNat)
  case atStart => exact ⟨0, Nat.zero_le _, rfl, rfl⟩
  case round =>
    obtain ⟨k, hk, rfl, rfl⟩ := hrel
    by_cases hlt : k < l.length
    · obtain ⟨d, hd⟩ := get_of_lt hlt
      obtain ⟨b, off, rfl⟩ := HC.out.addr (bys_ne (by omega))
      have c1 := HC.out.at (bys_get hd)
      have hd1 := HB.out d (List.mem_of_getElem? hd)
      have hcl := chkL_lt (l.take k)
      have hst : chkL (l.take (k + 1)) = (chkL (l.take k) * 257 + d + 1) % 16777213 := by rw [take_get hd, chkL_snoc]
      have HST := Lib.hid hst
      clear hst hd
      generalize chkL (l.take k) = c at *
      have e1 : ((c : Int) * 257 + d + 1) % 16777213 = (((c * 257 + d + 1) % 16777213 : Nat) : Int) := by simp
      have E1 := Lib.hid e1
      clear e1
      go_wp2
      go_round
      case rel => exact ⟨k + 1, by omega, by go_num, by rw [HST.out, E1.out]⟩
      case measure => simp [intOf]; omega
    · obtain rfl : k = l.length := by omega
      rw [List.take_length]
      go_wp2
      go_ret
      exact ⟨rfl, rfl⟩
end Go.Proofs.YtoochleabcjljaaGreatDoor

/- Codes of the chapter: the code of a frame. -/
namespace Go.Proofs.YtoochleabcjljaaGreatDoor
open Go.RowKit

theorem own_lit (w : World) (cs : List Value) (T : TypeId) (b : Nat) (hb : b ≤ w.heap.size) (hl : cs.length ≤ 1000000) : (w.alloc (.cells cs.toArray T)).ownsRow b T 1 (.slice (some ⟨w.heap.size, 0, none⟩) cs.length cs.length) cs.length cs :=
  ⟨by omega, .inr ⟨w.heap.size, cs.length, cs.toArray, rfl, hb, World.alloc_heap_new w _, Nat.le_refl _, by unfold maxLen; omega, by simp, by simp⟩⟩
theorem encB_eq (st : Int) (xss : List (List Int)) : octs (binL st 32) ++ octs (xss.flatMap encC) = octs (frBits st xss) := by
  rw [frBits, octs_append _ (by rw [binL_length])]
theorem octs_bd (l : List Nat) : (octs l).length ≤ l.length + 7 := by rw [octs_len]; omega
theorem flat_bits (xss : List (List Int)) : ∀ b ∈ xss.flatMap encC, b ≤ 1 := fun b hb => frBits_bits 0 xss b (List.mem_append_right _ hb)

set_option maxRecDepth 100000 in
set_option maxHeartbeats 2000000 in
theorem refCode_any (st : Int) (asm : Option Addr) (vs : List Value) (xss : List (List Int)) (cs : Nat) (w : World) (hs : Cells w asm vs) (hr : RowsV w vs xss) (hl : xss.length ≤ 16) (h0 : 0 ≤ st) (h1 : st ≤ 1073741824) (hxl : ∀ xs ∈ xss, xs.length ≤ 64) (hxb : ∀ xs ∈ xss, ∀ x ∈ xs, -8388608 ≤ x ∧ x ≤ 8388608) :
    Calls Tryz.prog 76 #[.agg #[.int .i64 st, .slice asm xss.length cs]] w fun e w' => (∃ v, e = .returned v ∧ w'.ownsRow w.heap.size 5 1 v (encB st xss).length (bys (encB st xss))) ∧ Below w.heap.size w w' := by
  obtain ⟨i0, hi, hz0, hz1, hz2⟩ := info_parts Tryz.infoInt
  obtain ⟨j0, hj, hy0, hy1, hy2⟩ := info_parts Tryz.infoByte
  have hb0 := (Below.refl w.heap.size w).alloc (Nat.le_refl _) (.cells #[.int .i64 st, .slice asm xss.length cs] 43)
  have HS := Lib.hid (hs.below hb0 (Nat.le_refl _)); have HR := Lib.hid (hr.below hb0 (Nat.le_refl _)); have HXL := Lib.hid hxl; have HXB := Lib.hid hxb
  have q0 : (w.alloc (.cells #[.int .i64 st, .slice asm xss.length cs] 43)).cell? ⟨w.heap.size, 0, none⟩ = some (.int .i64 st) := by simp
  have q1 : (w.alloc (.cells #[.int .i64 st, .slice asm xss.length cs] 43)).cell? ⟨w.heap.size, 1, none⟩ = some (.slice asm xss.length cs) := by simp
  have hvl := hr.1
  have HB0 := Lib.hid hb0; have HQ0 := Lib.hid q0; have HQ1 := Lib.hid q1
  clear hs hr hxl hxb hb0 q0 q1
  obtain ⟨eb, heb⟩ : ∃ eb, eb = encB st xss := ⟨_, rfl⟩
  have hen : eb = hdB (octs (frBits st xss)) ++ octs (binL (chkL (hdB (octs (frBits st xss))) : Nat) 24) := heb
  rw [← heb]
  have HEN := Lib.hid hen
  clear heb hen
  go_enter Tryz.func76, Tryz.ntmps76
  go_wp2_with fail
  generalize (w.alloc (.cells #[.int .i64 st, .slice asm xss.length cs] 43)) = W at *
  have hWz := HB0.out.size
  go_loopw [3, 4] (fun v i wr => ∃ k : Nat, k ≤ xss.length ∧ i = .int .i64 k ∧ wr.ownsRow W.heap.size 3 1 v ((xss.take k).flatMap encC).length (bts ((xss.take k).flatMap encC)) ∧ Below W.heap.size W wr) (fun _ i _ => xss.length - (intOf i).toNat)
  case atStart => exact ⟨0, Nat.zero_le _, rfl, World.ownsRow_nil _ _ _ _, Below.refl _ _⟩
  case round =>
    obtain ⟨k, hk, rfl, hown, hbr⟩ := hrel
    have HO := Lib.hid hown; clear hown
    have hz := hbr.size
    have hfl := flat_encC (xss.take k) 64 (fun xs hx => HXL.out xs (List.mem_of_mem_take hx))
    have hfl2 : ((xss.take k).flatMap encC).length ≤ 53360 := by
      have : (xss.take k).length ≤ 16 := by rw [List.length_take]; omega
      omega
    clear hfl
    have c1 := cell_keep HQ1.out hbr (Nat.le_refl _)
    have c0 := cell_keep HQ0.out hbr (Nat.le_refl _)
    by_cases hlt : k < xss.length
    · obtain ⟨xs, hx⟩ := get_of_lt hlt
      obtain ⟨v, hv⟩ := get_of_lt (show k < vs.length by omega)
      obtain ⟨ax, cx, rfl, hax, _⟩ := HR.out.2 k v xs hv hx
      obtain ⟨ba, oa, rfl⟩ := HS.out.addr (List.ne_nil_of_length_pos (by omega))
      have c2 := cell_keep (HS.out.at hv) hbr (Nat.le_refl _)
      have hm := List.mem_of_getElem? hx
      have hx64 := HXL.out xs hm
      have hch := fun wx h => refChannel_any ax xs cx wx h (by omega) (HXB.out xs hm)
      have HCH := Lib.hid hch
      have HAX := Lib.hid (hax.below hbr (Nat.le_refl _))
      have hst : (xss.take (k + 1)).flatMap encC = (xss.take k).flatMap encC ++ encC xs := by rw [take_get hx, List.flatMap_append]; simp
      have hcl := encC_length xs
      have HST := Lib.hid hst
      have i1 : (k : Int) < xss.length := by omega
      have i2 : (0 : Int) ≤ k := by omega
      clear hch hax hst hv hx hm
      generalize (xss.take k).flatMap encC = cs' at *
      go_wp2_with fail
      refine (HCH.out wr HAX.out).mono ?_
      rintro e w1 ⟨⟨v1, rfl, ho1⟩, hb1⟩
      have HO1 := Lib.hid ho1
      have HOL := Lib.hid (own_below HO.out hb1 (Nat.le_refl _))
      have hbb := hbr.trans (hb1.mono hz)
      have hzz := hbb.size
      clear ho1 hb1
      go_wp2_with (at_builtin; refine wpList_append_two rfl _ _ 22 rfl W.heap.size 3 i0 (.int .i64 0) 1 8 Tryz.underlying22 hi hz0 hz1 hz2 rfl (by decide) _ _ _ rfl HOL.out _ _ _ _ rfl HO1.out (bts_one _) (by unfold maxLen; omega) (by omega) (by omega) ?_; intro v2 wz hown2 hgrow _)
      have hbz := hbb.grown hgrow (by omega) (fun j e => (HOL.out.lt j e).1)
      have hfin : wz.ownsRow W.heap.size 3 1 v2 ((xss.take (k + 1)).flatMap encC).length (bts ((xss.take (k + 1)).flatMap encC)) := by
        rw [HST.out, List.length_append, bts_append]; exact hown2
      have HF := Lib.hid hfin
      clear hown2 hgrow hfin
      go_wp2
      go_roundw
      case rel => exact ⟨k + 1, by omega, by go_num, HF.out, hbz⟩
      case measure => simp [intOf]; omega
    · obtain rfl : k = xss.length := by omega
      rw [List.take_length] at HO hfl2
      have i1 : ¬ (xss.length : Int) < xss.length := by omega
      have hbody : (octs (frBits st xss)).length ≤ 6700 := by
        rw [octs_len, frBits, List.length_append, binL_length]; omega
      have hfb := encB_eq st xss
      have hfbb := flat_bits xss
      have hbok := (octs_ok (frBits st xss) (frBits_bits st xss)).1
      have hHd : hdB (octs (frBits st xss)) = [165, 90] ++ octs (binL ((octs (frBits st xss)).length : Nat) 16) ++ octs (frBits st xss) := rfl
      have HFB := Lib.hid hfb; have HFBB := Lib.hid hfbb; have HBOK := Lib.hid hbok; have HHD := Lib.hid hHd
      have hl32 : (octs (binL st 32)).length = 4 := by rw [octs_len, binL_length]
      have HL32 := Lib.hid hl32
      clear hfb hfbb hbok hHd hl32 HR
      generalize hbd : octs (frBits st xss) = body at *
      generalize hfm : xss.flatMap encC = fm at *
      clear hbd hfm
      go_wp2_with fail
      refine (refLarge_any st 4 wr h0 (by omega) (by omega)).mono ?_
      rintro e w1 ⟨⟨v1, rfl, ho1⟩, hb1⟩
      rw [show 8 * 4 = 32 from rfl, HL32.out] at ho1
      have HO1 := Lib.hid ho1
      have HOL := Lib.hid (own_below HO.out hb1 (Nat.le_refl _))
      have hbb1 := hbr.trans (hb1.mono hz)
      have hz1' := hbb1.size
      clear ho1 hb1 c0 c1
      obtain ⟨ab, cb, hub, hcb⟩ := own_cells HOL.out
      subst hub
      go_wp2_with fail
      refine (refOctets_any ab fm cb w1 hcb HFBB.out (by omega)).mono ?_
      rintro e w2 ⟨⟨v2, rfl, ho2⟩, hb2⟩
      have HO2 := Lib.hid ho2
      have HO3 := Lib.hid (own_below HO1.out hb2 (Nat.le_refl _))
      have hbb2 := hbb1.trans (hb2.mono hz1')
      have hz2' := hbb2.size
      have hzr := hb2.size
      have hol2 := octs_bd fm
      have hol1 := HL32.out
      clear ho2 hb2 hcb HOL
      have HO4 := Lib.hid (own_base HO3.out hz)
      have hbl : 4 + (octs fm).length = body.length := by
        have h := congrArg List.length HFB.out
        rw [List.length_append, hol1] at h; exact h
      go_wp2_with (at_builtin; refine wpList_append_two rfl _ _ 48 rfl W.heap.size 5 j0 (.int .u8 0) 1 1 Tryz.underlying48 hj hy0 hy1 hy2 rfl (by decide) _ _ _ rfl HO4.out _ _ _ _ rfl HO2.out (bys_one _) (by unfold maxLen; omega) (by omega) (by omega) ?_; intro v3 w3 hown3 hgrow3 _)
      have hbb3 := hbb2.grown hgrow3 (by omega) (fun j e => (HO4.out.lt j e).1)
      rw [← bys_append, HFB.out, hbl] at hown3
      have hz3 := hbb3.size
      have HO5 := Lib.hid hown3
      obtain ⟨g3, c3, hv3, hg3, hg3l⟩ := hown3.form (by omega)
      subst hv3
      have HBL := Lib.hid hbl
      have hbpos : 4 ≤ body.length := by omega
      clear hown3 hgrow3 hbl hol1 hvl
      have hlit : (w3.alloc (.cells #[.int .u8 165, .int .u8 90] 5)).ownsRow W.heap.size 5 1 (.slice (some ⟨w3.heap.size, 0, none⟩) 2 2) 2 [.int .u8 165, .int .u8 90] := own_lit w3 [.int .u8 165, .int .u8 90] 5 W.heap.size hz3 (by decide)
      have HLIT := Lib.hid hlit
      clear hlit
      have hbb4 := hbb3.alloc hz3 (.cells #[.int .u8 165, .int .u8 90] 5)
      have hz4 := hbb4.size
      go_wp2_with fail
      simp only [go_sem, Tryz.underlying48]
      go_wp2_with fail
      refine (refLarge_any (body.length : Nat) 2 _ (by omega) (by omega) (by omega)).mono ?_
      rintro e w5 ⟨⟨v5, rfl, ho5⟩, hb5⟩
      have HO6 := Lib.hid ho5
      have HLIT2 := Lib.hid (own_below HLIT.out hb5 (Nat.le_refl _))
      have HIN := Lib.hid (own_below (HO5.out.alloc (.cells #[.int .u8 165, .int .u8 90] 5)) hb5 (Nat.le_refl _))
      have hbb5 := hbb4.trans (hb5.mono hz4)
      have hz5 := hbb5.size
      have h16 : (octs (binL (body.length : Nat) (8 * 2))).length = 2 := by rw [octs_len, binL_length]
      have H16 := Lib.hid h16
      have hne36 : (Value.slice (some ⟨g3, 0, none⟩) body.length c3).ownBlock ≠ (Value.slice (some ⟨w3.heap.size, 0, none⟩) 2 2).ownBlock := by
        intro h
        have h2 : g3 = w3.heap.size := Option.some.inj h
        omega
      have HNE36 := Lib.hid hne36
      clear ho5 hb5 h16 hne36
      go_wp2_with (first
        | (at_builtin
           refine wpList_append_two rfl _ _ 48 rfl W.heap.size 5 j0 (.int .u8 0) 1 1 Tryz.underlying48 hj hy0 hy1 hy2 rfl (by decide) _ _ _ rfl HLIT2.out _ _ _ _ rfl HO6.out (bys_one _) (by rw [H16.out]; unfold maxLen; decide) (by rw [H16.out]; decide) (by omega) ?_
           intro v6 w6 hown6 hgrow6 _
           have hbb6 := hbb5.grown hgrow6 (by omega) (fun j e => (HLIT2.out.lt j e).1)
           have hz6 := hbb6.size
           have hin6 := HIN.out.kept hgrow6 (.inr HNE36.out)
           rw [H16.out] at hown6
           have HO7 := Lib.hid hown6
           have HIN6 := Lib.hid hin6
           clear hown6 hgrow6 hin6)
        | (at_builtin
           refine wpList_append_two rfl _ _ 48 rfl W.heap.size 5 j0 (.int .u8 0) 1 1 Tryz.underlying48 hj hy0 hy1 hy2 rfl (by decide) _ _ _ rfl HO7.out _ _ _ _ rfl HIN6.out (bys_one _) (by unfold maxLen; omega) (by omega) (by omega) ?_
           intro v7 w7 hown7 hgrow7 _))
      have hbb7 := hbb6.grown hgrow7 (by omega) (fun j e => (HO7.out.lt j e).1)
      have hz7 := hbb7.size
      rw [show [Value.int .u8 165, Value.int .u8 90] = bys [165, 90] from rfl, ← bys_append, ← bys_append, ← HHD.out] at hown7
      have hhl : 2 + 2 + body.length = (hdB body).length := by
        have h := congrArg List.length HHD.out
        rw [List.length_append, List.length_append] at h
        have h2 : (octs (binL (body.length : Nat) 16)).length = 2 := H16.out
        simp only [List.length_cons, List.length_nil] at h h2 ⊢
        omega
      rw [hhl] at hown7
      have hhok : ∀ d ∈ hdB body, d < 256 := by
        intro d hd
        rw [HHD.out] at hd
        rcases List.mem_append.1 hd with h | h
        · rcases List.mem_append.1 h with h | h
          · simp at h; omega
          · exact (octs_ok _ (binL_bits _ _)).1 d h
        · exact HBOK.out d h
      have hhl2 : (hdB body).length ≤ 6710 := by
        rw [← hhl]; omega
      obtain ⟨g7, c7, hv7, hg7, hg7l⟩ := hown7.form (by omega)
      obtain ⟨a7', c7', hv7', hc7⟩ := own_cells hown7
      rw [hv7] at hv7'
      simp only [Value.slice.injEq, true_and] at hv7'
      obtain ⟨rfl, rfl⟩ := hv7'
      have HO8 := Lib.hid hown7
      have hck := refCheckSum_any _ (hdB body) c7 w7 hc7 hhok (by omega)
      have HCK := Lib.hid hck
      have hchk := chkL_lt (hdB body)
      subst hv7
      clear hown7 hgrow7 hhl hhok hc7 hck
      go_wp2_with fail
      refine HCK.out.mono ?_
      rintro e w' ⟨rfl, rfl⟩
      go_wp2_with fail
      refine (refLarge_any (chkL (hdB body) : Nat) 3 w7 (by omega) (by omega) (by omega)).mono ?_
      rintro e w8 ⟨⟨v8, rfl, ho8⟩, hb8⟩
      have HO9 := Lib.hid ho8
      have HO10 := Lib.hid (own_below HO8.out hb8 (Nat.le_refl _))
      have hbb8 := hbb7.trans (hb8.mono hz7)
      have hz8 := hbb8.size
      have h24 : (octs (binL (chkL (hdB body) : Nat) (8 * 3))).length = 3 := by rw [octs_len, binL_length]
      have H24 := Lib.hid h24
      clear ho8 hb8 h24
      go_wp2_with (at_builtin; refine wpList_append_two rfl _ _ 48 rfl W.heap.size 5 j0 (.int .u8 0) 1 1 Tryz.underlying48 hj hy0 hy1 hy2 rfl (by decide) _ _ _ rfl HO10.out _ _ _ _ rfl HO9.out (bys_one _) (by rw [H24.out]; unfold maxLen; omega) (by rw [H24.out]; omega) (by omega) ?_; intro v9 w9 hown9 hgrow9 _)
      have hbb9 := hbb8.grown hgrow9 (by omega) (fun j e => (HO10.out.lt j e).1)
      rw [← bys_append, show hdB body ++ octs (binL (chkL (hdB body) : Nat) (8 * 3)) = eb from HEN.out.symm, ← List.length_append, show hdB body ++ octs (binL (chkL (hdB body) : Nat) (8 * 3)) = eb from HEN.out.symm] at hown9
      have hfin := HB0.out.trans (hbb9.mono hWz)
      have HF := Lib.hid (own_base hown9 hWz)
      clear hown9 hgrow9
      go_wp2
      go_ret
      exact ⟨⟨_, rfl, HF.out⟩, hfin⟩
end Go.Proofs.YtoochleabcjljaaGreatDoor

/- The chapter's own checks: IsName, Find. -/
namespace Go.Proofs.YtoochleabcjljaaGreatDoor
open Go.RowKit

theorem nameOK_of {s : ByteArray} (h : nameTo s s.size = true) (h1 : 1 ≤ s.size) (h2 : s.size ≤ 16) : nameOK s = true := by simp [nameOK, h, h1, h2]

set_option maxRecDepth 100000 in
set_option maxHeartbeats 1000000 in
theorem refIsName_any (s : ByteArray) (w : World) (hs : s.size ≤ 9223372036854775807) :
    Calls Tryz.prog 69 #[.string s] w fun e w' => e = .returned (.bool (nameOK s)) ∧ w = w' := by
  by_cases h0 : s.size < 1
  · have hn : nameOK s = false := by
      have : decide (1 ≤ s.size) = false := decide_eq_false (by omega)
      simp [nameOK, this]
    have HN := Lib.hid hn; clear hn
    have h0' : (s.size : Int) < 1 := by omega
    go_enter Tryz.func69, Tryz.ntmps69
    go_wp2
    go_ret
    exact ⟨ret_bool HN.out.symm, rfl⟩
  · by_cases h1 : 16 < s.size
    · have hn : nameOK s = false := by
        have : decide (s.size ≤ 16) = false := decide_eq_false (by omega)
        simp [nameOK, this]
      have HN := Lib.hid hn; clear hn
      go_enter Tryz.func69, Tryz.ntmps69
      go_wp2
      go_ret
      exact ⟨ret_bool HN.out.symm, rfl⟩
    · have hp : 0 < s.size := by omega
      by_cases hc : 97 ≤ s[0].toNat ∧ s[0].toNat ≤ 122
      · obtain ⟨hc1, hc2⟩ := hc
        have g1 : ¬ ((s[0].toNat : Int) < 97) := by omega
        have g2 : ¬ ((122 : Int) < s[0].toNat) := by omega
        go_enter Tryz.func69, Tryz.ntmps69
        go_wp2
        go_loop [3] (fun i => ∃ k : Nat, k ≤ s.size ∧ i = .int .i64 k ∧ nameTo s k = true) (fun i => s.size - (intOf i).toNat)
        case atStart => exact ⟨0, Nat.zero_le _, rfl, rfl⟩
        case round =>
          obtain ⟨k, hk, rfl, hn⟩ := hrel
          by_cases hlt : k < s.size
          · have hsu := nameTo_succ s k
            rw [hn, Bool.true_and] at hsu
            have hfa := fun h => nameTo_false (s := s) (k := k) h hlt
            have hk0 : k = 0 → 97 ≤ s[k].toNat ∧ s[k].toNat ≤ 122 := fun h => by subst h; exact ⟨hc1, hc2⟩
            rw [chAt_eq hlt] at hsu hfa
            have HSU := Lib.hid hsu; have HFA := Lib.hid hfa; have HK0 := Lib.hid hk0
            clear hsu hfa hn hk0 g1 g2 hc1 hc2
            have hb : ((97 ≤ s[k].toNat ∧ s[k].toNat ≤ 122) ∨ (s[k].toNat = 95 ∨ 48 ≤ s[k].toNat ∧ s[k].toNat ≤ 57)) ∨ ¬ ((97 ≤ s[k].toNat ∧ s[k].toNat ≤ 122) ∨ (s[k].toNat = 95 ∨ 48 ≤ s[k].toNat ∧ s[k].toNat ≤ 57)) := Decidable.em _
            generalize hbk : s[k].toNat = c at *
            rcases hb with (⟨h2, h3⟩ | (h2 | ⟨h2, h3⟩)) | hb
            · have HSU2 : Hid (nameTo s (k + 1) = true) := by show _ = _; rw [HSU.out]; simp [chOK]; omega
              have d1 : ¬ ((c : Int) < 97) := by omega
              have d2 : ¬ ((122 : Int) < c) := by omega
              go_wp2
              go_round
              case rel => exact ⟨k + 1, by omega, by go_num, HSU2.out⟩
              case measure => simp [intOf]; omega
            · have hk1 : k ≠ 0 := fun h => by have := HK0.out h; omega
              have HSU2 : Hid (nameTo s (k + 1) = true) := by show _ = _; rw [HSU.out]; simp [chOK]; omega
              subst h2
              go_wp2
              go_round
              case rel => exact ⟨k + 1, by omega, by go_num, HSU2.out⟩
              case measure => simp [intOf]; omega
            · have hk1 : k ≠ 0 := fun h => by have := HK0.out h; omega
              have HSU2 : Hid (nameTo s (k + 1) = true) := by show _ = _; rw [HSU.out]; simp [chOK]; omega
              have d1 : (c : Int) < 97 := by omega
              have d2 : ¬ ((c : Int) < 48) := by omega
              have d3 : ¬ ((57 : Int) < c) := by omega
              go_wp2
              go_round
              case rel => exact ⟨k + 1, by omega, by go_num, HSU2.out⟩
              case measure => simp [intOf]; omega
            · have HN : Hid (nameOK s = false) := HFA.out (by simp [chOK]; omega)
              have e0 : ((c : Int) != 95) = true := by rw [bne_iff_ne]; omega
              have hj : (c < 97 ∧ c < 48) ∨ (48 ≤ c ∧ c < 97 ∧ 57 < c) ∨ (122 < c) := by omega
              clear hb
              rcases hj with ⟨h2, h3⟩ | ⟨h2, h3, h4⟩ | h2
              · have d1 : (c : Int) < 97 := by omega
                have d2 : (c : Int) < 48 := by omega
                go_wp2
                go_ret
                exact ⟨ret_bool HN.out.symm, rfl⟩
              · have d1 : (c : Int) < 97 := by omega
                have d2 : ¬ ((c : Int) < 48) := by omega
                have d3 : (57 : Int) < c := by omega
                go_wp2
                go_ret
                exact ⟨ret_bool HN.out.symm, rfl⟩
              · have d1 : ¬ ((c : Int) < 97) := by omega
                have d2 : (122 : Int) < c := by omega
                have d3 : ¬ ((c : Int) < 48) := by omega
                have d4 : (57 : Int) < c := by omega
                go_wp2
                go_ret
                exact ⟨ret_bool HN.out.symm, rfl⟩
          · obtain rfl : k = s.size := by omega
            have HN : Hid (nameOK s = true) := nameOK_of hn (by omega) (by omega)
            go_wp2
            go_ret
            exact ⟨ret_bool HN.out.symm, rfl⟩
      · have HN : Hid (nameOK s = false) := nameTo_false (k := 0) (by rw [chAt_eq hp]; simp [chOK]; omega) hp
        have hj : s[0].toNat < 97 ∨ (97 ≤ s[0].toNat ∧ 122 < s[0].toNat) := by omega
        clear hc
        rcases hj with h2 | ⟨h2, h3⟩
        · have d1 : (s[0].toNat : Int) < 97 := by omega
          go_enter Tryz.func69, Tryz.ntmps69
          go_wp2
          go_ret
          exact ⟨ret_bool HN.out.symm, rfl⟩
        · have d1 : ¬ ((s[0].toNat : Int) < 97) := by omega
          have d2 : (122 : Int) < s[0].toNat := by omega
          go_enter Tryz.func69, Tryz.ntmps69
          go_wp2
          go_ret
          exact ⟨ret_bool HN.out.symm, rfl⟩

/-- Find: is a number in a list? -/
theorem refFind_any (ao : Option Addr) (xs : List Int) (cap : Nat) (n : Int) (w : World) (hc : Cells w ao (xs.map (Value.int .i64))) (hl : xs.length ≤ 9223372036854775807) :
    Calls Tryz.prog 70 #[.slice ao xs.length cap, .int .i64 n] w fun e w' => (∃ r : Int, e = .returned (.int .i64 r) ∧ (0 ≤ r ↔ n ∈ xs)) ∧ w = w' := by
  have HC := Lib.hid hc; clear hc
  go_enter Tryz.func70, Tryz.ntmps70
  go_wp2
  go_loop [5] (fun i => ∃ k : Nat, k ≤ xs.length ∧ i = .int .i64 k ∧ n ∉ xs.take k) (fun i => xs.length - (intOf i).toNat)
  case atStart => exact ⟨0, Nat.zero_le _, rfl, by simp⟩
  case round =>
    obtain ⟨k, hk, rfl, hn⟩ := hrel
    have HN := Lib.hid hn; clear hn
    by_cases hlt : k < xs.length
    · obtain ⟨x, hx⟩ := get_of_lt hlt
      obtain ⟨b, off, rfl⟩ := HC.out.addr (by simpa using List.ne_nil_of_length_pos (by omega))
      have c0 := HC.out.int hx
      have HX := Lib.hid hx; clear hx
      by_cases hxn : x = n
      · have h1 : (x == n) = true := by simp [hxn]
        have HXN := Lib.hid hxn; clear hxn
        go_wp2
        go_ret
        refine ⟨⟨_, rfl, ?_⟩, rfl⟩
        simp only [Int.natCast_nonneg, true_iff]
        rw [← HXN.out]; exact List.mem_of_getElem? HX.out
      · have h1 : (x == n) = false := by simp [hxn]
        have HXN := Lib.hid hxn; clear hxn
        go_wp2
        go_round
        case rel =>
          refine ⟨k + 1, by omega, by go_num, ?_⟩
          have h2 := HN.out
          have h3 := HXN.out
          rw [take_get HX.out, List.mem_append, List.mem_singleton]
          rintro (h | h)
          · exact h2 h
          · exact h3 h.symm
        case measure => simp [intOf]; omega
    · obtain rfl : k = xs.length := by omega
      rw [List.take_length] at HN
      go_wp2
      go_ret
      exact ⟨⟨_, rfl, ⟨fun h => absurd h (by decide), fun h => absurd h HN.out⟩⟩, rfl⟩
end Go.Proofs.YtoochleabcjljaaGreatDoor
