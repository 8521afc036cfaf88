/- Parts of a proof, in build order: D2, D3, R0, R1, D4, Dig, Dig2, N0. -/
import Derived.Test.YtoochleabcjljaaGreatDoorKc3

/- Codes: a folded value is read. -/
namespace Go.Proofs.YtoochleabcjljaaGreatDoor
open Go.RowKit

theorem unfolded_any (u : Nat) (w : World) (hu : u ≤ 25769803776) :
    Calls Tryz.prog 182 #[.int .i64 (u : Nat)] w fun e w' => e = .returned (.int .i64 (unfU u)) ∧ w' = w := by
  by_cases h : u % 2 = 1
  · have h1 : (u : Int).tmod 2 = 1 := by rw [Int.tmod_eq_emod_of_nonneg (by omega)]; omega
    have h2 : (-((u : Int) + 1)).tdiv 2 = -(((u : Int) + 1) / 2) := by
      rw [Int.neg_tdiv, Int.tdiv_eq_ediv_of_nonneg (by omega)]
    go_enter Tryz.func182, Tryz.ntmps182
    go_wp2
    go_ret
    exact ⟨ret_int (by rw [unfU, if_pos h]), rfl⟩
  · have h1 : (u : Int).tmod 2 = 0 := by rw [Int.tmod_eq_emod_of_nonneg (by omega)]; omega
    have h2 : (u : Int).tdiv 2 = (u : Int) / 2 := Int.tdiv_eq_ediv_of_nonneg (by omega)
    go_enter Tryz.func182, Tryz.ntmps182
    go_wp2
    go_ret
    exact ⟨ret_int (by rw [unfU, if_neg h]), rfl⟩

set_option maxRecDepth 100000 in
set_option maxHeartbeats 2000000 in
theorem value_any (B bR : Nat) (l r : List Nat) (o sh : Nat) (w : World) (h : RdS B bR l w r) (hd : ∀ d ∈ l, d < 256) (hl : l.length ≤ 1099511627776) (hsh : sh ≤ 30) :
    Calls Tryz.prog 181 #[.agg #[.int .i64 (o : Nat), .int .i64 (sh : Nat)], .iface 178 (.pointer (some ⟨bR, 0, none⟩))] w fun e w' => e = .returned (.tuple #[.int .i64 ((valueR sh 20 r).1.1 : Nat), .bool (valueR sh 20 r).1.2]) ∧ RdS B bR l w' (valueR sh 20 r).2 ∧ w.grownBy w' (some bR) := by
  have HT := fun r k w h hk => reader_take B bR l r k w h hd hl hk
  have hlt := h.lt
  have h1 := h.kept (World.grownBy_alloc w (.cells #[.int .i64 (o : Nat), .int .i64 (sh : Nat)] 170) none) (fun k e => by simp at e)
  have H1 := Lib.hid h1; have HTK := Lib.hid HT; have HBT := Lib.hid h.bits
  have hB := h.1
  have hg1 : w.grownBy (w.alloc (.cells #[.int .i64 (o : Nat), .int .i64 (sh : Nat)] 170)) (some bR) := World.grownBy_alloc w _ _
  have hbw := Blk.new w 170 #[.int .i64 (o : Nat), .int .i64 (sh : Nat)]
  have HBW := Lib.hid hbw
  clear hd HT h1 h hbw
  go_enter Tryz.func181, Tryz.ntmps181
  go_wp2
  go_loopw [6] (fun q wr => ∃ (n : Nat) (s : List Nat), n < 20 ∧ q = .int .i64 n ∧ valueR sh (20 - n) s = valueR sh 20 r ∧ RdS B bR l wr s ∧ Blk wr w.heap.size 170 #[.int .i64 (o : Nat), .int .i64 (sh : Nat)] ∧ w.grownBy wr (some bR)) (fun q _ => 20 - (intOf q).toNat)
  case atStart => exact ⟨0, r, by omega, rfl, rfl, H1.out, HBW.out, hg1⟩
  case round =>
    clear H1 hg1 HBW
    obtain ⟨n, s, hn, rfl, hv, hs, hbw, hg⟩ := hrel
    obtain ⟨f, hf⟩ : ∃ f, 20 - n = f + 1 := ⟨19 - n, by omega⟩
    rw [hf] at hv
    have HV := Lib.hid hv
    have HBW := Lib.hid hbw
    clear hv hbw
    have ht := HTK.out s 1 wr hs (by omega)
    have HTT := Lib.hid ht
    have hbt := hs.bits
    clear ht hs
    cases s with
    | nil =>
      have hv := HV.out
      rw [valueR] at hv
      have HV2 := Lib.hid hv
      clear hv
      have e1 : takeR [] 1 = ((0, false), []) := rfl
      have E1 := Lib.hid e1; clear e1
      go_wp2_with fail
      refine HTT.out.mono ?_
      rintro e w1 ⟨rfl, hs1, hg1⟩
      rw [E1.out] at hs1 ⊢
      have HS1 := Lib.hid hs1
      have hgg := hg.trans hg1
      clear hs1
      go_wp2
      go_ret2
      exact ⟨by rw [← HV2.out]; rfl, by rw [← HV2.out]; exact HS1.out, hgg⟩
    | cons b s =>
      have hb1 : b ≤ 1 := hbt b (by simp)
      have e1 : takeR (b :: s) 1 = ((b, true), s) := by simp [takeR, valB]
      have E1 := Lib.hid e1; clear e1 hbt
      go_wp2_with fail
      refine HTT.out.mono ?_
      rintro e w1 ⟨rfl, hs1, hg1⟩
      rw [E1.out] at hs1 ⊢
      have hb2 := HBW.out.kept hg1 (by simp; omega)
      have hgg := hg.trans hg1
      by_cases hb0 : b = 0
      · subst hb0
        have hv := HV.out
        rw [valueR, if_pos rfl] at hv
        have HV2 := Lib.hid hv
        have hc1 := hb2.c1
        have hbd := takeR_bd hs1.bits sh
        have ht2 := HTK.out s sh w1 hs1 (by omega)
        have HT2 := Lib.hid ht2
        have HB2 := Lib.hid hb2
        clear hv ht2 hs1 hb2 hg1 HTT
        go_wp2_with fail
        refine HT2.out.mono ?_
        rintro e w2 ⟨rfl, hs2, hg2⟩
        have hb3 : Blk w2 w.heap.size 170 #[.int .i64 (o : Nat), .int .i64 (sh : Nat)] := HB2.out.kept hg2 (by simp; omega)
        have hc3 := hb3.c1
        have hgg2 := hgg.trans hg2
        have HS2 := Lib.hid hs2
        clear hs2 hb3
        have hmul : n * 2 ^ sh ≤ 20 * 2 ^ 30 := Nat.mul_le_mul (by omega) (Nat.pow_le_pow_right (by decide) hsh)
        have hor := or_low n sh (takeR s sh).1.1 hbd.1 (by have := hbd.1; have : (2 : Nat) ^ sh ≤ 2 ^ 30 := Nat.pow_le_pow_right (by decide) hsh; omega)
        have hwr : wrap64 ((n : Int) * 2 ^ sh) = ((n * 2 ^ sh : Nat) : Int) := by
          have e : ((n * 2 ^ sh : Nat) : Int) = (n : Int) * 2 ^ sh := by simp
          rw [← e]
          simp only [wrap64]; omega
        have hnf : 20 - (f + 1) = n := by omega
        rw [hnf] at HV2
        have HOR := Lib.hid hor; have HWR := Lib.hid hwr
        clear hor hwr hmul
        go_wp2_with fail
        go_ret2
        exact ⟨by rw [← HV2.out, HWR.out, HOR.out]; rfl, by rw [← HV2.out]; exact HS2.out, hgg2⟩
      · obtain rfl : b = 1 := by omega
        have hv := HV.out
        rw [valueR, if_neg hb0] at hv
        have HV2 := Lib.hid hv
        clear hv hb0
        by_cases h20 : n + 1 = 20
        · obtain rfl : f = 0 := by omega
          have ht2 := HTK.out s 32 w1 hs1 (by omega)
          have HT2 := Lib.hid ht2
          have hn20 : (n : Int) + 1 = 20 := by omega
          clear ht2 hs1 hb2 hg1 HTT
          go_wp2_with fail
          refine HT2.out.mono ?_
          rintro e w2 ⟨rfl, hs2, hg2⟩
          have hgg2 := hgg.trans hg2
          have HS2 := Lib.hid hs2
          clear hs2
          go_wp2
          go_ret2
          exact ⟨by rw [← HV2.out]; rfl, by rw [← HV2.out]; exact HS2.out, hgg2⟩
        · have HS1 := Lib.hid hs1; have HB2 := Lib.hid hb2
          have hn20 : ¬ (n : Int) + 1 = 20 := by omega
          clear hs1 hb2 hg1 HTT
          go_wp2
          go_roundw
          case rel => exact ⟨n + 1, s, by omega, by go_num, by rw [show 20 - (n + 1) = f from by omega]; exact HV2.out, HS1.out, HB2.out, hgg⟩
          case measure => simp [intOf]; omega
end Go.Proofs.YtoochleabcjljaaGreatDoor

/- Codes: samples out of residues. -/
namespace Go.Proofs.YtoochleabcjljaaGreatDoor
open Go.RowKit

theorem psum_start {xs : List Int} (h : 0 < xs.length) : (psum xs).take 1 ++ xs.drop 1 = xs := by
  match xs, h with
  | x :: t, _ => simp [psum, List.range_succ_eq_map]

set_option maxRecDepth 100000 in
set_option maxHeartbeats 1000000 in
theorem samples_any (ao : Option Addr) (xs : List Int) (cap : Nat) (o : Nat) (w : World) (hc : Cells w ao (xs.map (Value.int .i64))) (hl : xs.length ≤ 64) (ho : o ≤ 3) (hx : ∀ x ∈ xs, -12884901889 ≤ x ∧ x ≤ 12884901889) :
    Calls Tryz.prog 183 #[.slice ao xs.length cap, .int .i64 (o : Nat)] w fun e w' => (∃ v, e = .returned v ∧ w'.ownsRow w.heap.size 3 1 v (sumsR xs o).length ((sumsR xs o).map (Value.int .i64))) ∧ Below w.heap.size w w' := by
  have HC := Lib.hid hc; have HX := Lib.hid hx; clear hc hx
  go_enter Tryz.func183, Tryz.ntmps183
  go_wp2_with fail
  refine (clone_any ao xs cap w HC.out (by omega)).mono ?_
  rintro e w1 ⟨⟨v, rfl, hown⟩, hb1⟩
  obtain ⟨g, cg, hv⟩ : ∃ g cg, v = .slice g xs.length cg := by
    obtain ⟨a, c, h, _⟩ := own_cells hown; exact ⟨a, c, h⟩
  subst hv
  have HO := Lib.hid hown; clear hown
  go_wp2
  go_loopw [10] (fun i wr => ∃ k : Nat, k ≤ o ∧ i = .int .i64 k ∧ wr.ownsRow w.heap.size 3 1 (.slice g xs.length cg) xs.length ((sumsR xs k).map (Value.int .i64)) ∧ Below w.heap.size w wr) (fun i _ => o - (intOf i).toNat)
  case atStart => exact ⟨0, Nat.zero_le _, rfl, HO.out, hb1⟩
  case round =>
    clear hb1
    obtain ⟨k, hk, rfl, hown, hb⟩ := hrel
    obtain ⟨wo, rfl⟩ : ∃ wo : World, wo = wr := ⟨_, rfl⟩
    have HO2 := Lib.hid hown; clear hown
    by_cases hlt : k < o
    · have hrl := sumsR_length xs k
      have hrb := sumsR_bd hl HX.out k (by omega)
      have hrb2 := sumsR_bd hl HX.out (k + 1) (by omega)
      rw [sumsR] at hrb2
      generalize hys : sumsR xs k = ys at *
      have HYS : Hid (sumsR xs (k + 1) = psum ys) := by rw [← hys]; rfl
      clear hys
      have HYB := Lib.hid hrb; have HPB := Lib.hid hrb2; clear hrb hrb2
      have hrl2 : xs.length = ys.length := hrl.symm
      have hyl : ys.length ≤ 4096 := by omega
      clear hl
      generalize xs.length = n at *
      subst hrl2
      clear hrl
      go_wp2
      go_loopw [14] (fun i wi => ∃ j : Nat, j ≤ ys.length ∧ i = .int .i64 (j : Int) ∧ wi.ownsRow w.heap.size 3 1 (.slice g ys.length cg) ys.length (((psum ys).take j ++ ys.drop j).map (Value.int .i64)) ∧ Below w.heap.size w wi) (fun i _ => ys.length - (intOf i).toNat)
      case atStart =>
        refine ⟨0, Nat.zero_le _, rfl, ?_, hb⟩
        rw [List.take_zero, List.drop_zero, List.nil_append]
        exact HO2.out
      case round =>
        clear hb
        obtain ⟨j, hj, rfl, hown, hb⟩ := hrel
        by_cases h1 : j < ys.length
        · rcases Nat.eq_zero_or_pos j with h0 | h0
          · subst h0
            have hst := psum_start h1
            rw [List.take_zero, List.drop_zero, List.nil_append] at hown
            have hown2 : wr.ownsRow w.heap.size 3 1 (.slice g ys.length cg) ys.length (((psum ys).take 1 ++ ys.drop 1).map (Value.int .i64)) := by rw [hst]; exact hown
            have HF := Lib.hid hown2
            clear hown hown2 hst
            go_wp2
            go_roundw
            case rel => exact ⟨1, by omega, by go_num, HF.out, hb⟩
            case measure => simp [intOf]; omega
          · obtain ⟨q, rfl⟩ : ∃ q, j = q + 1 := ⟨j - 1, by omega⟩
            have e1 : (((q + 1 : Nat) : Int)) = (q : Int) + 1 := by omega
            rw [e1]
            obtain ⟨x, hx⟩ := get_of_lt (show q + 1 < ys.length by omega)
            obtain ⟨y, hy⟩ := get_of_lt (show q < (psum ys).length by rw [psum_length]; omega)
            have hst := psum_step hx hy
            have bx := HYB.out x (List.mem_of_getElem? hx)
            have bY := HPB.out y (List.mem_of_getElem? hy)
            obtain ⟨bx1, bx2⟩ := bx
            obtain ⟨by1, by2⟩ := bY
            obtain ⟨a, c, hv, hcs⟩ := own_cells hown
            simp only [Value.slice.injEq, true_and] at hv
            obtain ⟨rfl, rfl⟩ := hv
            obtain ⟨gb, go, rfl⟩ := hcs.addr (List.ne_nil_of_length_pos (by rw [List.length_map, List.length_append, List.length_take, psum_length]; omega))
            have hg0 : go = 0 := by
              rcases hown.2 with ⟨h, _⟩ | ⟨_, _, _, h, _⟩
              · simp at h
              · simp at h; exact h.1.2
            subst hg0
            have hlx : ((psum ys).take (q + 1)).length = q + 1 := by rw [List.length_take, psum_length]; omega
            have c1 : wr.cell? ⟨gb, q + 1, none⟩ = some (.int .i64 x) := by
              rw [hown.cellAt (q + 1) (by omega), List.getElem?_map, List.getElem?_append_right (by omega), hlx, Nat.sub_self, List.getElem?_drop, Nat.add_zero, hx]; rfl
            have c2 : wr.cell? ⟨gb, q, none⟩ = some (.int .i64 y) := by
              rw [hown.cellAt q (by omega), List.getElem?_map, List.getElem?_append_left (by rw [hlx]; omega), List.getElem?_take, if_pos (by omega), hy]; rfl
            have f1 := hown.frozenAt (q + 1)
            have hsto := (hown.stored (q + 1) (.int .i64 (x + y))).1
            rw [← List.map_set, hst] at hsto
            have hgb : w.heap.size ≤ gb := (hown.lt gb rfl).1
            have hb2 : Below w.heap.size w (wr.setCell ⟨gb, q + 1, none⟩ (.int .i64 (x + y))) := hb.setCell hgb _
            have HST := Lib.hid hsto; have HB2 := Lib.hid hb2
            clear hsto hb2 hst hx hy hcs hown e1 hlx
            have i1 : (q : Int) + 1 < ys.length := by omega
            have i2 : (q : Int) < ys.length := by omega
            have i3 : (0 : Int) ≤ q := by omega
            have i4 : (0 : Int) ≤ (q : Int) + 1 := by omega
            have q1 : IntKind.i64.wrap (((q + 1 : Nat) : Int) - 1) = (q : Int) := by rw [IntWalk.i64_in _ (by omega)]; omega
            have q6 : IntKind.i64.wrap (q : Int) = (q : Int) := IntWalk.i64_in _ (by omega)
            have q2 : IntKind.i64.wrap (x + y) = x + y := IntWalk.i64_in _ (by omega)
            have q5 : IntKind.i64.wrap ((q : Int) + 1 - 1) = (q : Int) := by rw [IntWalk.i64_in _ (by omega)]; omega
            have q3 : (((q : Int) + 1)).toNat = q + 1 := by omega
            have q4 : (0 : Int) < (q : Int) + 1 := by omega
            go_wp2
            go_still_tail 11, (by kernel_rfl)
            change wpList _ _ _ _ _ wr.drew
            have c1d : wr.drew.cell? ⟨gb, q + 1, none⟩ = some (.int .i64 x) := c1
            have f1d : wr.drew.frozen? ⟨gb, q + 1, none⟩ = false := f1
            have HSTd : Hid ((wr.drew.setCell ⟨gb, q + 1, none⟩ (.int .i64 (x + y))).ownsRow w.heap.size 3 1 (.slice (some ⟨gb, 0, none⟩) ys.length cg) ys.length (((psum ys).take (q + 2) ++ ys.drop (q + 2)).map (Value.int .i64))) := HST.out
            have HB2d : Hid (Below w.heap.size w (wr.drew.setCell ⟨gb, q + 1, none⟩ (.int .i64 (x + y)))) := by
              have h := HB2.out
              exact ⟨h.os, h.tape, h.output, h.size, h.block⟩
            clear HST HB2 c1 c2 f1 q1 q2 q5 q6
            generalize wr.drew = wd at *
            go_wp2
            go_roundw
            case rel => exact ⟨q + 2, by omega, by go_num, HSTd.out, HB2d.out⟩
            case measure => simp [intOf]; omega
        · obtain rfl : j = ys.length := by omega
          have hpl : (psum ys).take ys.length = psum ys := by rw [List.take_of_length_le (by rw [psum_length]; exact Nat.le_refl _)]
          rw [List.drop_length, List.append_nil, hpl] at hown
          have HF := Lib.hid hown; clear hown hpl
          go_wp2
          go_roundw
          case rel => exact ⟨k + 1, by omega, by go_num, by rw [HYS.out]; exact HF.out, hb⟩
          case measure => simp [intOf]; omega
    · obtain rfl : k = o := by omega
      have hrl := sumsR_length xs k
      have HRL := Lib.hid hrl; clear hrl
      go_wp2
      go_ret
      exact ⟨⟨_, rfl, by rw [HRL.out]; exact HO2.out⟩, hb⟩
end Go.Proofs.YtoochleabcjljaaGreatDoor

/- Records: slices of frames; CheckRecord, between. -/
namespace Go.Proofs.YtoochleabcjljaaGreatDoor
open Go.RowKit

/-- a frame, and where its samples lie -/
structure Frm where
  st : Int
  a : Option Addr
  c : Nat
  xss : List (List Int)
/-- frames, cell by cell -/
def frs (l : List Frm) : List Value := l.flatMap fun f => [.int .i64 f.st, .slice f.a f.xss.length f.c]
theorem frs_cons (t : Frm) (l : List Frm) : frs (t :: l) = .int .i64 t.st :: .slice t.a t.xss.length t.c :: frs l := rfl
theorem frs_length (l : List Frm) : (frs l).length = l.length * 2 := by
  induction l with
  | nil => rfl
  | cons t l ih => simp only [frs_cons, List.length_cons, ih]; omega
theorem frs_get {l : List Frm} {i : Nat} {t : Frm} (h : l[i]? = some t) : (frs l)[i * 2]? = some (.int .i64 t.st) ∧ (frs l)[i * 2 + 1]? = some (.slice t.a t.xss.length t.c) := by
  induction l generalizing i with
  | nil => simp at h
  | cons s l ih =>
    cases i with
    | zero => simp at h; subst h; simp [frs_cons]
    | succ i =>
      have e : (i + 1) * 2 = i * 2 + 1 + 1 := by omega
      have e1 : (i + 1) * 2 + 1 = i * 2 + 1 + 1 + 1 := by omega
      rw [frs_cons, e1, e]
      simp only [List.getElem?_cons_succ]
      exact ih (by simpa using h)
theorem frs_ne {l : List Frm} (h : 0 < l.length) : frs l ≠ [] := by
  intro e; have := frs_length l; rw [e] at this; simp at this; omega

/-- the samples of a frame lie where it says -/
def FrmIn (w : World) (f : Frm) : Prop := f.xss.length ≤ 9223372036854775807 ∧ ∃ vs, Cells w f.a vs ∧ RowsV w vs f.xss
theorem FrmIn.below {w w' : World} {B : Nat} {f : Frm} (h : FrmIn w f) (hb : Below B w w') (hB : w.heap.size ≤ B) : FrmIn w' f := by
  obtain ⟨h0, vs, h1, h2⟩ := h; exact ⟨h0, vs, h1.below hb hB, h2.below hb hB⟩
structure RecIn (w : World) (al : Option Addr) (l : List Frm) : Prop where
  cells : Cells w al (frs l)
  len : l.length ≤ 9223372036854775807
  rows : ∀ f ∈ l, FrmIn w f
theorem RecIn.below {w w' : World} {B : Nat} {al : Option Addr} {l : List Frm} (h : RecIn w al l) (hb : Below B w w') (hB : w.heap.size ≤ B) : RecIn w' al l :=
  ⟨h.cells.below hb hB, h.len, fun f hf => (h.rows f hf).below hb hB⟩

set_option maxRecDepth 100000 in
/-- slices.IndexFunc over frames -/
theorem indexFunc_frms (F : FuncId) (capd : Array Value) (p : Frm → Bool) (ao : Option Addr) (xs : List Frm) (cap : Nat) (w : World) (hc : Cells w ao (frs xs)) (hl : xs.length ≤ 9223372036854775807)
    (hcf : ∀ (vs : Array Value) (wx : World), Sem.run Tryz.prog (callFunc F vs) wx = .ok (.enter F vs) wx)
    (hF : ∀ x wx, x ∈ xs → Below w.heap.size w wx → Calls Tryz.prog F (#[.agg #[.int .i64 x.st, .slice x.a x.xss.length x.c]] ++ capd) wx fun e w' => e = .returned (.bool (p x)) ∧ Below wx.heap.size wx w') :
    Calls Tryz.prog 120 #[.slice ao xs.length cap, .func (.func F) #[] capd] w fun e w' => (∃ r : Int, e = .returned (.int .i64 r) ∧ (0 ≤ r ↔ xs.any p = true)) ∧ Below w.heap.size w w' := by
  go_enter Tryz.func120, Tryz.ntmps120
  go_wp2
  go_loopw [8] (fun i wr => ∃ k : Nat, k ≤ xs.length ∧ i = .int .i64 k ∧ (xs.take k).any p = false ∧ Below w.heap.size w wr) (fun i _ => xs.length - (intOf i).toNat)
  case atStart => exact ⟨0, Nat.zero_le _, rfl, rfl, Below.refl _ _⟩
  case round =>
    obtain ⟨k, hk, rfl, hany, hb⟩ := hrel
    by_cases hlt : k < xs.length
    · obtain ⟨x, hx⟩ := get_of_lt hlt
      obtain ⟨b, off, rfl⟩ := hc.addr (frs_ne (by omega))
      obtain ⟨g0, g1⟩ := frs_get hx
      have hcell1 := cell_keep (hc.at g0) hb (Nat.le_refl _)
      have hcell2 := cell_keep (hc.at g1) hb (Nat.le_refl _)
      rw [← Nat.add_assoc] at hcell2
      clear g0 g1
      have HX := Lib.hid hx; clear hx
      have HC := Lib.hid hc; clear hc
      have HF := Lib.hid hF; clear hF
      have HA := Lib.hid hany; clear hany
      go_wp2_with fail
      refine (HF.out x wr (List.mem_of_getElem? HX.out) hb).mono ?_
      rintro e w1 ⟨rfl, hb1⟩
      have hb2 := hb.trans (hb1.mono hb.size)
      clear hb1
      by_cases hp : p x = true
      · go_wp2
        go_ret
        refine ⟨⟨_, rfl, ?_⟩, hb2⟩
        simp only [Int.natCast_nonneg, true_iff, List.any_eq_true]
        exact ⟨x, List.mem_of_getElem? HX.out, hp⟩
      · simp only [Bool.not_eq_true] at hp
        go_wp2
        go_roundw
        case rel => exact ⟨k + 1, by omega, by go_num, by rw [take_get HX.out, List.any_append, HA.out]; simp [hp], hb2⟩
        case measure => simp [intOf]; omega
    · obtain rfl : k = xs.length := by omega
      rw [List.take_length] at hany
      have HA := Lib.hid hany; clear hany
      go_wp2
      go_ret
      exact ⟨⟨_, rfl, by rw [HA.out]; simp⟩, hb⟩

set_option maxRecDepth 100000 in
theorem containsFunc_frms (F : FuncId) (capd : Array Value) (p : Frm → Bool) (ao : Option Addr) (xs : List Frm) (cap : Nat) (w : World) (hc : Cells w ao (frs xs)) (hl : xs.length ≤ 9223372036854775807)
    (hcf : ∀ (vs : Array Value) (wx : World), Sem.run Tryz.prog (callFunc F vs) wx = .ok (.enter F vs) wx)
    (hF : ∀ x wx, x ∈ xs → Below w.heap.size w wx → Calls Tryz.prog F (#[.agg #[.int .i64 x.st, .slice x.a x.xss.length x.c]] ++ capd) wx fun e w' => e = .returned (.bool (p x)) ∧ Below wx.heap.size wx w') :
    Calls Tryz.prog 73 #[.slice ao xs.length cap, .func (.func F) #[] capd] w fun e w' => e = .returned (.bool (xs.any p)) ∧ Below w.heap.size w w' := by
  have HC := Lib.hid hc; clear hc
  have HF := Lib.hid hF; clear hF
  have HCF := Lib.hid hcf; clear hcf
  go_enter Tryz.func73, Tryz.ntmps73
  go_wp2_with fail
  refine (indexFunc_frms F capd p ao xs cap w HC.out hl HCF.out HF.out).mono ?_
  rintro e w1 ⟨⟨r, rfl, hr⟩, hb⟩
  have HR := Lib.hid hr; clear hr
  go_wp2
  go_ret
  exact ⟨ret_bool (by rw [Bool.eq_iff_iff, decide_eq_true_iff]; exact HR.out), hb⟩

theorem checkRecord1_any (ao : Option Addr) (bs : List Chan) (cap : Nat) (bc : Nat) (x : Frm) (w : World) (hc : w.cell? ⟨bc, 0, none⟩ = some (.slice ao bs.length cap)) (hb : Cells w ao (chs bs)) (hl : bs.length ≤ 9223372036854775807) (hx : FrmIn w x) (hbk : bookOK bs = true) :
    Calls Tryz.prog 74 #[.agg #[.int .i64 x.st, .slice x.a x.xss.length x.c], .pointer (some ⟨bc, 0, none⟩)] w fun e w' => e = .returned (.bool (!frOK bs x.st x.xss)) ∧ Below w.heap.size w w' := by
  have hb0 := (Below.refl w.heap.size w).alloc (Nat.le_refl _) (.cells #[.int .i64 x.st, .slice x.a x.xss.length x.c] 43)
  have hc1 := cell_keep hc hb0 (Nat.le_refl _)
  obtain ⟨h0, vs, h1, h2⟩ := hx
  have hfr := frameOK_any ao bs cap x.st x.a vs x.xss x.c _ (hb.below hb0 (Nat.le_refl _)) hl (h1.below hb0 (Nat.le_refl _)) (h2.below hb0 (Nat.le_refl _)) h0 hbk
  have HFR := Lib.hid hfr
  have H1 := Lib.hid h1; have H2 := Lib.hid h2; have HB := Lib.hid hb
  clear hfr h1 h2 hb hc
  go_enter Tryz.func74, Tryz.ntmps74
  go_wp2_with fail
  refine HFR.out.mono ?_
  rintro e w1 ⟨rfl, hb1⟩
  have hf := hb0.trans (hb1.mono hb0.size)
  go_wp2
  go_ret
  exact ⟨rfl, hf⟩

/-- the seconds go up -/
def upTo (l : List Frm) : Nat → Bool
  | 0 => true
  | k + 1 => upTo l k && (decide (k = 0) || decide ((l.getD (k - 1) ⟨0, none, 0, []⟩).st < (l.getD k ⟨0, none, 0, []⟩).st))
def recErr (bs : List Chan) (l : List Frm) : Int :=
  if bookErr bs ≠ 0 then bookErr bs else if 64 < l.length then 3 else if l.any fun f => !frOK bs f.st f.xss then 51 else if upTo l l.length = false then 52 else 0
theorem upTo_false {l : List Frm} {k : Nat} (h : upTo l k = false) {n : Nat} (hn : k ≤ n) : upTo l n = false := by
  induction n with
  | zero => obtain rfl : k = 0 := by omega
            exact h
  | succ n ih =>
    by_cases hk : k ≤ n
    · simp [upTo, ih hk]
    · obtain rfl : k = n + 1 := by omega
      exact h

set_option maxRecDepth 100000 in
set_option maxHeartbeats 1000000 in
theorem checkRecord_any (ao : Option Addr) (bs : List Chan) (cap : Nat) (al : Option Addr) (l : List Frm) (cl : Nat) (w : World) (hb : BookIn w ao bs cap) (hr : RecIn w al l) :
    Calls Tryz.prog 28 #[.slice ao bs.length cap, .slice al l.length cl] w fun e w' => e = .returned (.int .i64 (recErr bs l)) ∧ Below w.heap.size w w' := by
  have HB := Lib.hid hb; have HR := Lib.hid hr
  have hll := hr.len
  clear hb hr
  have hb0 := (Below.refl w.heap.size w).alloc (Nat.le_refl _) (.cells #[.slice ao bs.length cap] 37)
  have hck := fun wx (h : BookIn wx ao bs cap) => checkBook_any ao bs cap wx h.cells (by have := h.len; omega) h.lecap h.cap2 h.names h.rates
  have HCK := Lib.hid hck; clear hck
  by_cases h1 : bookErr bs = 0
  · have hok := bookErr_zero h1
    by_cases h2 : 64 < l.length
    · have he : recErr bs l = 3 := by simp [recErr, h1, h2]
      have HE := Lib.hid he; have H1 := Lib.hid h1
      clear he h1 hok
      go_enter Tryz.func28, Tryz.ntmps28
      go_wp2_with fail
      refine (HCK.out _ (HB.out.below hb0 (Nat.le_refl _))).mono ?_
      rintro e w1 ⟨rfl, hb1⟩
      rw [H1.out]
      have hf := hb0.trans (hb1.mono hb0.size)
      go_wp2
      go_ret
      exact ⟨ret_int HE.out.symm, hf⟩
    · have HOK := Lib.hid hok; have H1 := Lib.hid h1
      cases h3 : l.any fun f => !frOK bs f.st f.xss
      · have he : recErr bs l = if upTo l l.length = false then 52 else 0 := by rw [recErr, if_neg (by simpa using h1), if_neg h2, h3]; rfl
        have HE := Lib.hid he; have H3 := Lib.hid h3
        clear he h1 hok h3
        go_enter Tryz.func28, Tryz.ntmps28
        go_wp2_with fail
        refine (HCK.out _ (HB.out.below hb0 (Nat.le_refl _))).mono ?_
        rintro e w1 ⟨rfl, hb1⟩
        rw [H1.out]
        have hf := hb0.trans (hb1.mono hb0.size)
        have q0 : w1.cell? ⟨w.heap.size, 0, none⟩ = some (.slice ao bs.length cap) := box_keep hb1 (by simp) 0
        have HR1 := Lib.hid (HR.out.below hf (Nat.le_refl _))
        have HB1 := Lib.hid (HB.out.below hf (Nat.le_refl _))
        clear hb1
        go_wp2_with fail
        refine (containsFunc_frms 74 #[.pointer (some ⟨w.heap.size, 0, none⟩)] (fun f => !frOK bs f.st f.xss) al l cl w1 HR1.out.cells (by omega) (fun _ _ => by kernel_rfl) (fun x wx hx hbx => checkRecord1_any ao bs cap w.heap.size x wx (cell_keep q0 hbx (Nat.le_refl _)) (HB1.out.cells.below hbx (Nat.le_refl _)) HB1.out.len ((HR1.out.rows x hx).below hbx (Nat.le_refl _)) HOK.out)).mono ?_
        rintro e w2 ⟨rfl, hb2⟩
        rw [H3.out]
        have hf2 := hf.trans (hb2.mono hf.size)
        have HR2 := Lib.hid (HR1.out.below hb2 (Nat.le_refl _))
        have hrf := Below.refl w2.heap.size w2
        have HF2 := Lib.hid hf2
        clear hb2 hf hf2 q0
        go_wp2
        go_loopw [20] (fun i wr => ∃ k : Nat, k ≤ l.length ∧ i = .int .i64 k ∧ upTo l k = true ∧ Below w2.heap.size w2 wr) (fun i _ => l.length - (intOf i).toNat)
        case atStart => exact ⟨0, Nat.zero_le _, rfl, rfl, hrf⟩
        case round =>
          clear hrf
          obtain ⟨k, hk, rfl, hup, hbr⟩ := hrel
          have HU := Lib.hid hup; clear hup
          by_cases hlt : k < l.length
          · obtain ⟨y, hy⟩ := get_of_lt hlt
            obtain ⟨bl, ol, rfl⟩ := HR2.out.cells.addr (frs_ne (by omega))
            have c1 := cell_keep (HR2.out.cells.at (frs_get hy).1) hbr (Nat.le_refl _)
            have hyd : l.getD k ⟨0, none, 0, []⟩ = y := by rw [List.getD_eq_getElem?_getD, hy]; rfl
            by_cases h0 : k = 0
            · subst h0
              have hst : upTo l (0 + 1) = true := by simp [upTo]
              have HST := Lib.hid hst
              clear hst hyd hy
              rw [show ((0 : Nat) : Int) = 0 from rfl]
              have d0 : decide ((0 : Int) < 0) = false := by decide
              go_wp2_with fail
              go_quiet (fail)
              go_wp2
              go_roundw
              case rel => exact ⟨0 + 1, by omega, by go_num, HST.out, bel_drewN hbr _⟩
              case measure => simp [intOf]; omega
            · obtain ⟨x, hx⟩ := get_of_lt (show k - 1 < l.length by omega)
              have c0 := cell_keep (HR2.out.cells.at (frs_get hx).1) hbr (Nat.le_refl _)
              have hxd : l.getD (k - 1) ⟨0, none, 0, []⟩ = x := by rw [List.getD_eq_getElem?_getD, hx]; rfl
              have hst : upTo l (k + 1) = decide (x.st < y.st) := by rw [upTo, HU.out, hxd, hyd]; simp [h0]
              have HST := Lib.hid hst
              clear hst hyd hy hx hxd
              have a1 : IntKind.i64.wrap ((k : Int) - 1) = (k : Int) - 1 := IntWalk.i64_in _ (by omega)
              have a2 : ((k : Int) - 1).toNat = k - 1 := by omega
              have a3 : (0 : Int) ≤ (k : Int) - 1 := by omega
              have a3' : (1 : Int) ≤ (k : Int) := by omega
              have a4 : (k : Int) - 1 < (l.length : Int) := by omega
              have a5 : (0 : Int) < k := by omega
              have d5 : decide (0 < k) = true := by simp; omega
              have a6 : (k : Int) < (l.length : Int) := by omega
              have a7 : (0 : Int) ≤ (k : Int) := by omega
              generalize x.st = xs at *
              generalize y.st = ys at *
              by_cases hxy : xs < ys
              · have d1 : decide (ys ≤ xs) = false := by simp; omega
                go_wp2_with fail
                go_quiet (fail)
                go_wp2
                go_roundw
                case rel => exact ⟨k + 1, by omega, by go_num, by rw [HST.out]; simpa using hxy, bel_drewN hbr _⟩
                case measure => simp [intOf]; omega
              · have d1 : decide (ys ≤ xs) = true := by simp; omega
                have hfl : upTo l l.length = false := upTo_false (k := k + 1) (by rw [HST.out]; simpa using hxy) (by omega)
                have HFL := Lib.hid hfl
                clear hfl
                go_wp2_with fail
                go_quiet (fail)
                go_wp2
                go_ret
                exact ⟨ret_int (by rw [HE.out, HFL.out]; rfl), HF2.out.trans ((bel_drewN hbr _).mono HF2.out.size)⟩
          · obtain rfl : k = l.length := by omega
            go_wp2
            go_ret
            exact ⟨ret_int (by rw [HE.out, HU.out]; rfl), HF2.out.trans (hbr.mono HF2.out.size)⟩
      · have he : recErr bs l = 51 := by rw [recErr, if_neg (by simpa using h1), if_neg h2, h3]; rfl
        have HE := Lib.hid he; have H3 := Lib.hid h3
        clear he h1 hok h3
        go_enter Tryz.func28, Tryz.ntmps28
        go_wp2_with fail
        refine (HCK.out _ (HB.out.below hb0 (Nat.le_refl _))).mono ?_
        rintro e w1 ⟨rfl, hb1⟩
        rw [H1.out]
        have hf := hb0.trans (hb1.mono hb0.size)
        have q0 : w1.cell? ⟨w.heap.size, 0, none⟩ = some (.slice ao bs.length cap) := box_keep hb1 (by simp) 0
        have HR1 := Lib.hid (HR.out.below hf (Nat.le_refl _))
        have HB1 := Lib.hid (HB.out.below hf (Nat.le_refl _))
        clear hb1
        go_wp2_with fail
        refine (containsFunc_frms 74 #[.pointer (some ⟨w.heap.size, 0, none⟩)] (fun f => !frOK bs f.st f.xss) al l cl w1 HR1.out.cells (by omega) (fun _ _ => by kernel_rfl) (fun x wx hx hbx => checkRecord1_any ao bs cap w.heap.size x wx (cell_keep q0 hbx (Nat.le_refl _)) (HB1.out.cells.below hbx (Nat.le_refl _)) HB1.out.len ((HR1.out.rows x hx).below hbx (Nat.le_refl _)) HOK.out)).mono ?_
        rintro e w2 ⟨rfl, hb2⟩
        rw [H3.out]
        have hf2 := hf.trans (hb2.mono hf.size)
        clear hb2 hf q0
        go_wp2
        go_ret
        exact ⟨ret_int HE.out.symm, hf2⟩
  · have he : recErr bs l = bookErr bs := by simp [recErr, h1]
    have h3 : (bookErr bs != 0) = true := by simpa using h1
    have h4 : (bookErr bs == 0) = false := by simpa using h1
    have HE := Lib.hid he; clear he
    go_enter Tryz.func28, Tryz.ntmps28
    go_wp2_with fail
    refine (HCK.out _ (HB.out.below hb0 (Nat.le_refl _))).mono ?_
    rintro e w1 ⟨rfl, hb1⟩
    have hf := hb0.trans (hb1.mono hb0.size)
    go_wp2
    go_ret
    exact ⟨ret_int HE.out.symm, hf⟩
end Go.Proofs.YtoochleabcjljaaGreatDoor

/- Records: between, Gaps. -/
namespace Go.Proofs.YtoochleabcjljaaGreatDoor
open Go.RowKit

def btwErr (bs : List Chan) (l : List Frm) (fr tt : Int) : Int := if recErr bs l ≠ 0 then recErr bs l else if fr < 0 ∨ tt < fr ∨ 1073741824 < tt then 8 else 0

set_option maxRecDepth 100000 in
theorem between_any (ao : Option Addr) (bs : List Chan) (cap : Nat) (al : Option Addr) (l : List Frm) (cl : Nat) (fr tt : Int) (w : World) (hb : BookIn w ao bs cap) (hr : RecIn w al l) :
    Calls Tryz.prog 77 #[.slice ao bs.length cap, .slice al l.length cl, .int .i64 fr, .int .i64 tt] w fun e w' => e = .returned (.int .i64 (btwErr bs l fr tt)) ∧ Below w.heap.size w w' := by
  have hck := checkRecord_any ao bs cap al l cl w hb hr
  have HCK := Lib.hid hck
  clear hck hb hr
  by_cases h1 : recErr bs l = 0
  · have H1 := Lib.hid h1
    have he : btwErr bs l fr tt = if fr < 0 ∨ tt < fr ∨ 1073741824 < tt then 8 else 0 := by rw [btwErr, if_neg (by simpa using h1)]
    have HE := Lib.hid he
    clear h1 he
    by_cases h2 : fr < 0
    · go_enter Tryz.func77, Tryz.ntmps77
      go_wp2_with fail
      refine HCK.out.mono ?_
      rintro e w1 ⟨rfl, hb1⟩
      rw [H1.out]
      go_wp2
      go_ret
      exact ⟨ret_int (by rw [HE.out, if_pos (.inl h2)]), hb1⟩
    · by_cases h3 : tt < fr
      · go_enter Tryz.func77, Tryz.ntmps77
        go_wp2_with fail
        refine HCK.out.mono ?_
        rintro e w1 ⟨rfl, hb1⟩
        rw [H1.out]
        go_wp2
        go_ret
        exact ⟨ret_int (by rw [HE.out, if_pos (.inr (.inl h3))]), hb1⟩
      · by_cases h4 : 1073741824 < tt
        · go_enter Tryz.func77, Tryz.ntmps77
          go_wp2_with fail
          refine HCK.out.mono ?_
          rintro e w1 ⟨rfl, hb1⟩
          rw [H1.out]
          go_wp2
          go_ret
          exact ⟨ret_int (by rw [HE.out, if_pos (.inr (.inr h4))]), hb1⟩
        · go_enter Tryz.func77, Tryz.ntmps77
          go_wp2_with fail
          refine HCK.out.mono ?_
          rintro e w1 ⟨rfl, hb1⟩
          rw [H1.out]
          go_wp2
          go_ret
          exact ⟨ret_int (by rw [HE.out, if_neg (by omega)]), hb1⟩
  · have he : btwErr bs l fr tt = recErr bs l := by simp [btwErr, h1]
    have h3 : (recErr bs l != 0) = true := by simpa using h1
    have h4 : (recErr bs l == 0) = false := by simpa using h1
    have HE := Lib.hid he; clear he
    go_enter Tryz.func77, Tryz.ntmps77
    go_wp2_with fail
    refine HCK.out.mono ?_
    rintro e w1 ⟨rfl, hb1⟩
    go_wp2
    go_ret
    exact ⟨ret_int HE.out.symm, hb1⟩

/-- one more span, if it is not empty -/
def addS (at_ : Int) (ss : List (Int × Int)) (e : Int) : List (Int × Int) := if at_ < e then ss ++ [(at_, e)] else ss
/-- the gaps till now: where the next one begins, and those that are done -/
structure GapS (base bA bO : Nat) (at_ : Int) (ss : List (Int × Int)) (v : Value) (w : World) : Prop where
  a : Blk w bA 3 #[.int .i64 at_]
  o : Blk w bO 54 #[v]
  own : w.ownsRow base 71 2 v ss.length (prs ss)

theorem Tryz.infoSpan : (Tryz.prog.info? 71).map (fun i => (i.zero, i.size, i.bytes)) = some (some (.agg #[.int .i64 0, .int .i64 0]), 2, 16) := by kernel_rfl
theorem blk_own_ne {w : World} {b base : Nat} {T e : TypeId} {cs : Array Value} {s n : Nat} {v : Value} {xs : List Value} (h : Blk w b T cs) (ho : w.ownsRow base e s v n xs) (hT : T ≠ e) : v.ownBlock ≠ some b := by
  intro hv
  rcases ho.2 with ⟨rfl, _⟩ | ⟨g, cap, cur, rfl, _, hg, _⟩
  · simp [Value.ownBlock] at hv
  · simp [Value.ownBlock] at hv
    subst hv
    rw [show w.heap[g]? = _ from h] at hg
    simp at hg
    exact hT hg.2

set_option maxRecDepth 100000 in
theorem gaps1_any (base bA bO : Nat) (hA : base ≤ bA) (hO : base ≤ bO) (hne : bA ≠ bO) (at_ e_ : Int) (ss : List (Int × Int)) (v : Value) (w : World) (h : GapS base bA bO at_ ss v w) (hl : ss.length ≤ 1000) :
    Calls Tryz.prog 78 #[.int .i64 e_, .pointer (some ⟨bA, 0, none⟩), .pointer (some ⟨bO, 0, none⟩)] w fun e w' => e = .returned (.tuple #[]) ∧ (∃ v', GapS base bA bO at_ (addS at_ ss e_) v' w') ∧ Below base w w' ∧ ∀ j, j < w.heap.size → j ≠ bO → v.ownBlock ≠ some j → w'.heap[j]? = w.heap[j]? := by
  have c1 := h.a.c0
  have c2 := h.o.c0
  have f2 := h.o.free 0
  have HG := Lib.hid h
  clear h
  by_cases hlt : at_ < e_
  · have hs : addS at_ ss e_ = ss ++ [(at_, e_)] := by rw [addS, if_pos hlt]
    have HS := Lib.hid hs; clear hs
    obtain ⟨i0, hi, hz0, hz1, hz2⟩ := info_parts Tryz.infoSpan
    have hsz : base ≤ w.heap.size := by have := HG.out.a.lt; omega
    have HOW := Lib.hid HG.out.own
    go_enter Tryz.func78, Tryz.ntmps78
    go_wp2_with (at_builtin; refine wpList_append_lies _ rfl _ _ _ rfl base 71 i0 (.agg #[.int .i64 0, .int .i64 0]) 2 16 Tryz.underlying54 hi hz0 hz1 hz2 rfl (by decide) v ss.length (prs ss) rfl (HOW.out.alloc _) ⟨w.heap.size, 0, none⟩ 1 1 [.int .i64 at_, .int .i64 e_] rfl rfl (World.news_of_block (cs := #[.int .i64 at_, .int .i64 e_]) (t := 71) (fr := (0, 0)) (heap_alloc_new w _)) (by simp [Value.oneCell']) (by omega) (by unfold maxLen; omega) (by omega) (by simp; omega) (w.heap.size + 1) (by simp) ?_)
    intro gg cp wz hown1 hgrow hat hlt1
    have k1 := (HG.out.a.alloc (.cells #[.int .i64 at_, .int .i64 e_] 71)).kept hgrow (fun e => blk_own_ne HG.out.a HG.out.own (by decide) e.symm)
    have k2 := (HG.out.o.alloc (.cells #[.int .i64 at_, .int .i64 e_] 71)).kept hgrow (fun e => blk_own_ne HG.out.o HG.out.own (by decide) e.symm)
    have z2 := k2.c0
    have g2 := k2.free 0
    have t2 := blk_own_ne k2 hown1 (by decide)
    have hfin : GapS base bA bO at_ (addS at_ ss e_) (.slice (some ⟨gg, 0, none⟩) (ss.length + 1) cp) (wz.setCell ⟨bO, 0, none⟩ (.slice (some ⟨gg, 0, none⟩) (ss.length + 1) cp)) := by
      refine ⟨k1.other hne _ _, k2.set0 _, ?_⟩
      rw [HS.out, List.length_append, prs_append]
      exact own_set_other hown1 t2
    have hbz := (((Below.refl base w).alloc hsz (.cells #[.int .i64 at_, .int .i64 e_] 71)).grown hgrow (by simp; omega) (fun j e => (HOW.out.lt j e).1)).setCell (p := ⟨bO, 0, none⟩) hO (.slice (some ⟨gg, 0, none⟩) (ss.length + 1) cp)
    have hkeep : ∀ j, j < w.heap.size → j ≠ bO → v.ownBlock ≠ some j → (wz.setCell ⟨bO, 0, none⟩ (.slice (some ⟨gg, 0, none⟩) (ss.length + 1) cp)).heap[j]? = w.heap[j]? := fun j hj hjo hjv => by
      rw [Below.heap_setCell _ _ _ _ hjo, hgrow.block j (by simp; omega) (fun e => hjv e.symm), Below.heap_alloc _ _ _ hj]
    have HF := Lib.hid hfin; have HKP := Lib.hid hkeep
    clear hown1 hgrow hat hlt1 k1 k2 t2 hfin hkeep
    go_wp2
    go_end0
    exact ⟨rfl, ⟨_, HF.out⟩, hbz, HKP.out⟩
  · have hs : addS at_ ss e_ = ss := by rw [addS, if_neg hlt]
    have HS := Lib.hid hs; clear hs
    go_enter Tryz.func78, Tryz.ntmps78
    go_wp2
    go_end0
    exact ⟨rfl, ⟨v, by rw [HS.out]; exact HG.out⟩, Below.refl _ _, fun _ _ _ _ => rfl⟩
end Go.Proofs.YtoochleabcjljaaGreatDoor

/- Codes: the samples of a channel are read. -/
namespace Go.Proofs.YtoochleabcjljaaGreatDoor
open Go.RowKit

theorem rowR_len {sh : Nat} : ∀ (n : Nat) (r : List Nat) (acc : List Int) (p : List Int × List Nat), rowR sh n r acc = some p → p.1.length = acc.length + n
  | 0, r, acc, p, h => by rw [rowR] at h; simp at h; subst h; simp
  | n + 1, r, acc, p, h => by
    rw [rowR] at h
    split at h
    · have := rowR_len n _ _ p h; rw [List.length_append, List.length_singleton] at this; omega
    · contradiction

/-- what read returns -/
def ReadRes (base B bR : Nat) (l : List Nat) (res : Option (List Int × List Nat)) (e : Ending) (w' : World) : Prop := match res with
  | some p => (∃ v, e = .returned (.tuple #[v, .bool true]) ∧ w'.ownsRow base 3 1 v p.1.length (p.1.map (Value.int .i64))) ∧ RdS B bR l w' p.2
  | none => e = .returned (.tuple #[.slice none 0 0, .bool false])

set_option maxRecDepth 100000 in
set_option maxHeartbeats 2000000 in
theorem read_any (B bR : Nat) (l r : List Nat) (m : Nat) (w : World) (h : RdS B bR l w r) (hd : ∀ d ∈ l, d < 256) (hl : l.length ≤ 1099511627776) (hm : m ≤ 64) :
    Calls Tryz.prog 131 #[.iface 178 (.pointer (some ⟨bR, 0, none⟩)), .int .i64 (m : Nat)] w fun e w' => ReadRes w.heap.size B bR l (readR m r) e w' ∧ w.grownBy w' (some bR) := by
  have HTK := Lib.hid (fun r k w h hk => reader_take B bR l r k w h hd hl hk)
  have HVA := Lib.hid (fun r o sh w h hs => value_any B bR l r o sh w h hd hl hs)
  have HH := Lib.hid h
  have hbR := h.lt
  have hB := h.1
  have h1 := HTK.out r 2 w h (by omega)
  have H1 := Lib.hid h1
  have hbd1 := takeR_bd h.bits 2
  obtain ⟨ho3, hbits1⟩ := hbd1
  have hbd2 := takeR_bd hbits1 5
  obtain ⟨hs31, hbits2⟩ := hbd2
  have hrd : readR m r = if (takeR (takeR r 2).2 5).1.2 = true ∧ (takeR (takeR r 2).2 5).1.1 ≤ 30 then (rowR (takeR (takeR r 2).2 5).1.1 m (takeR (takeR r 2).2 5).2 []).map fun p => (sumsR p.1 (takeR r 2).1.1, p.2) else none := rfl
  generalize readR m r = res at *
  generalize ht1 : takeR r 2 = t1 at *
  obtain ⟨⟨o, ok1⟩, r1⟩ := t1
  simp only at hrd ho3 hbits1 hs31 hbits2 H1
  generalize ht2 : takeR r1 5 = t2 at *
  obtain ⟨⟨sh, ok2⟩, r2⟩ := t2
  simp only at hrd hs31 hbits2
  have HT2 := Lib.hid ht2
  have HRD := Lib.hid hrd
  clear hd h1 h ht1 hbits1 hbits2 ht2 hrd HH
  go_enter Tryz.func131, Tryz.ntmps131
  go_wp2_with fail
  refine H1.out.mono ?_
  rintro e w1 ⟨rfl, hs1, hg1⟩
  have h2 := HTK.out r1 5 w1 hs1 (by omega)
  rw [HT2.out] at h2
  have H2 := Lib.hid h2
  clear h2 hs1
  go_wp2_with fail
  refine H2.out.mono ?_
  rintro e w2 ⟨rfl, hs2, hg2⟩
  have hg := hg1.trans hg2
  have HS2 := Lib.hid hs2
  have hz := hg.size
  clear hg1 hg2 hs2 H1 H2 HT2
  cases ok2 with
  | false =>
    have hr : res = none := by rw [HRD.out, if_neg (by simp)]
    have HRN := Lib.hid hr; clear hr
    go_wp2
    go_ret2
    rw [HRN.out]
    exact ⟨rfl, hg⟩
  | true =>
    by_cases h30 : sh ≤ 30
    · have hr : res = (rowR sh m r2 []).map fun p => (sumsR p.1 o, p.2) := by rw [HRD.out, if_pos ⟨rfl, h30⟩]
      have HRN := Lib.hid hr; clear hr HRD
      have hz2 : w2.heap.size < (w2.alloc (.cells #[.int .i64 (o : Nat), .int .i64 (sh : Nat)] 170)).heap.size := by simp
      have hs3 := HS2.out.kept (World.grownBy_alloc w2 (.cells #[.int .i64 (o : Nat), .int .i64 (sh : Nat)] 170) none) (fun k e => by simp at e)
      have hg3 : w.grownBy (w2.alloc (.cells #[.int .i64 (o : Nat), .int .i64 (sh : Nat)] 170)) (some bR) := hg.trans (World.grownBy_alloc w2 _ _)
      have hb3 := Blk.new w2 170 #[.int .i64 (o : Nat), .int .i64 (sh : Nat)]
      have HS3 := Lib.hid hs3; have HG3 := Lib.hid hg3; have HB3 := Lib.hid hb3
      clear hs3 hg3 hb3 hg HS2 hz2
      go_wp2
      go_loopw [11, 34] (fun v i wr => ∃ (k : Nat) (s : List Nat) (acc : List Int), k ≤ m ∧ i = .int .i64 k ∧ acc.length = k ∧ (∀ x ∈ acc, -12884901889 ≤ x ∧ x ≤ 12884901889) ∧ rowR sh (m - k) s acc = rowR sh m r2 [] ∧ RdS B bR l wr s ∧ Blk wr w2.heap.size 170 #[.int .i64 (o : Nat), .int .i64 (sh : Nat)] ∧ wr.ownsRow w.heap.size 3 1 v k (acc.map (Value.int .i64)) ∧ w.grownBy wr (some bR)) (fun _ i _ => m - (intOf i).toNat)
      case atStart => exact ⟨0, r2, [], Nat.zero_le _, rfl, rfl, by simp, rfl, HS3.out, HB3.out, World.ownsRow_nil _ _ _ _, HG3.out⟩
      case round =>
        clear HS3 HG3 HB3
        obtain ⟨k, s, acc, hk, rfl, hal, hab, hrow, hs, hb, hown, hg⟩ := hrel
        have HROW := Lib.hid hrow; have HAB := Lib.hid hab
        clear hrow hab
        by_cases hlt : k < m
        · have hv := HVA.out s o sh wr hs h30
          have HV := Lib.hid hv
          have hvb := valueR_bd h30 20 (Nat.le_refl _) hs.bits
          have c0 := hb.c0
          have c1 := hb.c1
          have HB := Lib.hid hb; have HOW := Lib.hid hown
          obtain ⟨d, hd⟩ : ∃ d, m - k = d + 1 := ⟨m - k - 1, by omega⟩
          have hrow := HROW.out
          rw [hd, rowR] at hrow
          have HROW2 := Lib.hid hrow
          clear hrow hv hb hown hs HROW
          generalize hvr : valueR sh 20 s = vr at *
          obtain ⟨⟨u, ok⟩, s2⟩ := vr
          simp only at HROW2 hvb HV
          clear hvr
          go_wp2_with fail
          refine HV.out.mono ?_
          rintro e w3 ⟨rfl, hs3, hg3⟩
          have hg4 := hg.trans hg3
          cases ok with
          | false =>
            have hr : res = none := by
              have := HROW2.out
              rw [if_neg (by simp)] at this
              rw [HRN.out, ← this]; rfl
            have HR0 := Lib.hid hr
            clear hr hs3 c0 c1
            go_wp2
            go_ret2
            rw [HR0.out]
            exact ⟨rfl, hg4⟩
          | true =>
            have hrow := HROW2.out
            rw [if_pos rfl] at hrow
            have HROW3 := Lib.hid hrow
            have hub := unfU_bd hvb.1
            have hbR2 : bR ≠ w2.heap.size := by omega
            have hb4 := HB.out.kept hg3 (by simp; omega)
            have hown3 := HOW.out.kept hg3 (.inr (fun e => by have := (HOW.out.lt _ e).1; omega))
            have HB4 := Lib.hid hb4; have HO3 := Lib.hid hown3; have HS3 := Lib.hid hs3
            have hz4 := hg4.size
            have HG4 := Lib.hid hg4
            obtain ⟨i0, hi, hz0, hz1, hz2⟩ := info_parts Tryz.infoInt
            clear hrow hb4 hown3 hs3 c0 c1 HROW2 HV hg3 hg hg4
            go_wp2_with fail
            refine (unfolded_any u _ hvb.1).mono ?_
            rintro e w4 ⟨rfl, rfl⟩
            go_wp2_with (at_builtin; refine wpList_append_lies _ rfl _ _ _ rfl w.heap.size 3 i0 (.int .i64 0) 1 8 Tryz.underlying22 hi hz0 hz1 hz2 rfl (by decide) _ _ _ rfl (HO3.out.alloc _) ⟨w4.heap.size, 0, none⟩ 1 1 [.int .i64 (unfU u)] rfl rfl (news1 _ _ _) (by simp [Value.oneCell']) (by omega) (by unfold maxLen; omega) (by omega) (by simp; omega) (w4.heap.size + 1) (by simp) ?_)
            intro g1 cg1 w5 hown5 hgrow hat hlt1
            have ha1 := World.grownBy_alloc w4 (.cells #[.int .i64 (unfU u)] 3)
            have hs5 := (HS3.out.kept (ha1 none) (fun k e => by simp at e)).kept hgrow (fun k e => by have := (HO3.out.lt k e).1; omega)
            have hb5 := (HB4.out.alloc (.cells #[.int .i64 (unfU u)] 3)).kept hgrow (fun e => blk_own_ne HB4.out HO3.out (by decide) e.symm)
            have hg5 : w.grownBy w5 (some bR) := (HG4.out.trans (ha1 _)).andThen hgrow (fun j e => .inl (HO3.out.lt j e).1)
            have HS5 := Lib.hid hs5; have HB5 := Lib.hid hb5; have HG5 := Lib.hid hg5; have HO5 := Lib.hid hown5
            clear hs5 hb5 hg5 hown5 hgrow hat hlt1 ha1 HG4 HB4 HO3 HS3
            go_wp2
            go_roundw
            case rel => exact ⟨k + 1, s2, acc ++ [unfU u], by omega, by go_num, by rw [List.length_append, hal]; rfl, (by
              intro x hx
              rcases List.mem_append.1 hx with h | h
              · exact HAB.out x h
              · rw [List.mem_singleton.1 h]; exact hub), by rw [show m - (k + 1) = d from by omega]; exact HROW3.out, HS5.out, HB5.out, by rw [List.map_append]; exact HO5.out, HG5.out⟩
            case measure => simp [intOf]; omega
        · obtain rfl : k = m := by omega
          have hrow := HROW.out
          rw [Nat.sub_self, rowR] at hrow
          have hr : res = some (sumsR acc o, s) := by rw [HRN.out, ← hrow]; rfl
          obtain ⟨a, c, rfl, hcs⟩ := own_cells hown
          have hsm := samples_any a acc c o wr hcs (by omega) (by omega) HAB.out
          rw [hal] at hsm
          have HSM := Lib.hid hsm; have HR := Lib.hid hr; have HS := Lib.hid hs; have HG := Lib.hid hg
          clear hrow hr hcs hsm hs hg hown hb HROW
          go_wp2_with fail
          refine HSM.out.mono ?_
          rintro e w3 ⟨⟨v, rfl, ho⟩, hb3⟩
          have hs3 := HS.out.below hb3
          have hg3 : w.grownBy w3 (some bR) := HG.out.trans ⟨hb3.os, hb3.tape, hb3.output, hb3.size, fun k hk _ => hb3.block k hk⟩
          have ho3 := own_base ho HG.out.size
          have HS3 := Lib.hid hs3; have HG3 := Lib.hid hg3; have HO3 := Lib.hid ho3
          clear hs3 hg3 ho3 ho hb3
          go_wp2
          go_ret2
          rw [HR.out]
          exact ⟨⟨⟨v, rfl, HO3.out⟩, HS3.out⟩, HG3.out⟩
    · have hr : res = none := by rw [HRD.out, if_neg (fun h => h30 h.2)]
      have HRN := Lib.hid hr; clear hr
      have h31 : (30 : Int) < sh := by omega
      go_wp2
      go_ret2
      rw [HRN.out]
      exact ⟨rfl, hg⟩
end Go.Proofs.YtoochleabcjljaaGreatDoor

/- Digits of natural numbers to the base 10^9, the least one first: plain facts. -/
namespace Go.Proofs.YtoochleabcjljaaGreatDoor
def B : Nat := 1000000000

def val : List Nat → Nat
  | [] => 0
  | d :: ds => d + B * val ds

def dig (n : Nat) : List Nat := if n = 0 then [] else n % B :: dig (n / B)
termination_by n
decreasing_by exact Nat.div_lt_self (Nat.pos_of_ne_zero ‹_›) (by decide)

theorem B_pos : 0 < B := by decide
theorem dig_zero : dig 0 = [] := by rw [dig]; simp
theorem dig_pos {n : Nat} (h : n ≠ 0) : dig n = n % B :: dig (n / B) := by rw [dig]; simp [h]

theorem val_dig (n : Nat) : val (dig n) = n := by
  induction n using Nat.strongRecOn with
  | _ n ih =>
    by_cases h : n = 0
    · subst h; simp [dig_zero, val]
    · rw [dig_pos h, val, ih _ (Nat.div_lt_self (Nat.pos_of_ne_zero h) (by decide))]
      exact Nat.mod_add_div n B

def Sm (xs : List Nat) : Prop := ∀ d ∈ xs, d < B

theorem sm_dig (n : Nat) : Sm (dig n) := by
  induction n using Nat.strongRecOn with
  | _ n ih =>
    by_cases h : n = 0
    · subst h; simp [dig_zero, Sm]
    · rw [dig_pos h]
      intro d hd
      rcases List.mem_cons.1 hd with rfl | hd
      · exact Nat.mod_lt _ B_pos
      · exact ih _ (Nat.div_lt_self (Nat.pos_of_ne_zero h) (by decide)) d hd

theorem val_nil : val [] = 0 := rfl
theorem val_cons (d : Nat) (ds : List Nat) : val (d :: ds) = d + B * val ds := rfl

theorem val_append (xs ys : List Nat) : val (xs ++ ys) = val xs + B ^ xs.length * val ys := by
  induction xs with
  | nil => simp [val]
  | cons d ds ih => simp only [List.cons_append, val_cons, ih, List.length_cons, Nat.pow_succ]; rw [Nat.mul_add, Nat.add_assoc, Nat.mul_comm (B ^ ds.length) B, Nat.mul_assoc]

theorem val_snoc (xs : List Nat) (d : Nat) : val (xs ++ [d]) = val xs + B ^ xs.length * d := by
  rw [val_append]; simp [val]

theorem val_lt {xs : List Nat} (h : Sm xs) : val xs < B ^ xs.length := by
  induction xs with
  | nil => simp [val]
  | cons d ds ih =>
    have h1 : d < B := h d (by simp)
    have h2 := ih (fun x hx => h x (by simp [hx]))
    simp only [val_cons, List.length_cons, Nat.pow_succ]
    have : B * (val ds + 1) ≤ B * B ^ ds.length := Nat.mul_le_mul_left _ h2
    rw [Nat.mul_add, Nat.mul_one] at this
    rw [Nat.mul_comm (B ^ ds.length) B]; omega

/-- digits without zeros at the end -/
def Lean_ (xs : List Nat) : Prop := Sm xs ∧ xs.getLast? ≠ some 0

theorem val_eq_zero {xs : List Nat} : val xs = 0 ↔ ∀ d ∈ xs, d = 0 := by
  induction xs with
  | nil => simp [val]
  | cons d ds ih =>
    simp only [val_cons, List.mem_cons, forall_eq_or_imp, ← ih]
    constructor
    · intro h
      have h1 : d = 0 := by omega
      have h2 : B * val ds = 0 := by omega
      refine ⟨h1, ?_⟩
      rcases Nat.mul_eq_zero.1 h2 with h | h
      · exact absurd h (by decide)
      · exact h
    · rintro ⟨rfl, h⟩; simp [h]

theorem dig_val {xs : List Nat} (h : Sm xs) (hl : xs.getLast? ≠ some 0) : dig (val xs) = xs := by
  induction xs with
  | nil => simp [val, dig_zero]
  | cons d ds ih =>
    have h1 : d < B := h d (by simp)
    have hs : Sm ds := fun x hx => h x (by simp [hx])
    have hne : val (d :: ds) ≠ 0 := by
      intro h0
      have h0' := val_eq_zero.1 h0
      have : ((d :: ds).getLast (by simp)) = 0 := h0' _ (List.getLast_mem _)
      exact hl (by rw [List.getLast?_eq_some_getLast (by simp), this])
    rw [dig_pos hne, val_cons]
    have e1 : (d + B * val ds) % B = d := by rw [Nat.add_mul_mod_self_left, Nat.mod_eq_of_lt h1]
    have e2 : (d + B * val ds) / B = val ds := by rw [Nat.add_mul_div_left _ _ B_pos, Nat.div_eq_of_lt h1, Nat.zero_add]
    rw [e1, e2, ih hs]
    cases ds with
    | nil => simp
    | cons x xs => simpa [List.getLast?_cons_cons] using hl

theorem last_dig (n : Nat) : (dig n).getLast? ≠ some 0 := by
  induction n using Nat.strongRecOn with
  | _ n ih =>
    by_cases h : n = 0
    · subst h; simp [dig_zero]
    · rw [dig_pos h]
      have := ih (n / B) (Nat.div_lt_self (Nat.pos_of_ne_zero h) (by decide))
      by_cases h2 : n / B = 0
      · rw [h2, dig_zero]; simp
        have h3 : n < B := by
          rcases Nat.div_eq_zero_iff.1 h2 with h | h
          · exact absurd h (by decide)
          · exact h
        rw [Nat.mod_eq_of_lt h3]; exact h
      · rw [dig_pos h2] at this ⊢
        simpa [List.getLast?_cons_cons] using this

theorem dig_len_pos {n : Nat} : (dig n).length = 0 ↔ n = 0 := by
  by_cases h : n = 0
  · subst h; simp [dig_zero]
  · rw [dig_pos h]; simp [h]

theorem dig_small {n : Nat} (h : n < B) (h0 : n ≠ 0) : dig n = [n] := by
  rw [dig_pos h0, Nat.mod_eq_of_lt h, Nat.div_eq_of_lt h, dig_zero]

theorem lt_pow_len (n : Nat) : n < B ^ (dig n).length := by
  have := val_lt (sm_dig n); rwa [val_dig] at this

theorem pow_len_le {n : Nat} (h : n ≠ 0) : B ^ ((dig n).length - 1) ≤ n := by
  induction n using Nat.strongRecOn with
  | _ n ih =>
    rw [dig_pos h]
    by_cases h2 : n / B = 0
    · rw [h2, dig_zero]; simp; omega
    · have := ih _ (Nat.div_lt_self (Nat.pos_of_ne_zero h) (by decide)) h2
      have hl : (dig (n / B)).length ≠ 0 := by rw [Ne, dig_len_pos]; exact h2
      simp only [List.length_cons, Nat.add_sub_cancel]
      obtain ⟨k, hk⟩ : ∃ k, (dig (n / B)).length = k + 1 := ⟨(dig (n/B)).length - 1, by omega⟩
      rw [hk, Nat.add_sub_cancel] at this
      rw [hk, Nat.pow_succ]
      calc B ^ k * B ≤ n / B * B := Nat.mul_le_mul_right _ this
        _ ≤ n := Nat.div_mul_le_self n B

/-- lengths tell the order -/
theorem lt_of_len {m n : Nat} (h : (dig m).length < (dig n).length) : m < n := by
  have hn : n ≠ 0 := by rintro rfl; simp [dig_zero] at h
  have h1 := lt_pow_len m
  have h2 := pow_len_le hn
  have h3 : B ^ (dig m).length ≤ B ^ ((dig n).length - 1) := Nat.pow_le_pow_right B_pos (by omega)
  omega

theorem dig_len_mono {m n : Nat} (h : m ≤ n) : (dig m).length ≤ (dig n).length := by
  apply Nat.le_of_not_lt
  intro hc
  have := lt_of_len hc
  omega
end Go.Proofs.YtoochleabcjljaaGreatDoor

/- Digits: order, quotients. -/
namespace Go.Proofs.YtoochleabcjljaaGreatDoor

theorem val_split {l : List Nat} {j x : Nat} (hx : l[j]? = some x) : val l = val (l.take j) + B ^ j * (x + B * val (l.drop (j + 1))) := by
  have hj : j < l.length := (List.getElem?_eq_some_iff.1 hx).1
  have h1 : l = l.take j ++ (x :: l.drop (j + 1)) := by
    have := (List.take_append_drop j l).symm
    rw [List.drop_eq_getElem_cons hj, (List.getElem?_eq_some_iff.1 hx).2] at this
    exact this
  have h2 := congrArg val h1
  rw [val_append, val_cons, List.length_take, Nat.min_eq_left (by omega)] at h2
  exact h2

theorem cmp_digit {l1 l2 : List Nat} (h1 : Sm l1) {j x y : Nat} (hx : l1[j]? = some x) (hy : l2[j]? = some y) (hd : l1.drop (j + 1) = l2.drop (j + 1)) (hlt : x < y) : val l1 < val l2 := by
  rw [val_split hx, val_split hy, hd]
  have hj : j < l1.length := (List.getElem?_eq_some_iff.1 hx).1
  have h3 : val (l1.take j) < B ^ j := by
    have := val_lt (xs := l1.take j) (fun d hd => h1 d (List.mem_of_mem_take hd))
    rwa [List.length_take, Nat.min_eq_left (by omega)] at this
  have h4 : B ^ j * (x + 1 + B * val (l2.drop (j + 1))) ≤ B ^ j * (y + B * val (l2.drop (j + 1))) := Nat.mul_le_mul_left _ (by omega)
  have h5 : B ^ j * (x + 1 + B * val (l2.drop (j + 1))) = B ^ j * (x + B * val (l2.drop (j + 1))) + B ^ j := by
    rw [show x + 1 + B * val (l2.drop (j + 1)) = (x + B * val (l2.drop (j + 1))) + 1 from by omega, Nat.mul_add, Nat.mul_one]
  omega

/-- the order, as Go's compare says it -/
def cmpN (m n : Nat) : Int := if m < n then -1 else if n < m then 1 else 0
theorem cmpN_lt {m n : Nat} (h : m < n) : cmpN m n = -1 := by simp [cmpN, h]
theorem cmpN_gt {m n : Nat} (h : n < m) : cmpN m n = 1 := by simp [cmpN, h]; omega
theorem cmpN_eq (n : Nat) : cmpN n n = 0 := by simp [cmpN]

/-- a step of a division by one digit: r the rest of what lies above -/
theorem short_step {H d x : Nat} (hd : 0 < d) : ((H % d) * B + x) / d + B * (H / d) = (x + B * H) / d ∧ ((H % d) * B + x) % d = (x + B * H) % d := by
  have h : x + B * H = ((H % d) * B + x) + d * (B * (H / d)) := by
    have h1 : d * (H / d) + H % d = H := Nat.div_add_mod H d
    have h2 : B * H = B * (d * (H / d)) + B * (H % d) := by rw [← Nat.mul_add, h1]
    rw [h2, Nat.mul_comm (H % d) B, Nat.mul_left_comm d B]; omega
  rw [h, Nat.add_mul_div_left _ _ hd, Nat.add_mul_mod_self_left]
  exact ⟨rfl, rfl⟩

theorem short_dig {r d x : Nat} (hr : r < d) (hx : x < B) : (r * B + x) / d < B := by
  apply Nat.div_lt_of_lt_mul
  have : (r + 1) * B ≤ d * B := Nat.mul_le_mul_right _ hr
  rw [Nat.add_mul] at this; omega
theorem dig_len_val {l : List Nat} (h : Sm l) : (dig (val l)).length ≤ l.length := by
  have h1 := val_lt h
  apply Nat.le_of_not_lt
  intro hc
  have hne : val l ≠ 0 := by
    intro h0; rw [h0, dig_zero] at hc; simp at hc
  have h2 := pow_len_le hne
  have h3 : B ^ l.length ≤ B ^ ((dig (val l)).length - 1) := Nat.pow_le_pow_right B_pos (by omega)
  omega
end Go.Proofs.YtoochleabcjljaaGreatDoor

/- Natural numbers of package num: natural, lean, compare. -/
namespace Go.Proofs.YtoochleabcjljaaGreatDoor
open Go.RowKit

/-- digits, cell by cell -/
def dgs (l : List Nat) : List Value := l.map fun d => Value.int .u64 (d : Nat)
theorem dgs_length (l : List Nat) : (dgs l).length = l.length := by simp [dgs]
theorem dgs_append (a b : List Nat) : dgs (a ++ b) = dgs a ++ dgs b := by simp [dgs]
theorem dgs_ne {l : List Nat} (h : 0 < l.length) : dgs l ≠ [] := by
  intro e; have := dgs_length l; rw [e] at this; simp at this; omega
theorem Cells.dgs {w : World} {b off : Nat} {l : List Nat} (h : Cells w (some ⟨b, off, none⟩) (dgs l)) {i d : Nat} (hd : l[i]? = some d) : w.cell? ⟨b, off + i, none⟩ = some (.int .u64 (d : Nat)) :=
  h.at (by simp [Go.Proofs.YtoochleabcjljaaGreatDoor.dgs, hd])
theorem Cells.take {w : World} {ao : Option Addr} {cs : List Value} (h : Cells w ao cs) (n : Nat) : Cells w ao (cs.take n) := by
  rcases h with h | ⟨b, off, h1, h2⟩
  · exact .inl (by simp [h])
  · refine .inr ⟨b, off, h1, fun j u hu => h2 j u ?_⟩
    rw [List.getElem?_take] at hu
    split at hu
    · exact hu
    · simp at hu
theorem sm_get {l : List Nat} (h : Sm l) {i d : Nat} (hd : l[i]? = some d) : d ≤ 999999999 := by
  have := h d (List.mem_of_getElem? hd); simp only [B] at this; omega

theorem Tryz.infoU64 : (Tryz.prog.info? 187).map (fun i => (i.zero, i.size, i.bytes)) = some (some (.int .u64 0), 1, 8) := by kernel_rfl

/-- an owned row, as a slice, with its capacity -/
theorem own_cap {w : World} {b : Nat} {e : TypeId} {s : Nat} {v : Value} {n : Nat} {xs : List Value} (h : w.ownsRow b e s v n xs) : ∃ a c, v = .slice a n c ∧ Cells w a xs ∧ n ≤ c ∧ c ≤ maxLen := by
  obtain ⟨a, c, hv, hc⟩ := own_cells h
  obtain ⟨h0, h1⟩ := h
  rcases h1 with ⟨h2, h3⟩ | ⟨g, cap, cur, h2, hb, hg, hn, hm, hs, ht⟩
  · rw [h2] at hv; simp at hv
    obtain ⟨rfl, rfl, rfl⟩ := hv
    exact ⟨none, 0, h2, hc, by omega, by unfold maxLen; omega⟩
  · rw [h2] at hv; simp at hv
    obtain ⟨rfl, rfl⟩ := hv
    exact ⟨_, _, h2, hc, hn, hm⟩

theorem dig_len_u64 {n : Nat} (h : n < 18446744073709551616) : (dig n).length ≤ 3 := by
  apply Nat.le_of_not_lt
  intro hc
  have hn : n ≠ 0 := by rintro rfl; simp [dig_zero] at hc
  have h1 := pow_len_le hn
  have h2 : B ^ 3 ≤ B ^ ((dig n).length - 1) := Nat.pow_le_pow_right B_pos (by omega)
  have h3 : B ^ 3 = 1000000000000000000000000000 := by decide
  omega

set_option maxRecDepth 100000 in
theorem natural_any (n : Nat) (w : World) (hn : n < 18446744073709551616) :
    Calls Tryz.prog 136 #[.int .u64 (n : Nat)] w fun e w' => (∃ a c, e = .returned (.slice a (dig n).length c) ∧ Cells w' a (dgs (dig n)) ∧ (dig n).length ≤ c ∧ c ≤ 9223372036854775807) ∧ Below w.heap.size w w' := by
  obtain ⟨i0, hi, hz0, hz1, hz2⟩ := info_parts Tryz.infoU64
  have hlen := dig_len_u64 hn
  have hn1 : n ≤ 18446744073709551615 := by omega
  clear hn
  go_enter Tryz.func136, Tryz.ntmps136
  go_wp2
  go_loopw [3, 0] (fun v m wr => ∃ (ds : List Nat) (k : Nat), m = .int .u64 (k : Nat) ∧ k ≤ n ∧ dig n = ds ++ dig k ∧ wr.ownsRow w.heap.size 187 1 v ds.length (dgs ds) ∧ Below w.heap.size w wr) (fun _ m _ => (intOf m).toNat)
  case atStart => exact ⟨[], n, rfl, Nat.le_refl _, rfl, World.ownsRow_nil _ _ _ _, Below.refl _ _⟩
  case round =>
    obtain ⟨ds, k, rfl, hk, hds, hown, hb⟩ := hrel
    by_cases h0 : k = 0
    · subst h0
      rw [dig_zero, List.append_nil] at hds
      subst hds
      obtain ⟨g, c, rfl, hcs, hc1, hc2⟩ := own_cap hown
      unfold maxLen at hc2
      have HCS := Lib.hid hcs; clear hcs hown
      go_wp2
      go_ret
      exact ⟨⟨g, c, rfl, HCS.out, hc1, hc2⟩, hb⟩
    · have hkp : 0 < (k : Int) := by omega
      have hds2 : dig n = (ds ++ [k % B]) ++ dig (k / B) := by rw [hds, dig_pos h0]; simp
      have hle : ds.length ≤ 2 := by
        have := congrArg List.length hds2
        simp only [List.length_append, List.length_singleton] at this; omega
      have HDS := Lib.hid hds2; clear hds hds2 hlen
      have e1 : ((k : Int) % 1000000000) = ((k % B : Nat) : Int) := by simp [B]
      have e2 : ((k : Int) / 1000000000) = ((k / B : Nat) : Int) := by simp [B]
      have hlt : k / B < k := Nat.div_lt_self (by omega) (by decide)
      have HE1 := Lib.hid e1; have HE2 := Lib.hid e2; clear e1 e2
      have HOB : Hid (∀ j, u3.ownBlock = some j → w.heap.size ≤ j) := fun j e => (hown.lt j e).1
      have hsz := hb.size
      go_wp2_with (at_builtin; refine wpList_append_own _ rfl _ _ 128 rfl w.heap.size 187 i0 (.int .u64 0) 1 8 Tryz.underlying128 hi hz0 hz1 hz2 rfl (by decide) _ _ _ rfl (hown.alloc _) ⟨wr.heap.size, 0, none⟩ 1 1 [.int .u64 ((k : Int) % 1000000000)] rfl rfl (news1 _ _ _) (by simp [Value.oneCell']) (by unfold maxLen; omega) (by omega) (by simp; omega) ?_; intro v1 wz hown1 hgrow _)
      have hfin := hown1
      rw [show dgs ds ++ [.int .u64 ((k : Int) % 1000000000)] = dgs (ds ++ [k % B]) from by rw [dgs_append, HE1.out]; rfl] at hfin
      have hbz := (hb.alloc hsz (.cells #[.int .u64 ((k : Int) % 1000000000)] 187)).grown hgrow (by simp; omega) HOB.out
      clear hown1 hgrow hown
      have HFIN := Lib.hid hfin; clear hfin
      go_wp2
      go_roundw
      case rel => exact ⟨ds ++ [k % B], k / B, by rw [HE2.out], by omega, HDS.out, by simpa using HFIN.out, hbz⟩
      case measure => simp only [intOf]; rw [HE2.out]; simp; omega

/-- zeros at the end go -/
theorem val_take_zero {l : List Nat} {k : Nat} (h0 : l[k]? = some 0) : val (l.take (k + 1)) = val (l.take k) := by
  rw [take_get h0, val_snoc]; simp

/-- a slice's length: for a measure -/
def lenOf : Value → Nat | .slice _ n _ => n | _ => 0

theorem lean_any (ao : Option Addr) (l : List Nat) (c : Nat) (w : World) (hc : Cells w ao (dgs l)) (hs : Sm l) (hl : l.length ≤ 9223372036854775807) (hcap : l.length ≤ c) (hc2 : c ≤ 9223372036854775807) :
    Calls Tryz.prog 192 #[.slice ao l.length c] w fun e w' => (e = .returned (.slice ao (dig (val l)).length c) ∧ Cells w' ao (dgs (dig (val l)))) ∧ w = w' := by
  have HC := Lib.hid hc; clear hc
  have HS := Lib.hid hs; clear hs
  go_enter Tryz.func192, Tryz.ntmps192
  go_wp2
  go_loop [0] (fun v => ∃ k : Nat, k ≤ l.length ∧ v = .slice ao k c ∧ val (l.take k) = val l) (fun v => lenOf v)
  case atStart => exact ⟨l.length, Nat.le_refl _, rfl, by rw [List.take_length]⟩
  case round =>
    obtain ⟨k, hk, rfl, hv⟩ := hrel
    by_cases h0 : k = 0
    · subst h0
      rw [List.take_zero, val_nil] at hv
      have hv2 : dig (val l) = [] := by rw [← hv, dig_zero]
      have HV := Lib.hid hv2; clear hv hv2
      go_wp2
      go_ret
      exact ⟨⟨by rw [HV.out]; rfl, by rw [HV.out]; exact Cells.nil _ _⟩, rfl⟩
    · obtain ⟨j, rfl⟩ : ∃ j, k = j + 1 := ⟨k - 1, by omega⟩
      have hj : j < l.length := by omega
      obtain ⟨d, hd⟩ := get_of_lt hj
      obtain ⟨b, off, rfl⟩ := HC.out.addr (dgs_ne (by omega))
      have hcell := HC.out.dgs hd
      by_cases hd0 : d = 0
      · subst hd0
        have hv2 := val_take_zero hd
        rw [hv] at hv2
        have HV := Lib.hid hv2.symm; clear hv hv2 hd
        go_wp2
        go_round
        case rel => exact ⟨j, by omega, by go_num, HV.out⟩
        case measure => simp [lenOf]
      · have hdp : 0 < d := by omega
        have hne : ((d : Int) == 0) = false := by simp; omega
        have hlast : (l.take (j + 1)).getLast? ≠ some 0 := by rw [take_get hd]; simp; omega
        have hsm : Sm (l.take (j + 1)) := fun x hx => HS.out x (List.mem_of_mem_take hx)
        have hv2 : dig (val l) = l.take (j + 1) := by rw [← hv, dig_val hsm hlast]
        have hl2 : (dig (val l)).length = j + 1 := by rw [hv2, List.length_take]; omega
        have hcs : Cells w (some ⟨b, off, none⟩) (dgs (dig (val l))) := by
          rw [hv2, dgs, List.map_take]; exact HC.out.take _
        have HL := Lib.hid hl2; have HCS := Lib.hid hcs; clear hv hv2 hl2 hcs hd hsm hlast
        go_wp2
        go_ret
        exact ⟨⟨by rw [HL.out]; rfl, HCS.out⟩, rfl⟩

theorem drop_of_len {l1 l2 : List Nat} (h : l1.length = l2.length) : l1.drop l1.length = l2.drop l1.length := by
  rw [List.drop_length, h, List.drop_length]

set_option maxRecDepth 100000 in
theorem compare_any (aa ab : Option Addr) (m n : Nat) (ca cb : Nat) (w : World) (ha : Cells w aa (dgs (dig m))) (hb : Cells w ab (dgs (dig n))) (hm : (dig m).length ≤ 4611686018427387904) (hn : (dig n).length ≤ 4611686018427387904) :
    Calls Tryz.prog 189 #[.slice aa (dig m).length ca, .slice ab (dig n).length cb] w fun e w' => e = .returned (.int .i64 (cmpN m n)) ∧ Below w.heap.size w w' := by
  have HA := Lib.hid ha; clear ha
  have HB := Lib.hid hb; clear hb
  by_cases hlen : (dig m).length = (dig n).length
  · have h1 : (((dig m).length : Int) != (dig n).length) = false := by simp [hlen]
    have HL := Lib.hid hlen; clear hlen
    go_enter Tryz.func189, Tryz.ntmps189
    go_wp2
    go_loopw [5] (fun i wr => ∃ k : Nat, k ≤ (dig m).length ∧ i = .int .i64 ((k : Int) - 1) ∧ (dig m).drop k = (dig n).drop k ∧ Below w.heap.size w wr) (fun i _ => (intOf i + 1).toNat)
    case atStart => exact ⟨(dig m).length, Nat.le_refl _, rfl, drop_of_len HL.out, Below.refl _ _⟩
    case round =>
      obtain ⟨k, hk, rfl, hd, hbe⟩ := hrel
      have HD := Lib.hid hd; clear hd
      by_cases h0 : k = 0
      · subst h0
        have he : cmpN m n = 0 := by
          have := HD.out
          simp only [List.drop_zero] at this
          have h2 := congrArg val this
          rw [val_dig, val_dig] at h2
          rw [h2, cmpN_eq]
        have HE := Lib.hid he; clear he
        go_wp2
        go_ret
        exact ⟨ret_int HE.out.symm, hbe⟩
      · obtain ⟨j, rfl⟩ : ∃ j, k = j + 1 := ⟨k - 1, by omega⟩
        have hj2 : j < (dig n).length := by have := HL.out; omega
        obtain ⟨x, hx⟩ := get_of_lt (show j < (dig m).length by omega)
        obtain ⟨y, hy⟩ := get_of_lt hj2
        obtain ⟨b, off, rfl⟩ := HA.out.addr (dgs_ne (by omega))
        obtain ⟨b2, off2, rfl⟩ := HB.out.addr (dgs_ne (by omega))
        have c1 := cell_keep (HA.out.dgs hx) hbe (Nat.le_refl _)
        have c2 := cell_keep (HB.out.dgs hy) hbe (Nat.le_refl _)
        have e1 : (((j + 1 : Nat) : Int) - 1) = (j : Int) := by omega
        rw [e1]
        have i1 : (j : Int) < (dig m).length := by omega
        have i2 : (j : Int) < (dig n).length := by omega
        have i3 : (0 : Int) ≤ j := by omega
        have hxy : x < y ∨ y < x ∨ x = y := by omega
        rcases hxy with hlt | hgt | heq
        · have he : cmpN m n = -1 := cmpN_lt (by have := cmp_digit (sm_dig m) hx hy HD.out hlt; rwa [val_dig, val_dig] at this)
          have HE := Lib.hid he; clear he hx hy e1
          have hne : ((x : Int) != y) = true := by simp; omega
          have hl : decide ((x : Int) < y) = true := by simp; omega
          go_wp2
          go_quiet (fail)
          go_wp2
          go_quiet (fail)
          go_wp2
          go_ret
          exact ⟨ret_int HE.out.symm, bel_drewN (bel_drewN hbe _) _⟩
        · have he : cmpN m n = 1 := cmpN_gt (by have := cmp_digit (sm_dig n) hy hx HD.out.symm hgt; rwa [val_dig, val_dig] at this)
          have HE := Lib.hid he; clear he hx hy e1
          have hne : ((x : Int) != y) = true := by simp; omega
          have hl : decide ((x : Int) < y) = false := by simp; omega
          go_wp2
          go_quiet (fail)
          go_wp2
          go_quiet (fail)
          go_wp2
          go_ret
          exact ⟨ret_int HE.out.symm, bel_drewN (bel_drewN hbe _) _⟩
        · subst heq
          have he : (dig m).drop j = (dig n).drop j := by
            rw [List.drop_eq_getElem_cons (show j < (dig m).length by omega), List.drop_eq_getElem_cons hj2, HD.out, (List.getElem?_eq_some_iff.1 hx).2, (List.getElem?_eq_some_iff.1 hy).2]
          have HE := Lib.hid he; clear he hx hy e1
          have hne : ((x : Int) != x) = false := by simp
          go_wp2
          go_quiet (fail)
          go_wp2
          go_roundw
          case rel => exact ⟨j, by omega, by go_num, HE.out, bel_drewN hbe _⟩
          case measure => simp [intOf]
  · rcases Nat.lt_or_gt_of_ne hlen with hlt | hgt
    · have he : cmpN m n = -1 := cmpN_lt (lt_of_len hlt)
      have HE := Lib.hid he; clear he
      have h1 : (((dig m).length : Int) != (dig n).length) = true := by simp; omega
      go_enter Tryz.func189, Tryz.ntmps189
      go_wp2
      go_ret
      exact ⟨ret_int HE.out.symm, Below.refl _ _⟩
    · have he : cmpN m n = 1 := cmpN_gt (lt_of_len hgt)
      have HE := Lib.hid he; clear he
      have h1 : (((dig m).length : Int) != (dig n).length) = true := by simp; omega
      have h2 : (dig n).length ≤ (dig m).length := by omega
      go_enter Tryz.func189, Tryz.ntmps189
      go_wp2
      go_ret
      exact ⟨ret_int HE.out.symm, Below.refl _ _⟩

end Go.Proofs.YtoochleabcjljaaGreatDoor
