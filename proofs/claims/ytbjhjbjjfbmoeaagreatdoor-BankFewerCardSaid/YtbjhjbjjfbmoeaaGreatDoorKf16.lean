/- Parts of a proof, in build order: YH, YL, YJ, YM, YN, YO, V9. -/
import Derived.Test.YtbjhjbjjfbmoeaaGreatDoorKf15
import Derived.Lib.ItoaLen
import Derived.Deep.Strs
import Derived.Lib.SmallJoins

/- The bank: Proves, where there is no cover. -/
namespace Go.Proofs.YtbjhjbjjfbmoeaaGreatDoor
open Go.RowKit Go.Shelf

set_option maxRecDepth 1000000 in
set_option maxHeartbeats 8000000 in
theorem Proves_bad (L a b c d : Int) (cs : List (Int × Int)) (ao : Option Addr) (cap : Nat) (s : ByteArray) (fs : List (Int × Int)) (fo : Option Addr) (fc : Nat) (w : World) (ht : Tab w) (hs : s.size ≤ 140737488351232) (hc : Cells w ao (prs cs)) (hl : cs.length ≤ 9223372036854775807) (hcap : cs.length ≤ cap) (hcap2 : cap ≤ 9223372036854775807) (hfc : Cells w fo (prs fs)) (hfl : fs.length ≤ 9223372036854775807) (hE : covE L a b c d cs s ≠ 0) :
    Calls Tryz.prog 48 #[.agg #[.int .i64 L, .int .i64 a, .int .i64 b, .int .i64 c, .int .i64 d], .slice ao cs.length cap, .string s, .slice fo fs.length fc] w fun e w' => e = .returned (.tuple #[.bool (prvR L a b c d cs s fs), .int .i64 (covE L a b c d cs s)]) ∧ Below w.heap.size w w' := by
  obtain ⟨W0, hW0⟩ : ∃ W0, (((w.alloc (.cells #[.int .i64 L, .int .i64 a, .int .i64 b, .int .i64 c, .int .i64 d] 81)).alloc (.cells #[.slice fo fs.length fc] 84)).alloc (.cells #[.bool false] 4)).alloc (.cells #[.int .i64 0] 26) = W0 := ⟨_, rfl⟩
  have hB0 : Below w.heap.size w W0 := by rw [← hW0]; exact ((((Below.refl _ w).alloc (Nat.le_refl _) _).alloc (by simp) _).alloc (by simp; omega) _).alloc (by simp; omega) _
  have hs0 : W0.heap.size = w.heap.size + 4 := by rw [← hW0]; simp
  have q0 : Blk W0 w.heap.size 81 #[.int .i64 L, .int .i64 a, .int .i64 b, .int .i64 c, .int .i64 d] := by
    unfold Blk; rw [← hW0, hold_old _ _ _ (by simp <;> omega), hold_old _ _ _ (by simp <;> omega)]; exact heap_alloc2_old w _ _
  have q1 : Blk W0 (w.heap.size + 1) 84 #[.slice fo fs.length fc] := by
    unfold Blk; rw [← hW0, hold_old _ _ _ (by simp <;> omega), hold_old _ _ _ (by simp)]; exact heap_alloc2_new w _ _
  obtain ⟨W2, hW2⟩ : ∃ W2, (w.alloc (.cells #[.int .i64 L, .int .i64 a, .int .i64 b, .int .i64 c, .int .i64 d] 81)).alloc (.cells #[.slice fo fs.length fc] 84) = W2 := ⟨_, rfl⟩
  have hs2 : W2.heap.size = w.heap.size + 2 := by rw [← hW2]; simp
  have q2 : Blk W0 (w.heap.size + 1 + 1) 4 #[.bool false] := by
    unfold Blk; rw [← hW0, hW2, show w.heap.size + 1 + 1 = W2.heap.size by omega]; exact heap_alloc2_old W2 _ _
  have q3 : Blk W0 (w.heap.size + 1 + 1 + 1) 26 #[.int .i64 0] := by
    unfold Blk; rw [← hW0, hW2, show w.heap.size + 1 + 1 + 1 = W2.heap.size + 1 by omega]; exact heap_alloc2_new W2 _ _
  have hcv := covering_any L a b c d cs ao cap s W0 (ht.below hB0 (Nat.le_refl _)) hs (hc.below hB0 (Nat.le_refl _)) hl hcap hcap2
  have HW0 := Lib.hid hW0; have HCV := Lib.hid hcv; have HB0 := Lib.hid hB0; have HS0 := Lib.hid hs0
  have Q0 := Lib.hid q0; have Q1 := Lib.hid q1; have Q2 := Lib.hid q2; have Q3 := Lib.hid q3
  have HFC := Lib.hid (hfc.below hB0 (Nat.le_refl _))
  clear hW0 hcv ht hc hB0 hs0 hfc hW2 hs2 q0 q1 q2 q3
  have hp : prvR L a b c d cs s fs = false := if_neg hE
  have HP := Lib.hid hp; have HE := Lib.hid hE
  clear hp hE
  go_enter Tryz.func48, Tryz.ntmps48
  go_wp2_with fail
  rw [HW0.out]
  refine HCV.out.mono ?_
  rintro r w1 ⟨⟨h0, _⟩ | ⟨hE, rfl⟩, hb1⟩
  · exact absurd h0 HE.out
  · have hbw := HB0.out.trans (hb1.mono HB0.out.size)
    have hsz := HS0.out
    have k2 := (Q2.out.below hb1 (by omega)).c0
    have k3 := (Q3.out.below hb1 (by omega)).c0
    have g2 := (Q2.out.below hb1 (by omega)).free 0
    have g3 := (Q3.out.below hb1 (by omega)).free 0
    have hlt : w.heap.size + 1 + 1 + 1 < w1.heap.size := by have := hb1.size; omega
    generalize hvv : covE L a b c d cs s = v at hE ⊢
    have HVV := Lib.hid hvv
    have hv : (v != 0) = true := by simpa using hE
    clear hvv hb1 hsz
    have hlt2 : w.heap.size + 1 + 1 < w1.heap.size := by omega
    go_wp2_with fail
    refine bodyPost_ret (v := .tuple #[.bool false, .int .i64 v]) (by simp [results, Tryz.results48, go_sem, k2, k3, hlt, hlt2]) rfl ?_
    rw [HP.out, HVV.out]
    exact ⟨rfl, ((hbw.setCell (p := ⟨w.heap.size + 1 + 1, 0, none⟩) (by show w.heap.size ≤ w.heap.size + 1 + 1; omega) _).setCell (p := ⟨w.heap.size + 1 + 1 + 1, 0, none⟩) (by show w.heap.size ≤ w.heap.size + 1 + 1 + 1; omega) _).alloc (by simp; omega) _⟩
end Go.Proofs.YtbjhjbjjfbmoeaaGreatDoor

/- The bank: Proves. -/
namespace Go.Proofs.YtbjhjbjjfbmoeaaGreatDoor
open Go.RowKit Go.Shelf

theorem Proves_any (L a b c d : Int) (cs : List (Int × Int)) (ao : Option Addr) (cap : Nat) (s : ByteArray) (fs : List (Int × Int)) (fo : Option Addr) (fc : Nat) (w : World) (ht : Tab w) (hs : s.size ≤ 140737488351232) (hc : Cells w ao (prs cs)) (hl : cs.length ≤ 9223372036854775807) (hcap : cs.length ≤ cap) (hcap2 : cap ≤ 9223372036854775807) (hfc : Cells w fo (prs fs)) (hfl : fs.length ≤ 9223372036854775807) :
    Calls Tryz.prog 48 #[.agg #[.int .i64 L, .int .i64 a, .int .i64 b, .int .i64 c, .int .i64 d], .slice ao cs.length cap, .string s, .slice fo fs.length fc] w fun e w' => e = .returned (.tuple #[.bool (prvR L a b c d cs s fs), .int .i64 (covE L a b c d cs s)]) ∧ Below w.heap.size w w' := by
  by_cases hE : covE L a b c d cs s = 0
  · exact Proves_good L a b c d cs ao cap s fs fo fc w ht hs hc hl hcap hcap2 hfc hfl hE
  · exact Proves_bad L a b c d cs ao cap s fs fo fc w ht hs hc hl hcap hcap2 hfc hfl hE
end Go.Proofs.YtbjhjbjjfbmoeaaGreatDoor

/- inside of the law package: are all numbers of a list in another one? -/
namespace Go.Proofs.YtbjhjbjjfbmoeaaGreatDoor
open Go.RowKit

/-- Find: is a number in a list? -/
theorem findN_any (ao : Option Addr) (xs : List Int) (cap : Nat) (n : Int) (w : World) (hc : Cells w ao (xs.map (Value.int .i64))) (hl : xs.length ≤ 9223372036854775807) :
    Calls Tryz.prog 120 #[.slice ao xs.length cap, .int .i64 n] w fun e w' => (∃ r : Int, e = .returned (.int .i64 r) ∧ (0 ≤ r ↔ n ∈ xs)) ∧ w = w' := by
  have HC := Lib.hid hc; clear hc
  go_enter Tryz.func120, Tryz.ntmps120
  go_wp2
  go_loop [5] (fun i => ∃ k : Nat, k ≤ xs.length ∧ i = .int .i64 k ∧ n ∉ xs.take k) (fun i => xs.length - (intOf i).toNat)
  case atStart => exact ⟨0, Nat.zero_le _, rfl, by simp⟩
  case round =>
    obtain ⟨k, hk, rfl, hn⟩ := hrel
    have HN := Lib.hid hn; clear hn
    by_cases hlt : k < xs.length
    · obtain ⟨x, hx⟩ := get_of_lt hlt
      obtain ⟨b, off, rfl⟩ := HC.out.addr (by simpa using List.ne_nil_of_length_pos (by omega))
      have c0 := HC.out.int hx
      have HX := Lib.hid hx; clear hx
      by_cases hxn : x = n
      · have h1 : (x == n) = true := by simp [hxn]
        have HXN := Lib.hid hxn; clear hxn
        go_wp2
        go_ret
        refine ⟨⟨_, rfl, ?_⟩, rfl⟩
        simp only [Int.natCast_nonneg, true_iff]
        rw [← HXN.out]; exact List.mem_of_getElem? HX.out
      · have h1 : (x == n) = false := by simp [hxn]
        have HXN := Lib.hid hxn; clear hxn
        go_wp2
        go_round
        case rel =>
          refine ⟨k + 1, by omega, by go_num, ?_⟩
          have h2 := HN.out
          have h3 := HXN.out
          rw [take_get HX.out, List.mem_append, List.mem_singleton]
          rintro (h | h)
          · exact h2 h
          · exact h3 h.symm
        case measure => simp [intOf]; omega
    · obtain rfl : k = xs.length := by omega
      rw [List.take_length] at HN
      go_wp2
      go_ret
      exact ⟨⟨_, rfl, ⟨fun h => absurd h (by decide), fun h => absurd h HN.out⟩⟩, rfl⟩

/-- all numbers of a list lie in another one -/
def insB (xs ys : List Int) : Bool := xs.all fun x => decide (x ∈ ys)
theorem insB_true {xs ys : List Int} (h : ∀ v ∈ xs, v ∈ ys) : insB xs ys = true := by
  unfold insB
  rw [List.all_eq_true]
  exact fun x hx => decide_eq_true (h x hx)

theorem inside_any (ao bo : Option Addr) (xs ys : List Int) (ca cb : Nat) (w : World) (ha : Cells w ao (xs.map (Value.int .i64))) (hb : Cells w bo (ys.map (Value.int .i64))) (hl : xs.length ≤ 9223372036854775807) (hl2 : ys.length ≤ 9223372036854775807) :
    Calls Tryz.prog 59 #[.slice ao xs.length ca, .slice bo ys.length cb] w fun e w' => e = .returned (.bool (insB xs ys)) ∧ Below w.heap.size w w' := by
  have hfi := fun (n : Int) (W : World) (h : Below w.heap.size w W) => findN_any bo ys cb n W (hb.below h (Nat.le_refl _)) hl2
  have HFI := Lib.hid hfi
  clear hfi hb
  go_enter Tryz.func59, Tryz.ntmps59
  go_wp2
  go_loopw [5] (fun i wr => ∃ k : Nat, k ≤ xs.length ∧ i = .int .i64 k ∧ insB (xs.take k) ys = true ∧ Below w.heap.size w wr) (fun i _ => xs.length - (intOf i).toNat)
  case atStart => exact ⟨0, Nat.zero_le _, rfl, rfl, Below.refl _ _⟩
  case round =>
    obtain ⟨k, hk, rfl, hin, hbe⟩ := hrel
    have HIN := Lib.hid hin; clear hin
    by_cases hlt : k < xs.length
    · obtain ⟨x, hx⟩ := get_of_lt hlt
      obtain ⟨b, off, rfl⟩ := ha.addr (by intro h; rw [List.map_eq_nil_iff] at h; rw [h] at hlt; simp at hlt)
      have c1 := cell_keep (ha.at (show (xs.map (Value.int .i64))[k]? = some (.int .i64 x) by rw [List.getElem?_map, hx]; rfl)) hbe (Nat.le_refl _)
      have HX := Lib.hid hx; have HA := Lib.hid ha
      have i1 : (k : Int) < xs.length := by omega
      have i3 : (0 : Int) ≤ k := by omega
      clear hx ha
      go_wp2_with fail
      refine (HFI.out x wr hbe).mono ?_
      rintro e w1 ⟨⟨r, rfl, hr⟩, hw1⟩
      obtain rfl : wr = w1 := hw1
      by_cases h0 : r < 0
      · have hn : insB xs ys = false := by
          rw [Bool.eq_false_iff]
          intro h
          unfold insB at h
          rw [List.all_eq_true] at h
          have h1 := h x (List.mem_of_getElem? HX.out)
          rw [decide_eq_true_eq, ← hr] at h1
          omega
        have HN := Lib.hid hn
        clear hn hr
        go_wp2_with fail
        go_ret
        exact ⟨ret_bool HN.out.symm, hbe⟩
      · have hn : insB (xs.take (k + 1)) ys = true := by
          have hin := HIN.out
          unfold insB at hin ⊢
          rw [take_get HX.out, List.all_append, hin]
          simp only [List.all_cons, List.all_nil, Bool.and_true, Bool.true_and, decide_eq_true_eq]
          exact hr.1 (by omega)
        have HN := Lib.hid hn
        clear hn hr
        go_wp2_with fail
        go_roundw
        case rel => exact ⟨k + 1, by omega, by go_num, HN.out, hbe⟩
        case measure => simp [intOf]; omega
    · obtain rfl : k = xs.length := by omega
      have hn : insB xs ys = true := by have := HIN.out; rwa [List.take_length] at this
      have HN := Lib.hid hn
      clear hn
      go_wp2
      go_ret
      exact ⟨ret_bool HN.out.symm, hbe⟩
end Go.Proofs.YtbjhjbjjfbmoeaaGreatDoor

/- The law BankFewer, where there is no cover. -/
namespace Go.Proofs.YtbjhjbjjfbmoeaaGreatDoor
open Go.RowKit Go.Shelf

set_option maxRecDepth 1000000 in
set_option maxHeartbeats 8000000 in
theorem fewer_bad (L a b c d : Int) (cs : List (Int × Int)) (ao : Option Addr) (cap : Nat) (s t : ByteArray) (fs : List (Int × Int)) (fo : Option Addr) (fc : Nat) (w : World) (ht : Tab w) (hs : s.size ≤ 140737488351232) (hc : Cells w ao (prs cs)) (hl : cs.length ≤ 9223372036854775807) (hcap : cs.length ≤ cap) (hcap2 : cap ≤ 9223372036854775807) (hfc : Cells w fo (prs fs)) (hfl : fs.length ≤ 9223372036854775807) (hE : covE L a b c d cs s ≠ 0) :
    Calls Tryz.prog 13 #[.agg #[.int .i64 L, .int .i64 a, .int .i64 b, .int .i64 c, .int .i64 d, .slice ao cs.length cap, .string s], .string t, .slice fo fs.length fc] w fun e w' => e = .returned (.bool true) ∧ Below w.heap.size w w' := by
  obtain ⟨W0, hW0⟩ : ∃ W0, w.alloc (.cells #[.int .i64 L, .int .i64 a, .int .i64 b, .int .i64 c, .int .i64 d, .slice ao cs.length cap, .string s] 83) = W0 := ⟨_, rfl⟩
  have hB0 : Below w.heap.size w W0 := by rw [← hW0]; exact (Below.refl _ w).alloc (Nat.le_refl _) _
  have hs0 : W0.heap.size = w.heap.size + 1 := by rw [← hW0]; simp
  have r0 : Blk W0 w.heap.size 83 #[.int .i64 L, .int .i64 a, .int .i64 b, .int .i64 c, .int .i64 d, .slice ao cs.length cap, .string s] := by rw [← hW0]; exact heap_alloc_new w _
  have HKB : Hid (∀ wx, Below W0.heap.size W0 wx → (wx.cell? ⟨w.heap.size, 0, none⟩ = some (.int .i64 L) ∧ wx.cell? ⟨w.heap.size, 1, none⟩ = some (.int .i64 a) ∧ wx.cell? ⟨w.heap.size, 2, none⟩ = some (.int .i64 b) ∧ wx.cell? ⟨w.heap.size, 3, none⟩ = some (.int .i64 c) ∧ wx.cell? ⟨w.heap.size, 4, none⟩ = some (.int .i64 d) ∧ wx.cell? ⟨w.heap.size, 5, none⟩ = some (.slice ao cs.length cap) ∧ wx.cell? ⟨w.heap.size, 6, none⟩ = some (.string s)) ∧ Below w.heap.size w wx ∧ Tab wx ∧ Cells wx ao (prs cs) ∧ Cells wx fo (prs fs)) := Lib.hid (fun wx hb => by
    have hbw := hB0.trans (hb.mono (by omega))
    have h := r0.below hb (by omega)
    exact ⟨⟨h.cell 0, h.cell 1, h.cell 2, h.cell 3, h.cell 4, h.cell 5, h.cell 6⟩, hbw, ht.below hbw (Nat.le_refl _), hc.below hbw (Nat.le_refl _), hfc.below hbw (Nat.le_refl _)⟩)
  have hmi := fun (W : World) (h : Tab W) (h2 : Cells W ao (prs cs)) => Misses_any L a b c d cs ao cap s W h hs h2 hl hcap hcap2
  have hpr := fun (W : World) (h : Tab W) (h2 : Cells W ao (prs cs)) (h3 : Cells W fo (prs fs)) => Proves_any L a b c d cs ao cap s fs fo fc W h hs h2 hl hcap hcap2 h3 hfl
  have e1 := (misR_no hE).1
  have e2 : prvR L a b c d cs s fs = false := if_neg hE
  rw [e1] at hmi
  rw [e2] at hpr
  generalize covE L a b c d cs s = v at *
  have hv : (v != 0) = true := by simpa using hE
  have hvv : (v != v) = false := by simp
  simp only [List.length_nil] at hmi
  have HW0 := Lib.hid hW0; have HMI := Lib.hid hmi; have HPR := Lib.hid hpr
  clear hW0 hB0 hs0 r0 ht hc hfc hmi hpr e1 e2 hE
  obtain ⟨⟨q0, q1, q2, q3, q4, q5, q6⟩, -⟩ := HKB.out W0 (Below.refl _ _)
  go_enter Tryz.func13, Tryz.ntmps13
  go_wp2_with fail
  rw [HW0.out]
  refine (HMI.out _ (HKB.out W0 (Below.refl _ _)).2.2.1 (HKB.out W0 (Below.refl _ _)).2.2.2.1).mono ?_
  rintro e w1 ⟨⟨m, cm, rfl, -⟩, hb1⟩
  clear q0 q1 q2 q3 q4 q5 q6
  obtain ⟨⟨q0, q1, q2, q3, q4, q5, q6⟩, -⟩ := HKB.out w1 hb1
  go_wp2_with fail
  refine (HPR.out _ (HKB.out w1 hb1).2.2.1 (HKB.out w1 hb1).2.2.2.1 (HKB.out w1 hb1).2.2.2.2).mono ?_
  rintro e w2 ⟨rfl, hb2⟩
  have hb02 := hb1.trans (hb2.mono hb1.size)
  clear q0 q1 q2 q3 q4 q5 q6 hb1 hb2
  go_wp2_with fail
  refine (bworks_any _ (HKB.out w2 hb02).2.2.1).mono ?_
  rintro e w3 ⟨rfl, hb3⟩
  have hbw := (HKB.out w2 hb02).2.1
  go_wp2_with fail
  go_ret
  exact ⟨rfl, hbw.trans (hb3.mono hbw.size)⟩
end Go.Proofs.YtbjhjbjjfbmoeaaGreatDoor

/- The law BankFewer, where there is a cover. -/
namespace Go.Proofs.YtbjhjbjjfbmoeaaGreatDoor
open Go.RowKit Go.Shelf

/-- a list of pairs without its first one -/
theorem cells_tail {w : World} {b off : Nat} {x : Int × Int} {r : List (Int × Int)} {v : Nat} (h : Cells w (some ⟨b, off, none⟩) (prs (x :: r))) (hv : v = off + 2 ∨ r = []) : Cells w (some ⟨b, v, none⟩) (prs r) := by
  rcases hv with rfl | rfl
  · rcases h with h | ⟨b', o', h1, h2⟩
    · rw [prs_cons] at h; cases h
    · cases h1
      refine .inr ⟨b, off + 2, rfl, fun j u hu => ?_⟩
      have := h2 (j + 2) u (by rw [prs_cons]; exact hu)
      rw [← this]
      congr 2
      omega
  · exact .inl rfl
theorem misR_len (L a b c d : Int) (cs : List (Int × Int)) (s : ByteArray) : (misR L a b c d cs s).length ≤ 400 := by
  by_cases hE : covE L a b c d cs s = 0
  · obtain ⟨hf, _, N, D, hb⟩ := covE_0 hE
    rw [(misR_yes hE hb).1]
    exact Nat.le_trans (misI_len _ _ _) (Nat.le_trans (ptsAll_len _ _ _ _ _) (fam_true hf).2.2.2.2.2.2.2.2)
  · rw [(misR_no hE).1]; exact Nat.zero_le _

theorem bar_small {s : ByteArray} {N D : Nat} (h : barS s = some (N, D)) : s.size ≤ 1099511627776 ∧ Lib.hasSuffix s.data.toList [105] = false := by
  obtain ⟨h1, h2, h3, h4, _, _⟩ := barS_some h
  refine ⟨?_, h1⟩
  rw [(getR_text h2).1]
  refine Nat.le_trans (ratT_size _ _ _) ?_
  have a := Lib.nDigits_le20 N (by omega)
  have b := Lib.nDigits_le20 D (by omega)
  omega

set_option maxRecDepth 1000000 in
set_option maxHeartbeats 8000000 in
theorem fewer_good (L a b c d : Int) (cs : List (Int × Int)) (ao : Option Addr) (cap : Nat) (s t : ByteArray) (fs : List (Int × Int)) (fo : Option Addr) (fc : Nat) (w : World) (ht : Tab w) (hs : s.size ≤ 140737488351232) (hst : t.size ≤ 140737488351232) (hc : Cells w ao (prs cs)) (hl : cs.length ≤ 9223372036854775807) (hcap : cs.length ≤ cap) (hcap2 : cap ≤ 9223372036854775807) (hfc : Cells w fo (prs fs)) (hfl : fs.length ≤ 9223372036854775807) (hE : covE L a b c d cs s = 0) :
    Calls Tryz.prog 13 #[.agg #[.int .i64 L, .int .i64 a, .int .i64 b, .int .i64 c, .int .i64 d, .slice ao cs.length cap, .string s], .string t, .slice fo fs.length fc] w fun e w' => e = .returned (.bool true) ∧ Below w.heap.size w w' := by
  obtain ⟨W0, hW0⟩ : ∃ W0, w.alloc (.cells #[.int .i64 L, .int .i64 a, .int .i64 b, .int .i64 c, .int .i64 d, .slice ao cs.length cap, .string s] 83) = W0 := ⟨_, rfl⟩
  have hB0 : Below w.heap.size w W0 := by rw [← hW0]; exact (Below.refl _ w).alloc (Nat.le_refl _) _
  have hs0 : W0.heap.size = w.heap.size + 1 := by rw [← hW0]; simp
  have r0 : Blk W0 w.heap.size 83 #[.int .i64 L, .int .i64 a, .int .i64 b, .int .i64 c, .int .i64 d, .slice ao cs.length cap, .string s] := by rw [← hW0]; exact heap_alloc_new w _
  have HKB : Hid (∀ wx, Below W0.heap.size W0 wx → (wx.cell? ⟨w.heap.size, 0, none⟩ = some (.int .i64 L) ∧ wx.cell? ⟨w.heap.size, 1, none⟩ = some (.int .i64 a) ∧ wx.cell? ⟨w.heap.size, 2, none⟩ = some (.int .i64 b) ∧ wx.cell? ⟨w.heap.size, 3, none⟩ = some (.int .i64 c) ∧ wx.cell? ⟨w.heap.size, 4, none⟩ = some (.int .i64 d) ∧ wx.cell? ⟨w.heap.size, 5, none⟩ = some (.slice ao cs.length cap) ∧ wx.cell? ⟨w.heap.size, 6, none⟩ = some (.string s)) ∧ Below w.heap.size w wx ∧ Tab wx ∧ Cells wx ao (prs cs) ∧ Cells wx fo (prs fs)) := Lib.hid (fun wx hb => by
    have hbw := hB0.trans (hb.mono (by omega))
    have h := r0.below hb (by omega)
    exact ⟨⟨h.cell 0, h.cell 1, h.cell 2, h.cell 3, h.cell 4, h.cell 5, h.cell 6⟩, hbw, ht.below hbw (Nat.le_refl _), hc.below hbw (Nat.le_refl _), hfc.below hbw (Nat.le_refl _)⟩)
  have hmi := fun (W : World) (h : Tab W) (h2 : Cells W ao (prs cs)) => Misses_any L a b c d cs ao cap s W h hs h2 hl hcap hcap2
  have hmt := fun (W : World) (h : Tab W) (h2 : Cells W ao (prs cs)) => Misses_any L a b c d cs ao cap t W h hst h2 hl hcap hcap2
  have hpr := fun (W : World) (h : Tab W) (h2 : Cells W ao (prs cs)) (h3 : Cells W fo (prs fs)) => Proves_any L a b c d cs ao cap s fs fo fc W h hs h2 hl hcap hcap2 h3 hfl
  have e1 : prvR L a b c d cs s fs = true → misR L a b c d cs s = [] := prv_law
  have hfew : ∀ x r, cs = x :: r → (∀ (bo : Option Addr) (c' : Nat) (W : World), r.length ≤ c' → c' ≤ 9223372036854775807 → Tab W → Cells W bo (prs r) → Calls Tryz.prog 55 #[.agg #[.int .i64 L, .int .i64 a, .int .i64 b, .int .i64 c, .int .i64 d], .slice bo r.length c', .string s] W fun e w' => (∃ m cm, e = .returned (.tuple #[.slice m (misR L a b c d r s).length cm, .int .i64 0]) ∧ Cells w' m ((misR L a b c d r s).map (Value.int .i64))) ∧ Below W.heap.size W w') ∧ insB (misR L a b c d cs s) (misR L a b c d r s) = true ∧ (misR L a b c d r s).length ≤ 400 := by
    rintro x r rfl
    simp only [List.length_cons] at hl hcap
    refine ⟨fun bo c' W k1 k2 h h2 => ?_, insB_true (few_law hE), misR_len _ _ _ _ _ _ _⟩
    have := Misses_any L a b c d r bo c' s W h hs h2 (by omega) k1 k2
    rw [covE_tail hE] at this
    exact this
  have hbar : covE L a b c d cs t = 0 → (∀ W, Tab W → Calls Tryz.prog 27 #[.string s, .string t] W fun e w' => e = .returned (.tuple #[.int .i64 (cmpV s t), .int .i64 0]) ∧ Below W.heap.size W w') ∧ (cmpV s t ≤ 0 → insB (misR L a b c d cs s) (misR L a b c d cs t) = true) ∧ (0 ≤ cmpV s t → insB (misR L a b c d cs t) (misR L a b c d cs s) = true) := by
    intro hT
    obtain ⟨_, _, N, D, h1⟩ := covE_0 hE
    obtain ⟨_, _, M, E, h2⟩ := covE_0 hT
    obtain ⟨b1, b2, b3⟩ := bar_law hE hT
    refine ⟨fun W h => ?_, fun h => insB_true (b2 h), fun h => insB_true (b3 h)⟩
    have := cmp_any s t W h (bar_small h1) (bar_small h2)
    rw [b1] at this
    exact this
  have hlt := misR_len L a b c d cs t
  have hins := fun (mo bo : Option Addr) (xs ys : List Int) (ca cb : Nat) (W : World) (h1 : Cells W mo (xs.map (Value.int .i64))) (h2 : Cells W bo (ys.map (Value.int .i64))) (l1 : xs.length ≤ 400) (l2 : ys.length ≤ 400) => inside_any mo bo xs ys ca cb W h1 h2 (by omega) (by omega)
  rw [hE] at hmi hpr
  have hlen := misR_len L a b c d cs s
  generalize prvR L a b c d cs s fs = R at *
  have HW0 := Lib.hid hW0; have HMI := Lib.hid hmi; have HPR := Lib.hid hpr; have HMT := Lib.hid hmt; have HFEW := Lib.hid hfew; have HBAR := Lib.hid hbar; have HINS := Lib.hid hins
  clear hW0 hB0 hs0 r0 ht hc hfc hmi hpr hmt hs hst hfew hbar hins hE
  obtain ⟨⟨q0, q1, q2, q3, q4, q5, q6⟩, -⟩ := HKB.out W0 (Below.refl _ _)
  generalize misR L a b c d cs s = A at *
  generalize misR L a b c d cs t = T at *
  generalize hT : covE L a b c d cs t = ET at *
  generalize cmpV s t = cv at *
  clear hT
  have hRA : R = false ∨ (R = true ∧ A = []) := by
    cases R
    · exact .inl rfl
    · exact .inr ⟨rfl, e1 rfl⟩
  clear e1
  rcases hRA with rfl | ⟨rfl, rfl⟩
  all_goals
    go_enter Tryz.func13, Tryz.ntmps13
    go_wp2_with fail
    rw [HW0.out]
    refine (HMI.out _ (HKB.out W0 (Below.refl _ _)).2.2.1 (HKB.out W0 (Below.refl _ _)).2.2.2.1).mono ?_
    rintro e w1 ⟨⟨m, cm, rfl, hm⟩, hb1⟩
    clear q0 q1 q2 q3 q4 q5 q6
    obtain ⟨⟨q0, q1, q2, q3, q4, q5, q6⟩, -⟩ := HKB.out w1 hb1
    have HM := Lib.hid hm
    clear hm
    go_wp2_with fail
    refine (HPR.out _ (HKB.out w1 hb1).2.2.1 (HKB.out w1 hb1).2.2.2.1 (HKB.out w1 hb1).2.2.2.2).mono ?_
    rintro e w2 ⟨rfl, hb2⟩
    have HM2 := Lib.hid (HM.out.below hb2 (Nat.le_refl _))
    have hb02 := hb1.trans (hb2.mono hb1.size)
    clear q0 q1 q2 q3 q4 q5 q6 hb1 hb2 HM
    obtain ⟨⟨q0, q1, q2, q3, q4, q5, q6⟩, -⟩ := HKB.out w2 hb02
    rcases hcs : cs with _ | ⟨x, r⟩
    · subst hcs
      clear HFEW
      simp only [List.length_nil] at *
      clear q0 q1 q2 q3 q4 q5 q6
      obtain ⟨⟨y0, y1, y2, y3, y4, y5, y6⟩, -, hty, hcy, -⟩ := HKB.out w2 hb02
      have HTY := Lib.hid hty; have HCY := Lib.hid hcy
      clear hty hcy
      go_wp2_with fail
      refine (HMT.out _ HTY.out HCY.out).mono ?_
      rintro e w4 ⟨⟨mt, cmt, rfl, hmt⟩, hb4⟩
      have HM4 := Lib.hid (HM2.out.below hb4 (Nat.le_refl _)); have HMT4 := Lib.hid hmt
      have hb04 := hb02.trans (hb4.mono hb02.size)
      clear y0 y1 y2 y3 y4 y5 y6 hb4 hmt
      obtain ⟨⟨y0, y1, y2, y3, y4, y5, y6⟩, hbw4, hty, -, -⟩ := HKB.out w4 hb04
      have HTY := Lib.hid hty; have HBW := Lib.hid hbw4
      clear hty hbw4
      by_cases hET : ET = 0
      · subst hET
        obtain ⟨hcmp, hin1, hin2⟩ := HBAR.out rfl
        have HCMP := Lib.hid hcmp; have HI1 := Lib.hid hin1; have HI2 := Lib.hid hin2
        clear hcmp hin1 hin2
        go_wp2_with fail
        refine (HCMP.out _ HTY.out).mono ?_
        rintro e w5 ⟨rfl, hb5⟩
        have HM5 := Lib.hid (HM4.out.below hb5 (Nat.le_refl _)); have HMT5 := Lib.hid (HMT4.out.below hb5 (Nat.le_refl _))
        have hbw5 := HBW.out.trans (hb5.mono HBW.out.size)
        have ht5 := HTY.out.below hb5 (Nat.le_refl _)
        have HT5 := Lib.hid ht5; have HB5 := Lib.hid hbw5
        clear y0 y1 y2 y3 y4 y5 y6 hb5 ht5 hbw5
        rcases Int.lt_trichotomy cv 0 with h | h | h
        · have hi1 := HI1.out (by omega)
          have HX := Lib.hid hi1; clear hi1
          go_wp2_with fail
          refine (HINS.out _ _ _ _ _ _ _ HM5.out HMT5.out (by first | exact hlen | exact Nat.zero_le _) hlt).mono ?_
          rintro e w6 ⟨rfl, hb6⟩
          rw [HX.out]
          have hbw6 := HB5.out.trans (hb6.mono HB5.out.size)
          have ht6 := HT5.out.below hb6 (Nat.le_refl _)
          clear hb6
          go_wp2_with fail
          refine (bworks_any _ ht6).mono ?_
          rintro e w7 ⟨rfl, hb7⟩
          go_wp2_with fail
          go_ret
          exact ⟨rfl, hbw6.trans (hb7.mono hbw6.size)⟩
        · subst h
          have hi1 := HI1.out (Int.le_refl _)
          have hi2 := HI2.out (Int.le_refl _)
          have HX := Lib.hid hi1; have HY := Lib.hid hi2; clear hi1 hi2
          go_wp2_with fail
          refine (HINS.out _ _ _ _ _ _ _ HM5.out HMT5.out (by first | exact hlen | exact Nat.zero_le _) hlt).mono ?_
          rintro e w6 ⟨rfl, hb6⟩
          rw [HX.out]
          have hbw6 := HB5.out.trans (hb6.mono HB5.out.size)
          have ht6 := HT5.out.below hb6 (Nat.le_refl _)
          have HM6 := Lib.hid (HM5.out.below hb6 (Nat.le_refl _)); have HMT6 := Lib.hid (HMT5.out.below hb6 (Nat.le_refl _))
          have HT6 := Lib.hid ht6; have HB6 := Lib.hid hbw6
          clear hb6 ht6 hbw6
          go_wp2_with fail
          refine (HINS.out _ _ _ _ _ _ _ HMT6.out HM6.out hlt (by first | exact hlen | exact Nat.zero_le _)).mono ?_
          rintro e w7 ⟨rfl, hb7⟩
          rw [HY.out]
          have hbw7 := HB6.out.trans (hb7.mono HB6.out.size)
          have ht7 := HT6.out.below hb7 (Nat.le_refl _)
          clear hb7
          go_wp2_with fail
          refine (bworks_any _ ht7).mono ?_
          rintro e w8 ⟨rfl, hb8⟩
          go_wp2_with fail
          go_ret
          exact ⟨rfl, hbw7.trans (hb8.mono hbw7.size)⟩
        · have hi1 := HI2.out (by omega)
          have HX := Lib.hid hi1; clear hi1
          go_wp2_with fail
          refine (HINS.out _ _ _ _ _ _ _ HMT5.out HM5.out hlt (by first | exact hlen | exact Nat.zero_le _)).mono ?_
          rintro e w6 ⟨rfl, hb6⟩
          rw [HX.out]
          have hbw6 := HB5.out.trans (hb6.mono HB5.out.size)
          have ht6 := HT5.out.below hb6 (Nat.le_refl _)
          clear hb6
          go_wp2_with fail
          refine (bworks_any _ ht6).mono ?_
          rintro e w7 ⟨rfl, hb7⟩
          go_wp2_with fail
          go_ret
          exact ⟨rfl, hbw6.trans (hb7.mono hbw6.size)⟩
      · have hv : (ET != 0) = true := by simpa using hET
        go_wp2_with fail
        refine (bworks_any _ HTY.out).mono ?_
        rintro e w5 ⟨rfl, hb5⟩
        have hbw5 := HBW.out.trans (hb5.mono HBW.out.size)
        go_wp2_with fail
        go_ret
        exact ⟨rfl, hbw5⟩
    · subst hcs
      obtain ⟨hf1, hf2, hf3⟩ := HFEW.out x r rfl
      obtain ⟨b0, off0, rfl⟩ := (HKB.out w2 hb02).2.2.2.1.addr (by rw [prs_cons]; simp)
      simp only [List.length_cons] at *
      have i1 : (1 : Int) ≤ (r.length : Int) + 1 := by omega
      have i2 : (r.length : Int) + 1 ≤ (cap : Int) := by omega
      have HF1 := Lib.hid hf1
      have hbd := hb02.drew
      obtain ⟨⟨x0, x1, x2, x3, x4, x5, x6⟩, -, htd, hcd, -⟩ := HKB.out w2.drew hbd
      have HTD := Lib.hid htd; have HCD := Lib.hid hcd; have HF2 := Lib.hid hf2
      clear hf1 htd hcd hf2 HFEW
      by_cases hc1 : cap = 1
      all_goals
        go_wp2_with fail
        go_region_held3 (fun w' => w'.cell? ⟨w.heap.size, 0, none⟩ = some (.int .i64 L) ∧ w'.cell? ⟨w.heap.size, 1, none⟩ = some (.int .i64 a) ∧ w'.cell? ⟨w.heap.size, 2, none⟩ = some (.int .i64 b) ∧ w'.cell? ⟨w.heap.size, 3, none⟩ = some (.int .i64 c) ∧ w'.cell? ⟨w.heap.size, 4, none⟩ = some (.int .i64 d) ∧ w'.cell? ⟨w.heap.size, 5, none⟩ = some (.slice (some ⟨b0, off0, none⟩) (r.length + 1) cap) ∧ w'.cell? ⟨w.heap.size, 6, none⟩ = some (.string s))
          (first | with_reducible exact ⟨q0, q1, q2, q3, q4, q5, q6⟩ | with_reducible exact ⟨x0, x1, x2, x3, x4, x5, x6⟩ | with_reducible exact ⟨z0, z1, z2, z3, z4, z5, z6⟩ | go_keep)
          ((go_at_call 55; (with_reducible refine Calls.mono (HF1.out _ _ _ (by omega) (by omega) HTD.out (cells_tail HCD.out (by first | exact .inl rfl | exact .inr (List.length_eq_zero_iff.1 (by omega))))) ?_); rintro e w3 ⟨⟨m2, cm2, rfl, hm2⟩, hb3⟩; have HM2' := Lib.hid hm2; have HB3 := Lib.hid hb3; obtain ⟨⟨z0, z1, z2, z3, z4, z5, z6⟩, -⟩ := HKB.out w3 (hbd.trans (hb3.mono hbd.size)); clear hm2 hb3))
        have HM3 := Lib.hid (HM2.out.below ((Below.refl w2.heap.size w2).drew.trans HB3.out) (Nat.le_refl _))
        have hb03 := hbd.trans (HB3.out.mono hbd.size)
        clear x0 x1 x2 x3 x4 x5 x6 q0 q1 q2 q3 q4 q5 q6 z0 z1 z2 z3 z4 z5 z6 hc1 i1 i2 hcap
        go_wp2_with fail
        refine (HINS.out _ _ _ _ _ _ _ HM3.out HM2'.out (by first | exact hlen | exact Nat.zero_le _) hf3).mono ?_
        rintro e w3 ⟨rfl, hb4⟩
        rw [HF2.out]
        have HM3 := Lib.hid (HM3.out.below hb4 (Nat.le_refl _))
        have hb03 := hb03.trans (hb4.mono hb03.size)
        clear hb4
        obtain ⟨⟨y0, y1, y2, y3, y4, y5, y6⟩, -, hty, hcy, -⟩ := HKB.out w3 hb03
        have HTY := Lib.hid hty; have HCY := Lib.hid hcy
        clear hty hcy
        go_wp2_with fail
        refine (HMT.out _ HTY.out HCY.out).mono ?_
        rintro e w4 ⟨⟨mt, cmt, rfl, hmt⟩, hb4⟩
        have HM4 := Lib.hid (HM3.out.below hb4 (Nat.le_refl _)); have HMT4 := Lib.hid hmt
        have hb04 := hb03.trans (hb4.mono hb03.size)
        clear y0 y1 y2 y3 y4 y5 y6 hb4 hmt
        obtain ⟨⟨y0, y1, y2, y3, y4, y5, y6⟩, hbw4, hty, -, -⟩ := HKB.out w4 hb04
        have HTY := Lib.hid hty; have HBW := Lib.hid hbw4
        clear hty hbw4
        by_cases hET : ET = 0
        · subst hET
          obtain ⟨hcmp, hin1, hin2⟩ := HBAR.out rfl
          have HCMP := Lib.hid hcmp; have HI1 := Lib.hid hin1; have HI2 := Lib.hid hin2
          clear hcmp hin1 hin2
          go_wp2_with fail
          refine (HCMP.out _ HTY.out).mono ?_
          rintro e w5 ⟨rfl, hb5⟩
          have HM5 := Lib.hid (HM4.out.below hb5 (Nat.le_refl _)); have HMT5 := Lib.hid (HMT4.out.below hb5 (Nat.le_refl _))
          have hbw5 := HBW.out.trans (hb5.mono HBW.out.size)
          have ht5 := HTY.out.below hb5 (Nat.le_refl _)
          have HT5 := Lib.hid ht5; have HB5 := Lib.hid hbw5
          clear y0 y1 y2 y3 y4 y5 y6 hb5 ht5 hbw5
          rcases Int.lt_trichotomy cv 0 with h | h | h
          · have hi1 := HI1.out (by omega)
            have HX := Lib.hid hi1; clear hi1
            go_wp2_with fail
            refine (HINS.out _ _ _ _ _ _ _ HM5.out HMT5.out (by first | exact hlen | exact Nat.zero_le _) hlt).mono ?_
            rintro e w6 ⟨rfl, hb6⟩
            rw [HX.out]
            have hbw6 := HB5.out.trans (hb6.mono HB5.out.size)
            have ht6 := HT5.out.below hb6 (Nat.le_refl _)
            clear hb6
            go_wp2_with fail
            refine (bworks_any _ ht6).mono ?_
            rintro e w7 ⟨rfl, hb7⟩
            go_wp2_with fail
            go_ret
            exact ⟨rfl, hbw6.trans (hb7.mono hbw6.size)⟩
          · subst h
            have hi1 := HI1.out (Int.le_refl _)
            have hi2 := HI2.out (Int.le_refl _)
            have HX := Lib.hid hi1; have HY := Lib.hid hi2; clear hi1 hi2
            go_wp2_with fail
            refine (HINS.out _ _ _ _ _ _ _ HM5.out HMT5.out (by first | exact hlen | exact Nat.zero_le _) hlt).mono ?_
            rintro e w6 ⟨rfl, hb6⟩
            rw [HX.out]
            have hbw6 := HB5.out.trans (hb6.mono HB5.out.size)
            have ht6 := HT5.out.below hb6 (Nat.le_refl _)
            have HM6 := Lib.hid (HM5.out.below hb6 (Nat.le_refl _)); have HMT6 := Lib.hid (HMT5.out.below hb6 (Nat.le_refl _))
            have HT6 := Lib.hid ht6; have HB6 := Lib.hid hbw6
            clear hb6 ht6 hbw6
            go_wp2_with fail
            refine (HINS.out _ _ _ _ _ _ _ HMT6.out HM6.out hlt (by first | exact hlen | exact Nat.zero_le _)).mono ?_
            rintro e w7 ⟨rfl, hb7⟩
            rw [HY.out]
            have hbw7 := HB6.out.trans (hb7.mono HB6.out.size)
            have ht7 := HT6.out.below hb7 (Nat.le_refl _)
            clear hb7
            go_wp2_with fail
            refine (bworks_any _ ht7).mono ?_
            rintro e w8 ⟨rfl, hb8⟩
            go_wp2_with fail
            go_ret
            exact ⟨rfl, hbw7.trans (hb8.mono hbw7.size)⟩
          · have hi1 := HI2.out (by omega)
            have HX := Lib.hid hi1; clear hi1
            go_wp2_with fail
            refine (HINS.out _ _ _ _ _ _ _ HMT5.out HM5.out hlt (by first | exact hlen | exact Nat.zero_le _)).mono ?_
            rintro e w6 ⟨rfl, hb6⟩
            rw [HX.out]
            have hbw6 := HB5.out.trans (hb6.mono HB5.out.size)
            have ht6 := HT5.out.below hb6 (Nat.le_refl _)
            clear hb6
            go_wp2_with fail
            refine (bworks_any _ ht6).mono ?_
            rintro e w7 ⟨rfl, hb7⟩
            go_wp2_with fail
            go_ret
            exact ⟨rfl, hbw6.trans (hb7.mono hbw6.size)⟩
        · have hv : (ET != 0) = true := by simpa using hET
          go_wp2_with fail
          refine (bworks_any _ HTY.out).mono ?_
          rintro e w5 ⟨rfl, hb5⟩
          have hbw5 := HBW.out.trans (hb5.mono HBW.out.size)
          go_wp2_with fail
          go_ret
          exact ⟨rfl, hbw5⟩
end Go.Proofs.YtbjhjbjjfbmoeaaGreatDoor

/- The law BankFewer. -/
namespace Go.Proofs.YtbjhjbjjfbmoeaaGreatDoor
open Go.RowKit Go.Shelf

theorem fewer_law (L a b c d : Int) (cs : List (Int × Int)) (ao : Option Addr) (cap : Nat) (s t : ByteArray) (fs : List (Int × Int)) (fo : Option Addr) (fc : Nat) (w : World) (ht : Tab w) (hs : s.size ≤ 140737488351232) (hst : t.size ≤ 140737488351232) (hc : Cells w ao (prs cs)) (hcap : cs.length ≤ cap) (hcap2 : cap ≤ 9223372036854775807) (hfc : Cells w fo (prs fs)) (hfl : fs.length ≤ fc) (hfc2 : fc ≤ 9223372036854775807) :
    Calls Tryz.prog 13 #[.agg #[.int .i64 L, .int .i64 a, .int .i64 b, .int .i64 c, .int .i64 d, .slice ao cs.length cap, .string s], .string t, .slice fo fs.length fc] w fun e w' => e = .returned (.bool true) ∧ Below w.heap.size w w' := by
  by_cases hE : covE L a b c d cs s = 0
  · exact fewer_good L a b c d cs ao cap s t fs fo fc w ht hs hst hc (by omega) hcap hcap2 hfc (by omega) hE
  · exact fewer_bad L a b c d cs ao cap s t fs fo fc w ht hs hc (by omega) hcap hcap2 hfc (by omega) hE
end Go.Proofs.YtbjhjbjjfbmoeaaGreatDoor

/- Arguments read as data: a struct of a struct of five numbers, a slice of pairs and a string (Cover), by value; the reach of a string. -/
namespace Go.Proofs.YtbjhjbjjfbmoeaaGreatDoor
open Go.RowKit Go.WideShapes Go.ChangeShapes Go.Deep Go.Joins

section
variable {H : Type} {enc : TypeId × Value → H} {P : Program} {w : World} {base : Nat} {spare : Nat → Bool} {held : Bool}
theorem array7 {α : Type} {cs : Array α} (h : cs.size = 7) : ∃ c0 c1 c2 c3 c4 c5 c6, cs = #[c0, c1, c2, c3, c4, c5, c6] := by
  obtain ⟨l⟩ := cs
  match l, h with
  | [c0, c1, c2, c3, c4, c5, c6], _ => exact ⟨c0, c1, c2, c3, c4, c5, c6, rfl⟩
theorem trod_fam {c i : TypeId} {g0 g1 g2 g3 g4 : Field} {n : Nat} {v0 v1 v2 v3 v4 : Value} {x : DataW H × List MemPlace} (hc : P.underlying c = some (.struct #[g0, g1, g2, g3, g4])) (k0 : g0.type = i ∧ g0.offset = 0) (k1 : g1.type = i ∧ g1.offset = 1) (k2 : g2.type = i ∧ g2.offset = 2) (k3 : g3.type = i ∧ g3.offset = 3) (k4 : g4.type = i ∧ g4.offset = 4)
    (ci : P.cellsOf i = 1) (hi : P.underlying i = some (.int .i64)) (h : DataW.trod enc P w base spare held n c [v0, v1, v2, v3, v4] = some x) :
    ∃ a b c d e : Int, v0 = .int .i64 a ∧ v1 = .int .i64 b ∧ v2 = .int .i64 c ∧ v3 = .int .i64 d ∧ v4 = .int .i64 e := by
  obtain ⟨xs, m, _, hx, _, hlen, hfs⟩ := DataW.trod_struct hc h
  match xs, hlen with
  | [y0, y1, y2, y3, y4], _ =>
    have t0 := hfs 0 g0 rfl
    have t1 := hfs 1 g1 rfl
    have t2 := hfs 2 g2 rfl
    have t3 := hfs 3 g3 rfl
    have t4 := hfs 4 g4 rfl
    rw [k0.1, k0.2, ci] at t0
    rw [k1.1, k1.2, ci] at t1
    rw [k2.1, k2.2, ci] at t2
    rw [k3.1, k3.2, ci] at t3
    rw [k4.1, k4.2, ci] at t4
    obtain ⟨a, e0, _, _⟩ := DataW.trod_int hi (show DataW.trod enc P w base spare held m i [v0] = some y0 from t0)
    obtain ⟨b, e1, _, _⟩ := DataW.trod_int hi (show DataW.trod enc P w base spare held m i [v1] = some y1 from t1)
    obtain ⟨c, e2, _, _⟩ := DataW.trod_int hi (show DataW.trod enc P w base spare held m i [v2] = some y2 from t2)
    obtain ⟨d, e3, _, _⟩ := DataW.trod_int hi (show DataW.trod enc P w base spare held m i [v3] = some y3 from t3)
    obtain ⟨e, e4, _, _⟩ := DataW.trod_int hi (show DataW.trod enc P w base spare held m i [v4] = some y4 from t4)
    simp only [List.cons.injEq, and_true] at e0 e1 e2 e3 e4
    exact ⟨a, b, c, d, e, e0, e1, e2, e3, e4⟩
theorem open_fam {r : Reach} {b0 : Nat} {t i : TypeId} {g0 g1 g2 g3 g4 : Field} {v : Value} {d : DataW H} {p : List MemPlace} (hc : P.underlying t = some (.struct #[g0, g1, g2, g3, g4])) (k0 : g0.type = i ∧ g0.offset = 0) (k1 : g1.type = i ∧ g1.offset = 1) (k2 : g2.type = i ∧ g2.offset = 2) (k3 : g3.type = i ∧ g3.offset = 3) (k4 : g4.type = i ∧ g4.offset = 4)
    (ci : P.cellsOf i = 1) (ct : P.cellsOf t = 5) (hi : P.underlying i = some (.int .i64)) (hv : Value.okWide P w r b0 t v) (h : DataW.Trod enc P w base spare held t v d p) : ∃ a b c d e : Int, v = .agg #[.int .i64 a, .int .i64 b, .int .i64 c, .int .i64 d, .int .i64 e] := by
  obtain ⟨cs, rfl, hsz⟩ := okWide_struct hc hv
  obtain ⟨c0, c1, c2, c3, c4, rfl⟩ := array5 (hsz.trans ct)
  obtain ⟨fuel, hf⟩ := h
  obtain ⟨a, b, c, d, e, rfl, rfl, rfl, rfl, rfl⟩ := trod_fam hc k0 k1 k2 k3 k4 ci hi hf
  exact ⟨a, b, c, d, e, rfl⟩
theorem reach_str {s : List UInt8} {t : TypeId} (h : ∀ n ∈ (DataW.lit (H := H) (.string s)).weights P t, n ≤ reachBytes) : s.length ≤ 140737488351232 := h _ (by simp [DataW.weights])
theorem open_cover {r : Reach} {b0 : Nat} {t fm i sc ch ts : TypeId} {f0 f1 f2 g0 g1 g2 g3 g4 h0 h1 : Field} {v : Value} {d : DataW H} {p : List MemPlace} (hs : P.underlying t = some (.struct #[f0, f1, f2])) (j0 : f0.type = fm ∧ f0.offset = 0) (j1 : f1.type = sc ∧ f1.offset = 5) (j2 : f2.type = ts ∧ f2.offset = 6)
    (hfm : P.underlying fm = some (.struct #[g0, g1, g2, g3, g4])) (k0 : g0.type = i ∧ g0.offset = 0) (k1 : g1.type = i ∧ g1.offset = 1) (k2 : g2.type = i ∧ g2.offset = 2) (k3 : g3.type = i ∧ g3.offset = 3) (k4 : g4.type = i ∧ g4.offset = 4)
    (hsc : P.underlying sc = some (.slice ch)) (hch : P.underlying ch = some (.struct #[h0, h1])) (l0 : h0.type = i ∧ h0.offset = 0) (l1 : h1.type = i ∧ h1.offset = 1) (hts : P.underlying ts = some .string) (hi : P.underlying i = some (.int .i64))
    (ci : P.cellsOf i = 1) (cfm : P.cellsOf fm = 5) (csc : P.cellsOf sc = 1) (cch : P.cellsOf ch = 2) (cts : P.cellsOf ts = 1) (ct : P.cellsOf t = 7)
    (hv : Value.okWide P w r b0 t v) (h : DataW.Trod enc P w base spare held t v d p) :
    ∃ (L a b c e : Int) (ao : Option Addr) (cs : List (Int × Int)) (cap : Nat) (s : ByteArray), v = .agg #[.int .i64 L, .int .i64 a, .int .i64 b, .int .i64 c, .int .i64 e, .slice ao cs.length cap, .string s] ∧ Cells w ao (prs cs) ∧ cs.length ≤ cap ∧ cap ≤ 9223372036854775807 ∧
      (∀ n ∈ (DataW.lit (H := H) (.string s.data.toList)).weights P ts, n ∈ d.weights P t) := by
  obtain ⟨vs, rfl, hsz⟩ := okWide_struct hs hv
  obtain ⟨c0, c1, c2, c3, c4, c5, c6, rfl⟩ := array7 (hsz.trans ct)
  obtain ⟨fuel, hf⟩ := h
  obtain ⟨xs, n, _, hx, _, hlen, hfs⟩ := DataW.trod_struct hs hf
  match xs, hlen with
  | [y0, y1, y2], _ =>
    have t0 := hfs 0 f0 rfl
    have t1 := hfs 1 f1 rfl
    have t2 := hfs 2 f2 rfl
    rw [j0.1, j0.2, cfm] at t0
    rw [j1.1, j1.2, csc] at t1
    rw [j2.1, j2.2, cts] at t2
    obtain ⟨L, a, b, c, e, rfl, rfl, rfl, rfl, rfl⟩ := trod_fam hfm k0 k1 k2 k3 k4 ci hi (show DataW.trod enc P w base spare held n fm [c0, c1, c2, c3, c4] = some y0 from t0)
    obtain ⟨ao, zs, cap, e5, hc, hl, hl2, _⟩ := rd_pairs hsc hch cch l0.2 l1.2 (by rw [l0.1]; exact ci) (by rw [l1.1]; exact ci) (by rw [l0.1]; exact hi) (by rw [l1.1]; exact hi) (show DataW.trod enc P w base spare held n sc [c5] = some y1 from t1)
    obtain ⟨s, e6, hy, _⟩ := DataW.trod_string hts (show DataW.trod enc P w base spare held n ts [c6] = some y2 from t2)
    simp only [List.cons.injEq, and_true] at e5 e6
    refine ⟨L, a, b, c, e, ao, zs, cap, s, by rw [e5, e6], hc, hl, hl2, fun m hm => ?_⟩
    simp only [Prod.mk.injEq] at hx
    rw [hx.1]
    have e' : (DataW.agg ([y0, y1, y2].map (·.1))).weights P t = DataW.weightsEach P ((#[f0, f1, f2] : Array Field).toList.map (·.type)) ([y0, y1, y2].map (·.1)) := by simp [DataW.weights, hs]
    rw [e']
    exact DataW.weights_mem_each (j := 2) (t := ts) (d := y2.1) (by show some f2.type = some ts; rw [j2.1]) rfl m (by rw [hy]; exact hm)
end
end Go.Proofs.YtbjhjbjjfbmoeaaGreatDoor
