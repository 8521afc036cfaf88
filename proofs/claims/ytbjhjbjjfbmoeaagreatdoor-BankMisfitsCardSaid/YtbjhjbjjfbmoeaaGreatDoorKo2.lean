/- Parts of a proof, in build order: Z9, Za, Zb, Zc, Zd, Ze, Zf, Zg. -/
import Derived.Test.YtbjhjbjjfbmoeaaGreatDoorKo1
import Derived.Lib.ItoaNum
import Derived.Lib.ItoaLen

/- The reference's rational numbers: QOf with a positive denominator. -/
namespace Go.Proofs.YtbjhjbjjfbmoeaaGreatDoor.Z4
open Go.RowKit

theorem made_mv (s : Bool) (vd : Value) (n : Nat) (w : World) (h : MV w vd n) :
    Calls Tryz.prog 186 #[.bool s, vd] w fun e w' => e = .returned (.agg #[.bool (s && decide (0 < (dig n).length)), vd]) ∧ Below w.heap.size w w' := by
  obtain ⟨a, c, rfl, h1, h2, h3⟩ := h
  have := made_any s a (dig n) c w h1 (sm_dig _) (by omega) h2 h3
  rwa [val_dig] at this
theorem MV.box4 {w : World} {v : Value} {n b : Nat} {x0 x2 : Bool} {a1 a3 : Option Addr} {n1 c1 n3 c3 : Nat} {u0 u1 u2 u3 : Value} (h : MV w v n) (q0 : w.cell? ⟨b, 0, none⟩ = some (.bool x0)) (q1 : w.cell? ⟨b, 1, none⟩ = some (.slice a1 n1 c1)) (q2 : w.cell? ⟨b, 2, none⟩ = some (.bool x2)) (q3 : w.cell? ⟨b, 3, none⟩ = some (.slice a3 n3 c3)) :
    MV ((((w.setCell ⟨b, 0, none⟩ u0).setCell ⟨b, 1, none⟩ u1).setCell ⟨b, 2, none⟩ u2).setCell ⟨b, 3, none⟩ u3) v n := by
  obtain ⟨a, c, h1, h2, h3⟩ := h
  refine ⟨a, c, h1, ?_, h3⟩
  have hn : ∀ (y : Value), (∀ z, y ≠ .int .i64 z) → ∀ x ∈ zs (dig n), x ≠ y := fun y hy x hx e => by
    simp only [zs, List.mem_map] at hx; obtain ⟨d, _, rfl⟩ := hx; exact hy _ e.symm
  refine (((h2.set q0 (hn _ (fun z e => by cases e))).set (v0 := .slice a1 n1 c1) ?_ (hn _ (fun z e => by cases e))).set (v0 := .bool x2) ?_ (hn _ (fun z e => by cases e))).set (v0 := .slice a3 n3 c3) ?_ (hn _ (fun z e => by cases e))
  · rw [World.cell?_setCell_other _ _ _ _ (by simp)]; exact q1
  · rw [World.cell?_setCell_other _ _ _ _ (by simp), World.cell?_setCell_other _ _ _ _ (by simp)]; exact q2
  · rw [World.cell?_setCell_other _ _ _ _ (by simp), World.cell?_setCell_other _ _ _ _ (by simp), World.cell?_setCell_other _ _ _ _ (by simp)]; exact q3
/-- a rational number of the reference -/
def QV (w : World) (v : Value) (s : Bool) (n d : Nat) : Prop := ∃ vn vd, v = .agg #[.bool s, vn, .bool false, vd] ∧ MV w vn n ∧ MV w vd d
theorem QV.below {w w' : World} {B : Nat} {v : Value} {s : Bool} {n d : Nat} (h : QV w v s n d) (hb : Below B w w') (hB : w.heap.size ≤ B) : QV w' v s n d := by
  obtain ⟨a, c, h1, h2, h3⟩ := h
  exact ⟨a, c, h1, h2.below hb hB, h3.below hb hB⟩

set_option maxRecDepth 100000 in
set_option maxHeartbeats 2000000 in
theorem qOf_pos (va vb : Value) (n : Int) (d : Nat) (w : World) (ha : ZV w va n) (hb : ZV w vb d) (hd : d ≠ 0) (hl : (dig n.natAbs).length ≤ 549755813888) (hl2 : (dig d).length ≤ 549755813888) :
    Calls Tryz.prog 141 #[va, vb] w fun e w' => (∃ v, e = .returned v ∧ QV w' v (decide (n < 0)) (n.natAbs / Nat.gcd n.natAbs d) (d / Nat.gcd n.natAbs d)) ∧ Below w.heap.size w w' := by
  have hma := ha.mv
  have hmb := hb.mv
  clear ha hb
  obtain ⟨xa, rfl, ha⟩ := hma
  obtain ⟨xb, rfl, hb⟩ := hmb
  rw [Int.natAbs_natCast] at hb
  rw [decide_eq_false (show ¬ (d : Int) < 0 by omega)]
  obtain ⟨s, hs⟩ : ∃ s, s = decide (n < 0) := ⟨_, rfl⟩
  obtain ⟨N, hN⟩ : ∃ N, N = n.natAbs := ⟨_, rfl⟩
  have hs0 : s = true → N ≠ 0 := fun h => by rw [hs] at h; have := of_decide_eq_true h; omega
  rw [← hs, ← hN]
  rw [← hN] at ha hl
  clear hs hN
  obtain ⟨g, hg⟩ : ∃ g, g = Nat.gcd N d := ⟨_, rfl⟩
  have hg0 : g ≠ 0 := by rw [hg]; have := Nat.gcd_pos_of_pos_right N (show 0 < d by omega); omega
  have hgd : g ∣ N := by rw [hg]; exact Nat.gcd_dvd_left _ _
  have hgl : (dig g).length ≤ 549755813888 := Nat.le_trans (dig_len_mono (by rw [hg]; exact Nat.le_of_dvd (by omega) (Nat.gcd_dvd_right N d))) hl2
  have hsn : (s && decide (0 < (dig (N / g)).length)) = s := by
    cases hsv : s with
    | false => rfl
    | true =>
      have h1 : N / g ≠ 0 := by
        have := hs0 hsv
        have h2 := Nat.div_pos (Nat.le_of_dvd (by omega) hgd) (by omega)
        omega
      have h3 := mt dig_len_pos.1 h1
      rw [decide_eq_true (by omega)]; rfl
  obtain ⟨aa, ca, rfl⟩ := ha.cases
  obtain ⟨ab, cb, rfl⟩ := hb.cases
  have hbw : Below w.heap.size w (((w.alloc (.cells #[.bool s, .slice aa (dig N).length ca] 118)).alloc (.cells #[.bool false, .slice ab (dig d).length cb] 118)).alloc (.cells #[.bool false, .slice none 0 0, .bool false, .slice none 0 0] 120)) := (((Below.refl w.heap.size w).alloc (Nat.le_refl _) _).alloc (by simp) _).alloc (by simp; omega) _
  obtain ⟨W3, hW3⟩ : ∃ W3, W3 = (((w.alloc (.cells #[.bool s, .slice aa (dig N).length ca] 118)).alloc (.cells #[.bool false, .slice ab (dig d).length cb] 118)).alloc (.cells #[.bool false, .slice none 0 0, .bool false, .slice none 0 0] 120)) := ⟨_, rfl⟩
  have hz3 : W3.heap.size = w.heap.size + 3 := by rw [hW3]; simp
  have HBX : Hid (∀ {B : Nat} {w1 : World}, Below B W3 w1 → w.heap.size + 2 < B → (∀ i, w1.cell? ⟨w.heap.size, i, none⟩ = #[Value.bool s, .slice aa (dig N).length ca][i]?) ∧ (∀ i, w1.cell? ⟨w.heap.size + 1, i, none⟩ = #[Value.bool false, .slice ab (dig d).length cb][i]?) ∧ (∀ i, w1.cell? ⟨w.heap.size + 2, i, none⟩ = #[Value.bool false, .slice none 0 0, .bool false, .slice none 0 0][i]?) ∧ (∀ i, w1.frozen? ⟨w.heap.size + 2, i, none⟩ = false)) := fun hb hB => by rw [hW3] at hb; exact boxes3 hb hB
  rw [← hW3] at hbw
  have hgc := zGcd_any s false _ _ N d W3 (ha.below hbw (Nat.le_refl _)) (hb.below hbw (Nat.le_refl _)) hl hl2
  rw [← hg] at hgc ⊢
  have hda := fun W x (h1 : MV W (.slice aa (dig N).length ca) N) (h2 : MV W x g) => divide_any _ x N g W h1 h2 hg0 hl hgl
  have hdb := fun W x (h1 : MV W (.slice ab (dig d).length cb) d) (h2 : MV W x g) => divide_any _ x d g W h1 h2 hg0 hl2 hgl
  have HGC := Lib.hid hgc; have HDA := Lib.hid hda; have HDB := Lib.hid hdb; have HA := Lib.hid (ha.below hbw (Nat.le_refl _)); have HB := Lib.hid (hb.below hbw (Nat.le_refl _)); have HBW := Lib.hid hbw; have HSN := Lib.hid hsn
  obtain ⟨q0, q1, -, -⟩ := HBX.out (Below.refl (w.heap.size + 3) W3) (by omega)
  have q00 := q0 0
  have q01 := q0 1
  have q10 := q1 0
  have q11 := q1 1
  simp only [List.getElem?_toArray, List.getElem?_cons_succ, List.getElem?_cons_zero] at q00 q01 q10 q11
  clear hgc hda hdb ha hb hbw hsn q0 q1 hg hgd hs0
  rw [hW3] at q00 q01 q10 q11 HGC
  go_enter Tryz.func141, Tryz.ntmps141
  go_wp2_with fail
  refine HGC.out.mono ?_
  rintro e w1 ⟨⟨vg, rfl, hvg⟩, hb1⟩
  rw [← hW3] at hb1
  obtain ⟨ag, cg, rfl⟩ := hvg.cases
  have hbx1 : Below (w.heap.size + 3) W3 w1 := (Below.refl _ W3).trans (hb1.mono (by omega))
  have hz1 := hbx1.size
  have hal := (Below.refl w1.heap.size w1).alloc (Nat.le_refl _) (.cells #[.bool false, .slice ag (dig g).length cg] 118)
  have hbx4 := hbx1.trans (hal.mono (by omega))
  have hg4 := hvg.below hal (Nat.le_refl _)
  have ha4 := HA.out.below (hbx4.mono (by omega : W3.heap.size ≤ w.heap.size + 3) |> fun h => hb1.trans (hal.mono hb1.size)) (Nat.le_refl _)
  have hdv := HDA.out _ _ ha4 hg4
  obtain ⟨q0, q1, -, -⟩ := HBX.out hbx4 (by omega)
  have q41 := q0 1
  simp only [List.getElem?_toArray, List.getElem?_cons_succ, List.getElem?_cons_zero] at q41
  have r41 : (w1.alloc (.cells #[.bool false, .slice ag (dig g).length cg] 118)).cell? ⟨w1.heap.size, 1, none⟩ = some (.slice ag (dig g).length cg) := by simp
  have HDV := Lib.hid hdv; have HG4 := Lib.hid hg4; have HX4 := Lib.hid hbx4; have HB14 := Lib.hid (hb1.trans (hal.mono hb1.size))
  clear q00 q01 q10 q11 hdv hg4 ha4 hbx1 hbx4 q0 q1 hvg hb1 hal HGC
  clear hW3
  go_wp2_with fail
  refine HDV.out.mono ?_
  rintro e w5 ⟨⟨vq, vr, rfl, hvq, -⟩, hb5⟩
  have hz5 := hb5.size
  simp only [World.size_alloc] at hz5
  have hb5' : Below (w1.heap.size + 1) (w1.alloc (.cells #[.bool false, .slice ag (dig g).length cg] 118)) w5 := hb5.mono (by simp)
  have hbx5 := HX4.out.trans (hb5'.mono (by omega))
  obtain ⟨q0, q1, -, -⟩ := HBX.out hbx5 (by omega)
  have q51 := q1 1
  have q50 := q0 0
  simp only [List.getElem?_toArray, List.getElem?_cons_succ, List.getElem?_cons_zero] at q51 q50
  have r51 : w5.cell? ⟨w1.heap.size, 1, none⟩ = some (.slice ag (dig g).length cg) := box_keep hb5' (by omega) 1
  have hw35 := HB14.out.trans (hb5.mono (by simp; omega))
  have hdv := HDB.out w5 _ (HB.out.below hw35 (Nat.le_refl _)) (HG4.out.below hb5 (Nat.le_refl _))
  have HDV2 := Lib.hid hdv; have HVQ := Lib.hid hvq; have HX5 := Lib.hid hbx5; have HW35 := Lib.hid hw35
  obtain ⟨aq, cq, rfl⟩ := hvq.cases
  clear q41 r41 hdv hvq hbx5 q0 q1 hb5 hb5' hw35 q50
  go_wp2_with fail
  refine HDV2.out.mono ?_
  rintro e w6 ⟨⟨vp, vr2, rfl, hvp, -⟩, hb6⟩
  have hz6 := hb6.size
  have hbx6 := HX5.out.trans (hb6.mono (by omega))
  obtain ⟨q0, -, -, -⟩ := HBX.out hbx6 (by omega)
  have q60 := q0 0
  simp only [List.getElem?_toArray, List.getElem?_cons_zero] at q60
  obtain ⟨ap, cp, rfl⟩ := hvp.cases
  have HVQ6 := Lib.hid (HVQ.out.below hb6 (Nat.le_refl _)); have HVP := Lib.hid hvp; have HX6 := Lib.hid hbx6
  have HM1 := Lib.hid (made_mv s _ _ w6 HVQ6.out)
  clear q51 r51 hvp hbx6 q0 hb6
  go_wp2_with fail
  refine HM1.out.mono ?_
  rw [HSN.out]
  rintro e w7 ⟨rfl, hb7⟩
  have hz7 := hb7.size
  have HVP7 := Lib.hid (HVP.out.below hb7 (Nat.le_refl _)); have HVQ7 := Lib.hid (HVQ6.out.below hb7 (Nat.le_refl _))
  have HM2 := Lib.hid (made_mv false _ _ w7 HVP7.out)
  have HX7 := Lib.hid (HX6.out.trans (hb7.mono (by omega)))
  clear q60 hb7
  go_wp2_with fail
  refine HM2.out.mono ?_
  rintro e w8 ⟨rfl, hb8⟩
  have hbx8 := HX7.out.trans (hb8.mono (by omega))
  have HVP8 := Lib.hid (HVP7.out.below hb8 (Nat.le_refl _)); have HVQ8 := Lib.hid (HVQ7.out.below hb8 (Nat.le_refl _))
  obtain ⟨-, -, q2, f2⟩ := HBX.out hbx8 (by omega)
  have q20 := q2 0
  have q21 := q2 1
  have q22 := q2 2
  have q23 := q2 3
  simp only [List.getElem?_toArray, List.getElem?_cons_succ, List.getElem?_cons_zero] at q20 q21 q22 q23
  have f0 := f2 0
  have f1 := f2 1
  have f3 := f2 2
  have f4 := f2 3
  have hbw8 := HBW.out.trans (hbx8.mono (by omega))
  clear hb8
  go_wp2
  refine bodyPost_ret (v := .agg #[.bool s, .slice aq (dig (N / g)).length cq, .bool false, .slice ap (dig (d / g)).length cp]) (by simp [results, Tryz.results141, go_sem, q20, q21, q22, q23]) rfl ?_
  have hle : w.heap.size ≤ w.heap.size + 1 + 1 := by omega
  exact ⟨⟨_, rfl, _, _, rfl, HVQ8.out.box4 q20 q21 q22 q23, HVP8.out.box4 q20 q21 q22 q23⟩, (((hbw8.setCell hle _).setCell hle _).setCell hle _).setCell hle _⟩
end Go.Proofs.YtbjhjbjjfbmoeaaGreatDoor.Z4

/- The reference's Decimal of a natural number. -/
namespace Go.Proofs.YtbjhjbjjfbmoeaaGreatDoor.Z4
open Go.RowKit

/-- a digit's byte, as a string -/
def chB (d : Nat) : ByteArray := ⟨#[UInt8.ofNat (48 + d)]⟩
theorem rune_string (d : Nat) (h : d < 10) (W : World) : Sem.run Tryz.prog (convert 21 9 (.int .i32 ((48 : Int) + (d : Nat)))) W = .ok (.string (chB d)) W := by
  obtain rfl | rfl | rfl | rfl | rfl | rfl | rfl | rfl | rfl | rfl : d = 0 ∨ d = 1 ∨ d = 2 ∨ d = 3 ∨ d = 4 ∨ d = 5 ∨ d = 6 ∨ d = 7 ∨ d = 8 ∨ d = 9 := by omega
  all_goals simp [convert, go_sem, chB]
  all_goals rfl
theorem chB_size (d : Nat) : (chB d).size = 1 := rfl

set_option maxRecDepth 100000 in
theorem decimal_any (n : Nat) (w : World) (hn : n < 9223372036854775808) :
    Calls Tryz.prog 238 #[.int .i64 (n : Nat)] w fun e w' => e = .returned (.string ⟨(Lib.decDigits n).toArray⟩) ∧ w = w' := by
  by_cases h0 : n = 0
  · subst h0
    have hd : Lib.decDigits 0 = [48] := Lib.decDigits_one (by decide)
    rw [hd]
    go_enter Tryz.func238, Tryz.ntmps238
    go_wp2
    go_ret
    exact ⟨rfl, rfl⟩
  · have hne : ((n : Int) == 0) = false := by rw [beq_eq_false_iff_ne]; omega
    have hlt : ¬ (n : Int) < 0 := by omega
    have hlen : (Lib.decDigits n).length ≤ 20 := by rw [Lib.decDigits_length]; exact Lib.nDigits_le20 n (by omega)
    have HLEN := Lib.hid hlen; clear hlen
    go_enter Tryz.func238, Tryz.ntmps238
    go_wp2
    go_loop [0, 3] (fun kv sv => ∃ (k : Nat) (st : ByteArray), k ≤ n ∧ kv = .int .i64 k ∧ sv = .string st ∧ (k ≠ 0 → Lib.decDigits n = Lib.decDigits k ++ st.data.toList) ∧ (k = 0 → Lib.decDigits n = st.data.toList)) (fun kv _ => (intOf kv).toNat)
    case atStart => exact ⟨n, ⟨#[]⟩, Nat.le_refl _, rfl, rfl, fun _ => by simp, fun h => absurd h h0⟩
    case round =>
      obtain ⟨k, st, hk, rfl, rfl, h1, h2⟩ := hrel
      by_cases hk0 : k = 0
      · subst hk0
        have hst : st = ⟨(Lib.decDigits n).toArray⟩ := by rw [h2 rfl]
        have HST := Lib.hid hst
        clear h1 h2 hst
        go_wp2
        go_ret
        exact ⟨by rw [← HST.out]; rfl, rfl⟩
      · have h3 := h1 hk0
        have hsz : st.size ≤ 20 := by
          have h4 := HLEN.out
          have h5 : st.data.toList.length = st.data.size := Array.length_toList
          rw [h3, List.length_append] at h4
          show st.data.size ≤ 20
          omega
        have hd := rune_string (k % 10)  (by omega)
        have hq : k / 10 < k := by omega
        have hs1 := chB_size (k % 10)
        have hnext : (k / 10 ≠ 0 → Lib.decDigits n = Lib.decDigits (k / 10) ++ (chB (k % 10) ++ st).data.toList) ∧ (k / 10 = 0 → Lib.decDigits n = (chB (k % 10) ++ st).data.toList) := by
          have h4 : (chB (k % 10) ++ st).data.toList = [UInt8.ofNat (48 + k % 10)] ++ st.data.toList := by simp [chB, ByteArray.data_append]
          rw [h4]
          refine ⟨fun h5 => ?_, fun h5 => ?_⟩
          · rw [h3, Lib.decDigits, dif_neg (show ¬ k < 10 by omega), List.append_assoc]
          · rw [h3, Lib.decDigits_one (show k < 10 by omega), Nat.mod_eq_of_lt (show k < 10 by omega)]
        have hq9 : k % 10 < 10 := by omega
        have e1 : (k : Int) % 10 = ((k % 10 : Nat) : Int) := by omega
        have e2 : (k : Int) / 10 = ((k / 10 : Nat) : Int) := by omega
        have e1' : (k : Int).tmod 10 = ((k % 10 : Nat) : Int) := by rw [Int.tmod_eq_emod_of_nonneg (by omega)]; exact e1
        have e2' : (k : Int).tdiv 10 = ((k / 10 : Nat) : Int) := by rw [Int.tdiv_eq_ediv_of_nonneg (by omega)]; exact e2
        have HN := Lib.hid hnext
        clear h1 h2 h3 hnext
        generalize k % 10 = d at *
        generalize k / 10 = q at *
        have e3 : ¬ ((d : Nat) : Int) < 0 := by omega
        have e4 : IntKind.i32.wrap ((48 : Int) + (d : Nat)) = (48 : Int) + (d : Nat) := by have := IntKind.wrap_i32 ((48 : Int) + (d : Nat)); omega
        have hkne : ((k : Int) == 0) = false := by rw [beq_eq_false_iff_ne]; omega
        go_wp2
        go_round
        case rel => exact ⟨q, _, by omega, rfl, rfl, HN.out.1, HN.out.2⟩
        case measure => simp [intOf]; omega
end Go.Proofs.YtbjhjbjjfbmoeaaGreatDoor.Z4

/- The reference's texts of magnitudes: many, digits. -/
namespace Go.Proofs.YtbjhjbjjfbmoeaaGreatDoor.Z4
open Go.RowKit

theorem val_drop {l : List Nat} {i x : Nat} (hx : l[i]? = some x) : val (l.drop i) = x + B * val (l.drop (i + 1)) := by
  have hi : i < l.length := (List.getElem?_eq_some_iff.1 hx).1
  rw [List.drop_eq_getElem_cons hi, val_cons]
  rw [List.getElem?_eq_getElem hi] at hx
  cases hx
  rfl
theorem top_pos {n t : Nat} (h : (dig n)[(dig n).length - 1]? = some t) : 0 < t := by
  have h1 := last_dig n
  rw [List.getLast?_eq_getElem?, h] at h1
  rcases Nat.eq_zero_or_pos t with h2 | h2
  · subst h2; exact absurd rfl h1
  · exact h2
theorem drop_pos {l : List Nat} {t : Nat} (h : l[l.length - 1]? = some t) (ht : 0 < t) (i : Nat) (hi : i < l.length) : 0 < val (l.drop i) := by
  rcases Nat.eq_zero_or_pos (val (l.drop i)) with h0 | h0
  · exfalso
    have h1 := val_eq_zero.1 h0 t (List.mem_iff_getElem?.2 ⟨l.length - 1 - i, by rw [List.getElem?_drop, show i + (l.length - 1 - i) = l.length - 1 from by omega]; exact h⟩)
    omega
  · exact h0
theorem val_top {l : List Nat} {t : Nat} (h : l[l.length - 1]? = some t) : val (l.drop (l.length - 1)) = t := by
  have hi := (List.getElem?_eq_some_iff.1 h).1
  rw [val_drop h, List.drop_of_length_le (by omega)]
  simp [val]
theorem B_pow (k : Nat) : B ^ k = 10 ^ (4 * k) := by
  rw [Nat.pow_mul]; rfl
theorem size_dig_eq {n t : Nat} (h : (dig n)[(dig n).length - 1]? = some t) : Lib.nDigits n = 4 * ((dig n).length - 1) + Lib.nDigits t := by
  have ht := top_pos h
  have h1 := val_split h
  have hi := (List.getElem?_eq_some_iff.1 h).1
  rw [val_dig, List.drop_of_length_le (by omega)] at h1
  simp only [val, Nat.mul_zero, Nat.add_zero] at h1
  have h2 : val ((dig n).take ((dig n).length - 1)) < B ^ ((dig n).length - 1) := by
    have h3 := val_lt (xs := (dig n).take ((dig n).length - 1)) (fun d hd => sm_dig n d (List.mem_of_mem_take hd))
    rwa [List.length_take, Nat.min_eq_left (by omega)] at h3
  rw [B_pow] at h1 h2
  generalize 4 * ((dig n).length - 1) = k at *
  generalize val ((dig n).take ((dig n).length - 1)) = lo at *
  rw [h1, Nat.add_comm lo, Nat.mul_comm, nDigits_shift k t lo ht h2]
  omega
/-- a digit more -/
theorem dec_digit {h x : Nat} (hh : 0 < h) (hx : x < B) : Lib.decDigits (x + B * h) = Lib.decDigits h ++ padD 4 x ∧ Lib.decDigits (10000 + x) = 49 :: padD 4 x := by
  have hx' : x < 10 ^ 4 := hx
  refine ⟨?_, ?_⟩
  · rw [← dec_shift 4 h x hh hx', show x + B * h = h * 10 ^ 4 + x from by simp only [B]; omega]
  · have := dec_shift 4 1 x (by omega) hx'
    rw [Nat.one_mul] at this
    rw [show (10000 : Nat) + x = 10 ^ 4 + x from rfl, this, Lib.decDigits_one (by decide)]
    rfl

theorem cat_tail {st dt : ByteArray} {x : Nat} (h : dt = ⟨(49 :: padD 4 x).toArray⟩) : (st ++ dt.extract 1 5).data.toList = st.data.toList ++ padD 4 x := by
  have h1 : (padD 4 x).length = 4 := padD_length 4 x
  have h2 : (dt.extract 1 5).data.toList = padD 4 x := by
    subst h
    rw [ByteArray.data_extract]
    simp only [Array.toList_extract, List.extract_eq_take_drop, List.drop_succ_cons, List.drop_zero]
    exact List.take_of_length_le (by omega)
  rw [ByteArray.data_append, Array.toList_append, h2]

set_option maxRecDepth 100000 in
theorem many_any (v : Value) (n : Nat) (w : World) (hv : MV w v n) (hl : (dig n).length ≤ 549755813888) :
    Calls Tryz.prog 217 #[v] w fun e w' => e = .returned (.int .i64 (Lib.nDigits n)) ∧ w = w' := by
  by_cases h0 : n = 0
  · subst h0
    obtain ⟨a, c, rfl⟩ := hv.cases
    have hl0 : (dig 0).length = 0 := by rw [dig_zero]; rfl
    rw [hl0]
    clear hv hl0
    go_enter Tryz.func217, Tryz.ntmps217
    go_wp2
    go_ret
    exact ⟨by rw [Lib.nDigits_small (by decide)]; rfl, rfl⟩
  · obtain ⟨a, c, rfl, hc, _⟩ := hv
    obtain ⟨L, hL⟩ : ∃ L, (dig n).length = L + 1 := ⟨(dig n).length - 1, by have := mt dig_len_pos.1 h0; omega⟩
    obtain ⟨t, htd⟩ := get_of_lt (show L < (dig n).length by omega)
    have hsz := size_dig_eq (n := n) (t := t) (by rw [hL]; exact htd)
    have htb : t ≤ 9999 := sm_get (sm_dig n) htd
    obtain ⟨b, off, rfl⟩ := hc.addr (zs_ne (by omega))
    have c0 : w.cell? ⟨b, off + L, none⟩ = some (.int .i64 (t : Nat)) := zcell hc htd
    rw [hL] at hsz hl ⊢
    simp only [Nat.add_sub_cancel] at hsz
    have hn9 := nDigits_le 8 t (by omega)
    have hff := decimal_any t w (by omega)
    have hs : (⟨(Lib.decDigits t).toArray⟩ : ByteArray).size = Lib.nDigits t := by rw [← Lib.decDigits_length]; simp [ByteArray.size]
    have e1 : IntKind.i64.wrap (((L + 1 : Nat) : Int) - 1) = (L : Int) := by rw [show ((L + 1 : Nat) : Int) - 1 = (L : Int) from by omega]; exact IntWalk.i64_in _ (by omega)
    have e2 : (L : Int).toNat = L := by omega
    have e3 : IntKind.i64.wrap (4 * (L : Int)) = 4 * (L : Int) := IntWalk.i64_in _ (by omega)
    have e4 : IntKind.i64.wrap (4 * (L : Int) + (Lib.nDigits t : Int)) = (Lib.nDigits n : Int) := by rw [show 4 * (L : Int) + (Lib.nDigits t : Int) = (Lib.nDigits n : Int) from by omega]; exact IntWalk.i64_in _ (by omega)
    have HFF := Lib.hid hff
    clear hff hc htd hsz hL
    go_enter Tryz.func217, Tryz.ntmps217
    go_wp2_with (go_at_call 238; refine HFF.out.mono ?_; rintro e w' ⟨rfl, rfl⟩)
    go_ret
    exact ⟨rfl, rfl⟩

set_option maxRecDepth 100000 in
set_option maxHeartbeats 1000000 in
theorem digits_any (v : Value) (n : Nat) (w : World) (hv : MV w v n) (hl : (dig n).length ≤ 549755813888) :
    Calls Tryz.prog 239 #[v] w fun e w' => e = .returned (.string ⟨(Lib.decDigits n).toArray⟩) ∧ w = w' := by
  by_cases h0 : n = 0
  · subst h0
    obtain ⟨a, c, rfl⟩ := hv.cases
    have hl0 : (dig 0).length = 0 := by rw [dig_zero]; rfl
    have hd : Lib.decDigits 0 = [48] := Lib.decDigits_one (by decide)
    rw [hl0, hd]
    clear hv hl0
    go_enter Tryz.func239, Tryz.ntmps239
    go_wp2
    go_ret
    exact ⟨rfl, rfl⟩
  · obtain ⟨a, c, rfl, hc, _⟩ := hv
    obtain ⟨L, hL⟩ : ∃ L, (dig n).length = L + 1 := ⟨(dig n).length - 1, by have := mt dig_len_pos.1 h0; omega⟩
    obtain ⟨t, htd⟩ := get_of_lt (show L < (dig n).length by omega)
    have htd' : (dig n)[(dig n).length - 1]? = some t := by rw [hL]; exact htd
    have hvt := val_top htd'
    have hdp := drop_pos htd' (top_pos htd')
    have hszn := size_dig_eq htd'
    have htb : t ≤ 9999 := sm_get (sm_dig n) htd
    have hn9 := nDigits_le 8 t (by omega)
    obtain ⟨b, off, rfl⟩ := hc.addr (zs_ne (by omega))
    have c0 : w.cell? ⟨b, off + L, none⟩ = some (.int .i64 (t : Nat)) := zcell hc htd
    rw [hL] at hl hvt hdp hszn ⊢
    simp only [Nat.add_sub_cancel] at hvt hszn
    have hff := decimal_any t w (by omega)
    have e1 : IntKind.i64.wrap (((L + 1 : Nat) : Int) - 1) = (L : Int) := by rw [show ((L + 1 : Nat) : Int) - 1 = (L : Int) from by omega]; exact IntWalk.i64_in _ (by omega)
    have e2 : (L : Int).toNat = L := by omega
    have e3 : IntKind.i64.wrap (((L + 1 : Nat) : Int) - 2) = (L : Int) - 1 := by rw [show ((L + 1 : Nat) : Int) - 2 = (L : Int) - 1 from by omega]; exact IntWalk.i64_in _ (by omega)
    have HFF := Lib.hid hff; have HC := Lib.hid hc; have HVT := Lib.hid hvt; have HDP := Lib.hid hdp; have HL := Lib.hid hL
    clear hff hc htd htd' hvt hdp hL
    go_enter Tryz.func239, Tryz.ntmps239
    go_wp2_with (go_at_call 238; refine HFF.out.mono ?_; rintro e w' ⟨rfl, rfl⟩; refine Hid.out ?_)
    refine Lib.hid ?_
    go_wp2
    go_loop [3, 4] (fun sv iv => ∃ (j : Nat) (st : ByteArray), j ≤ L ∧ iv = .int .i64 ((j : Int) - 1) ∧ sv = .string st ∧ st.data.toList = Lib.decDigits (val ((dig n).drop j))) (fun _ iv => (intOf iv + 1).toNat)
    case atStart => exact ⟨L, _, Nat.le_refl _, congrArg (Value.int .i64) (by omega), rfl, by rw [HVT.out]⟩
    case round =>
      clear c0
      obtain ⟨j, st, hj, rfl, rfl, hst⟩ := hrel
      rcases Nat.eq_zero_or_pos j with hj0 | hj0
      · subst hj0
        rw [List.drop_zero, val_dig] at hst
        have hs : st = ⟨(Lib.decDigits n).toArray⟩ := by rw [← hst]
        have HST := Lib.hid hs
        clear hs hst
        go_wp2
        go_ret
        exact ⟨by rw [← HST.out]; rfl, rfl⟩
      · obtain ⟨i, rfl⟩ : ∃ i, j = i + 1 := ⟨j - 1, by omega⟩
        obtain ⟨x, hx⟩ := get_of_lt (show i < (dig n).length by rw [HL.out]; omega)
        have hxb : x ≤ 9999 := sm_get (sm_dig n) hx
        have hdv := val_drop hx
        have hhp := HDP.out (i + 1) (by omega)
        obtain ⟨hdd, hd1⟩ := dec_digit hhp (show x < B by simp only [B]; omega)
        have c0 : w.cell? ⟨b, off + i, none⟩ = some (.int .i64 (x : Nat)) := zcell HC.out hx
        have hff := decimal_any (10000 + x) w (by omega)
        rw [hd1] at hff
        obtain ⟨dt, hdt⟩ : ∃ dt : ByteArray, dt = ⟨(49 :: padD 4 x).toArray⟩ := ⟨_, rfl⟩
        rw [← hdt] at hff
        have hds : dt.size = 5 := by rw [hdt]; show (49 :: padD 4 x).toArray.size = 5; simp [padD_length]
        have hst4 : st.size ≤ 4398046511104 := by
          have h4 : st.data.toList.length = st.data.size := Array.length_toList
          have h5 : val ((dig n).drop (i + 1)) < 10 ^ (4 * L) := by
            have h6 := val_lt (xs := (dig n).drop (i + 1)) (fun d hd => sm_dig n d (List.mem_of_mem_drop hd))
            rw [B_pow, List.length_drop, HL.out] at h6
            exact Nat.lt_of_lt_of_le h6 (Nat.pow_le_pow_right (by decide) (by omega))
          have h7 := nDigits_le (4 * L - 1) _ (by rw [show 4 * L - 1 + 1 = 4 * L from by omega]; exact h5)
          rw [hst, Lib.decDigits_length] at h4
          show st.data.size ≤ _
          omega
        have e1 : (((i + 1 : Nat) : Int) - 1) = (i : Int) := by omega
        have e2 : (i : Int).toNat = i := by omega
        have e4 : (0 : Int) ≤ i := by omega
        have e5 : (i : Int) < ((L + 1 : Nat) : Int) := by omega
        have e6 : IntKind.i64.wrap ((10000 : Int) + (x : Int)) = ((10000 + x : Nat) : Int) := by rw [show (10000 : Int) + (x : Int) = ((10000 + x : Nat) : Int) from by omega]; exact IntWalk.i64_in _ (by omega)
        have e7 : IntKind.i64.wrap ((i : Int) - 1) = (i : Int) - 1 := IntWalk.i64_in _ (by omega)
        rw [e1]
        have HFF := Lib.hid hff; have HDD := Lib.hid hdd; have HDV := Lib.hid hdv; have HST := Lib.hid hst; have HDT := Lib.hid hdt
        clear hff hdd hdv hx e1 hhp hst hdt hd1
        go_wp2_with fail
        refine HFF.out.mono ?_
        rintro e w3 ⟨rfl, rfl⟩
        go_wp2
        go_round
        case rel => exact ⟨i, _, by omega, rfl, rfl, by rw [HDV.out, HDD.out, cat_tail HDT.out, HST.out]⟩
        case measure => simp [intOf]
end Go.Proofs.YtbjhjbjjfbmoeaaGreatDoor.Z4

/- The reference's texts of numbers: ZText, long. -/
namespace Go.Proofs.YtbjhjbjjfbmoeaaGreatDoor.Z4
open Go.RowKit

/-- the decimal text -/
def dcB (n : Nat) : ByteArray := ⟨(Lib.decDigits n).toArray⟩
theorem dcB_size (n : Nat) : (dcB n).size = Lib.nDigits n := by
  rw [← Lib.decDigits_length]; simp [dcB, ByteArray.size]
def zT (s : Bool) (n : Nat) : ByteArray := if s = true then ⟨#[45]⟩ ++ dcB n else dcB n
theorem digits_bd {n : Nat} (h : (dig n).length ≤ 549755813888) : Lib.nDigits n ≤ 2199023255552 := by
  by_cases h0 : n = 0
  · subst h0; rw [Lib.nDigits_small (by decide)]; omega
  · have hp : 0 < (dig n).length := by have := mt dig_len_pos.1 h0; omega
    have h1 := lt_pow_len n
    rw [B_pow] at h1
    have := nDigits_le (4 * (dig n).length - 1) n (by rw [show 4 * (dig n).length - 1 + 1 = 4 * (dig n).length from by omega]; exact h1)
    omega
theorem digits_mv (v : Value) (n : Nat) (w : World) (hv : MV w v n) (hl : (dig n).length ≤ 549755813888) :
    Calls Tryz.prog 239 #[v] w fun e w' => e = .returned (.string (dcB n)) ∧ w = w' := digits_any v n w hv hl

set_option maxRecDepth 100000 in
theorem zText_any (s : Bool) (vd : Value) (n : Nat) (w : World) (hv : MV w vd n) (hl : (dig n).length ≤ 549755813888) :
    Calls Tryz.prog 218 #[.agg #[.bool s, vd]] w fun e w' => e = .returned (.string (zT s n)) ∧ Below w.heap.size w w' := by
  have hbw := (Below.refl w.heap.size w).alloc (Nat.le_refl _) (.cells #[.bool s, vd] 118)
  have hdg := digits_mv vd n _ (hv.below hbw (Nat.le_refl _)) hl
  have hsz := dcB_size n
  have hnd := digits_bd hl
  have hs4 : (⟨#[45]⟩ : ByteArray).size = 1 := rfl
  obtain ⟨a, c, rfl⟩ := hv.cases
  have HDG := Lib.hid hdg; have HBW := Lib.hid hbw
  clear hdg hbw hv hl
  generalize hdc : dcB n = dt at *
  have hzt : zT s n = if s = true then ⟨#[45]⟩ ++ dt else dt := by unfold zT; rw [hdc]
  have HZT := Lib.hid hzt
  clear hzt hdc
  cases s
  · go_enter Tryz.func218, Tryz.ntmps218
    go_wp2_with fail
    refine HDG.out.mono ?_
    rintro e w1 ⟨rfl, rfl⟩
    go_wp2
    go_ret
    rw [HZT.out]
    exact ⟨rfl, HBW.out⟩
  · go_enter Tryz.func218, Tryz.ntmps218
    go_wp2_with fail
    refine HDG.out.mono ?_
    rintro e w1 ⟨rfl, rfl⟩
    go_wp2
    go_ret
    rw [HZT.out]
    exact ⟨rfl, HBW.out⟩

set_option maxRecDepth 100000 in
theorem long_any (s : Bool) (vd : Value) (n : Nat) (w : World) (hv : MV w vd n) (hl : (dig n).length ≤ 549755813888) :
    Calls Tryz.prog 178 #[.agg #[.bool s, vd]] w fun e w' => e = .returned (.bool (decide (2000 < Lib.nDigits n))) ∧ Below w.heap.size w w' := by
  have hbw := (Below.refl w.heap.size w).alloc (Nat.le_refl _) (.cells #[.bool s, vd] 118)
  have hmn := many_any vd n _ (hv.below hbw (Nat.le_refl _)) hl
  have hb : decide (2000 < Lib.nDigits n) = decide ((2000 : Int) < (Lib.nDigits n : Nat)) := by
    rw [Bool.eq_iff_iff, decide_eq_true_iff, decide_eq_true_iff]; omega
  obtain ⟨a, c, rfl⟩ := hv.cases
  have HMN := Lib.hid hmn; have HBW := Lib.hid hbw; have HB := Lib.hid hb
  clear hmn hbw hv hl hb
  go_enter Tryz.func178, Tryz.ntmps178
  go_wp2_with fail
  refine HMN.out.mono ?_
  rintro e w1 ⟨rfl, rfl⟩
  go_wp2
  go_ret
  rw [HB.out]
  exact ⟨rfl, HBW.out⟩
end Go.Proofs.YtbjhjbjjfbmoeaaGreatDoor.Z4

/- The reference's texts of rational numbers. -/
namespace Go.Proofs.YtbjhjbjjfbmoeaaGreatDoor.Z4
open Go.RowKit

def qT (s : Bool) (n d : Nat) : ByteArray := if d = 1 then zT s n else zT s n ++ ⟨#[47]⟩ ++ dcB d
theorem zT_size (s : Bool) (n : Nat) : (zT s n).size ≤ Lib.nDigits n + 1 := by
  unfold zT
  split
  · rw [ByteArray.size_append, dcB_size, show (⟨#[45]⟩ : ByteArray).size = 1 from rfl]; omega
  · rw [dcB_size]; omega
theorem dig_one_iff {d : Nat} (hd : d ≠ 0) : d = 1 ↔ ((dig (d / B)).length = 0 ∧ d % B = 1) := by
  rw [dig_len_pos]
  constructor
  · rintro rfl; decide
  · rintro ⟨h5, h6⟩
    have := Nat.div_add_mod d B
    rw [h5, h6] at this
    omega

set_option maxRecDepth 100000 in
set_option maxHeartbeats 1000000 in
theorem qText_any (v : Value) (s : Bool) (n d : Nat) (w : World) (hv : QV w v s n d) (hd : d ≠ 0) (hl : (dig n).length ≤ 549755813888) (hl2 : (dig d).length ≤ 549755813888) :
    Calls Tryz.prog 180 #[v] w fun e w' => e = .returned (.string (qT s n d)) ∧ Below w.heap.size w w' := by
  obtain ⟨vn, vd, rfl, hn, hdv⟩ := hv
  have hD1 := dig_one_iff hd
  have hdp := dig_pos hd
  have hdl : (dig d).length = (dig (d / B)).length + 1 := by rw [hdp]; rfl
  have hsz1 := zT_size s n
  have hsz2 := dcB_size d
  have hz2 : zT false d = dcB d := rfl
  have hnd := digits_bd hl
  have hnd2 := digits_bd hl2
  have htn := fun W (h : Below w.heap.size w W) => zText_any s vn n W (hn.below h (Nat.le_refl _)) hl
  have htd := fun W (h : Below w.heap.size w W) => zText_any false vd d W (hdv.below h (Nat.le_refl _)) hl2
  rw [hz2] at htd
  have hs4 : (⟨#[47]⟩ : ByteArray).size = 1 := rfl
  have hbw := (Below.refl w.heap.size w).alloc (Nat.le_refl _) (.cells #[.bool s, vn, .bool false, vd] 120)
  obtain ⟨an, cn, rfl⟩ := hn.cases
  obtain ⟨ad, cd, rfl, hdc, _⟩ := hdv
  obtain ⟨b, off, rfl⟩ := hdc.addr (zs_ne (l := dig d) (by omega))
  have h0d : (dig d)[0]? = some (d % B) := by rw [hdp]; rfl
  have c0 := zcell (hdc.below hbw (Nat.le_refl _)) h0d
  rw [Nat.add_zero] at c0
  have hqt : qT s n d = if (dig (d / B)).length = 0 ∧ d % B = 1 then zT s n else zT s n ++ ⟨#[47]⟩ ++ dcB d := by
    unfold qT; by_cases h5 : d = 1
    · rw [if_pos h5, if_pos (hD1.1 h5)]
    · rw [if_neg h5, if_neg (fun h6 => h5 (hD1.2 h6))]
  have HTN := Lib.hid htn; have HTD := Lib.hid htd; have HBW := Lib.hid hbw; have HQT := Lib.hid hqt
  clear htn htd hbw hqt hn hdc hz2 hD1 h0d hdp hl hl2
  rw [hdl] at *
  clear hdl
  generalize (dig (d / B)).length = M at *
  generalize d % B = x at *
  generalize zT s n = tn at *
  generalize dcB d = td at *
  by_cases hM : M = 0
  · subst hM
    rw [Nat.zero_add] at *
    by_cases hx : x = 1
    · subst hx
      go_enter Tryz.func180, Tryz.ntmps180
      go_wp2_with fail
      refine (HTN.out _ HBW.out).mono ?_
      rintro e w1 ⟨rfl, hb1⟩
      go_wp2
      go_ret
      rw [HQT.out, if_pos (by simp)]
      exact ⟨rfl, HBW.out.trans (hb1.mono HBW.out.size)⟩
    · have i1 : ((x : Int) == 1) = false := by rw [beq_eq_false_iff_ne]; omega
      have z0 : (w.alloc (.cells #[.bool s, .slice an (dig n).length cn, .bool false, .slice (some ⟨b, off, none⟩) 1 cd] 120)).cell? ⟨w.heap.size, 0, none⟩ = some (.bool s) := by simp
      have z1 : (w.alloc (.cells #[.bool s, .slice an (dig n).length cn, .bool false, .slice (some ⟨b, off, none⟩) 1 cd] 120)).cell? ⟨w.heap.size, 1, none⟩ = some (.slice an (dig n).length cn) := by simp
      have z2 : (w.alloc (.cells #[.bool s, .slice an (dig n).length cn, .bool false, .slice (some ⟨b, off, none⟩) 1 cd] 120)).cell? ⟨w.heap.size, 2, none⟩ = some (.bool false) := by simp
      have z3 : (w.alloc (.cells #[.bool s, .slice an (dig n).length cn, .bool false, .slice (some ⟨b, off, none⟩) 1 cd] 120)).cell? ⟨w.heap.size, 3, none⟩ = some (.slice (some ⟨b, off, none⟩) 1 cd) := by simp
      go_enter Tryz.func180, Tryz.ntmps180
      go_wp2_with fail
      generalize (w.alloc (.cells #[.bool s, .slice an (dig n).length cn, .bool false, .slice (some ⟨b, off, none⟩) 1 cd] 120)) = W3 at *
      refine wp_region_quiet (C := fun w' => Below W3.heap.size W3 w') (by kernel_rfl) (by kernel_rfl) (Below.refl _ W3).drew ?_
      simp only
      repeat
        (refine wpQuiet_step (fun K hK => ?_)
         go_simp
         first
           | (refine hK _ ?_; clear hK K)
           | (apply Exists.intro
              refine ⟨fun w' hw' => ?_, hK _ ?_⟩
              (first
                | rfl
                | (rw [if_neg (by omega)]; exact ⟨rfl, rfl⟩)
                | (rw [if_neg (by simp only [ByteArray.size_append]; omega)]; exact ⟨rfl, rfl⟩)
                | (have z0' := cell_keep z0 hw' (Nat.le_refl _); have z1' := cell_keep z1 hw' (Nat.le_refl _); go_simp; rfl)
                | (have z2' := cell_keep z2 hw' (Nat.le_refl _); have z3' := cell_keep z3 hw' (Nat.le_refl _); go_simp; rfl)
                | (with_reducible refine Calls.mono (HTN.out w' (HBW.out.trans (hw'.mono HBW.out.size))) ?_; exact fun e w'' ⟨he, hb⟩ => ⟨he, hw'.trans (hb.mono hw'.size)⟩)
                | (with_reducible refine Calls.mono (HTD.out w' (HBW.out.trans (hw'.mono HBW.out.size))) ?_; exact fun e w'' ⟨he, hb⟩ => ⟨he, hw'.trans (hb.mono hw'.size)⟩))
              clear hK K))
      refine wpQuiet_nil ?_
      intro w4 hb4
      go_wp2
      go_ret
      rw [HQT.out, if_neg (by omega)]
      exact ⟨rfl, HBW.out.trans (hb4.mono HBW.out.size)⟩
  · have i1 : (((M + 1 : Nat) : Int) == 1) = false := by rw [beq_eq_false_iff_ne]; omega
    have i2 : ¬ ((M : Int) + 1 = 1) := by omega
    have z0 : (w.alloc (.cells #[.bool s, .slice an (dig n).length cn, .bool false, .slice (some ⟨b, off, none⟩) (M + 1) cd] 120)).cell? ⟨w.heap.size, 0, none⟩ = some (.bool s) := by simp
    have z1 : (w.alloc (.cells #[.bool s, .slice an (dig n).length cn, .bool false, .slice (some ⟨b, off, none⟩) (M + 1) cd] 120)).cell? ⟨w.heap.size, 1, none⟩ = some (.slice an (dig n).length cn) := by simp
    have z2 : (w.alloc (.cells #[.bool s, .slice an (dig n).length cn, .bool false, .slice (some ⟨b, off, none⟩) (M + 1) cd] 120)).cell? ⟨w.heap.size, 2, none⟩ = some (.bool false) := by simp
    have z3 : (w.alloc (.cells #[.bool s, .slice an (dig n).length cn, .bool false, .slice (some ⟨b, off, none⟩) (M + 1) cd] 120)).cell? ⟨w.heap.size, 3, none⟩ = some (.slice (some ⟨b, off, none⟩) (M + 1) cd) := by simp
    go_enter Tryz.func180, Tryz.ntmps180
    go_wp2_with fail
    generalize (w.alloc (.cells #[.bool s, .slice an (dig n).length cn, .bool false, .slice (some ⟨b, off, none⟩) (M + 1) cd] 120)) = W3 at *
    refine wp_region_quiet (C := fun w' => Below W3.heap.size W3 w') (by kernel_rfl) (by kernel_rfl) (Below.refl _ W3).drew ?_
    simp only
    repeat
      (refine wpQuiet_step (fun K hK => ?_)
       go_simp
       first
         | (refine hK _ ?_; clear hK K)
         | (apply Exists.intro
            refine ⟨fun w' hw' => ?_, hK _ ?_⟩
            (first
              | rfl
              | (rw [if_neg (by omega)]; exact ⟨rfl, rfl⟩)
              | (rw [if_neg (by simp only [ByteArray.size_append]; omega)]; exact ⟨rfl, rfl⟩)
              | (have z0' := cell_keep z0 hw' (Nat.le_refl _); have z1' := cell_keep z1 hw' (Nat.le_refl _); go_simp; rfl)
              | (have z2' := cell_keep z2 hw' (Nat.le_refl _); have z3' := cell_keep z3 hw' (Nat.le_refl _); go_simp; rfl)
              | (with_reducible refine Calls.mono (HTN.out w' (HBW.out.trans (hw'.mono HBW.out.size))) ?_; exact fun e w'' ⟨he, hb⟩ => ⟨he, hw'.trans (hb.mono hw'.size)⟩)
              | (with_reducible refine Calls.mono (HTD.out w' (HBW.out.trans (hw'.mono HBW.out.size))) ?_; exact fun e w'' ⟨he, hb⟩ => ⟨he, hw'.trans (hb.mono hw'.size)⟩))
            clear hK K))
    refine wpQuiet_nil ?_
    intro w4 hb4
    go_wp2
    go_ret
    rw [HQT.out, if_neg (by omega)]
    exact ⟨rfl, HBW.out.trans (hb4.mono HBW.out.size)⟩
end Go.Proofs.YtbjhjbjjfbmoeaaGreatDoor.Z4

/- The reference's QInt, Real. -/
namespace Go.Proofs.YtbjhjbjjfbmoeaaGreatDoor.Z4
open Go.RowKit

set_option maxRecDepth 100000 in
theorem qInt_any (n : Int) (w : World) (h1 : -9223372036854775808 ≤ n) (h2 : n ≤ 9223372036854775807) :
    Calls Tryz.prog 84 #[.int .i64 n] w fun e w' => (∃ v, e = .returned v ∧ QV w' v (decide (n < 0)) n.natAbs 1) ∧ Below w.heap.size w w' := by
  have hz := fun W => zOf_any n W h1 h2
  have ho := fun W => zOf_any 1 W (by omega) (by omega)
  have HZ := Lib.hid hz; have HO := Lib.hid ho
  clear hz ho h1 h2
  have hbw := (Below.refl w.heap.size w).alloc (Nat.le_refl _) (.cells #[.bool false, .slice none 0 0, .bool false, .slice none 0 0] 120)
  have HBW := Lib.hid hbw; clear hbw
  go_enter Tryz.func84, Tryz.ntmps84
  go_wp2_with fail
  refine (HZ.out _).mono ?_
  rintro e w1 ⟨⟨v1, rfl, hv1⟩, hb1⟩
  obtain ⟨x1, rfl, hm1⟩ := hv1.mv
  obtain ⟨a1, c1, rfl⟩ := hm1.cases
  have HM1 := Lib.hid hm1; clear hv1 hm1
  go_wp2_with fail
  refine (HO.out _).mono ?_
  rintro e w2 ⟨⟨v2, rfl, hv2⟩, hb2⟩
  obtain ⟨x2, rfl, hm2⟩ := hv2.mv
  obtain ⟨a2, c2, rfl⟩ := hm2.cases
  have HM2 := Lib.hid hm2; clear hv2 hm2
  have hbx := hb1.trans (hb2.mono hb1.size)
  have q0 := box_keep hbx (by simp) 0
  have q1 := box_keep hbx (by simp) 1
  have q2 := box_keep hbx (by simp) 2
  have q3 := box_keep hbx (by simp) 3
  simp only [List.getElem?_toArray, List.getElem?_cons_succ, List.getElem?_cons_zero] at q0 q1 q2 q3
  have f0 := box_free hbx (by simp) 0
  have f1 := box_free hbx (by simp) 1
  have f2 := box_free hbx (by simp) 2
  have f3 := box_free hbx (by simp) 3
  have hle : w.heap.size ≤ w.heap.size := Nat.le_refl _
  have hb := HBW.out.trans (hbx.mono (by simp))
  have HM1' := Lib.hid (HM1.out.below hb2 (Nat.le_refl _))
  go_wp2
  refine bodyPost_ret (v := .agg #[.bool (decide (n < 0)), .slice a1 (dig n.natAbs).length c1, .bool false, .slice a2 (dig (1 : Int).natAbs).length c2]) (by simp [results, Tryz.results84, go_sem, q0, q1, q2, q3]) rfl ?_
  exact ⟨⟨_, rfl, _, _, rfl, HM1'.out.box4 q0 q1 q2 q3, HM2.out.box4 q0 q1 q2 q3⟩, (((hb.setCell hle _).setCell hle _).setCell hle _).setCell hle _⟩
end Go.Proofs.YtbjhjbjjfbmoeaaGreatDoor.Z4

/- The reference's Real. -/
namespace Go.Proofs.YtbjhjbjjfbmoeaaGreatDoor.Z4
open Go.RowKit

/-- a real number of the reference -/
def CR (w : World) (v : Value) (s : Bool) (n d : Nat) : Prop := ∃ vn vd v0 v1, v = .agg #[.bool s, vn, .bool false, vd, .bool false, v0, .bool false, v1] ∧ MV w vn n ∧ MV w vd d ∧ MV w v0 0 ∧ MV w v1 1

theorem MV.set {w : World} {v : Value} {n : Nat} {p : Addr} {v0 u : Value} (h : MV w v n) (hp : w.cell? p = some v0) (hn : NoNum v0) : MV (w.setCell p u) v n := by
  obtain ⟨a, c, h1, h2, h3⟩ := h
  refine ⟨a, c, h1, h2.set hp ?_, h3⟩
  intro x hx e
  simp only [zs, List.mem_map] at hx
  obtain ⟨d, _, rfl⟩ := hx
  subst e; exact hn
theorem MV.box8 {w : World} {v : Value} {n b : Nat} {x0 x1 x2 x3 x4 x5 x6 x7 u0 u1 u2 u3 u4 u5 u6 u7 : Value} (h : MV w v n) (q0 : w.cell? ⟨b, 0, none⟩ = some x0) (q1 : w.cell? ⟨b, 1, none⟩ = some x1) (q2 : w.cell? ⟨b, 2, none⟩ = some x2) (q3 : w.cell? ⟨b, 3, none⟩ = some x3) (q4 : w.cell? ⟨b, 4, none⟩ = some x4) (q5 : w.cell? ⟨b, 5, none⟩ = some x5) (q6 : w.cell? ⟨b, 6, none⟩ = some x6) (q7 : w.cell? ⟨b, 7, none⟩ = some x7) (n0 : NoNum x0) (n1 : NoNum x1) (n2 : NoNum x2) (n3 : NoNum x3) (n4 : NoNum x4) (n5 : NoNum x5) (n6 : NoNum x6) (n7 : NoNum x7) : MV ((((((((w.setCell ⟨b, 0, none⟩ u0).setCell ⟨b, 1, none⟩ u1).setCell ⟨b, 2, none⟩ u2).setCell ⟨b, 3, none⟩ u3).setCell ⟨b, 4, none⟩ u4).setCell ⟨b, 5, none⟩ u5).setCell ⟨b, 6, none⟩ u6).setCell ⟨b, 7, none⟩ u7) v n := by
  refine (((((((h.set q0 n0).set (v0 := x1) ?_ n1).set (v0 := x2) ?_ n2).set (v0 := x3) ?_ n3).set (v0 := x4) ?_ n4).set (v0 := x5) ?_ n5).set (v0 := x6) ?_ n6).set (v0 := x7) ?_ n7
  · rw [World.cell?_setCell_other _ _ _ _ (by simp)]; exact q1
  · rw [World.cell?_setCell_other _ _ _ _ (by simp), World.cell?_setCell_other _ _ _ _ (by simp)]; exact q2
  · rw [World.cell?_setCell_other _ _ _ _ (by simp), World.cell?_setCell_other _ _ _ _ (by simp), World.cell?_setCell_other _ _ _ _ (by simp)]; exact q3
  · rw [World.cell?_setCell_other _ _ _ _ (by simp), World.cell?_setCell_other _ _ _ _ (by simp), World.cell?_setCell_other _ _ _ _ (by simp), World.cell?_setCell_other _ _ _ _ (by simp)]; exact q4
  · rw [World.cell?_setCell_other _ _ _ _ (by simp), World.cell?_setCell_other _ _ _ _ (by simp), World.cell?_setCell_other _ _ _ _ (by simp), World.cell?_setCell_other _ _ _ _ (by simp), World.cell?_setCell_other _ _ _ _ (by simp)]; exact q5
  · rw [World.cell?_setCell_other _ _ _ _ (by simp), World.cell?_setCell_other _ _ _ _ (by simp), World.cell?_setCell_other _ _ _ _ (by simp), World.cell?_setCell_other _ _ _ _ (by simp), World.cell?_setCell_other _ _ _ _ (by simp), World.cell?_setCell_other _ _ _ _ (by simp)]; exact q6
  · rw [World.cell?_setCell_other _ _ _ _ (by simp), World.cell?_setCell_other _ _ _ _ (by simp), World.cell?_setCell_other _ _ _ _ (by simp), World.cell?_setCell_other _ _ _ _ (by simp), World.cell?_setCell_other _ _ _ _ (by simp), World.cell?_setCell_other _ _ _ _ (by simp), World.cell?_setCell_other _ _ _ _ (by simp)]; exact q7

set_option maxRecDepth 100000 in
theorem real_any (v : Value) (s : Bool) (n d : Nat) (w : World) (hv : QV w v s n d) :
    Calls Tryz.prog 76 #[v] w fun e w' => (∃ v', e = .returned v' ∧ CR w' v' s n d) ∧ Below w.heap.size w w' := by
  obtain ⟨vn, vd, rfl, hn, hd⟩ := hv
  have hbw := ((Below.refl w.heap.size w).alloc (Nat.le_refl _) (.cells #[.bool s, vn, .bool false, vd] 120)).alloc (by simp) (.cells #[.bool false, .slice none 0 0, .bool false, .slice none 0 0, .bool false, .slice none 0 0, .bool false, .slice none 0 0] 122)
  have HN := Lib.hid hn; have HD := Lib.hid hd; have HBW := Lib.hid hbw
  obtain ⟨an, cn, rfl⟩ := hn.cases
  obtain ⟨ad, cd, rfl⟩ := hd.cases
  clear hn hd hbw
  have hq := fun W => qInt_any 0 W (by omega) (by omega)
  have HQ := Lib.hid hq
  clear hq
  go_enter Tryz.func76, Tryz.ntmps76
  go_wp2_with fail
  have z0 : ((w.alloc (.cells #[.bool s, .slice an (dig n).length cn, .bool false, .slice ad (dig d).length cd] 120)).alloc (.cells #[.bool false, .slice none 0 0, .bool false, .slice none 0 0, .bool false, .slice none 0 0, .bool false, .slice none 0 0] 122)).cell? ⟨w.heap.size, 0, none⟩ = some (.bool s) := by simp
  generalize hW : ((w.alloc (.cells #[.bool s, .slice an (dig n).length cn, .bool false, .slice ad (dig d).length cd] 120)).alloc (.cells #[.bool false, .slice none 0 0, .bool false, .slice none 0 0, .bool false, .slice none 0 0, .bool false, .slice none 0 0] 122)) = W at *
  have hbox : ∀ (B : Nat) (w1 : World), Below B W w1 → w.heap.size + 1 < B → (∀ i, w1.cell? ⟨w.heap.size, i, none⟩ = #[Value.bool s, .slice an (dig n).length cn, .bool false, .slice ad (dig d).length cd][i]?) ∧ (∀ i, w1.cell? ⟨w.heap.size + 1, i, none⟩ = #[Value.bool false, .slice none 0 0, .bool false, .slice none 0 0, .bool false, .slice none 0 0, .bool false, .slice none 0 0][i]?) ∧ (∀ i, w1.frozen? ⟨w.heap.size + 1, i, none⟩ = false) := fun B w1 hb hB => by
    subst hW
    exact ⟨fun i => box_keep2 hb (by omega) i, fun i => box_keep1 hb (by omega) i, fun i => box_free1 hb (by omega) i⟩
  have HBX := Lib.hid hbox
  have hsz0 : w.heap.size + 2 ≤ W.heap.size := by subst hW; simp
  have HSZ := Lib.hid hsz0
  clear hbox hW hsz0
  have hsz : w.heap.size + 2 ≤ W.heap.size := HSZ.out
  obtain ⟨z, -, -⟩ := HBX.out (w.heap.size + 2) W (Below.refl _ _) (by omega)
  have y0 := z 0
  have y1 := z 1
  have y2 := z 2
  have y3 := z 3
  simp only [List.getElem?_toArray, List.getElem?_cons_succ, List.getElem?_cons_zero] at y0 y1 y2 y3
  clear z z0
  go_region_with (go_at_call 84; refine (HQ.out _).mono ?_; rintro e w1 ⟨⟨vq, rfl, hvq⟩, hb1⟩; have hbz : Below (w.heap.size + 2) W w1 := ((Below.refl _ W).drew).trans (hb1.mono hsz); obtain ⟨z, t, f⟩ := HBX.out _ w1 hbz (by omega); have x0 := z 0; have x1 := z 1; have x2 := z 2; have x3 := z 3; have t0 := t 0; have t1 := t 1; have t2 := t 2; have t3 := t 3; have t4 := t 4; have t5 := t 5; have t6 := t 6; have t7 := t 7; have f0 := f 0; have f1 := f 1; have f2 := f 2; have f3 := f 3; have f4 := f 4; have f5 := f 5; have f6 := f 6; have f7 := f 7; simp only [List.getElem?_toArray, List.getElem?_cons_succ, List.getElem?_cons_zero] at x0 x1 x2 x3 t0 t1 t2 t3 t4 t5 t6 t7; obtain ⟨a0, a1, rfl, hm0, hm1⟩ := hvq; obtain ⟨b0, c0, rfl⟩ := hm0.cases; obtain ⟨b1, c1, rfl⟩ := hm1.cases; have HM0 := Lib.hid hm0; have HM1 := Lib.hid hm1; clear hm0 hm1 z t f)
  all_goals
    have hbw := HBW.out.trans (hbz.mono (by omega))
    have hle : w.heap.size ≤ w.heap.size + 1 := by omega
    have HN1 := Lib.hid ((HN.out.below HBW.out (Nat.le_refl _)).below (((Below.refl W.heap.size W).drew).trans hb1) (Nat.le_refl _))
    have HD1 := Lib.hid ((HD.out.below HBW.out (Nat.le_refl _)).below (((Below.refl W.heap.size W).drew).trans hb1) (Nat.le_refl _))
    go_wp2
    refine bodyPost_ret (v := .agg #[.bool s, .slice an (dig n).length cn, .bool false, .slice ad (dig d).length cd, .bool (decide ((0 : Int) < 0)), .slice b0 (dig (0 : Int).natAbs).length c0, .bool false, .slice b1 (dig 1).length c1]) (by simp [results, Tryz.results76, go_sem, t0, t1, t2, t3, t4, t5, t6, t7]) rfl ?_
    exact ⟨⟨_, rfl, _, _, _, _, rfl, HN1.out.box8 t0 t1 t2 t3 t4 t5 t6 t7 trivial trivial trivial trivial trivial trivial trivial trivial, HD1.out.box8 t0 t1 t2 t3 t4 t5 t6 t7 trivial trivial trivial trivial trivial trivial trivial trivial, HM0.out.box8 t0 t1 t2 t3 t4 t5 t6 t7 trivial trivial trivial trivial trivial trivial trivial trivial, HM1.out.box8 t0 t1 t2 t3 t4 t5 t6 t7 trivial trivial trivial trivial trivial trivial trivial trivial⟩, ((((((((hbw.setCell hle _).setCell hle _).setCell hle _).setCell hle _).setCell hle _).setCell hle _).setCell hle _).setCell hle _)⟩
end Go.Proofs.YtbjhjbjjfbmoeaaGreatDoor.Z4

/- The reference's text, big and Put of real numbers. -/
namespace Go.Proofs.YtbjhjbjjfbmoeaaGreatDoor.Z4
open Go.RowKit

theorem qZero_any (v : Value) (s : Bool) (n d : Nat) (w : World) (hv : QV w v s n d) :
    Calls Tryz.prog 179 #[v] w fun e w' => e = .returned (.bool (decide (n = 0))) ∧ Below w.heap.size w w' := by
  obtain ⟨vn, vd, rfl, hn, hd⟩ := hv
  obtain ⟨an, cn, rfl⟩ := hn.cases
  obtain ⟨ad, cd, rfl⟩ := hd.cases
  have hl : decide (n = 0) = (((dig n).length : Int) == 0) := by
    rw [Bool.eq_iff_iff, decide_eq_true_iff, beq_iff_eq, ← dig_len_pos]; omega
  have HL := Lib.hid hl; clear hl hn hd
  go_enter Tryz.func179, Tryz.ntmps179
  go_wp2
  go_ret
  exact ⟨ret_bool HL.out.symm, (Below.refl _ _).alloc (Nat.le_refl _) _⟩

theorem CR.below {w w' : World} {B : Nat} {v : Value} {s : Bool} {n d : Nat} (h : CR w v s n d) (hb : Below B w w') (hB : w.heap.size ≤ B) : CR w' v s n d := by
  obtain ⟨a, b, c, e, rfl, h1, h2, h3, h4⟩ := h
  exact ⟨a, b, c, e, rfl, h1.below hb hB, h2.below hb hB, h3.below hb hB, h4.below hb hB⟩

set_option maxRecDepth 100000 in
theorem refText_any (v : Value) (s : Bool) (n d : Nat) (w : World) (hv : CR w v s n d) (hd : d ≠ 0) (hl : (dig n).length ≤ 549755813888) (hl2 : (dig d).length ≤ 549755813888) :
    Calls Tryz.prog 130 #[v] w fun e w' => e = .returned (.string (qT s n d)) ∧ Below w.heap.size w w' := by
  obtain ⟨va, vb, vc, vd, rfl, ha, hb, hc, hdd⟩ := hv
  have HA := Lib.hid ha; have HB := Lib.hid hb; have HC := Lib.hid hc; have HD := Lib.hid hdd
  obtain ⟨aa, ca, rfl⟩ := ha.cases
  obtain ⟨ab, cb, rfl⟩ := hb.cases
  obtain ⟨ac, cc, rfl⟩ := hc.cases
  obtain ⟨ad, cd, rfl⟩ := hdd.cases
  clear ha hb hc hdd
  have HN := Lib.hid hd; clear hd
  go_enter Tryz.func130, Tryz.ntmps130
  go_wp2_with fail
  refine (qZero_any _ false 0 1 _ ⟨_, _, rfl, HC.out.below ((Below.refl _ _).alloc (Nat.le_refl _) _) (Nat.le_refl _), HD.out.below ((Below.refl _ _).alloc (Nat.le_refl _) _) (Nat.le_refl _)⟩).mono ?_
  rintro e w1 ⟨rfl, hb1⟩
  have hbw : Below w.heap.size w w1 := ((Below.refl _ _).alloc (Nat.le_refl _) _).trans (hb1.mono (by simp))
  have q0 : w1.cell? ⟨w.heap.size, 0, none⟩ = some (.bool s) := box_keep hb1 (by simp) 0
  have q1 : w1.cell? ⟨w.heap.size, 1, none⟩ = some (.slice aa (dig n).length ca) := box_keep hb1 (by simp) 1
  have q2 : w1.cell? ⟨w.heap.size, 2, none⟩ = some (.bool false) := box_keep hb1 (by simp) 2
  have q3 : w1.cell? ⟨w.heap.size, 3, none⟩ = some (.slice ab (dig d).length cb) := box_keep hb1 (by simp) 3
  go_wp2_with fail
  refine (qText_any _ s n d _ ⟨_, _, rfl, HA.out.below hbw (Nat.le_refl _), HB.out.below hbw (Nat.le_refl _)⟩ HN.out hl hl2).mono ?_
  rintro e w2 ⟨rfl, hb2⟩
  go_wp2
  go_ret
  exact ⟨rfl, hbw.trans (hb2.mono hbw.size)⟩

/-- whether a number has too many digits -/
def bigZ (n d : Nat) : Bool := decide (2000 < Lib.nDigits n) || decide (2000 < Lib.nDigits d)

set_option maxRecDepth 100000 in
theorem refBig_small (v : Value) (s : Bool) (n d : Nat) (w : World) (hv : CR w v s n d) (hl : (dig n).length ≤ 549755813888) (hl2 : (dig d).length ≤ 549755813888) (h1 : Lib.nDigits n ≤ 2000) (h2 : Lib.nDigits d ≤ 2000) :
    Calls Tryz.prog 129 #[v] w fun e w' => e = .returned (.bool false) ∧ Below w.heap.size w w' := by
  obtain ⟨va, vb, vc, vd, rfl, ha, hb, hc, hdd⟩ := hv
  have HA := Lib.hid ha; have HB := Lib.hid hb; have HC := Lib.hid hc; have HD := Lib.hid hdd
  obtain ⟨aa, ca, rfl⟩ := ha.cases
  obtain ⟨ab, cb, rfl⟩ := hb.cases
  obtain ⟨ac, cc, rfl⟩ := hc.cases
  obtain ⟨ad, cd, rfl⟩ := hdd.cases
  clear ha hb hc hdd
  have k1 : decide (2000 < Lib.nDigits n) = false := decide_eq_false (by omega)
  have k2 : decide (2000 < Lib.nDigits d) = false := decide_eq_false (by omega)
  have k3 : decide (2000 < Lib.nDigits 0) = false := by rw [Lib.nDigits_small (by decide)]; rfl
  have k4 : decide (2000 < Lib.nDigits 1) = false := by rw [Lib.nDigits_small (by decide)]; rfl
  have l3 : (dig 0).length ≤ 549755813888 := by rw [dig_zero]; simp
  have l4 : (dig 1).length ≤ 549755813888 := by rw [dig_small (by decide) (by decide)]; simp
  have hg := fun (s : Bool) (vd : Value) (n : Nat) (W : World) => long_any s vd n W
  have HG := Lib.hid hg
  have g1 := fun W (h : MV W (.slice aa (dig n).length ca) n) => by have := HG.out s _ n W h hl; rwa [k1] at this
  have g2 := fun W (h : MV W (.slice ab (dig d).length cb) d) => by have := HG.out false _ d W h hl2; rwa [k2] at this
  have g3 := fun W (h : MV W (.slice ac (dig 0).length cc) 0) => by have := HG.out false _ 0 W h l3; rwa [k3] at this
  have g4 := fun W (h : MV W (.slice ad (dig 1).length cd) 1) => by have := HG.out false _ 1 W h l4; rwa [k4] at this
  have G1 := Lib.hid g1; have G2 := Lib.hid g2; have G3 := Lib.hid g3; have G4 := Lib.hid g4
  clear hg g1 g2 g3 g4 k1 k2 k3 k4 l3 l4 h1 h2
  have hal := (Below.refl w.heap.size w).alloc (Nat.le_refl _) (.cells #[.bool s, .slice aa (dig n).length ca, .bool false, .slice ab (dig d).length cb, .bool false, .slice ac (dig 0).length cc, .bool false, .slice ad (dig 1).length cd] 122)
  go_enter Tryz.func129, Tryz.ntmps129
  go_wp2_with fail
  refine (G1.out _ (HA.out.below hal (Nat.le_refl _))).mono ?_
  rintro e w1 ⟨rfl, hb1⟩
  have hbw := hal.trans (hb1.mono (by simp))
  have q2 : w1.cell? ⟨w.heap.size, 2, none⟩ = some (.bool false) := box_keep hb1 (by simp) 2
  have q3 : w1.cell? ⟨w.heap.size, 3, none⟩ = some (.slice ab (dig d).length cb) := box_keep hb1 (by simp) 3
  go_wp2_with fail
  refine (G2.out _ (HB.out.below hbw (Nat.le_refl _))).mono ?_
  rintro e w2 ⟨rfl, hb2⟩
  have hbx := hb1.trans (hb2.mono hb1.size)
  have hbw2 := hbw.trans (hb2.mono hbw.size)
  clear q2 q3
  have q4 : w2.cell? ⟨w.heap.size, 4, none⟩ = some (.bool false) := box_keep hbx (by simp) 4
  have q5 : w2.cell? ⟨w.heap.size, 5, none⟩ = some (.slice ac (dig 0).length cc) := box_keep hbx (by simp) 5
  go_wp2_with fail
  refine (G3.out _ (HC.out.below hbw2 (Nat.le_refl _))).mono ?_
  rintro e w3 ⟨rfl, hb3⟩
  have hbx2 := hbx.trans (hb3.mono hbx.size)
  have hbw3 := hbw2.trans (hb3.mono hbw2.size)
  clear q4 q5
  have q6 : w3.cell? ⟨w.heap.size, 6, none⟩ = some (.bool false) := box_keep hbx2 (by simp) 6
  have q7 : w3.cell? ⟨w.heap.size, 7, none⟩ = some (.slice ad (dig 1).length cd) := box_keep hbx2 (by simp) 7
  go_wp2_with fail
  refine (G4.out _ (HD.out.below hbw3 (Nat.le_refl _))).mono ?_
  rintro e w4 ⟨rfl, hb4⟩
  go_wp2
  go_ret
  exact ⟨rfl, hbw3.trans (hb4.mono hbw3.size)⟩

set_option maxRecDepth 100000 in
theorem refPut_small (v : Value) (s : Bool) (n d : Nat) (w : World) (hv : CR w v s n d) (hd : d ≠ 0) (hl : (dig n).length ≤ 549755813888) (hl2 : (dig d).length ≤ 549755813888) (h1 : Lib.nDigits n ≤ 2000) (h2 : Lib.nDigits d ≤ 2000) :
    Calls Tryz.prog 75 #[v] w fun e w' => e = .returned (.tuple #[.string (qT s n d), .int .i64 0]) ∧ Below w.heap.size w w' := by
  obtain ⟨va, vb, vc, vd, rfl, ha, hb, hc, hdd⟩ := hv
  have HCR : Hid (CR w (.agg #[.bool s, va, .bool false, vb, .bool false, vc, .bool false, vd]) s n d) := ⟨va, vb, vc, vd, rfl, ha, hb, hc, hdd⟩
  obtain ⟨aa, ca, rfl⟩ := ha.cases
  obtain ⟨ab, cb, rfl⟩ := hb.cases
  obtain ⟨ac, cc, rfl⟩ := hc.cases
  obtain ⟨ad, cd, rfl⟩ := hdd.cases
  clear ha hb hc hdd
  have HN := Lib.hid hd; clear hd
  have hal := (Below.refl w.heap.size w).alloc (Nat.le_refl _) (.cells #[.bool s, .slice aa (dig n).length ca, .bool false, .slice ab (dig d).length cb, .bool false, .slice ac (dig 0).length cc, .bool false, .slice ad (dig 1).length cd] 122)
  go_enter Tryz.func75, Tryz.ntmps75
  go_wp2_with fail
  refine (refBig_small _ s n d _ (HCR.out.below hal (Nat.le_refl _)) hl hl2 h1 h2).mono ?_
  rintro e w1 ⟨rfl, hb1⟩
  have hbw := hal.trans (hb1.mono (by simp))
  have q0 : w1.cell? ⟨w.heap.size, 0, none⟩ = some (.bool s) := box_keep hb1 (by simp) 0
  have q1 : w1.cell? ⟨w.heap.size, 1, none⟩ = some (.slice aa (dig n).length ca) := box_keep hb1 (by simp) 1
  have q2 : w1.cell? ⟨w.heap.size, 2, none⟩ = some (.bool false) := box_keep hb1 (by simp) 2
  have q3 : w1.cell? ⟨w.heap.size, 3, none⟩ = some (.slice ab (dig d).length cb) := box_keep hb1 (by simp) 3
  have q4 : w1.cell? ⟨w.heap.size, 4, none⟩ = some (.bool false) := box_keep hb1 (by simp) 4
  have q5 : w1.cell? ⟨w.heap.size, 5, none⟩ = some (.slice ac (dig 0).length cc) := box_keep hb1 (by simp) 5
  have q6 : w1.cell? ⟨w.heap.size, 6, none⟩ = some (.bool false) := box_keep hb1 (by simp) 6
  have q7 : w1.cell? ⟨w.heap.size, 7, none⟩ = some (.slice ad (dig 1).length cd) := box_keep hb1 (by simp) 7
  go_wp2_with fail
  refine (refText_any _ s n d _ (HCR.out.below hbw (Nat.le_refl _)) HN.out hl hl2).mono ?_
  rintro e w2 ⟨rfl, hb2⟩
  go_wp2
  go_ret2
  exact ⟨rfl, hbw.trans (hb2.mono hbw.size)⟩
end Go.Proofs.YtbjhjbjjfbmoeaaGreatDoor.Z4
