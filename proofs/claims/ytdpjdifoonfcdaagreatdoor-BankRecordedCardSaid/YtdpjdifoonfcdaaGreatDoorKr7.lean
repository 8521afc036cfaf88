/- Parts of a proof, in build order: Mg, Mi, Co, Cp, Cr, Cs. -/
import Derived.Test.YtdpjdifoonfcdaaGreatDoorKr6

namespace Go.Proofs.YtdpjdifoonfcdaaGreatDoor
open Go.RowKit
theorem Blk.setAt {W : World} {B : Nat} {t : TypeId} {cs : Array Value} (h : Blk W B t cs) (i : Nat) (u : Value) : Blk (W.setCell ⟨B, i, none⟩ u) B t (cs.setIfInBounds i u) := by
 have := heap_setCell_same W B i cs t u h
 exact this
theorem Blk.cell {W : World} {B : Nat} {t : TypeId} {cs : Array Value} (h : Blk W B t cs) (i : Nat) : W.cell? ⟨B, i, none⟩ = cs[i]? := by simp [World.cell?, show W.heap[B]? = _ from h]
theorem flat_get {cs : List (List Value)} (h : ∀ c ∈ cs, c.length = 6) {k j : Nat} {c : List Value} {u : Value} (hk : cs[k]? = some c) (hj : c[j]? = some u) : cs.flatten[k * 6 + j]? = some u := by
 induction cs generalizing k with
 | nil => simp at hk
 | cons d r ih =>
   have hd := h d (by simp)
   cases k with
   | zero =>
     simp at hk; subst hk
     rw [Nat.zero_mul, Nat.zero_add, List.flatten_cons, List.getElem?_append_left (List.getElem?_eq_some_iff.1 hj).1]
     exact hj
   | succ k =>
     rw [List.flatten_cons, List.getElem?_append_right (by rw [hd]; omega), hd, show (k + 1) * 6 + j - 6 = k * 6 + j by omega]
     exact ih (fun x hx => h x (by simp [hx])) (by simpa using hk)
theorem NRow.six {w : World} {cs : List (List Value)} {l : List (Bool × Nat × Nat)} (h : NRow w cs l) : ∀ c ∈ cs, c.length = 6 := fun c hc => by
 obtain ⟨i, hi⟩ := List.getElem?_of_mem hc
 obtain ⟨t, ht⟩ := get_of_lt (show i < l.length by rw [<- h.1]; exact (List.getElem?_eq_some_iff.1 hi).1)
 exact (h.2 i c t hi ht).six
def sumStep (a t : Bool × Nat × Nat) : Bool × Nat × Nat := (rpS a.1 a.2.1 a.2.2 t.1 t.2.1 t.2.2, rpN a.1 a.2.1 a.2.2 t.1 t.2.1 t.2.2, rpD a.1 a.2.1 a.2.2 t.1 t.2.1 t.2.2)
def sumQ (l : List (Bool × Nat × Nat)) : Bool × Nat × Nat := l.foldl sumStep (false, 0, 1)
theorem sumQ_snoc (l : List (Bool × Nat × Nat)) (t : Bool × Nat × Nat) : sumQ (l ++ [t]) = sumStep (sumQ l) t := by simp [sumQ, List.foldl_append]
def Short (t : Bool × Nat × Nat) : Prop := (dig t.2.1).length <= 300 /\ (dig t.2.2).length <= 300 /\ t.2.2 ≠ 0
theorem rp_bd {s1 : Bool} {n1 d1 : Nat} {s2 : Bool} {n2 d2 k : Nat} (h1 : (dig n1).length <= k) (h2 : (dig d1).length <= k) (h3 : (dig n2).length <= 300) (h4 : (dig d2).length <= 300) (hd1 : d1 ≠ 0) (hd2 : d2 ≠ 0) :
 (dig (rpN s1 n1 d1 s2 n2 d2)).length <= k + 301 /\ (dig (rpD s1 n1 d1 s2 n2 d2)).length <= k + 301 /\ rpD s1 n1 d1 s2 n2 d2 ≠ 0 := by
 have m1 := dig_mul_len n1 d2
 have m2 := dig_mul_len n2 d1
 have m3 := dig_mul_len d1 d2
 have m4 := dig_len_mono (adN_le s1 (n1 * d2) s2 (n2 * d1))
 have m5 := dig_add_len (a := n1 * d2) (b := n2 * d1) (k := k + 300) (by omega) (by omega)
 have e1 : rpN s1 n1 d1 s2 n2 d2 <= rpU s1 n1 d1 s2 n2 d2 := Nat.div_le_self _ _
 have e2 : rpD s1 n1 d1 s2 n2 d2 <= d1 * d2 := Nat.div_le_self _ _
 have e3 := dig_len_mono e1
 have e4 := dig_len_mono e2
 have hd0 : d1 * d2 ≠ 0 := Nat.mul_ne_zero hd1 hd2
 refine ⟨by unfold rpU at e3; omega, by omega, ?_⟩
 have h5 : 0 < Nat.gcd (rpU s1 n1 d1 s2 n2 d2) (d1 * d2) := Nat.gcd_pos_of_pos_right _ (by omega)
 have := Nat.div_pos (Nat.le_of_dvd (by omega) (Nat.gcd_dvd_right (rpU s1 n1 d1 s2 n2 d2) (d1 * d2))) h5
 unfold rpD; omega
theorem sumQ_bd (l : List (Bool × Nat × Nat)) (h : ∀ t ∈ l, Short t) : ∀ k, k <= l.length -> (dig (sumQ (l.take k)).2.1).length <= 301 * k + 1 /\ (dig (sumQ (l.take k)).2.2).length <= 301 * k + 1 /\ (sumQ (l.take k)).2.2 ≠ 0 := by
 intro k
 induction k with
 | zero => intro _; exact ⟨by simp [sumQ, dig_zero], by simp [sumQ, dig_1], by simp [sumQ]⟩
 | succ k ih =>
   intro hk
   obtain ⟨i1, i2, i3⟩ := ih (by omega)
   obtain ⟨t, ht⟩ := get_of_lt (show k < l.length by omega)
   obtain ⟨t1, t2, t3⟩ := h t (List.mem_of_getElem? ht)
   rw [take_get ht, sumQ_snoc]
   have := rp_bd (s1 := (sumQ (l.take k)).1) (s2 := t.1) i1 i2 t1 t2 i3 t3
   exact ⟨by simp only [sumStep]; omega, by simp only [sumStep]; omega, this.2.2⟩
theorem bigQ_short {s : Bool} {n d : Nat} (h : bigQ n d = false) (hd : d ≠ 0) : Short (s, n, d) := by
 unfold bigQ at h
 rw [Bool.or_eq_false_iff, decide_eq_false_iff_not, decide_eq_false_iff_not] at h
 have h1 : ∀ m : Nat, Lib.nDigits m <= 2000 -> (dig m).length <= 300 := by
  intro m hm
  by_cases h0 : m = 0
  · subst h0; rw [dig_zero]; simp
  · have hp : 0 < (dig m).length := by have := mt dig_len_pos.1 h0; omega
    obtain ⟨t, ht⟩ := get_of_lt (show (dig m).length - 1 < (dig m).length by omega)
    have := size_dig_eq ht
    omega
 exact ⟨h1 n (by omega), h1 d (by omega), hd⟩
theorem getR_short {s : ByteArray} {t : Bool × Nat × Nat} (h : getR s = some t) : Short t := by
 unfold getR at h
 split at h
 · cases h
 · unfold ownD at h
   rcases hp : parseR s.data.toList with _ | ⟨m, n, d⟩
   · rw [hp] at h; cases h
   · rw [hp] at h
     simp only at h
     split at h
     · rename_i hc
       rw [<- Option.some.inj h]
       obtain ⟨_, _, hd0⟩ := parseR_bd hp
       refine bigQ_short hc.2 ?_
       have h3 : 0 < Nat.gcd n d := Nat.gcd_pos_of_pos_right _ (by omega)
       have := Nat.div_pos (Nat.le_of_dvd (by omega) (Nat.gcd_dvd_right n d)) h3
       omega
     · cases h
theorem getL_short {ss : List ByteArray} {l : List (Bool × Nat × Nat)} (h : getL ss = some l) : ∀ t ∈ l, Short t := by
 induction ss generalizing l with
 | nil => simp only [getL, Option.some.injEq] at h; subst h; simp
 | cons x r ih =>
   simp only [getL] at h
   cases hx : getR x with
   | none => rw [hx] at h; cases h
   | some u =>
     rw [hx] at h
     cases hr : getL r with
     | none => rw [hr] at h; cases h
     | some m =>
       rw [hr] at h
       simp only [Option.some.injEq] at h
       subst h
       intro t ht
       rcases List.mem_cons.1 ht with rfl | ht
       · exact getR_short hx
       · exact ih hr t ht
def SumRes (ss : List ByteArray) (w : World) (e : Ending) (w' : World) : Prop :=
 (match getL ss with
  | none => e = .returned (.tuple #[.string ⟨#[]⟩, .int .i64 10])
  | some l => e = .returned (.tuple #[.string (putT (sumQ l).1 (sumQ l).2.1 (sumQ l).2.2), .int .i64 (putE (sumQ l).2.1 (sumQ l).2.2)])) /\ Below w.heap.size w w'
theorem sumRes_none {ss : List ByteArray} {w w' : World} (h : getL ss = none) (hb : Below w.heap.size w w') : SumRes ss w (.returned (.tuple #[.string ⟨#[]⟩, .int .i64 10])) w' := ⟨by rw [h], hb⟩
theorem sumRes_some {ss : List ByteArray} {w w' : World} {l : List (Bool × Nat × Nat)} {q : Bool × Nat × Nat} (h : getL ss = some l) (hq : sumQ l = q) (hb : Below w.heap.size w w') : SumRes ss w (.returned (.tuple #[.string (putT q.1 q.2.1 q.2.2), .int .i64 (putE q.2.1 q.2.2)])) w' := ⟨by subst hq; rw [h], hb⟩
set_option maxRecDepth 100000 in
set_option maxHeartbeats 2000000 in
theorem sum_any (ao : Option Addr) (ss : List ByteArray) (cap : Nat) (w : World) (ht : Tab w) (hc : Cells w ao (ss.map Value.string)) (hl : ss.length <= 4096) (hs : ∀ s ∈ ss, s.size <= 1099511627776 /\ Lib.hasSuffix s.data.toList [105] = false) :
 Calls Tryz.prog 69 #[.slice ao ss.length cap] w (SumRes ss w) := by
 have hall := all_get ao ss cap w ht hc (by omega) hs
 have HALL := Lib.hid hall; have HT := Lib.hid ht
 clear hall ht hc hs
 go_enter Tryz.func69, Tryz.ntmps69
 go_wp2_with fail
 refine HALL.out.mono ?_
 rintro e w1 ⟨hm, hb1⟩
 rcases hgl : getL ss with _ | l
 · rw [hgl] at hm
   subst hm
   have HGL := Lib.hid hgl
   clear hgl
   go_wp2
   go_ret2
   exact sumRes_none HGL.out hb1
 · rw [hgl] at hm
   obtain ⟨a, c, cs, rfl, hcc, hnr⟩ := hm
   have hlen := getL_len hgl
   have hbd := sumQ_bd l (getL_short hgl)
   have hsh := getL_short hgl
   have h6 := hnr.six
   have HGL := Lib.hid hgl; have HCC := Lib.hid hcc; have HNR := Lib.hid hnr; have HBD := Lib.hid hbd; have HSH := Lib.hid hsh; have H6 := Lib.hid h6
   have hl2 : l.length <= 4096 := by omega
   clear hgl hcc hnr hbd hsh h6 hlen
   have hwh := fun W => whole_any 0 W (by omega) (by omega)
   have HWH : Hid (∀ W, Calls Tryz.prog 82 #[.int .i64 0] W fun e w' => (∃ v, e = .returned v /\ RatV w' v false 0 1) /\ Below W.heap.size W w') := hwh
   clear hwh
   go_wp2_with fail
   refine (HWH.out _).mono ?_
   rintro e w2 ⟨⟨v2, rfl, hv2⟩, hb2⟩
   obtain ⟨z1, y1, z2, y2, rfl, k1, k2⟩ := hv2.slices
   go_wp2_with fail
   refine (plain_any false 0 1 _ _ hv2).mono ?_
   rintro e w3 ⟨⟨v3, rfl, hv3⟩, hb3⟩
   clear hv2 k1 k2
   obtain ⟨b1, d1, b2, d2, b3, d3, b4, d4, rfl, j1, j2, j3, j4⟩ := hv3.slices
   have hb13 : Below w1.heap.size w1 w3 := hb2.trans (hb3.mono hb2.size)
   have hbk0 := Blk.new w3 148 #[Value.bool false, .slice b1 (dig 0).length d1, .slice b2 (dig 1).length d2, .bool false, .slice b3 (dig 0).length d3, .slice b4 (dig 1).length d4]
   have hal3 := (Below.refl w3.heap.size w3).alloc (Nat.le_refl _) (.cells #[Value.bool false, .slice b1 (dig 0).length d1, .slice b2 (dig 1).length d2, .bool false, .slice b3 (dig 0).length d3, .slice b4 (dig 1).length d4] 148)
   have hnc0 : NCell (w3.alloc (.cells #[Value.bool false, .slice b1 (dig 0).length d1, .slice b2 (dig 1).length d2, .bool false, .slice b3 (dig 0).length d3, .slice b4 (dig 1).length d4] 148)) [.bool false, .slice b1 (dig 0).length d1, .slice b2 (dig 1).length d2, .bool false, .slice b3 (dig 0).length d3, .slice b4 (dig 1).length d4] (sumQ (l.take 0)) := ⟨b1, d1, b2, d2, b3, d3, b4, d4, rfl, j1.below hal3 (Nat.le_refl _), j2.below hal3 (Nat.le_refl _), j3.below hal3 (Nat.le_refl _), j4.below hal3 (Nat.le_refl _)⟩
   have hb14 := hb13.alloc hb13.size (.cells #[Value.bool false, .slice b1 (dig 0).length d1, .slice b2 (dig 1).length d2, .bool false, .slice b3 (dig 0).length d3, .slice b4 (dig 1).length d4] 148)
   have HBK0 := Lib.hid hbk0; have HNC0 := Lib.hid hnc0; have HB14 := Lib.hid hb14
   have hsz3 := hb13.size
   clear hv3 j1 j2 j3 j4 hbk0 hnc0 hb14 hal3 hb13 hb2 hb3
   go_wp2_with fail
   go_loopw [23] (fun iv wr => ∃ (k : Nat) (cc : List Value), k <= l.length /\ iv = .int .i64 k /\ NCell wr cc (sumQ (l.take k)) /\ Blk wr w3.heap.size 148 cc.toArray /\ Below w1.heap.size w1 wr) (fun iv _ => l.length - (intOf iv).toNat)
   case atStart => exact ⟨0, _, Nat.zero_le _, rfl, HNC0.out, HBK0.out, HB14.out⟩
   case round =>
    clear HBK0 HNC0 HB14
    obtain ⟨k, cq, hk, rfl, hnc, hbk, hbw⟩ := hrel
    obtain ⟨i1, i2, i3⟩ := HBD.out k hk
    have hblt := hbk.lt
    obtain ⟨q, hq⟩ : ∃ q, sumQ (l.take k) = q := ⟨_, rfl⟩
    rw [hq] at hnc i1 i2 i3
    obtain ⟨sq, nq, dq⟩ := q
    have HQ := Lib.hid hq
    have hqv : ValV wr (.agg cq.toArray) sq nq dq false 0 1 := by
     obtain ⟨b1, d1, b2, d2, b3, d3, b4, d4, rfl, j1, j2, j3, j4⟩ := hnc
     exact ⟨_, _, _, _, rfl, j1, j2, j3, j4⟩
    obtain ⟨b1, d1, b2, d2, b3, d3, b4, d4, rfl, j1, j2, j3, j4⟩ := hnc
    simp only at hqv i1 i2 i3
    have HQV := Lib.hid hqv; have HBK := Lib.hid hbk
    have y0 : wr.cell? ⟨w3.heap.size, 0, none⟩ = some (.bool sq) := hbk.cell 0
    have y1 : wr.cell? ⟨w3.heap.size, 1, none⟩ = some (.slice b1 (dig nq).length d1) := hbk.cell 1
    have y2 : wr.cell? ⟨w3.heap.size, 2, none⟩ = some (.slice b2 (dig dq).length d2) := hbk.cell 2
    have y3 : wr.cell? ⟨w3.heap.size, 3, none⟩ = some (.bool false) := hbk.cell 3
    have y4 : wr.cell? ⟨w3.heap.size, 4, none⟩ = some (.slice b3 (dig 0).length d3) := hbk.cell 4
    have y5 : wr.cell? ⟨w3.heap.size, 5, none⟩ = some (.slice b4 (dig 1).length d4) := hbk.cell 5
    clear j1 j2 j3 j4 hqv hbk hq
    by_cases hlt : k < l.length
    · obtain ⟨t, ht⟩ := get_of_lt hlt
      obtain ⟨te, htc⟩ := get_of_lt (show k < cs.length by rw [HNR.out.1]; exact hlt)
      have hnce := (HNR.out.2 k te t htc ht).below hbw (Nat.le_refl _)
      obtain ⟨t1, t2, t3⟩ := HSH.out t (List.mem_of_getElem? ht)
      have htk := take_get ht
      obtain ⟨se, ne, de⟩ := t
      have hev : ValV wr (.agg te.toArray) se ne de false 0 1 := by
       obtain ⟨b1, d1, b2, d2, b3, d3, b4, d4, rfl, j1, j2, j3, j4⟩ := hnce
       exact ⟨_, _, _, _, rfl, j1, j2, j3, j4⟩
      obtain ⟨a1, c1, a2, c2, a3, c3, a4, c4, rfl, j1, j2, j3, j4⟩ := hnce
      simp only at hev t1 t2 t3
      have hfl := HNR.out.flat_len
      obtain ⟨ba, offa, rfl⟩ := HCC.out.addr (by intro h; rw [h] at hfl; simp at hfl; omega)
      have x0 : wr.cell? ⟨ba, offa + k * 6, none⟩ = some (.bool se) := by have := HCC.out.at (flat_get H6.out htc (j := 0) rfl); have := cell_keep this hbw (Nat.le_refl _); rwa [<- Nat.add_assoc] at this
      have x1 : wr.cell? ⟨ba, offa + k * 6 + 1, none⟩ = some (.slice a1 (dig ne).length c1) := by have := HCC.out.at (flat_get H6.out htc (j := 1) rfl); have := cell_keep this hbw (Nat.le_refl _); rwa [<- Nat.add_assoc] at this
      have x2 : wr.cell? ⟨ba, offa + k * 6 + 2, none⟩ = some (.slice a2 (dig de).length c2) := by have := HCC.out.at (flat_get H6.out htc (j := 2) rfl); have := cell_keep this hbw (Nat.le_refl _); rwa [<- Nat.add_assoc] at this
      have x3 : wr.cell? ⟨ba, offa + k * 6 + 3, none⟩ = some (.bool false) := by have := HCC.out.at (flat_get H6.out htc (j := 3) rfl); have := cell_keep this hbw (Nat.le_refl _); rwa [<- Nat.add_assoc] at this
      have x4 : wr.cell? ⟨ba, offa + k * 6 + 4, none⟩ = some (.slice a3 (dig 0).length c3) := by have := HCC.out.at (flat_get H6.out htc (j := 4) rfl); have := cell_keep this hbw (Nat.le_refl _); rwa [<- Nat.add_assoc] at this
      have x5 : wr.cell? ⟨ba, offa + k * 6 + 5, none⟩ = some (.slice a4 (dig 1).length c4) := by have := HCC.out.at (flat_get H6.out htc (j := 5) rfl); have := cell_keep this hbw (Nat.le_refl _); rwa [<- Nat.add_assoc] at this
      have hsn : sumQ (l.take (k + 1)) = (rpS sq nq dq se ne de, rpN sq nq dq se ne de, rpD sq nq dq se ne de) := by rw [htk, sumQ_snoc, HQ.out]; rfl
      have HSN := Lib.hid hsn; have HEV := Lib.hid hev
      have i0 : (k : Int) < l.length := by omega
      clear htk htc ht hev j1 j2 j3 j4 hfl hsn
      obtain ⟨ps, hps⟩ : ∃ ps, ps = rpS sq nq dq se ne de := ⟨_, rfl⟩
      obtain ⟨pn, hpn⟩ : ∃ pn, pn = rpN sq nq dq se ne de := ⟨_, rfl⟩
      obtain ⟨pd, hpd⟩ : ∃ pd, pd = rpD sq nq dq se ne de := ⟨_, rfl⟩
      have HPL : Hid (∀ W, Below wr.heap.size wr W -> Calls Tryz.prog 138 #[.agg #[.bool sq, .slice b1 (dig nq).length d1, .slice b2 (dig dq).length d2, .bool false, .slice b3 (dig 0).length d3, .slice b4 (dig 1).length d4], .agg #[.bool se, .slice a1 (dig ne).length c1, .slice a2 (dig de).length c2, .bool false, .slice a3 (dig 0).length c3, .slice a4 (dig 1).length c4]] W (ValRes ps pn pd W)) := fun W hb => by
       rw [hps, hpn, hpd]
       exact valPlus_any _ _ sq nq dq se ne de W (HQV.out.below hb (Nat.le_refl _)) (HEV.out.below hb (Nat.le_refl _)) i3 t3 (by omega) (by omega) (by omega) (by omega)
      rw [<- hps, <- hpn, <- hpd] at HSN
      clear hps hpn hpd
      have n1 : ¬ w3.heap.size = wr.heap.size := by omega
      go_wp2_with fail
      refine (HPL.out _ ((Below.refl _ _).alloc (Nat.le_refl _) _)).mono ?_
      rintro e w5 ⟨⟨v5, rfl, hv5⟩, hb5⟩
      have hbx : Below wr.heap.size wr w5 := ((Below.refl _ _).alloc (Nat.le_refl _) _).trans (hb5.mono (by simp))
      obtain ⟨g1, i1, g2, i2, g3, i3, g4, i4, rfl, m1, m2, m3, m4⟩ := hv5.slices
      have hbk5 := HBK.out.below hbx hblt
      have z0 : w5.cell? ⟨w3.heap.size, 0, none⟩ = some (.bool sq) := hbk5.cell 0
      have z1 : w5.cell? ⟨w3.heap.size, 1, none⟩ = some (.slice b1 (dig nq).length d1) := hbk5.cell 1
      have z2 : w5.cell? ⟨w3.heap.size, 2, none⟩ = some (.slice b2 (dig dq).length d2) := hbk5.cell 2
      have z3 : w5.cell? ⟨w3.heap.size, 3, none⟩ = some (.bool false) := hbk5.cell 3
      have z4 : w5.cell? ⟨w3.heap.size, 4, none⟩ = some (.slice b3 (dig 0).length d3) := hbk5.cell 4
      have z5 : w5.cell? ⟨w3.heap.size, 5, none⟩ = some (.slice b4 (dig 1).length d4) := hbk5.cell 5
      have f0 : w5.frozen? ⟨w3.heap.size, 0, none⟩ = false := hbk5.free 0
      have f1 : w5.frozen? ⟨w3.heap.size, 1, none⟩ = false := hbk5.free 1
      have f2 : w5.frozen? ⟨w3.heap.size, 2, none⟩ = false := hbk5.free 2
      have f3 : w5.frozen? ⟨w3.heap.size, 3, none⟩ = false := hbk5.free 3
      have f4 : w5.frozen? ⟨w3.heap.size, 4, none⟩ = false := hbk5.free 4
      have f5 : w5.frozen? ⟨w3.heap.size, 5, none⟩ = false := hbk5.free 5
      have hbf := (((((hbk5.setAt 0 (.bool ps)).setAt 1 (.slice g1 (dig pn).length i1)).setAt 2 (.slice g2 (dig pd).length i2)).setAt 3 (.bool false)).setAt 4 (.slice g3 (dig 0).length i3)).setAt 5 (.slice g4 (dig 1).length i4)
      have M1 := m1.box6 (u0 := .bool ps) (u1 := .slice g1 (dig pn).length i1) (u2 := .slice g2 (dig pd).length i2) (u3 := .bool false) (u4 := .slice g3 (dig 0).length i3) (u5 := .slice g4 (dig 1).length i4) z0 z1 z2 z3 z4 z5 trivial trivial trivial trivial trivial trivial
      have M2 := m2.box6 (u0 := .bool ps) (u1 := .slice g1 (dig pn).length i1) (u2 := .slice g2 (dig pd).length i2) (u3 := .bool false) (u4 := .slice g3 (dig 0).length i3) (u5 := .slice g4 (dig 1).length i4) z0 z1 z2 z3 z4 z5 trivial trivial trivial trivial trivial trivial
      have M3 := m3.box6 (u0 := .bool ps) (u1 := .slice g1 (dig pn).length i1) (u2 := .slice g2 (dig pd).length i2) (u3 := .bool false) (u4 := .slice g3 (dig 0).length i3) (u5 := .slice g4 (dig 1).length i4) z0 z1 z2 z3 z4 z5 trivial trivial trivial trivial trivial trivial
      have M4 := m4.box6 (u0 := .bool ps) (u1 := .slice g1 (dig pn).length i1) (u2 := .slice g2 (dig pd).length i2) (u3 := .bool false) (u4 := .slice g3 (dig 0).length i3) (u5 := .slice g4 (dig 1).length i4) z0 z1 z2 z3 z4 z5 trivial trivial trivial trivial trivial trivial
      have hbz := ((((((hbw.trans (hbx.mono hbw.size)).setCell (p := ⟨w3.heap.size, 0, none⟩) hsz3 (.bool ps)).setCell (p := ⟨w3.heap.size, 1, none⟩) hsz3 (.slice g1 (dig pn).length i1)).setCell (p := ⟨w3.heap.size, 2, none⟩) hsz3 (.slice g2 (dig pd).length i2)).setCell (p := ⟨w3.heap.size, 3, none⟩) hsz3 (.bool false)).setCell (p := ⟨w3.heap.size, 4, none⟩) hsz3 (.slice g3 (dig 0).length i3)).setCell (p := ⟨w3.heap.size, 5, none⟩) hsz3 (.slice g4 (dig 1).length i4)
      have HBF := Lib.hid hbf; have HM1 := Lib.hid M1; have HM2 := Lib.hid M2; have HM3 := Lib.hid M3; have HM4 := Lib.hid M4; have HBZ := Lib.hid hbz
      clear hbf M1 M2 M3 M4 hbz m1 m2 m3 m4 hv5 hb5 hbk5 hbx y0 y1 y2 y3 y4 y5 x0 x1 x2 x3 x4 x5 n1
      go_wp2_with fail
      go_roundw
      case rel => exact ⟨k + 1, _, by omega, by go_num, by rw [HSN.out]; exact ⟨g1, i1, g2, i2, g3, i3, g4, i4, rfl, HM1.out, HM2.out, HM3.out, HM4.out⟩, HBF.out, HBZ.out⟩
      case measure => simp [intOf]; omega
    · obtain rfl : k = l.length := by omega
      have hq2 : sumQ l = (sq, nq, dq) := by have := HQ.out; rwa [List.take_length] at this
      have HQ2 := Lib.hid hq2
      have hput := fun W h1 h2 => put_any (.agg #[.bool sq, .slice b1 (dig nq).length d1, .slice b2 (dig dq).length d2, .bool false, .slice b3 (dig 0).length d3, .slice b4 (dig 1).length d4]) sq nq dq false W h1 h2 (by omega) (by omega) i3
      have HPUT := Lib.hid hput
      have HTT := Lib.hid (HT.out.below (hb1.trans (hbw.mono hb1.size)) (Nat.le_refl _))
      have i0 : ¬ (l.length : Int) < l.length := by omega
      clear hq2 hput
      go_wp2_with fail
      refine (HPUT.out _ HQV.out HTT.out).mono ?_
      rintro e w5 ⟨rfl, hb5⟩
      have hbf := hb1.trans ((hbw.trans (hb5.mono hbw.size)).mono hb1.size)
      clear y0 y1 y2 y3 y4 y5
      go_wp2_with fail
      go_ret2
      exact sumRes_some HGL.out HQ2.out hbf
end Go.Proofs.YtdpjdifoonfcdaaGreatDoor

namespace Go.Proofs.YtdpjdifoonfcdaaGreatDoor
open Go.RowKit
theorem ib_none {l : List UInt8} (h : ∀ b ∈ l, b ≠ 47) : Lib.indexByte l 47 = -1 := by
 induction l with
 | nil => rfl
 | cons b l ih =>
   have h1 := ih (fun x hx => h x (by simp [hx]))
   have h2 : (b == 47) = false := by simpa using h b (by simp)
   rw [Lib.indexByte, h2, h1]; rfl
theorem ib_some {l r : List UInt8} (h : ∀ b ∈ l, b ≠ 47) : Lib.indexByte (l ++ 47 :: r) 47 = l.length := by
 induction l with
 | nil => rfl
 | cons b l ih =>
   have h1 := ih (fun x hx => h x (by simp [hx]))
   have h2 : (b == 47) = false := by simpa using h b (by simp)
   rw [List.cons_append, Lib.indexByte, h2, h1]
   have h3 : (((l.length : Nat) : Int) == -1) = false := by rw [beq_eq_false_iff_ne]; omega
   rw [h3, List.length_cons]
   simp
theorem cut_none {l : List UInt8} (h : ∀ b ∈ l, b ≠ 47) : Lib.cut l [47] = (l, [], false) := by
 unfold Lib.cut
 rw [Lib.index_one, ib_none h, if_neg (by omega)]
theorem cut_some {l r : List UInt8} (h : ∀ b ∈ l, b ≠ 47) : Lib.cut (l ++ 47 :: r) [47] = (l, r, true) := by
 unfold Lib.cut
 rw [Lib.index_one, ib_some h, if_pos (by omega)]
 simp
theorem dg_ne {b : UInt8} (h : isDg b = true) : b ≠ 47 /\ b ≠ 45 /\ b ≠ 105 := by
 simp only [isDg, Bool.and_eq_true, decide_eq_true_eq] at h
 refine ⟨?_, ?_, ?_⟩ <;> (rintro rfl; simp at h)
theorem dec_dg (n : Nat) : ∀ b ∈ Lib.decDigits n, isDg b = true := fun b hb => List.all_eq_true.1 (dec_read n).1 b hb
theorem ratT_list (s : Bool) (n d : Nat) : (ratT s n d).data.toList = (if s = true then [45] else []) ++ (Lib.decDigits n ++ if d = 1 then [] else 47 :: Lib.decDigits d) := by
 unfold ratT sgT decB
 cases s <;> by_cases hd : d = 1 <;> simp [hd, ByteArray.data_append]
theorem ratT_size (s : Bool) (n d : Nat) : (ratT s n d).size <= Lib.nDigits n + Lib.nDigits d + 2 := by
 have h : (ratT s n d).size = (ratT s n d).data.toList.length := rfl
 rw [h, ratT_list]
 have h1 := Lib.decDigits_length n
 have h2 := Lib.decDigits_length d
 simp only [List.length_append]
 split <;> split <;> simp <;> omega
theorem ratT_noI (s : Bool) (n d : Nat) : Lib.hasSuffix (ratT s n d).data.toList [105] = false := by
 rw [ratT_list]
 unfold Lib.hasSuffix
 have key : ∀ (p : List UInt8) (q : List UInt8), q ≠ [] -> (∀ b ∈ q, isDg b = true) -> [105].isSuffixOf (p ++ q) = false := by
  intro p q hq hd
  rw [Bool.eq_false_iff]
  intro h
  have h1 := List.isSuffixOf_iff_suffix.1 h
  obtain ⟨r, hr⟩ := h1
  have h2 := congrArg List.getLast? hr
  rw [List.getLast?_append, List.getLast?_append, List.getLast?_eq_some_getLast hq] at h2
  simp only [List.getLast?_singleton, Option.some_or, Option.some.injEq] at h2
  have h3 := List.getLast_mem hq
  rw [<- h2] at h3
  exact (dg_ne (hd _ h3)).2.2 rfl
 have hn := (dec_read n).2.2
 by_cases hd : d = 1
 · rw [if_pos hd, List.append_nil]
   exact key _ _ hn (dec_dg n)
 · rw [if_neg hd]
   have := key ((if s = true then [45] else []) ++ (Lib.decDigits n ++ [47])) (Lib.decDigits d) (dec_read d).2.2 (dec_dg d)
   simpa using this
theorem parseR_own (s : Bool) (n d : Nat) (hd : d ≠ 0) : parseR (ratT s n d).data.toList = some (s, n, d) := by
 rw [ratT_list]
 have hne : ∀ b ∈ Lib.decDigits n, b ≠ 47 := fun b hb => (dg_ne (dec_dg n b hb)).1
 have hpre : Lib.hasPrefix ((if s = true then [45] else []) ++ (Lib.decDigits n ++ if d = 1 then [] else 47 :: Lib.decDigits d)) [45] = s := by
  cases s
  · obtain ⟨c, r, hc⟩ := List.exists_cons_of_ne_nil (dec_read n).2.2
    have hc45 : c ≠ 45 := (dg_ne (dec_dg n c (by rw [hc]; simp))).2.1
    have : (45 == c) = false := by rw [beq_eq_false_iff_ne]; exact fun h => hc45 h.symm
    simp [Lib.hasPrefix, hc, List.isPrefixOf, this]
  · simp [Lib.hasPrefix, List.isPrefixOf]
 have htr : Lib.trimPrefix ((if s = true then [45] else []) ++ (Lib.decDigits n ++ if d = 1 then [] else 47 :: Lib.decDigits d)) [45] = Lib.decDigits n ++ if d = 1 then [] else 47 :: Lib.decDigits d := by
  unfold Lib.trimPrefix
  rw [hpre]
  cases s <;> simp
 unfold parseR
 rw [hpre, htr]
 by_cases h1 : d = 1
 · rw [if_pos h1, List.append_nil, cut_none hne, parseD]
   simp only [natP_dec]
   simp [h1]
 · rw [if_neg h1, cut_some hne, parseD]
   simp only [natP_dec]
   simp [hd]
theorem getR_own {s : Bool} {n d : Nat} (hd : d ≠ 0) (hg : Nat.gcd n d = 1) (hs : n = 0 -> s = false) (hb : bigQ n d = false) : getR (ratT s n d) = some (s, n, d) := by
 have hb2 := hb
 unfold bigQ at hb2
 rw [Bool.or_eq_false_iff, decide_eq_false_iff_not, decide_eq_false_iff_not] at hb2
 have hsz := ratT_size s n d
 unfold getR
 rw [if_neg (by omega), parseR_own s n d hd]
 have hss : (s && decide (n ≠ 0)) = s := by
  by_cases h0 : n = 0
  · rw [hs h0]; rfl
  · simp [h0]
 simp only [ownD, hss, hg, Nat.div_one]
 rw [if_pos ⟨trivial, hb⟩]
def redI (n : Int) (d : Nat) : Bool × Nat × Nat := (decide (n < 0), n.natAbs / Nat.gcd n.natAbs d, d / Nat.gcd n.natAbs d)
def sgI (s : Bool) (n : Nat) : Int := if s = true then -(n : Int) else (n : Int)
theorem redI_scale (n : Int) (d k : Nat) (hk : 0 < k) : redI (n * k) (d * k) = redI n d := by
 unfold redI
 have h1 : (n * (k : Int)).natAbs = n.natAbs * k := by rw [Int.natAbs_mul, Int.natAbs_natCast]
 have h2 : decide (n * (k : Int) < 0) = decide (n < 0) := by
  rw [Bool.eq_iff_iff, decide_eq_true_iff, decide_eq_true_iff]
  constructor
  · intro h
    rcases Int.lt_or_le n 0 with h3 | h3
    · exact h3
    · have := Int.mul_nonneg h3 (show (0 : Int) <= k by omega); omega
  · intro h; exact Int.mul_neg_of_neg_of_pos h (by omega)
 rw [h1, h2, Nat.gcd_mul_right]
 rw [Nat.mul_div_mul_right _ _ hk, Nat.mul_div_mul_right _ _ hk]
theorem redI_gcd {n : Int} {d : Nat} (hd : d ≠ 0) : (redI n d).2.2 ≠ 0 /\ Nat.gcd (redI n d).2.1 (redI n d).2.2 = 1 /\ ((redI n d).2.1 = 0 -> (redI n d).1 = false) /\ sgI (redI n d).1 (redI n d).2.1 * (Nat.gcd n.natAbs d : Nat) = n /\ (redI n d).2.2 * Nat.gcd n.natAbs d = d := by
 have hg : 0 < Nat.gcd n.natAbs d := Nat.gcd_pos_of_pos_right _ (by omega)
 have h1 := Nat.gcd_dvd_left n.natAbs d
 have h2 := Nat.gcd_dvd_right n.natAbs d
 have h3 : n.natAbs / Nat.gcd n.natAbs d * Nat.gcd n.natAbs d = n.natAbs := Nat.div_mul_cancel h1
 have h4 : d / Nat.gcd n.natAbs d * Nat.gcd n.natAbs d = d := Nat.div_mul_cancel h2
 refine ⟨?_, by show Nat.gcd (n.natAbs / Nat.gcd n.natAbs d) (d / Nat.gcd n.natAbs d) = 1; rw [Nat.gcd_div h1 h2, Nat.div_self hg], ?_, ?_, h4⟩
 · show d / Nat.gcd n.natAbs d ≠ 0
   intro h; rw [h] at h4; omega
 · intro h
   have h5 : n.natAbs / Nat.gcd n.natAbs d = 0 := h
   rw [h5] at h3
   show decide (n < 0) = false
   rw [decide_eq_false_iff_not]; omega
 · show sgI (decide (n < 0)) (n.natAbs / Nat.gcd n.natAbs d) * _ = n
   unfold sgI
   by_cases hn : n < 0
   · rw [if_pos (by simpa using hn), Int.neg_mul]
     have : ((n.natAbs / Nat.gcd n.natAbs d : Nat) : Int) * (Nat.gcd n.natAbs d : Nat) = (n.natAbs : Nat) := by rw [<- Int.natCast_mul, h3]
     rw [this]; omega
   · rw [if_neg (by simpa using hn)]
     have : ((n.natAbs / Nat.gcd n.natAbs d : Nat) : Int) * (Nat.gcd n.natAbs d : Nat) = (n.natAbs : Nat) := by rw [<- Int.natCast_mul, h3]
     rw [this]; omega
theorem ad_sg (s : Bool) (m : Nat) (t : Bool) (n : Nat) : sgI (adS s m t n) (adN s m t n) = sgI s m + sgI t n := by
 unfold sgI adS adN
 by_cases h : n <= m
 · cases s <;> cases t <;> simp [h] <;> omega
 · cases s <;> cases t <;> simp [h] <;> omega
theorem sgI_abs (s : Bool) (n : Nat) : (sgI s n).natAbs = n := by unfold sgI; split <;> omega
theorem sgI_neg (s : Bool) (n : Nat) : decide (sgI s n < 0) = (s && decide (n ≠ 0)) := by
 unfold sgI
 cases s
 · simp
 · rw [Bool.eq_iff_iff]; simp; omega
theorem rp_red (s1 : Bool) (n1 d1 : Nat) (s2 : Bool) (n2 d2 : Nat) : (rpS s1 n1 d1 s2 n2 d2, rpN s1 n1 d1 s2 n2 d2, rpD s1 n1 d1 s2 n2 d2) = redI (sgI s1 n1 * d2 + sgI s2 n2 * d1) (d1 * d2) := by
 have h : sgI (adS s1 (n1 * d2) s2 (n2 * d1)) (rpU s1 n1 d1 s2 n2 d2) = sgI s1 n1 * d2 + sgI s2 n2 * d1 := by
  unfold rpU
  rw [ad_sg]
  unfold sgI
  cases s1 <;> cases s2 <;> simp [Int.neg_mul]
 unfold redI
 rw [<- h, sgI_abs, sgI_neg]
 rfl
theorem redI_add {n1 : Int} {d1 : Nat} {n2 : Int} {d2 : Nat} (h1 : d1 ≠ 0) (h2 : d2 ≠ 0) :
 redI (sgI (redI n1 d1).1 (redI n1 d1).2.1 * (redI n2 d2).2.2 + sgI (redI n2 d2).1 (redI n2 d2).2.1 * (redI n1 d1).2.2) ((redI n1 d1).2.2 * (redI n2 d2).2.2) = redI (n1 * d2 + n2 * d1) (d1 * d2) := by
 obtain ⟨_, _, _, a1, a2⟩ := redI_gcd (n := n1) h1
 obtain ⟨_, _, _, b1, b2⟩ := redI_gcd (n := n2) h2
 have hg1 : 0 < Nat.gcd n1.natAbs d1 := Nat.gcd_pos_of_pos_right _ (by omega)
 have hg2 : 0 < Nat.gcd n2.natAbs d2 := Nat.gcd_pos_of_pos_right _ (by omega)
 generalize Nat.gcd n1.natAbs d1 = g1 at *
 generalize Nat.gcd n2.natAbs d2 = g2 at *
 generalize sgI (redI n1 d1).1 (redI n1 d1).2.1 = x1 at *
 generalize sgI (redI n2 d2).1 (redI n2 d2).2.1 = x2 at *
 generalize (redI n1 d1).2.2 = y1 at *
 generalize (redI n2 d2).2.2 = y2 at *
 rw [<- redI_scale _ _ (g1 * g2) (Nat.mul_pos hg1 hg2)]
 congr 1
 · rw [<- a1, <- b1, <- a2, <- b2]
   simp only [Int.natCast_mul]
   rw [Int.add_mul]
   congr 1 <;> ac_rfl
 · rw [<- a2, <- b2]; ac_rfl
end Go.Proofs.YtdpjdifoonfcdaaGreatDoor

namespace Go.Proofs.YtdpjdifoonfcdaaGreatDoor
open Go.RowKit
theorem ofT_red (n : Int) (d : Nat) : ofT n d = ratT (redI n d).1 (redI n d).2.1 (redI n d).2.2 := by
 have h : (ofS n d, ofN n d, ofD n d) = redI n d := by
  unfold redI ofS ofN ofD
  rw [Int.natAbs_natCast, decide_eq_false (show ¬ (d : Int) < 0 by omega)]
  congr 1
  by_cases hn : n < 0
  · rw [decide_eq_true hn, decide_eq_true (show n.natAbs ≠ 0 by omega)]; rfl
  · rw [decide_eq_false hn]; rfl
 unfold ofT
 rw [<- h]
theorem redI_small {n : Int} {d k : Nat} (h1 : n.natAbs < 10 ^ (k + 1)) (h2 : d < 10 ^ (k + 1)) (hk : k < 2000) : bigQ (redI n d).2.1 (redI n d).2.2 = false := by
 have e1 : (redI n d).2.1 <= n.natAbs := Nat.div_le_self _ _
 have e2 : (redI n d).2.2 <= d := Nat.div_le_self _ _
 have e3 := nDigits_le k (redI n d).2.1 (by omega)
 have e4 := nDigits_le k (redI n d).2.2 (by omega)
 unfold bigQ
 rw [Bool.or_eq_false_iff, decide_eq_false_iff_not, decide_eq_false_iff_not]
 omega
theorem getR_of {n : Int} {d : Nat} (hd : d ≠ 0) (h1 : n.natAbs < 10 ^ 21) (h2 : d < 10 ^ 21) : getR (ofT n d) = some (redI n d) := by
 obtain ⟨a, b, c, _, _⟩ := redI_gcd (n := n) hd
 rw [ofT_red]
 exact getR_own a b c (redI_small (k := 20) h1 h2 (by omega))
theorem ofT_size {n : Int} {d : Nat} (h1 : n.natAbs < 10 ^ 21) (h2 : d < 10 ^ 21) : (ofT n d).size <= 1099511627776 /\ Lib.hasSuffix (ofT n d).data.toList [105] = false := by
 rw [ofT_red]
 have hb := redI_small (k := 20) h1 h2 (by omega)
 unfold bigQ at hb
 rw [Bool.or_eq_false_iff, decide_eq_false_iff_not, decide_eq_false_iff_not] at hb
 have := ratT_size (redI n d).1 (redI n d).2.1 (redI n d).2.2
 exact ⟨by omega, ratT_noI _ _ _⟩
def frStep (a t : Int × Nat) : Int × Nat := (a.1 * t.2 + t.1 * a.2, a.2 * t.2)
def frSum (l : List (Int × Nat)) : Int × Nat := l.foldl frStep (0, 1)
theorem frSum_snoc (l : List (Int × Nat)) (t : Int × Nat) : frSum (l ++ [t]) = frStep (frSum l) t := by simp [frSum, List.foldl_append]
theorem sumStep_red (n1 : Int) (d1 : Nat) (n2 : Int) (d2 : Nat) (h1 : d1 ≠ 0) (h2 : d2 ≠ 0) : sumStep (redI n1 d1) (redI n2 d2) = redI (n1 * d2 + n2 * d1) (d1 * d2) := by
 unfold sumStep
 rw [rp_red, redI_add h1 h2]
theorem sumQ_red (l : List (Int × Nat)) (h : ∀ t ∈ l, t.2 ≠ 0) : sumQ (l.map fun t => redI t.1 t.2) = redI (frSum l).1 (frSum l).2 := by
 have h0 : ((false, 0, 1) : Bool × Nat × Nat) = redI 0 1 := by decide
 unfold sumQ
 rw [h0]
 suffices H : ∀ (l : List (Int × Nat)) (a : Int × Nat), a.2 ≠ 0 -> (∀ t ∈ l, t.2 ≠ 0) -> (l.map fun t => redI t.1 t.2).foldl sumStep (redI a.1 a.2) = redI (l.foldl frStep a).1 (l.foldl frStep a).2 from H l (0, 1) (by simp) h
 intro l
 induction l with
 | nil => intro a _ _; rfl
 | cons t r ih =>
   intro a ha ht
   rw [List.map_cons, List.foldl_cons, List.foldl_cons, sumStep_red _ _ _ _ ha (ht t (by simp))]
   exact ih (frStep a t) (Nat.mul_ne_zero ha (ht t (by simp))) (fun x hx => ht x (by simp [hx]))
theorem getL_map (l : List (Int × Nat)) (h : ∀ t ∈ l, t.2 ≠ 0 /\ t.1.natAbs < 10 ^ 21 /\ t.2 < 10 ^ 21) : getL (l.map fun t => ofT t.1 t.2) = some (l.map fun t => redI t.1 t.2) := by
 induction l with
 | nil => rfl
 | cons t r ih =>
   obtain ⟨h1, h2, h3⟩ := h t (by simp)
   simp only [List.map_cons, getL, getR_of h1 h2 h3, ih (fun x hx => h x (by simp [hx]))]
theorem frSum_bd (l : List (Int × Nat)) (h : ∀ t ∈ l, t.2 ≠ 0 /\ t.1.natAbs < 10 ^ 21 /\ t.2 < 10 ^ 21) : (frSum l).2 <= (10 ^ 21) ^ l.length /\ (frSum l).1.natAbs <= l.length * (10 ^ 21) ^ l.length := by
 suffices H : ∀ (n : Nat) (l : List (Int × Nat)), l.length = n -> (∀ t ∈ l, t.2 ≠ 0 /\ t.1.natAbs < 10 ^ 21 /\ t.2 < 10 ^ 21) -> (frSum l).2 <= (10 ^ 21) ^ n /\ (frSum l).1.natAbs <= n * (10 ^ 21) ^ n from H _ l rfl h
 generalize hX : 10 ^ 21 = X
 intro n
 induction n with
 | zero => intro l hl _; have : l = [] := List.eq_nil_of_length_eq_zero hl; subst this; simp [frSum]
 | succ n ih =>
   intro l hl hall
   have hne : l ≠ [] := by intro e; subst e; simp at hl
   obtain ⟨r, t, rfl⟩ : ∃ r x, l = r ++ [x] := ⟨l.dropLast, l.getLast hne, (List.dropLast_concat_getLast hne).symm⟩
   obtain ⟨i1, i2⟩ := ih r (by simpa using hl) (fun x hx => hall x (by simp [hx]))
   obtain ⟨t1, t2, t3⟩ := hall t (by simp)
   rw [frSum_snoc]
   have hp : X ^ (n + 1) = X ^ n * X := Nat.pow_succ _ _
   constructor
   · show (frSum r).2 * t.2 <= _
     rw [hp]; exact Nat.mul_le_mul i1 (by omega)
   · show ((frSum r).1 * (t.2 : Int) + t.1 * ((frSum r).2 : Int)).natAbs <= _
     have m1 : ((frSum r).1 * (t.2 : Int)).natAbs <= n * X ^ n * X := by rw [Int.natAbs_mul, Int.natAbs_natCast]; exact Nat.mul_le_mul i2 (by omega)
     have m2 : (t.1 * ((frSum r).2 : Int)).natAbs <= X * X ^ n := by rw [Int.natAbs_mul, Int.natAbs_natCast]; exact Nat.mul_le_mul (by omega) i1
     have m3 := Int.natAbs_add_le ((frSum r).1 * (t.2 : Int)) (t.1 * ((frSum r).2 : Int))
     have e : (n + 1) * X ^ (n + 1) = n * X ^ n * X + X * X ^ n := by rw [hp]; grind
     omega
theorem sum_of (l : List (Int × Nat)) (h : ∀ t ∈ l, t.2 ≠ 0 /\ t.1.natAbs < 10 ^ 21 /\ t.2 < 10 ^ 21) (hl : l.length <= 9) {w w' : World} {e : Ending} (hs : SumRes (l.map fun t => ofT t.1 t.2) w e w') :
 e = .returned (.tuple #[.string (ofT (frSum l).1 (frSum l).2), .int .i64 0]) /\ Below w.heap.size w w' := by
 obtain ⟨h1, h2⟩ := hs
 rw [getL_map l h] at h1
 simp only at h1
 rw [sumQ_red l (fun t ht => (h t ht).1)] at h1
 obtain ⟨b1, b2⟩ := frSum_bd l h
 have hp : (10 ^ 21) ^ l.length <= (10 ^ 21) ^ 9 := Nat.pow_le_pow_right (by decide) hl
 have hm : l.length * (10 ^ 21) ^ l.length <= 9 * (10 ^ 21) ^ 9 := Nat.mul_le_mul hl hp
 have hb : bigQ (redI (frSum l).1 (frSum l).2).2.1 (redI (frSum l).1 (frSum l).2).2.2 = false := by
  refine redI_small (k := 199) ?_ ?_ (by omega)
  · exact Nat.lt_of_le_of_lt (Nat.le_trans b2 hm) (by decide +kernel)
  · exact Nat.lt_of_le_of_lt (Nat.le_trans b1 hp) (by decide +kernel)
 rw [ofT_red]
 unfold putT putE at h1
 rw [hb] at h1
 exact ⟨h1, h2⟩
def prt (xs ds : List Int) (t a b : Nat) (sg : Int) : Int × Nat := if sqTo xs a (b - a) = 0 then (0, 1) else (sg * dotTo xs ds t a (b - a) * dotTo xs ds t a (b - a), (sqTo xs a (b - a)).toNat)
theorem partT_prt (xs ds : List Int) (t a b : Nat) (sg : Int) : partT xs ds t a b sg = ofT (prt xs ds t a b sg).1 (prt xs ds t a b sg).2 := by
 have h := sqTo_nn xs a (b - a)
 unfold partT prt
 split
 · rfl
 · simp only
   rw [Int.toNat_of_nonneg h]
theorem prt_bd {xs ds : List Int} (h1 : ∀ x ∈ xs, -127 <= x /\ x <= 127) (h2 : ∀ x ∈ ds, -32768 <= x /\ x <= 32768) (t a b : Nat) (hb : b <= 64) (sg : Int) (hsg : sg = 1 ∨ sg = -1) :
 (prt xs ds t a b sg).2 ≠ 0 /\ (prt xs ds t a b sg).1.natAbs < 10 ^ 21 /\ (prt xs ds t a b sg).2 < 10 ^ 21 := by
 have b1 := sqTo_bd h1 a (b - a)
 have b2 := dotTo_bd h1 h2 t a (b - a)
 unfold prt
 split
 · simp
 · simp only
   generalize dotTo xs ds t a (b - a) = d at *
   generalize sqTo xs a (b - a) = s at *
   have hsd : -266338304 <= sg * d /\ sg * d <= 266338304 := by rcases hsg with rfl | rfl <;> omega
   have hA : (sg * d).natAbs <= 266338304 := by omega
   have hB : d.natAbs <= 266338304 := by omega
   have h := Nat.mul_le_mul hA hB
   rw [<- Int.natAbs_mul] at h
   refine ⟨by omega, by omega, by omega⟩
def misL (xs ds : List Int) (t L k n : Nat) : List (Int × Nat) := prt xs ds t 0 L (-1) :: (List.range n).map fun i => prt xs ds t (i * k) ((i + 1) * k) 1
theorem misL_length (xs ds : List Int) (t L k n : Nat) : (misL xs ds t L k n).length = n + 1 := by simp [misL]
theorem misL_succ (xs ds : List Int) (t L k n : Nat) : misL xs ds t L k (n + 1) = misL xs ds t L k n ++ [prt xs ds t (n * k) ((n + 1) * k) 1] := by simp [misL, List.range_succ]
theorem misL_bd {xs ds : List Int} (h1 : ∀ x ∈ xs, -127 <= x /\ x <= 127) (h2 : ∀ x ∈ ds, -32768 <= x /\ x <= 32768) (t L k n : Nat) (hL : L <= 64) (hk : n * k <= 64) :
 ∀ u ∈ misL xs ds t L k n, u.2 ≠ 0 /\ u.1.natAbs < 10 ^ 21 /\ u.2 < 10 ^ 21 := by
 intro u hu
 simp only [misL, List.mem_cons, List.mem_map, List.mem_range] at hu
 rcases hu with rfl | ⟨i, hi, rfl⟩
 · exact prt_bd h1 h2 t 0 L hL _ (.inr rfl)
 · refine prt_bd h1 h2 t _ _ ?_ _ (.inl rfl)
   exact Nat.le_trans (Nat.mul_le_mul_right k (show i + 1 <= n by omega)) hk
def misE (L p q : Int) (ds : List Int) (t n : Int) : Int :=
 if waveOK L p q then (if silentB (wav L p q) then 4 else if dataOK ds then (if t < 0 ∨ (ds.length : Int) - L < t then 8 else if inB 1 n 8 && decide (L % n = 0) then 0 else 2) else 73) else 70
def misQ (L p q : Int) (ds : List Int) (t n : Int) : Int × Nat := frSum (misL (wav L p q) ds t.toNat L.toNat (L.toNat / n.toNat) n.toNat)
def misT (L p q : Int) (ds : List Int) (t n : Int) : ByteArray := if misE L p q ds t n = 0 then ofT (misQ L p q ds t n).1 (misQ L p q ds t n).2 else ⟨#[]⟩
end Go.Proofs.YtdpjdifoonfcdaaGreatDoor

namespace Go.Proofs.YtdpjdifoonfcdaaGreatDoor
open Go.RowKit
set_option maxRecDepth 100000 in
set_option maxHeartbeats 4000000 in
theorem misfit_wave (L p q : Int) (ao : Option Addr) (ds : List Int) (cap : Nat) (t n : Int) (w : World) (hc : Cells w ao (ds.map (Value.int .i64))) (hl : ds.length <= 9223372036854775807) (h1 : waveOK L p q = false) :
 Calls Tryz.prog 17 #[.int .i64 L, .agg #[.int .i64 p, .int .i64 q], .slice ao ds.length cap, .int .i64 t, .int .i64 n] w fun e w' => e = .returned (.tuple #[.string ⟨#[]⟩, .int .i64 70]) /\ Below w.heap.size w w' := by
 obtain ⟨Z, hZ⟩ : ∃ Z, Z = shp 0 (smp 0 0 0) := ⟨_, rfl⟩
 have z : Tryz.zeroCells129 = Z := by rw [hZ]; exact zero101
 have hZs : Z.size = 65 := by rw [hZ, shp_size, smp_length]
 have hw1 := fun w => wave_any L p q w
 have hst := store_shape (waveV L p q) Z (waveV_size L p q) hZs (waveV_one L p q)
 have hVs := waveV_size L p q
 have hsi := fun (h : waveOK L p q = true) w => silent_any L (wav L p q) w (wav_length _ _ _)
 have hVe : waveOK L p q = true -> waveV L p q = shp L (wav L p q) := fun h => by simp [waveV, h]
 have hda := fun wx hcx => dataOK_any ao ds cap wx hcx hl
 rw [h1] at hw1
 clear hsi hVe
 generalize waveV L p q = V at *
 have hne : ¬ V = #[] := by intro h; rw [h] at hVs; simp at hVs
 have hi : (Tryz.prog.info? 129).map (·.size) = some V.size := by rw [hVs]; kernel_rfl
 have HI := Lib.hid hi; clear hi
 have HW := Lib.hid hw1; clear hw1
 have HDA := Lib.hid hda; clear hda
 have HC := Lib.hid hc; clear hc
 clear hZ
 obtain ⟨W0, hW0⟩ : ∃ W0, ((w.alloc (.cells #[.int .i64 p, .int .i64 q] 23)).alloc (.cells #[.slice ao ds.length cap] 24)).alloc (.cells #[.int .i64 t] 3) = W0 := ⟨_, rfl⟩
 have hB0 : Below w.heap.size w W0 := by rw [<- hW0]; exact (((Below.refl _ w).alloc (Nat.le_refl _) _).alloc (by simp) _).alloc (by simp; omega) _
 have hs0 : W0.heap.size = w.heap.size + 3 := by rw [<- hW0]; simp
 have b0 : W0.heap[w.heap.size]? = some (.cells #[.int .i64 p, .int .i64 q] 23 (0, 0)) := by rw [<- hW0, hold_old _ _ _ (by simp; omega)]; exact heap_alloc2_old w _ _
 have b1 : W0.heap[w.heap.size + 1]? = some (.cells #[.slice ao ds.length cap] 24 (0, 0)) := by rw [<- hW0, hold_old _ _ _ (by simp)]; exact heap_alloc2_new w _ _
 have b2 : W0.heap[w.heap.size + 1 + 1]? = some (.cells #[.int .i64 t] 3 (0, 0)) := by
  have hsz : ((w.alloc (.cells #[.int .i64 p, .int .i64 q] 23)).alloc (.cells #[.slice ao ds.length cap] 24)).heap.size = w.heap.size + 1 + 1 := by simp
  rw [<- hW0, <- hsz]; exact heap_alloc_new _ _
 have a0 := (cell_of_row W0 _ 0 _ _ _ b0).trans rfl
 have a1 := (cell_of_row W0 _ 1 _ _ _ b0).trans rfl
 have B1 := Lib.hid b1; have B2 := Lib.hid b2; clear b0 b1 b2
 have HS0 := Lib.hid hs0; clear hs0
 have HW0 := Lib.hid hW0; clear hW0
 go_enter Tryz.func17, Tryz.ntmps17
 go_wp2_with fail
 rw [HW0.out]
 refine (HW.out _).mono ?_
 rintro e w1 ⟨rfl, hb1⟩
 have g1 : Below w.heap.size w w1 := hB0.trans (hb1.mono (by have := hB0.size; omega))
 have g1a : Below w.heap.size w (w1.alloc (.cells V 129)) := g1.alloc g1.size _
 go_wp2
 go_ret2
 exact ⟨rfl, g1a⟩
set_option maxRecDepth 100000 in
set_option maxHeartbeats 4000000 in
theorem misfit_silent (L p q : Int) (ao : Option Addr) (ds : List Int) (cap : Nat) (t n : Int) (w : World) (hc : Cells w ao (ds.map (Value.int .i64))) (hl : ds.length <= 9223372036854775807) (h1 : waveOK L p q = true) (h2 : silentB (wav L p q) = true) :
 Calls Tryz.prog 17 #[.int .i64 L, .agg #[.int .i64 p, .int .i64 q], .slice ao ds.length cap, .int .i64 t, .int .i64 n] w fun e w' => e = .returned (.tuple #[.string ⟨#[]⟩, .int .i64 4]) /\ Below w.heap.size w w' := by
 obtain ⟨Z, hZ⟩ : ∃ Z, Z = shp 0 (smp 0 0 0) := ⟨_, rfl⟩
 have z : Tryz.zeroCells129 = Z := by rw [hZ]; exact zero101
 have hZs : Z.size = 65 := by rw [hZ, shp_size, smp_length]
 have hw1 := fun w => wave_any L p q w
 have hst := store_shape (waveV L p q) Z (waveV_size L p q) hZs (waveV_one L p q)
 have hVs := waveV_size L p q
 have hsi := fun (h : waveOK L p q = true) w => silent_any L (wav L p q) w (wav_length _ _ _)
 have hVe : waveOK L p q = true -> waveV L p q = shp L (wav L p q) := fun h => by simp [waveV, h]
 have hda := fun wx hcx => dataOK_any ao ds cap wx hcx hl
 rw [h1] at hw1
 replace hsi := hsi h1
 replace hVe := hVe h1
 rw [<- hVe] at hsi
 rw [h2] at hsi
 clear hVe
 generalize waveV L p q = V at *
 have hne : ¬ V = #[] := by intro h; rw [h] at hVs; simp at hVs
 have hi : (Tryz.prog.info? 129).map (·.size) = some V.size := by rw [hVs]; kernel_rfl
 have HI := Lib.hid hi; clear hi
 have HW := Lib.hid hw1; clear hw1
 have HDA := Lib.hid hda; clear hda
 have HC := Lib.hid hc; clear hc
 clear hZ
 have HSI := Lib.hid hsi; clear hsi
 obtain ⟨W0, hW0⟩ : ∃ W0, ((w.alloc (.cells #[.int .i64 p, .int .i64 q] 23)).alloc (.cells #[.slice ao ds.length cap] 24)).alloc (.cells #[.int .i64 t] 3) = W0 := ⟨_, rfl⟩
 have hB0 : Below w.heap.size w W0 := by rw [<- hW0]; exact (((Below.refl _ w).alloc (Nat.le_refl _) _).alloc (by simp) _).alloc (by simp; omega) _
 have hs0 : W0.heap.size = w.heap.size + 3 := by rw [<- hW0]; simp
 have b0 : W0.heap[w.heap.size]? = some (.cells #[.int .i64 p, .int .i64 q] 23 (0, 0)) := by rw [<- hW0, hold_old _ _ _ (by simp; omega)]; exact heap_alloc2_old w _ _
 have b1 : W0.heap[w.heap.size + 1]? = some (.cells #[.slice ao ds.length cap] 24 (0, 0)) := by rw [<- hW0, hold_old _ _ _ (by simp)]; exact heap_alloc2_new w _ _
 have b2 : W0.heap[w.heap.size + 1 + 1]? = some (.cells #[.int .i64 t] 3 (0, 0)) := by
  have hsz : ((w.alloc (.cells #[.int .i64 p, .int .i64 q] 23)).alloc (.cells #[.slice ao ds.length cap] 24)).heap.size = w.heap.size + 1 + 1 := by simp
  rw [<- hW0, <- hsz]; exact heap_alloc_new _ _
 have a0 := (cell_of_row W0 _ 0 _ _ _ b0).trans rfl
 have a1 := (cell_of_row W0 _ 1 _ _ _ b0).trans rfl
 have B1 := Lib.hid b1; have B2 := Lib.hid b2; clear b0 b1 b2
 have HS0 := Lib.hid hs0; clear hs0
 have HW0 := Lib.hid hW0; clear hW0
 go_enter Tryz.func17, Tryz.ntmps17
 go_wp2_with fail
 rw [HW0.out]
 refine (HW.out _).mono ?_
 rintro e w1 ⟨rfl, hb1⟩
 have g1 : Below w.heap.size w w1 := hB0.trans (hb1.mono (by have := hB0.size; omega))
 have g1a : Below w.heap.size w (w1.alloc (.cells V 129)) := g1.alloc g1.size _
 have hs1 := hb1.size
 have hs1a : (w1.alloc (.cells V 129)).heap.size = w1.heap.size + 1 := by simp
 have FK : ∀ wx, Below (w1.heap.size + 1) (w1.alloc (.cells V 129)) wx -> wx.heap[w1.heap.size]? = some (.cells V 129 (0, 0)) /\ wx.cell? ⟨w.heap.size + 1, 0, none⟩ = some (.slice ao ds.length cap) /\ wx.cell? ⟨w.heap.size + 1 + 1, 0, none⟩ = some (.int .i64 t) /\ Cells wx ao (ds.map (Value.int .i64)) /\ Below w.heap.size w wx := by
  intro wx hb
  have h0 := HS0.out
  have e1 : wx.heap[w.heap.size + 1]? = _ := (hb.block _ (by omega)).trans ((hold_old w1 _ _ (by omega)).trans ((hb1.block _ (by omega)).trans B1.out))
  have e2 : wx.heap[w.heap.size + 1 + 1]? = _ := (hb.block _ (by omega)).trans ((hold_old w1 _ _ (by omega)).trans ((hb1.block _ (by omega)).trans B2.out))
  have e3 : Below w.heap.size w wx := g1a.trans (hb.mono (by omega))
  exact ⟨(hb.block _ (by omega)).trans (heap_alloc_new _ _), (cell_of_row wx _ 0 _ _ _ e1).trans rfl, (cell_of_row wx _ 0 _ _ _ e2).trans rfl, HC.out.below e3 (Nat.le_refl _), e3⟩
 have HFK := Lib.hid FK; clear FK
 have HS1 := Lib.hid hs1; have HS1A := Lib.hid hs1a; clear hs1 hs1a
 go_wp2_with (first
  | (refine wpList_load_row (by rfl) 129 _ (by rfl) w1.heap.size (by rfl) _ V _ _ (HFK.out _ (Below.refl _ _)).1 Tryz.underlying129 (by rfl) HI.out ?_)
  | (go_at_call 64; refine (HSI.out _).mono ?_; rintro e w2 ⟨rfl, hb2⟩; have hb2 := hb2.mono (Nat.le_of_eq HS1A.out.symm); obtain ⟨_, q7, _, hcc, _⟩ := HFK.out w2 hb2; have HCC := Lib.hid hcc; clear hcc; refine Hid.out ?_))
 refine Lib.hid ?_
 clear q7 HCC
 go_wp2
 go_ret2
 exact ⟨rfl, (HFK.out w2 hb2).2.2.2.2⟩
set_option maxRecDepth 100000 in
set_option maxHeartbeats 4000000 in
theorem misfit_data (L p q : Int) (ao : Option Addr) (ds : List Int) (cap : Nat) (t n : Int) (w : World) (hc : Cells w ao (ds.map (Value.int .i64))) (hl : ds.length <= 9223372036854775807) (h1 : waveOK L p q = true) (h2 : silentB (wav L p q) = false) (h3 : dataOK ds = false) :
 Calls Tryz.prog 17 #[.int .i64 L, .agg #[.int .i64 p, .int .i64 q], .slice ao ds.length cap, .int .i64 t, .int .i64 n] w fun e w' => e = .returned (.tuple #[.string ⟨#[]⟩, .int .i64 73]) /\ Below w.heap.size w w' := by
 obtain ⟨Z, hZ⟩ : ∃ Z, Z = shp 0 (smp 0 0 0) := ⟨_, rfl⟩
 have z : Tryz.zeroCells129 = Z := by rw [hZ]; exact zero101
 have hZs : Z.size = 65 := by rw [hZ, shp_size, smp_length]
 have hw1 := fun w => wave_any L p q w
 have hst := store_shape (waveV L p q) Z (waveV_size L p q) hZs (waveV_one L p q)
 have hVs := waveV_size L p q
 have hsi := fun (h : waveOK L p q = true) w => silent_any L (wav L p q) w (wav_length _ _ _)
 have hVe : waveOK L p q = true -> waveV L p q = shp L (wav L p q) := fun h => by simp [waveV, h]
 have hda := fun wx hcx => dataOK_any ao ds cap wx hcx hl
 rw [h1] at hw1
 replace hsi := hsi h1
 replace hVe := hVe h1
 rw [<- hVe] at hsi
 rw [h2] at hsi
 clear hVe
 rw [h3] at hda
 generalize waveV L p q = V at *
 have hne : ¬ V = #[] := by intro h; rw [h] at hVs; simp at hVs
 have hi : (Tryz.prog.info? 129).map (·.size) = some V.size := by rw [hVs]; kernel_rfl
 have HI := Lib.hid hi; clear hi
 have HW := Lib.hid hw1; clear hw1
 have HDA := Lib.hid hda; clear hda
 have HC := Lib.hid hc; clear hc
 clear hZ
 have HSI := Lib.hid hsi; clear hsi
 obtain ⟨W0, hW0⟩ : ∃ W0, ((w.alloc (.cells #[.int .i64 p, .int .i64 q] 23)).alloc (.cells #[.slice ao ds.length cap] 24)).alloc (.cells #[.int .i64 t] 3) = W0 := ⟨_, rfl⟩
 have hB0 : Below w.heap.size w W0 := by rw [<- hW0]; exact (((Below.refl _ w).alloc (Nat.le_refl _) _).alloc (by simp) _).alloc (by simp; omega) _
 have hs0 : W0.heap.size = w.heap.size + 3 := by rw [<- hW0]; simp
 have b0 : W0.heap[w.heap.size]? = some (.cells #[.int .i64 p, .int .i64 q] 23 (0, 0)) := by rw [<- hW0, hold_old _ _ _ (by simp; omega)]; exact heap_alloc2_old w _ _
 have b1 : W0.heap[w.heap.size + 1]? = some (.cells #[.slice ao ds.length cap] 24 (0, 0)) := by rw [<- hW0, hold_old _ _ _ (by simp)]; exact heap_alloc2_new w _ _
 have b2 : W0.heap[w.heap.size + 1 + 1]? = some (.cells #[.int .i64 t] 3 (0, 0)) := by
  have hsz : ((w.alloc (.cells #[.int .i64 p, .int .i64 q] 23)).alloc (.cells #[.slice ao ds.length cap] 24)).heap.size = w.heap.size + 1 + 1 := by simp
  rw [<- hW0, <- hsz]; exact heap_alloc_new _ _
 have a0 := (cell_of_row W0 _ 0 _ _ _ b0).trans rfl
 have a1 := (cell_of_row W0 _ 1 _ _ _ b0).trans rfl
 have B1 := Lib.hid b1; have B2 := Lib.hid b2; clear b0 b1 b2
 have HS0 := Lib.hid hs0; clear hs0
 have HW0 := Lib.hid hW0; clear hW0
 go_enter Tryz.func17, Tryz.ntmps17
 go_wp2_with fail
 rw [HW0.out]
 refine (HW.out _).mono ?_
 rintro e w1 ⟨rfl, hb1⟩
 have g1 : Below w.heap.size w w1 := hB0.trans (hb1.mono (by have := hB0.size; omega))
 have g1a : Below w.heap.size w (w1.alloc (.cells V 129)) := g1.alloc g1.size _
 have hs1 := hb1.size
 have hs1a : (w1.alloc (.cells V 129)).heap.size = w1.heap.size + 1 := by simp
 have FK : ∀ wx, Below (w1.heap.size + 1) (w1.alloc (.cells V 129)) wx -> wx.heap[w1.heap.size]? = some (.cells V 129 (0, 0)) /\ wx.cell? ⟨w.heap.size + 1, 0, none⟩ = some (.slice ao ds.length cap) /\ wx.cell? ⟨w.heap.size + 1 + 1, 0, none⟩ = some (.int .i64 t) /\ Cells wx ao (ds.map (Value.int .i64)) /\ Below w.heap.size w wx := by
  intro wx hb
  have h0 := HS0.out
  have e1 : wx.heap[w.heap.size + 1]? = _ := (hb.block _ (by omega)).trans ((hold_old w1 _ _ (by omega)).trans ((hb1.block _ (by omega)).trans B1.out))
  have e2 : wx.heap[w.heap.size + 1 + 1]? = _ := (hb.block _ (by omega)).trans ((hold_old w1 _ _ (by omega)).trans ((hb1.block _ (by omega)).trans B2.out))
  have e3 : Below w.heap.size w wx := g1a.trans (hb.mono (by omega))
  exact ⟨(hb.block _ (by omega)).trans (heap_alloc_new _ _), (cell_of_row wx _ 0 _ _ _ e1).trans rfl, (cell_of_row wx _ 0 _ _ _ e2).trans rfl, HC.out.below e3 (Nat.le_refl _), e3⟩
 have HFK := Lib.hid FK; clear FK
 have HS1 := Lib.hid hs1; have HS1A := Lib.hid hs1a; clear hs1 hs1a
 go_wp2_with (first
  | (refine wpList_load_row (by rfl) 129 _ (by rfl) w1.heap.size (by rfl) _ V _ _ (HFK.out _ (Below.refl _ _)).1 Tryz.underlying129 (by rfl) HI.out ?_)
  | (go_at_call 64; refine (HSI.out _).mono ?_; rintro e w2 ⟨rfl, hb2⟩; have hb2 := hb2.mono (Nat.le_of_eq HS1A.out.symm); obtain ⟨_, q7, _, hcc, _⟩ := HFK.out w2 hb2; have HCC := Lib.hid hcc; clear hcc; refine Hid.out ?_))
 refine Lib.hid ?_
 have hs2 := hb2.size
 go_wp2_with (go_at_call 65; refine (HDA.out _ HCC.out).mono ?_; rintro e w3 ⟨rfl, hb3⟩; refine Hid.out ?_)
 have hb3 : Below (w1.heap.size + 1) (w1.alloc (.cells V 129)) w3 := hb2.trans (hb3.mono (by have := HS1A.out; omega))
 clear q7 HCC hb2 hs2
 obtain ⟨_, q7, q8, hcc, g3⟩ := HFK.out w3 hb3
 have HCC := Lib.hid hcc; clear hcc
 refine Lib.hid ?_
 clear q7 q8 HCC
 go_wp2
 go_ret2
 exact ⟨rfl, g3⟩
set_option maxRecDepth 100000 in
set_option maxHeartbeats 4000000 in
theorem misfit_before (L p q : Int) (ao : Option Addr) (ds : List Int) (cap : Nat) (t n : Int) (w : World) (hc : Cells w ao (ds.map (Value.int .i64))) (hl : ds.length <= 9223372036854775807) (h1 : waveOK L p q = true) (h2 : silentB (wav L p q) = false) (h3 : dataOK ds = true) (h4 : t < 0) :
 Calls Tryz.prog 17 #[.int .i64 L, .agg #[.int .i64 p, .int .i64 q], .slice ao ds.length cap, .int .i64 t, .int .i64 n] w fun e w' => e = .returned (.tuple #[.string ⟨#[]⟩, .int .i64 8]) /\ Below w.heap.size w w' := by
 obtain ⟨Z, hZ⟩ : ∃ Z, Z = shp 0 (smp 0 0 0) := ⟨_, rfl⟩
 have z : Tryz.zeroCells129 = Z := by rw [hZ]; exact zero101
 have hZs : Z.size = 65 := by rw [hZ, shp_size, smp_length]
 have hw1 := fun w => wave_any L p q w
 have hst := store_shape (waveV L p q) Z (waveV_size L p q) hZs (waveV_one L p q)
 have hVs := waveV_size L p q
 have hsi := fun (h : waveOK L p q = true) w => silent_any L (wav L p q) w (wav_length _ _ _)
 have hVe : waveOK L p q = true -> waveV L p q = shp L (wav L p q) := fun h => by simp [waveV, h]
 have hda := fun wx hcx => dataOK_any ao ds cap wx hcx hl
 rw [h1] at hw1
 replace hsi := hsi h1
 replace hVe := hVe h1
 rw [<- hVe] at hsi
 rw [h2] at hsi
 clear hVe
 rw [h3] at hda
 have hdl := (dataOK_true h3).1
 have hwt := waveOK_true h1
 obtain ⟨k1, k2, _, _, _, _⟩ := hwt
 generalize waveV L p q = V at *
 have hne : ¬ V = #[] := by intro h; rw [h] at hVs; simp at hVs
 have hi : (Tryz.prog.info? 129).map (·.size) = some V.size := by rw [hVs]; kernel_rfl
 have HI := Lib.hid hi; clear hi
 have HW := Lib.hid hw1; clear hw1
 have HDA := Lib.hid hda; clear hda
 have HC := Lib.hid hc; clear hc
 clear hZ
 have HSI := Lib.hid hsi; clear hsi
 obtain ⟨W0, hW0⟩ : ∃ W0, ((w.alloc (.cells #[.int .i64 p, .int .i64 q] 23)).alloc (.cells #[.slice ao ds.length cap] 24)).alloc (.cells #[.int .i64 t] 3) = W0 := ⟨_, rfl⟩
 have hB0 : Below w.heap.size w W0 := by rw [<- hW0]; exact (((Below.refl _ w).alloc (Nat.le_refl _) _).alloc (by simp) _).alloc (by simp; omega) _
 have hs0 : W0.heap.size = w.heap.size + 3 := by rw [<- hW0]; simp
 have b0 : W0.heap[w.heap.size]? = some (.cells #[.int .i64 p, .int .i64 q] 23 (0, 0)) := by rw [<- hW0, hold_old _ _ _ (by simp; omega)]; exact heap_alloc2_old w _ _
 have b1 : W0.heap[w.heap.size + 1]? = some (.cells #[.slice ao ds.length cap] 24 (0, 0)) := by rw [<- hW0, hold_old _ _ _ (by simp)]; exact heap_alloc2_new w _ _
 have b2 : W0.heap[w.heap.size + 1 + 1]? = some (.cells #[.int .i64 t] 3 (0, 0)) := by
  have hsz : ((w.alloc (.cells #[.int .i64 p, .int .i64 q] 23)).alloc (.cells #[.slice ao ds.length cap] 24)).heap.size = w.heap.size + 1 + 1 := by simp
  rw [<- hW0, <- hsz]; exact heap_alloc_new _ _
 have a0 := (cell_of_row W0 _ 0 _ _ _ b0).trans rfl
 have a1 := (cell_of_row W0 _ 1 _ _ _ b0).trans rfl
 have B1 := Lib.hid b1; have B2 := Lib.hid b2; clear b0 b1 b2
 have HS0 := Lib.hid hs0; clear hs0
 have HW0 := Lib.hid hW0; clear hW0
 go_enter Tryz.func17, Tryz.ntmps17
 go_wp2_with fail
 rw [HW0.out]
 refine (HW.out _).mono ?_
 rintro e w1 ⟨rfl, hb1⟩
 have g1 : Below w.heap.size w w1 := hB0.trans (hb1.mono (by have := hB0.size; omega))
 have g1a : Below w.heap.size w (w1.alloc (.cells V 129)) := g1.alloc g1.size _
 have hs1 := hb1.size
 have hs1a : (w1.alloc (.cells V 129)).heap.size = w1.heap.size + 1 := by simp
 have FK : ∀ wx, Below (w1.heap.size + 1) (w1.alloc (.cells V 129)) wx -> wx.heap[w1.heap.size]? = some (.cells V 129 (0, 0)) /\ wx.cell? ⟨w.heap.size + 1, 0, none⟩ = some (.slice ao ds.length cap) /\ wx.cell? ⟨w.heap.size + 1 + 1, 0, none⟩ = some (.int .i64 t) /\ Cells wx ao (ds.map (Value.int .i64)) /\ Below w.heap.size w wx := by
  intro wx hb
  have h0 := HS0.out
  have e1 : wx.heap[w.heap.size + 1]? = _ := (hb.block _ (by omega)).trans ((hold_old w1 _ _ (by omega)).trans ((hb1.block _ (by omega)).trans B1.out))
  have e2 : wx.heap[w.heap.size + 1 + 1]? = _ := (hb.block _ (by omega)).trans ((hold_old w1 _ _ (by omega)).trans ((hb1.block _ (by omega)).trans B2.out))
  have e3 : Below w.heap.size w wx := g1a.trans (hb.mono (by omega))
  exact ⟨(hb.block _ (by omega)).trans (heap_alloc_new _ _), (cell_of_row wx _ 0 _ _ _ e1).trans rfl, (cell_of_row wx _ 0 _ _ _ e2).trans rfl, HC.out.below e3 (Nat.le_refl _), e3⟩
 have HFK := Lib.hid FK; clear FK
 have HS1 := Lib.hid hs1; have HS1A := Lib.hid hs1a; clear hs1 hs1a
 go_wp2_with (first
  | (refine wpList_load_row (by rfl) 129 _ (by rfl) w1.heap.size (by rfl) _ V _ _ (HFK.out _ (Below.refl _ _)).1 Tryz.underlying129 (by rfl) HI.out ?_)
  | (go_at_call 64; refine (HSI.out _).mono ?_; rintro e w2 ⟨rfl, hb2⟩; have hb2 := hb2.mono (Nat.le_of_eq HS1A.out.symm); obtain ⟨_, q7, _, hcc, _⟩ := HFK.out w2 hb2; have HCC := Lib.hid hcc; clear hcc; refine Hid.out ?_))
 refine Lib.hid ?_
 have hs2 := hb2.size
 go_wp2_with (go_at_call 65; refine (HDA.out _ HCC.out).mono ?_; rintro e w3 ⟨rfl, hb3⟩; refine Hid.out ?_)
 have hb3 : Below (w1.heap.size + 1) (w1.alloc (.cells V 129)) w3 := hb2.trans (hb3.mono (by have := HS1A.out; omega))
 clear q7 HCC hb2 hs2
 obtain ⟨_, q7, q8, hcc, g3⟩ := HFK.out w3 hb3
 have HCC := Lib.hid hcc; clear hcc
 refine Lib.hid ?_
 go_wp2
 go_ret2
 exact ⟨rfl, g3⟩
set_option maxRecDepth 100000 in
set_option maxHeartbeats 4000000 in
theorem misfit_behind (L p q : Int) (ao : Option Addr) (ds : List Int) (cap : Nat) (t n : Int) (w : World) (hc : Cells w ao (ds.map (Value.int .i64))) (hl : ds.length <= 9223372036854775807) (h1 : waveOK L p q = true) (h2 : silentB (wav L p q) = false) (h3 : dataOK ds = true) (h4 : 0 <= t) (h5 : (ds.length : Int) - L < t) :
 Calls Tryz.prog 17 #[.int .i64 L, .agg #[.int .i64 p, .int .i64 q], .slice ao ds.length cap, .int .i64 t, .int .i64 n] w fun e w' => e = .returned (.tuple #[.string ⟨#[]⟩, .int .i64 8]) /\ Below w.heap.size w w' := by
 obtain ⟨Z, hZ⟩ : ∃ Z, Z = shp 0 (smp 0 0 0) := ⟨_, rfl⟩
 have z : Tryz.zeroCells129 = Z := by rw [hZ]; exact zero101
 have hZs : Z.size = 65 := by rw [hZ, shp_size, smp_length]
 have hw1 := fun w => wave_any L p q w
 have hst := store_shape (waveV L p q) Z (waveV_size L p q) hZs (waveV_one L p q)
 have hVs := waveV_size L p q
 have hsi := fun (h : waveOK L p q = true) w => silent_any L (wav L p q) w (wav_length _ _ _)
 have hVe : waveOK L p q = true -> waveV L p q = shp L (wav L p q) := fun h => by simp [waveV, h]
 have hda := fun wx hcx => dataOK_any ao ds cap wx hcx hl
 rw [h1] at hw1
 replace hsi := hsi h1
 replace hVe := hVe h1
 rw [<- hVe] at hsi
 rw [h2] at hsi
 clear hVe
 rw [h3] at hda
 have hdl := (dataOK_true h3).1
 have hwt := waveOK_true h1
 obtain ⟨k1, k2, _, _, _, _⟩ := hwt
 generalize waveV L p q = V at *
 have hne : ¬ V = #[] := by intro h; rw [h] at hVs; simp at hVs
 have hi : (Tryz.prog.info? 129).map (·.size) = some V.size := by rw [hVs]; kernel_rfl
 have HI := Lib.hid hi; clear hi
 have HW := Lib.hid hw1; clear hw1
 have HDA := Lib.hid hda; clear hda
 have HC := Lib.hid hc; clear hc
 clear hZ
 have HSI := Lib.hid hsi; clear hsi
 obtain ⟨W0, hW0⟩ : ∃ W0, ((w.alloc (.cells #[.int .i64 p, .int .i64 q] 23)).alloc (.cells #[.slice ao ds.length cap] 24)).alloc (.cells #[.int .i64 t] 3) = W0 := ⟨_, rfl⟩
 have hB0 : Below w.heap.size w W0 := by rw [<- hW0]; exact (((Below.refl _ w).alloc (Nat.le_refl _) _).alloc (by simp) _).alloc (by simp; omega) _
 have hs0 : W0.heap.size = w.heap.size + 3 := by rw [<- hW0]; simp
 have b0 : W0.heap[w.heap.size]? = some (.cells #[.int .i64 p, .int .i64 q] 23 (0, 0)) := by rw [<- hW0, hold_old _ _ _ (by simp; omega)]; exact heap_alloc2_old w _ _
 have b1 : W0.heap[w.heap.size + 1]? = some (.cells #[.slice ao ds.length cap] 24 (0, 0)) := by rw [<- hW0, hold_old _ _ _ (by simp)]; exact heap_alloc2_new w _ _
 have b2 : W0.heap[w.heap.size + 1 + 1]? = some (.cells #[.int .i64 t] 3 (0, 0)) := by
  have hsz : ((w.alloc (.cells #[.int .i64 p, .int .i64 q] 23)).alloc (.cells #[.slice ao ds.length cap] 24)).heap.size = w.heap.size + 1 + 1 := by simp
  rw [<- hW0, <- hsz]; exact heap_alloc_new _ _
 have a0 := (cell_of_row W0 _ 0 _ _ _ b0).trans rfl
 have a1 := (cell_of_row W0 _ 1 _ _ _ b0).trans rfl
 have B1 := Lib.hid b1; have B2 := Lib.hid b2; clear b0 b1 b2
 have HS0 := Lib.hid hs0; clear hs0
 have HW0 := Lib.hid hW0; clear hW0
 go_enter Tryz.func17, Tryz.ntmps17
 go_wp2_with fail
 rw [HW0.out]
 refine (HW.out _).mono ?_
 rintro e w1 ⟨rfl, hb1⟩
 have g1 : Below w.heap.size w w1 := hB0.trans (hb1.mono (by have := hB0.size; omega))
 have g1a : Below w.heap.size w (w1.alloc (.cells V 129)) := g1.alloc g1.size _
 have hs1 := hb1.size
 have hs1a : (w1.alloc (.cells V 129)).heap.size = w1.heap.size + 1 := by simp
 have FK : ∀ wx, Below (w1.heap.size + 1) (w1.alloc (.cells V 129)) wx -> wx.heap[w1.heap.size]? = some (.cells V 129 (0, 0)) /\ wx.cell? ⟨w.heap.size + 1, 0, none⟩ = some (.slice ao ds.length cap) /\ wx.cell? ⟨w.heap.size + 1 + 1, 0, none⟩ = some (.int .i64 t) /\ Cells wx ao (ds.map (Value.int .i64)) /\ Below w.heap.size w wx := by
  intro wx hb
  have h0 := HS0.out
  have e1 : wx.heap[w.heap.size + 1]? = _ := (hb.block _ (by omega)).trans ((hold_old w1 _ _ (by omega)).trans ((hb1.block _ (by omega)).trans B1.out))
  have e2 : wx.heap[w.heap.size + 1 + 1]? = _ := (hb.block _ (by omega)).trans ((hold_old w1 _ _ (by omega)).trans ((hb1.block _ (by omega)).trans B2.out))
  have e3 : Below w.heap.size w wx := g1a.trans (hb.mono (by omega))
  exact ⟨(hb.block _ (by omega)).trans (heap_alloc_new _ _), (cell_of_row wx _ 0 _ _ _ e1).trans rfl, (cell_of_row wx _ 0 _ _ _ e2).trans rfl, HC.out.below e3 (Nat.le_refl _), e3⟩
 have HFK := Lib.hid FK; clear FK
 have HS1 := Lib.hid hs1; have HS1A := Lib.hid hs1a; clear hs1 hs1a
 go_wp2_with (first
  | (refine wpList_load_row (by rfl) 129 _ (by rfl) w1.heap.size (by rfl) _ V _ _ (HFK.out _ (Below.refl _ _)).1 Tryz.underlying129 (by rfl) HI.out ?_)
  | (go_at_call 64; refine (HSI.out _).mono ?_; rintro e w2 ⟨rfl, hb2⟩; have hb2 := hb2.mono (Nat.le_of_eq HS1A.out.symm); obtain ⟨_, q7, _, hcc, _⟩ := HFK.out w2 hb2; have HCC := Lib.hid hcc; clear hcc; refine Hid.out ?_))
 refine Lib.hid ?_
 have hs2 := hb2.size
 go_wp2_with (go_at_call 65; refine (HDA.out _ HCC.out).mono ?_; rintro e w3 ⟨rfl, hb3⟩; refine Hid.out ?_)
 have hb3 : Below (w1.heap.size + 1) (w1.alloc (.cells V 129)) w3 := hb2.trans (hb3.mono (by have := HS1A.out; omega))
 clear q7 HCC hb2 hs2
 obtain ⟨_, q7, q8, hcc, g3⟩ := HFK.out w3 hb3
 have HCC := Lib.hid hcc; clear hcc
 refine Lib.hid ?_
 go_wp2
 go_ret2
 exact ⟨rfl, g3⟩
set_option maxRecDepth 100000 in
set_option maxHeartbeats 4000000 in
theorem misfit_parts (L p q : Int) (ao : Option Addr) (ds : List Int) (cap : Nat) (t n : Int) (w : World) (hc : Cells w ao (ds.map (Value.int .i64))) (hl : ds.length <= 9223372036854775807) (h1 : waveOK L p q = true) (h2 : silentB (wav L p q) = false) (h3 : dataOK ds = true) (h4 : 0 <= t) (h5 : ¬ (ds.length : Int) - L < t) (h6 : inB 1 n 8 = false) :
 Calls Tryz.prog 17 #[.int .i64 L, .agg #[.int .i64 p, .int .i64 q], .slice ao ds.length cap, .int .i64 t, .int .i64 n] w fun e w' => e = .returned (.tuple #[.string ⟨#[]⟩, .int .i64 2]) /\ Below w.heap.size w w' := by
 obtain ⟨Z, hZ⟩ : ∃ Z, Z = shp 0 (smp 0 0 0) := ⟨_, rfl⟩
 have z : Tryz.zeroCells129 = Z := by rw [hZ]; exact zero101
 have hZs : Z.size = 65 := by rw [hZ, shp_size, smp_length]
 have hw1 := fun w => wave_any L p q w
 have hst := store_shape (waveV L p q) Z (waveV_size L p q) hZs (waveV_one L p q)
 have hVs := waveV_size L p q
 have hsi := fun (h : waveOK L p q = true) w => silent_any L (wav L p q) w (wav_length _ _ _)
 have hVe : waveOK L p q = true -> waveV L p q = shp L (wav L p q) := fun h => by simp [waveV, h]
 have hda := fun wx hcx => dataOK_any ao ds cap wx hcx hl
 rw [h1] at hw1
 replace hsi := hsi h1
 replace hVe := hVe h1
 rw [<- hVe] at hsi
 rw [h2] at hsi
 clear hVe
 rw [h3] at hda
 have hdl := (dataOK_true h3).1
 have hwt := waveOK_true h1
 obtain ⟨k1, k2, _, _, _, _⟩ := hwt
 generalize waveV L p q = V at *
 have hne : ¬ V = #[] := by intro h; rw [h] at hVs; simp at hVs
 have hi : (Tryz.prog.info? 129).map (·.size) = some V.size := by rw [hVs]; kernel_rfl
 have HI := Lib.hid hi; clear hi
 have HW := Lib.hid hw1; clear hw1
 have HDA := Lib.hid hda; clear hda
 have HC := Lib.hid hc; clear hc
 clear hZ
 have HSI := Lib.hid hsi; clear hsi
 obtain ⟨W0, hW0⟩ : ∃ W0, ((w.alloc (.cells #[.int .i64 p, .int .i64 q] 23)).alloc (.cells #[.slice ao ds.length cap] 24)).alloc (.cells #[.int .i64 t] 3) = W0 := ⟨_, rfl⟩
 have hB0 : Below w.heap.size w W0 := by rw [<- hW0]; exact (((Below.refl _ w).alloc (Nat.le_refl _) _).alloc (by simp) _).alloc (by simp; omega) _
 have hs0 : W0.heap.size = w.heap.size + 3 := by rw [<- hW0]; simp
 have b0 : W0.heap[w.heap.size]? = some (.cells #[.int .i64 p, .int .i64 q] 23 (0, 0)) := by rw [<- hW0, hold_old _ _ _ (by simp; omega)]; exact heap_alloc2_old w _ _
 have b1 : W0.heap[w.heap.size + 1]? = some (.cells #[.slice ao ds.length cap] 24 (0, 0)) := by rw [<- hW0, hold_old _ _ _ (by simp)]; exact heap_alloc2_new w _ _
 have b2 : W0.heap[w.heap.size + 1 + 1]? = some (.cells #[.int .i64 t] 3 (0, 0)) := by
  have hsz : ((w.alloc (.cells #[.int .i64 p, .int .i64 q] 23)).alloc (.cells #[.slice ao ds.length cap] 24)).heap.size = w.heap.size + 1 + 1 := by simp
  rw [<- hW0, <- hsz]; exact heap_alloc_new _ _
 have a0 := (cell_of_row W0 _ 0 _ _ _ b0).trans rfl
 have a1 := (cell_of_row W0 _ 1 _ _ _ b0).trans rfl
 have B1 := Lib.hid b1; have B2 := Lib.hid b2; clear b0 b1 b2
 have HS0 := Lib.hid hs0; clear hs0
 have HW0 := Lib.hid hW0; clear hW0
 go_enter Tryz.func17, Tryz.ntmps17
 go_wp2_with fail
 rw [HW0.out]
 refine (HW.out _).mono ?_
 rintro e w1 ⟨rfl, hb1⟩
 have g1 : Below w.heap.size w w1 := hB0.trans (hb1.mono (by have := hB0.size; omega))
 have g1a : Below w.heap.size w (w1.alloc (.cells V 129)) := g1.alloc g1.size _
 have hs1 := hb1.size
 have hs1a : (w1.alloc (.cells V 129)).heap.size = w1.heap.size + 1 := by simp
 have FK : ∀ wx, Below (w1.heap.size + 1) (w1.alloc (.cells V 129)) wx -> wx.heap[w1.heap.size]? = some (.cells V 129 (0, 0)) /\ wx.cell? ⟨w.heap.size + 1, 0, none⟩ = some (.slice ao ds.length cap) /\ wx.cell? ⟨w.heap.size + 1 + 1, 0, none⟩ = some (.int .i64 t) /\ Cells wx ao (ds.map (Value.int .i64)) /\ Below w.heap.size w wx := by
  intro wx hb
  have h0 := HS0.out
  have e1 : wx.heap[w.heap.size + 1]? = _ := (hb.block _ (by omega)).trans ((hold_old w1 _ _ (by omega)).trans ((hb1.block _ (by omega)).trans B1.out))
  have e2 : wx.heap[w.heap.size + 1 + 1]? = _ := (hb.block _ (by omega)).trans ((hold_old w1 _ _ (by omega)).trans ((hb1.block _ (by omega)).trans B2.out))
  have e3 : Below w.heap.size w wx := g1a.trans (hb.mono (by omega))
  exact ⟨(hb.block _ (by omega)).trans (heap_alloc_new _ _), (cell_of_row wx _ 0 _ _ _ e1).trans rfl, (cell_of_row wx _ 0 _ _ _ e2).trans rfl, HC.out.below e3 (Nat.le_refl _), e3⟩
 have HFK := Lib.hid FK; clear FK
 have HS1 := Lib.hid hs1; have HS1A := Lib.hid hs1a; clear hs1 hs1a
 go_wp2_with (first
  | (refine wpList_load_row (by rfl) 129 _ (by rfl) w1.heap.size (by rfl) _ V _ _ (HFK.out _ (Below.refl _ _)).1 Tryz.underlying129 (by rfl) HI.out ?_)
  | (go_at_call 64; refine (HSI.out _).mono ?_; rintro e w2 ⟨rfl, hb2⟩; have hb2 := hb2.mono (Nat.le_of_eq HS1A.out.symm); obtain ⟨_, q7, _, hcc, _⟩ := HFK.out w2 hb2; have HCC := Lib.hid hcc; clear hcc; refine Hid.out ?_))
 refine Lib.hid ?_
 have hs2 := hb2.size
 go_wp2_with (go_at_call 65; refine (HDA.out _ HCC.out).mono ?_; rintro e w3 ⟨rfl, hb3⟩; refine Hid.out ?_)
 have hb3 : Below (w1.heap.size + 1) (w1.alloc (.cells V 129)) w3 := hb2.trans (hb3.mono (by have := HS1A.out; omega))
 clear q7 HCC hb2 hs2
 obtain ⟨_, q7, q8, hcc, g3⟩ := HFK.out w3 hb3
 have HCC := Lib.hid hcc; clear hcc
 refine Lib.hid ?_
 go_wp2_with (go_at_call 66; refine (bwithin_any _ _ _ _).mono ?_; rintro e w' ⟨rfl, rfl⟩)
 go_ret2
 exact ⟨rfl, g3⟩
set_option maxRecDepth 100000 in
set_option maxHeartbeats 4000000 in
theorem misfit_rest (L p q : Int) (ao : Option Addr) (ds : List Int) (cap : Nat) (t n : Int) (w : World) (hc : Cells w ao (ds.map (Value.int .i64))) (hl : ds.length <= 9223372036854775807) (h1 : waveOK L p q = true) (h2 : silentB (wav L p q) = false) (h3 : dataOK ds = true) (h4 : 0 <= t) (h5 : ¬ (ds.length : Int) - L < t) (h6 : inB 1 n 8 = true) (h7 : ¬ L % n = 0) (h8 : 1 <= n) (h9 : n <= 8) :
 Calls Tryz.prog 17 #[.int .i64 L, .agg #[.int .i64 p, .int .i64 q], .slice ao ds.length cap, .int .i64 t, .int .i64 n] w fun e w' => e = .returned (.tuple #[.string ⟨#[]⟩, .int .i64 2]) /\ Below w.heap.size w w' := by
 obtain ⟨Z, hZ⟩ : ∃ Z, Z = shp 0 (smp 0 0 0) := ⟨_, rfl⟩
 have z : Tryz.zeroCells129 = Z := by rw [hZ]; exact zero101
 have hZs : Z.size = 65 := by rw [hZ, shp_size, smp_length]
 have hw1 := fun w => wave_any L p q w
 have hst := store_shape (waveV L p q) Z (waveV_size L p q) hZs (waveV_one L p q)
 have hVs := waveV_size L p q
 have hsi := fun (h : waveOK L p q = true) w => silent_any L (wav L p q) w (wav_length _ _ _)
 have hVe : waveOK L p q = true -> waveV L p q = shp L (wav L p q) := fun h => by simp [waveV, h]
 have hda := fun wx hcx => dataOK_any ao ds cap wx hcx hl
 rw [h1] at hw1
 replace hsi := hsi h1
 replace hVe := hVe h1
 rw [<- hVe] at hsi
 rw [h2] at hsi
 clear hVe
 rw [h3] at hda
 have hdl := (dataOK_true h3).1
 have hwt := waveOK_true h1
 obtain ⟨k1, k2, _, _, _, _⟩ := hwt
 generalize waveV L p q = V at *
 have hne : ¬ V = #[] := by intro h; rw [h] at hVs; simp at hVs
 have hi : (Tryz.prog.info? 129).map (·.size) = some V.size := by rw [hVs]; kernel_rfl
 have HI := Lib.hid hi; clear hi
 have HW := Lib.hid hw1; clear hw1
 have HDA := Lib.hid hda; clear hda
 have HC := Lib.hid hc; clear hc
 clear hZ
 have HSI := Lib.hid hsi; clear hsi
 obtain ⟨W0, hW0⟩ : ∃ W0, ((w.alloc (.cells #[.int .i64 p, .int .i64 q] 23)).alloc (.cells #[.slice ao ds.length cap] 24)).alloc (.cells #[.int .i64 t] 3) = W0 := ⟨_, rfl⟩
 have hB0 : Below w.heap.size w W0 := by rw [<- hW0]; exact (((Below.refl _ w).alloc (Nat.le_refl _) _).alloc (by simp) _).alloc (by simp; omega) _
 have hs0 : W0.heap.size = w.heap.size + 3 := by rw [<- hW0]; simp
 have b0 : W0.heap[w.heap.size]? = some (.cells #[.int .i64 p, .int .i64 q] 23 (0, 0)) := by rw [<- hW0, hold_old _ _ _ (by simp; omega)]; exact heap_alloc2_old w _ _
 have b1 : W0.heap[w.heap.size + 1]? = some (.cells #[.slice ao ds.length cap] 24 (0, 0)) := by rw [<- hW0, hold_old _ _ _ (by simp)]; exact heap_alloc2_new w _ _
 have b2 : W0.heap[w.heap.size + 1 + 1]? = some (.cells #[.int .i64 t] 3 (0, 0)) := by
  have hsz : ((w.alloc (.cells #[.int .i64 p, .int .i64 q] 23)).alloc (.cells #[.slice ao ds.length cap] 24)).heap.size = w.heap.size + 1 + 1 := by simp
  rw [<- hW0, <- hsz]; exact heap_alloc_new _ _
 have a0 := (cell_of_row W0 _ 0 _ _ _ b0).trans rfl
 have a1 := (cell_of_row W0 _ 1 _ _ _ b0).trans rfl
 have B1 := Lib.hid b1; have B2 := Lib.hid b2; clear b0 b1 b2
 have HS0 := Lib.hid hs0; clear hs0
 have HW0 := Lib.hid hW0; clear hW0
 go_enter Tryz.func17, Tryz.ntmps17
 go_wp2_with fail
 rw [HW0.out]
 refine (HW.out _).mono ?_
 rintro e w1 ⟨rfl, hb1⟩
 have g1 : Below w.heap.size w w1 := hB0.trans (hb1.mono (by have := hB0.size; omega))
 have g1a : Below w.heap.size w (w1.alloc (.cells V 129)) := g1.alloc g1.size _
 have hs1 := hb1.size
 have hs1a : (w1.alloc (.cells V 129)).heap.size = w1.heap.size + 1 := by simp
 have FK : ∀ wx, Below (w1.heap.size + 1) (w1.alloc (.cells V 129)) wx -> wx.heap[w1.heap.size]? = some (.cells V 129 (0, 0)) /\ wx.cell? ⟨w.heap.size + 1, 0, none⟩ = some (.slice ao ds.length cap) /\ wx.cell? ⟨w.heap.size + 1 + 1, 0, none⟩ = some (.int .i64 t) /\ Cells wx ao (ds.map (Value.int .i64)) /\ Below w.heap.size w wx := by
  intro wx hb
  have h0 := HS0.out
  have e1 : wx.heap[w.heap.size + 1]? = _ := (hb.block _ (by omega)).trans ((hold_old w1 _ _ (by omega)).trans ((hb1.block _ (by omega)).trans B1.out))
  have e2 : wx.heap[w.heap.size + 1 + 1]? = _ := (hb.block _ (by omega)).trans ((hold_old w1 _ _ (by omega)).trans ((hb1.block _ (by omega)).trans B2.out))
  have e3 : Below w.heap.size w wx := g1a.trans (hb.mono (by omega))
  exact ⟨(hb.block _ (by omega)).trans (heap_alloc_new _ _), (cell_of_row wx _ 0 _ _ _ e1).trans rfl, (cell_of_row wx _ 0 _ _ _ e2).trans rfl, HC.out.below e3 (Nat.le_refl _), e3⟩
 have HFK := Lib.hid FK; clear FK
 have HS1 := Lib.hid hs1; have HS1A := Lib.hid hs1a; clear hs1 hs1a
 go_wp2_with (first
  | (refine wpList_load_row (by rfl) 129 _ (by rfl) w1.heap.size (by rfl) _ V _ _ (HFK.out _ (Below.refl _ _)).1 Tryz.underlying129 (by rfl) HI.out ?_)
  | (go_at_call 64; refine (HSI.out _).mono ?_; rintro e w2 ⟨rfl, hb2⟩; have hb2 := hb2.mono (Nat.le_of_eq HS1A.out.symm); obtain ⟨_, q7, _, hcc, _⟩ := HFK.out w2 hb2; have HCC := Lib.hid hcc; clear hcc; refine Hid.out ?_))
 refine Lib.hid ?_
 have hs2 := hb2.size
 go_wp2_with (go_at_call 65; refine (HDA.out _ HCC.out).mono ?_; rintro e w3 ⟨rfl, hb3⟩; refine Hid.out ?_)
 have hb3 : Below (w1.heap.size + 1) (w1.alloc (.cells V 129)) w3 := hb2.trans (hb3.mono (by have := HS1A.out; omega))
 clear q7 HCC hb2 hs2
 obtain ⟨_, q7, q8, hcc, g3⟩ := HFK.out w3 hb3
 have HCC := Lib.hid hcc; clear hcc
 refine Lib.hid ?_
 go_wp2_with (go_at_call 66; refine (bwithin_any _ _ _ _).mono ?_; rintro e w' ⟨rfl, rfl⟩)
 go_ret2
 exact ⟨rfl, g3⟩
end Go.Proofs.YtdpjdifoonfcdaaGreatDoor

namespace Go.Proofs.YtdpjdifoonfcdaaGreatDoor
open Go.RowKit
theorem Tryz.infoNum : (Tryz.prog.info? 34).map (fun i => (i.zero, i.size, i.bytes)) = some (some (.string ⟨#[]⟩), 1, 16) := by kernel_rfl
theorem own_one (w : World) (u : Value) (T : TypeId) (b : Nat) (hb : b <= w.heap.size) : (w.alloc (.cells #[u] T)).ownsRow b T 1 (.slice (some ⟨w.heap.size, 0, none⟩) 1 1) 1 [u] :=
 ⟨by simp, .inr ⟨w.heap.size, 1, #[u], rfl, hb, World.alloc_heap_new w _, Nat.le_refl _, by unfold maxLen; omega, by simp, by simp⟩⟩
def frT (l : List (Int × Nat)) : List Value := l.map fun u => Value.string (ofT u.1 u.2)
theorem frT_snoc (l : List (Int × Nat)) (u : Int × Nat) : frT (l ++ [u]) = frT l ++ [.string (ofT u.1 u.2)] := by simp [frT]
theorem frT_strings (l : List (Int × Nat)) : frT l = (l.map fun u => ofT u.1 u.2).map Value.string := by simp [frT]
set_option maxRecDepth 100000 in
set_option maxHeartbeats 4000000 in
theorem misfit_ok (L p q : Int) (ao : Option Addr) (ds : List Int) (cap : Nat) (t n : Int) (w : World) (hc : Cells w ao (ds.map (Value.int .i64))) (hl : ds.length <= 9223372036854775807) (h1 : waveOK L p q = true) (h2 : silentB (wav L p q) = false) (h3 : dataOK ds = true) (h4 : 0 <= t) (h5 : t + L <= ds.length) (h6 : 1 <= n) (h7 : n <= 8) (h8 : L % n = 0) (ht : Tab w) :
 Calls Tryz.prog 17 #[.int .i64 L, .agg #[.int .i64 p, .int .i64 q], .slice ao ds.length cap, .int .i64 t, .int .i64 n] w fun e w' => e = .returned (.tuple #[.string (ofT (misQ L p q ds t n).1 (misQ L p q ds t n).2), .int .i64 0]) /\ Below w.heap.size w w' := by
 have hwt := waveOK_true h1
 have hdt := dataOK_true h3
 obtain ⟨k1, k2, _, _, _, _⟩ := hwt
 obtain ⟨N, hN⟩ : ∃ N : Nat, n = (N : Int) := ⟨n.toNat, by omega⟩
 obtain ⟨T, hT⟩ : ∃ T : Nat, t = (T : Int) := ⟨t.toNat, by omega⟩
 obtain ⟨M, hM⟩ : ∃ M : Nat, L = (M : Int) := ⟨L.toNat, by omega⟩
 obtain ⟨k, hk⟩ : ∃ k : Nat, k = M / N := ⟨_, rfl⟩
 have hkn : k * N = M := by
  rw [hk]
  refine Nat.div_mul_cancel (Nat.dvd_of_mod_eq_zero ?_)
  rw [hM, hN] at h8
  omega
 have hQ : misQ L p q ds t n = frSum (misL (wav L p q) ds T M k N) := by
  unfold misQ
  rw [hM, hN, hT, Int.toNat_natCast, Int.toNat_natCast, Int.toNat_natCast, hk]
 have hra := fun (a b : Nat) (sg : Int) (bv bd bt : Nat) wx hTx hab (hbM : b <= M) hb => ratio_any L (wav L p q) ds ao cap T a b sg bv bd bt wx hTx (wav_length _ _ _) hab (show b <= 64 by omega) (show T + b <= ds.length by omega) hdt.1 hb (wav_bd _ _ _) hdt.2
 have hmb : ∀ j, j <= N -> ∀ u ∈ misL (wav L p q) ds T M k j, u.2 ≠ 0 /\ u.1.natAbs < 10 ^ 21 /\ u.2 < 10 ^ 21 := fun j hj => misL_bd (wav_bd _ _ _) hdt.2 T M k j (by omega) (Nat.le_trans (Nat.mul_le_mul_right k hj) (by rw [Nat.mul_comm]; omega))
 have hq1 : Int.tdiv L n = (k : Int) := by rw [hM, hN, hk]; rfl
 have hq2 : L / n = (k : Int) := by rw [hM, hN, hk]; rfl
 have hq3 : Int.tmod L n = 0 := by rw [Int.tmod_eq_emod_of_nonneg (by omega)]; exact h8
 have hkp : 1 <= k := by
  rcases Nat.eq_zero_or_pos k with h | h
  · rw [h] at hkn; omega
  · exact h
 have hNs : 1 <= N /\ N <= 8 := by omega
 have hM1 : M <= 64 := by omega
 have hk64 : k <= 64 := by rw [hk]; exact Nat.le_trans (Nat.div_le_self _ _) hM1
 have i6 : inB 1 n 8 = true := by simp [inB]; omega
 have H5 : ¬ (ds.length : Int) - L < t := by omega
 obtain ⟨Z, hZ⟩ : ∃ Z, Z = shp 0 (smp 0 0 0) := ⟨_, rfl⟩
 have z : Tryz.zeroCells129 = Z := by rw [hZ]; exact zero101
 have hZs : Z.size = 65 := by rw [hZ, shp_size, smp_length]
 have hw1 := fun w => wave_any L p q w
 have hst := store_shape (waveV L p q) Z (waveV_size L p q) hZs (waveV_one L p q)
 have hVs := waveV_size L p q
 have hsi := fun (h : waveOK L p q = true) w => silent_any L (wav L p q) w (wav_length _ _ _)
 have hVe : waveOK L p q = true -> waveV L p q = shp L (wav L p q) := fun h => by simp [waveV, h]
 have hda := fun wx hcx => dataOK_any ao ds cap wx hcx hl
 rw [h1] at hw1
 replace hsi := hsi h1
 replace hVe := hVe h1
 rw [<- hVe] at hsi
 rw [h2] at hsi
 rw [h3] at hda
 rw [<- hVe] at hra
 rw [<- hT] at hra
 clear hVe
 have HQ := Lib.hid hQ; clear hQ
 have HMB := Lib.hid hmb; clear hmb
 have HRA := Lib.hid hra; clear hra
 generalize misQ L p q ds t n = RQ at *
 generalize wav L p q = xs at *
 have HMM := Lib.hid (And.intro hM (And.intro hN hkn)); clear hM hN hT hk hkn
 generalize waveV L p q = V at *
 have hne : ¬ V = #[] := by intro h; rw [h] at hVs; simp at hVs
 have hi : (Tryz.prog.info? 129).map (·.size) = some V.size := by rw [hVs]; kernel_rfl
 have HI := Lib.hid hi; clear hi
 have HW := Lib.hid hw1; clear hw1
 have HDA := Lib.hid hda; clear hda
 have HC := Lib.hid hc; clear hc
 clear hZ
 have HSI := Lib.hid hsi; clear hsi
 have HT := Lib.hid ht; clear ht
 have hdl := hdt.1
 clear hdt h3 h2 h1 h5
 obtain ⟨W0, hW0⟩ : ∃ W0, ((w.alloc (.cells #[.int .i64 p, .int .i64 q] 23)).alloc (.cells #[.slice ao ds.length cap] 24)).alloc (.cells #[.int .i64 t] 3) = W0 := ⟨_, rfl⟩
 have hB0 : Below w.heap.size w W0 := by rw [<- hW0]; exact (((Below.refl _ w).alloc (Nat.le_refl _) _).alloc (by simp) _).alloc (by simp; omega) _
 have hs0 : W0.heap.size = w.heap.size + 3 := by rw [<- hW0]; simp
 have b0 : W0.heap[w.heap.size]? = some (.cells #[.int .i64 p, .int .i64 q] 23 (0, 0)) := by rw [<- hW0, hold_old _ _ _ (by simp; omega)]; exact heap_alloc2_old w _ _
 have b1 : W0.heap[w.heap.size + 1]? = some (.cells #[.slice ao ds.length cap] 24 (0, 0)) := by rw [<- hW0, hold_old _ _ _ (by simp)]; exact heap_alloc2_new w _ _
 have b2 : W0.heap[w.heap.size + 1 + 1]? = some (.cells #[.int .i64 t] 3 (0, 0)) := by
  have hsz : ((w.alloc (.cells #[.int .i64 p, .int .i64 q] 23)).alloc (.cells #[.slice ao ds.length cap] 24)).heap.size = w.heap.size + 1 + 1 := by simp
  rw [<- hW0, <- hsz]; exact heap_alloc_new _ _
 have a0 := (cell_of_row W0 _ 0 _ _ _ b0).trans rfl
 have a1 := (cell_of_row W0 _ 1 _ _ _ b0).trans rfl
 have B1 := Lib.hid b1; have B2 := Lib.hid b2; clear b0 b1 b2
 have HS0 := Lib.hid hs0; clear hs0
 have HW0 := Lib.hid hW0; clear hW0
 go_enter Tryz.func17, Tryz.ntmps17
 go_wp2_with fail
 rw [HW0.out]
 refine (HW.out _).mono ?_
 rintro e w1 ⟨rfl, hb1⟩
 have g1 : Below w.heap.size w w1 := hB0.trans (hb1.mono (by have := hB0.size; omega))
 have g1a : Below w.heap.size w (w1.alloc (.cells V 129)) := g1.alloc g1.size _
 have hs1 := hb1.size
 have hs1a : (w1.alloc (.cells V 129)).heap.size = w1.heap.size + 1 := by simp
 have FK : ∀ wx, Below (w1.heap.size + 1) (w1.alloc (.cells V 129)) wx -> wx.heap[w1.heap.size]? = some (.cells V 129 (0, 0)) /\ wx.cell? ⟨w.heap.size + 1, 0, none⟩ = some (.slice ao ds.length cap) /\ wx.cell? ⟨w.heap.size + 1 + 1, 0, none⟩ = some (.int .i64 t) /\ Cells wx ao (ds.map (Value.int .i64)) /\ Below w.heap.size w wx := by
  intro wx hb
  have h0 := HS0.out
  have e1 : wx.heap[w.heap.size + 1]? = _ := (hb.block _ (by omega)).trans ((hold_old w1 _ _ (by omega)).trans ((hb1.block _ (by omega)).trans B1.out))
  have e2 : wx.heap[w.heap.size + 1 + 1]? = _ := (hb.block _ (by omega)).trans ((hold_old w1 _ _ (by omega)).trans ((hb1.block _ (by omega)).trans B2.out))
  have e3 : Below w.heap.size w wx := g1a.trans (hb.mono (by omega))
  exact ⟨(hb.block _ (by omega)).trans (heap_alloc_new _ _), (cell_of_row wx _ 0 _ _ _ e1).trans rfl, (cell_of_row wx _ 0 _ _ _ e2).trans rfl, HC.out.below e3 (Nat.le_refl _), e3⟩
 have HFK := Lib.hid FK; clear FK
 have HS1 := Lib.hid hs1; have HS1A := Lib.hid hs1a; clear hs1 hs1a
 go_wp2_with (first
  | (refine wpList_load_row (by rfl) 129 _ (by rfl) w1.heap.size (by rfl) _ V _ _ (HFK.out _ (Below.refl _ _)).1 Tryz.underlying129 (by rfl) HI.out ?_)
  | (go_at_call 64; refine (HSI.out _).mono ?_; rintro e w2 ⟨rfl, hb2⟩; have hb2 := hb2.mono (Nat.le_of_eq HS1A.out.symm); obtain ⟨_, q7, _, hcc, _⟩ := HFK.out w2 hb2; have HCC := Lib.hid hcc; clear hcc; refine Hid.out ?_))
 refine Lib.hid ?_
 have hs2 := hb2.size
 go_wp2_with (go_at_call 65; refine (HDA.out _ HCC.out).mono ?_; rintro e w3 ⟨rfl, hb3⟩; refine Hid.out ?_)
 have hb3 : Below (w1.heap.size + 1) (w1.alloc (.cells V 129)) w3 := hb2.trans (hb3.mono (by have := HS1A.out; omega))
 clear q7 HCC hb2 hs2
 obtain ⟨_, q7, q8, hcc, g3⟩ := HFK.out w3 hb3
 have HCC := Lib.hid hcc; clear hcc
 refine Lib.hid ?_
 have ht3 := HT.out.below g3 (Nat.le_refl _)
 have HT3 := Lib.hid ht3; clear ht3
 go_wp2_with (first
  | (go_at_call 66; refine (bwithin_any _ _ _ _).mono ?_; rintro e w' ⟨rfl, rfl⟩; rw [i6])
  | (go_at_call 67; refine Hid.out ?_))
 refine Lib.hid ?_
 have f3 := HFK.out w3 hb3
 have hr0 := HRA.out 0 M (-1) w1.heap.size (w.heap.size + 1) (w.heap.size + 1 + 1) w3 HT3.out (by have := HMM.out.1; omega) (Nat.le_refl _) (.inr rfl) f3.1 f3.2.1 f3.2.2.1 f3.2.2.2.1
 rw [<- HMM.out.1] at hr0
 clear f3
 refine (show _ from hr0).mono ?_
 rintro e w4 ⟨rfl, hb4⟩
 rw [partT_prt]
 clear hr0 q7 q8 HCC
 have hb4' : Below (w1.heap.size + 1) (w1.alloc (.cells V 129)) w4 := hb3.trans (hb4.mono (by have := hb3.size; have := HS1A.out; omega))
 have hs4 := hb4'.size
 rw [HS1A.out] at hs4
 have ho := own_one w4 (.string (ofT (prt xs ds T 0 M (-1)).1 (prt xs ds T 0 M (-1)).2)) 34 (w1.heap.size + 1) hs4
 have ho0 : (w4.alloc (.cells #[.string (ofT (prt xs ds T 0 M (-1)).1 (prt xs ds T 0 M (-1)).2)] 34)).ownsRow (w1.heap.size + 1) 34 1 (.slice (some ⟨w4.heap.size, 0, none⟩) 1 1) (0 + 1) (frT (misL xs ds T M k 0)) := by simpa [misL, frT] using ho
 have HO0 := Lib.hid ho0; clear ho0 ho
 generalize ofT (prt xs ds T 0 M (-1)).1 (prt xs ds T 0 M (-1)).2 = T0 at *
 obtain ⟨i0, hi, hz0, hz1, hz2⟩ := info_parts Tryz.infoNum
 have hB4 : Below (w1.heap.size + 1) (w1.alloc (.cells V 129)) (w4.alloc (.cells #[.string T0] 34)) := hb4'.alloc hs4 _
 clear hb4 hb4' hb3 g3
 have HN := Lib.hid HMM.out.2.1
 go_wp2
 clear hq1 hq2 hq3
 go_loopw [13, 16, 71] (fun ok v i wr => ∃ j : Nat, j <= N /\ i = .int .i64 (j : Int) /\ ok = .bool true /\ wr.ownsRow (w1.heap.size + 1) 34 1 v (j + 1) (frT (misL xs ds T M k j)) /\ Below (w1.heap.size + 1) (w1.alloc (.cells V 129)) wr) (fun _ _ i _ => N - (intOf i).toNat)
 case atStart => exact ⟨0, Nat.zero_le _, rfl, rfl, HO0.out, hB4⟩
 case round =>
  obtain ⟨j, hj, rfl, rfl, hown, hbe⟩ := hrel
  clear HO0 hB4
  have hsr := hbe.size
  rw [HS1A.out] at hsr
  by_cases hlt : j < N
  · have hlt2 : (j : Int) < n := by rw [HN.out]; omega
    obtain ⟨A, hA⟩ : ∃ A : Nat, A = j * k := ⟨_, rfl⟩
    obtain ⟨C, hC⟩ : ∃ C : Nat, C = (j + 1) * k := ⟨_, rfl⟩
    have hAC : C = A + k := by rw [hA, hC, Nat.add_mul, Nat.one_mul]
    have hCM : C <= M := by rw [hC, <- HMM.out.2.2, Nat.mul_comm k N]; exact Nat.mul_le_mul_right k (by omega)
    have f3 := HFK.out wr hbe
    have hr0 := HRA.out A C 1 w1.heap.size (w.heap.size + 1) (w.heap.size + 1 + 1) wr (HT.out.below f3.2.2.2.2 (Nat.le_refl _)) (by omega) hCM (.inl rfl) f3.1 f3.2.1 f3.2.2.1 f3.2.2.2.1
    rw [partT_prt] at hr0
    have e1 : frT (misL xs ds T M k (j + 1)) = frT (misL xs ds T M k j) ++ [.string (ofT (prt xs ds T A C 1).1 (prt xs ds T A C 1).2)] := by rw [misL_succ, frT_snoc, <- hA, <- hC]
    have E1 := Lib.hid e1; clear e1
    have q1 : IntKind.i64.wrap ((j : Int) * k) = (A : Int) := by
     rw [hA, Int.natCast_mul]; exact IntWalk.i64_in _ (by rw [<- Int.natCast_mul, <- hA]; omega)
    have q2 : IntKind.i64.wrap (((j : Int) + 1) * k) = (C : Int) := by
     rw [hC, Int.natCast_mul, Int.natCast_add, Int.natCast_one]
     refine IntWalk.i64_in _ ?_
     rw [show ((j : Int) + 1) * k = ((j + 1) * k : Nat) by push_cast; rfl, <- hC]; omega
    have HR0 := Lib.hid hr0; clear hr0 f3 hA hC hAC
    generalize ofT (prt xs ds T A C 1).1 (prt xs ds T A C 1).2 = T1 at *
    have HOB : Hid (∀ b, u16.ownBlock = some b -> w1.heap.size + 1 <= b) := fun b e => (hown.lt b e).1
    go_wp2_with (first
     | (go_at_call 67; refine (HR0.out).mono ?_; rintro e w5 ⟨rfl, hb5⟩)
     | (at_builtin; refine wpList_append_own _ rfl _ _ 33 rfl (w1.heap.size + 1) 34 i0 (.string ⟨#[]⟩) 1 16 Tryz.underlying33 hi hz0 hz1 hz2 rfl (by decide) _ _ _ rfl ((own_belowK hown hb5 (Nat.le_refl _)).alloc _) ⟨w5.heap.size, 0, none⟩ 1 1 [.string T1] rfl rfl (news1 _ _ _) (by simp [Value.oneCell']) (by unfold maxLen; omega) (by omega) (by have := hb5.size; simp; omega) ?_; intro v1 wz hown1 hgrow _))
    have hfin := hown1
    rw [<- E1.out] at hfin
    have hs5 := hb5.size
    have hbz := ((hbe.trans (hb5.mono hsr)).alloc (by omega) (.cells #[.string T1] 34)).grown hgrow (by simp; omega) HOB.out
    clear hown1 hgrow hown
    have HFIN := Lib.hid hfin; clear hfin
    go_roundw
    case rel => exact ⟨j + 1, by omega, by go_num, rfl, HFIN.out, hbz⟩
    case measure => simp [intOf]; omega
  · obtain rfl : j = N := by omega
    have hlt2 : ¬ (j : Int) < n := by rw [HN.out]; omega
    obtain ⟨ag, cg, rfl, hcs⟩ := own_cells hown
    rw [frT_strings] at hcs
    have f3 := HFK.out wr hbe
    have hln : ((misL xs ds T M k j).map fun u => ofT u.1 u.2).length = j + 1 := by rw [List.length_map, misL_length]
    have hsum := sum_any ag ((misL xs ds T M k j).map fun u => ofT u.1 u.2) cg wr (HT.out.below f3.2.2.2.2 (Nat.le_refl _)) hcs (by omega) (fun s hs => by
     obtain ⟨u, hu, rfl⟩ := List.mem_map.1 hs
     obtain ⟨_, m2, m3⟩ := HMB.out j (Nat.le_refl _) u hu
     exact ofT_size m2 m3)
    have hsum2 := hsum.mono fun e w' h => sum_of _ (HMB.out j (Nat.le_refl _)) (by rw [misL_length]; omega) h
    rw [hln, <- HQ.out] at hsum2
    have g5 := f3.2.2.2.2
    have HSUM := Lib.hid hsum2; clear hsum2 hsum hcs hown f3 hln
    go_wp2_with (go_at_call 69; refine (HSUM.out).mono ?_; rintro e w6 ⟨rfl, hb6⟩)
    go_ret2
    exact ⟨rfl, g5.trans (hb6.mono g5.size)⟩
theorem misfit_any (L p q : Int) (ao : Option Addr) (ds : List Int) (cap : Nat) (t n : Int) (w : World) (ht : Tab w) (hc : Cells w ao (ds.map (Value.int .i64))) (hl : ds.length <= 9223372036854775807) :
 Calls Tryz.prog 17 #[.int .i64 L, .agg #[.int .i64 p, .int .i64 q], .slice ao ds.length cap, .int .i64 t, .int .i64 n] w fun e w' => e = .returned (.tuple #[.string (misT L p q ds t n), .int .i64 (misE L p q ds t n)]) /\ Below w.heap.size w w' := by
 have bad : ∀ x : Int, x ≠ 0 -> misE L p q ds t n = x -> misT L p q ds t n = ⟨#[]⟩ := fun x hx h => by unfold misT; rw [h, if_neg hx]
 cases h1 : waveOK L p q
 · have he : misE L p q ds t n = 70 := by simp [misE, h1]
   rw [bad _ (by decide) he, he]; exact misfit_wave L p q ao ds cap t n w hc hl h1
 rcases Bool.eq_false_or_eq_true (silentB (wav L p q)) with h2 | h2
 · have he : misE L p q ds t n = 4 := by simp [misE, h1, h2]
   rw [bad _ (by decide) he, he]; exact misfit_silent L p q ao ds cap t n w hc hl h1 h2
 cases h3 : dataOK ds
 · have he : misE L p q ds t n = 73 := by simp [misE, h1, h2, h3]
   rw [bad _ (by decide) he, he]; exact misfit_data L p q ao ds cap t n w hc hl h1 h2 h3
 by_cases h4 : t < 0
 · have he : misE L p q ds t n = 8 := by simp [misE, h1, h2, h3, h4]
   rw [bad _ (by decide) he, he]; exact misfit_before L p q ao ds cap t n w hc hl h1 h2 h3 h4
 by_cases h5 : (ds.length : Int) - L < t
 · have he : misE L p q ds t n = 8 := by simp [misE, h1, h2, h3, h5]
   rw [bad _ (by decide) he, he]; exact misfit_behind L p q ao ds cap t n w hc hl h1 h2 h3 (by omega) h5
 cases h6 : inB 1 n 8
 · have he : misE L p q ds t n = 2 := by simp [misE, h1, h2, h3, h4, h5, h6]
   rw [bad _ (by decide) he, he]; exact misfit_parts L p q ao ds cap t n w hc hl h1 h2 h3 (by omega) h5 h6
 have h6' : 1 <= n /\ n <= 8 := by simpa [inB] using h6
 by_cases h7 : L % n = 0
 · have he : misE L p q ds t n = 0 := by simp [misE, h1, h2, h3, h4, h5, h6, h7]
   have hT : misT L p q ds t n = ofT (misQ L p q ds t n).1 (misQ L p q ds t n).2 := by unfold misT; rw [he, if_pos rfl]
   rw [hT, he]; exact misfit_ok L p q ao ds cap t n w hc hl h1 h2 h3 (by omega) (by omega) h6'.1 h6'.2 h7 ht
 · have he : misE L p q ds t n = 2 := by simp [misE, h1, h2, h3, h4, h5, h6, h7]
   rw [bad _ (by decide) he, he]; exact misfit_rest L p q ao ds cap t n w hc hl h1 h2 h3 (by omega) h5 h6 h7 h6'.1 h6'.2
end Go.Proofs.YtdpjdifoonfcdaaGreatDoor

namespace Go.Proofs.YtdpjdifoonfcdaaGreatDoor
open Go.RowKit
theorem ex_wave : wavR 4 8 0 = [0, 90, 127, 90] /\ wavE 4 8 0 = 0 := by decide +kernel
theorem ex_match : matT 4 16 0 48 0 = ⟨#[49, 47, 52]⟩ /\ matE 4 16 0 48 0 = 0 := by decide +kernel
theorem ex_points : ptsR 4 31 33 0 0 = [(31, 0), (33, 0)] /\ ptsE 4 31 33 0 0 = 0 := by decide +kernel
theorem ex_filter : filR 4 16 0 [0, 127, 0, -127, 0] = [32258, 0] /\ filE 4 16 0 [0, 127, 0, -127, 0] = 0 := by decide +kernel
theorem ex_misfit : misT 4 16 0 [0, 127, 0, 127] 0 2 = ⟨#[51, 50, 50, 53, 56]⟩ /\ misE 4 16 0 [0, 127, 0, 127] 0 2 = 0 := by decide +kernel
end Go.Proofs.YtdpjdifoonfcdaaGreatDoor
