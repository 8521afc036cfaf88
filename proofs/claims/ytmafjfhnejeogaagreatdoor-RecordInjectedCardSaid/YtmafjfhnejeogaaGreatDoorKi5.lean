/- Parts of a proof, in build order: Mc, Md, Mi, A0, A1, B0, A2, A3. -/
import Derived.Test.YtmafjfhnejeogaaGreatDoorKi4

/- Difference and product of natural numbers of package num, as values; added. -/
namespace Go.Proofs.YtmafjfhnejeogaaGreatDoor
open Go.RowKit

theorem minus_step {la lb os : List Nat} {i x y o b b' : Nat} (hx : la[i]? = some x) (hy : lb.getD i 0 = y) (hl : os.length = i) (h : val (la.take i) + B ^ i * b = val os + val (lb.take i)) (he : x + B * b' = o + y + b) :
    val (la.take (i + 1)) + B ^ (i + 1) * b' = val (os ++ [o]) + val (lb.take (i + 1)) := by
  rw [val_takeD, val_takeD, hy, val_snoc, hl]
  have h1 : la.getD i 0 = x := by simp [List.getD, hx]
  rw [h1, Nat.pow_succ, Nat.mul_assoc]
  have h2 : B ^ i * x + B ^ i * (B * b') = B ^ i * o + B ^ i * y + B ^ i * b := by rw [← Nat.mul_add, he, Nat.mul_add, Nat.mul_add]
  omega
theorem minus_end {m n b : Nat} {os : List Nat} (hs : Sm os) (hl : os.length = (dig m).length) (hle : n ≤ m) (h : val ((dig m).take (dig m).length) + B ^ (dig m).length * b = val os + val ((dig n).take (dig m).length)) : val os = m - n := by
  rw [List.take_length, val_dig, List.take_of_length_le (dig_len_mono hle), val_dig] at h
  have h1 := val_lt hs
  rw [hl] at h1
  rcases Nat.eq_zero_or_pos b with h0 | h0
  · subst h0; omega
  · have h2 : B ^ (dig m).length * 1 ≤ B ^ (dig m).length * b := Nat.mul_le_mul_left _ h0
    omega
theorem set_zer (os : List Nat) (k o i : Nat) (h : os.length = i) : (dgs (os ++ List.replicate (k + 1) 0)).set i (.int .u64 (o : Nat)) = dgs (os ++ [o] ++ List.replicate k 0) := by
  subst h
  rw [List.replicate_succ, dgs_append, List.set_append_right _ _ (by rw [dgs_length]; exact Nat.le_refl _), dgs_length, Nat.sub_self]
  simp [dgs]

set_option maxRecDepth 100000 in
set_option maxHeartbeats 2000000 in
/-- nat.minus -/
theorem natMinus_any (va vb : Value) (m n : Nat) (w : World) (ha : NatV w va m) (hb : NatV w vb n) (hm : (dig m).length ≤ 17592186044410) (hle : n ≤ m) :
    Calls Tryz.prog 224 #[va, vb] w fun e w' => (∃ v, e = .returned v ∧ NatV w' v (m - n)) ∧ Below w.heap.size w w' := by
  obtain ⟨i0, hi, hz0, hz1, hz2⟩ := info_parts Tryz.infoU64
  obtain ⟨aa, ca, rfl, ha, hac, hac2⟩ := ha
  obtain ⟨ab, cb, rfl, hb0, hbc, hbc2⟩ := hb
  have HA := Lib.hid ha; have HB := Lib.hid hb0
  clear ha hb0
  go_enter Tryz.func224, Tryz.ntmps224
  go_wp2_with (at_make; refine wpList_make_full _ rfl _ _ 126 rfl w.heap.size 196 i0 (.int .u64 0) 1 Tryz.underlying126 hi hz0 hz1 .i64 .i64 _ _ (dig m).length rfl rfl rfl rfl (by rw [hz2]; omega) (by unfold maxLen; omega) (Nat.le_refl _) ?_; intro w1 hown1 hgrow1)
  rw [zeros_dgs] at hown1
  have hb1 := (Below.refl w.heap.size w).grown hgrow1 (Nat.le_refl _) (fun _ h => by cases h)
  clear hgrow1
  have HO := Lib.hid hown1; clear hown1
  go_wp2
  go_loopw [6, 15] (fun bv iv wr => ∃ (i b : Nat) (os : List Nat), i ≤ (dig m).length ∧ iv = .int .i64 i ∧ bv = .int .u64 b ∧ b ≤ 1 ∧ Sm os ∧ val ((dig m).take i) + B ^ i * b = val os + val ((dig n).take i) ∧ os.length = i ∧ wr.ownsRow w.heap.size 196 1 (.slice (some ⟨w.heap.size, 0, none⟩) (dig m).length (dig m).length) (dig m).length (dgs (os ++ List.replicate ((dig m).length - i) 0)) ∧ Below w.heap.size w wr) (fun _ iv _ => (dig m).length - (intOf iv).toNat)
  case atStart => exact ⟨0, 0, [], Nat.zero_le _, rfl, rfl, by omega, fun d hd => by simp at hd, by simp [val], rfl, by simpa using HO.out, hb1⟩
  case round =>
    clear hb1 HO
    obtain ⟨i, b, os, hi9, rfl, rfl, hb1, hsm, heq, hol, hown, hb⟩ := hrel
    by_cases hii : i = (dig m).length
    · have hve := minus_end hsm (by rw [hol, hii]) hle (by rw [← hii]; exact heq)
      rw [hii, Nat.sub_self, List.replicate_zero, List.append_nil] at hown
      obtain ⟨g, c, hv, hcs⟩ := own_cells hown
      simp only [Value.slice.injEq, true_and] at hv
      obtain ⟨rfl, rfl⟩ := hv
      have hoL : os.length = (dig m).length := by omega
      have hln := lean_any (some ⟨w.heap.size, 0, none⟩) os (dig m).length wr hcs hsm (by omega) (by omega) (by omega)
      rw [hve, hoL] at hln
      have hdl := dig_len_mono (show m - n ≤ m by omega)
      have hi1 : ¬ (i : Int) < (dig m).length := by omega
      have hi2 : (dig m).length ≤ i := by omega
      have HLN := Lib.hid hln
      clear hln hcs hown hve heq hsm hol hii hoL
      go_wp2_with fail
      refine HLN.out.mono ?_
      rintro e w2 ⟨⟨rfl, hcl⟩, rfl⟩
      have HCL := Lib.hid hcl; clear hcl
      go_wp2
      go_ret
      exact ⟨⟨_, rfl, _, _, rfl, HCL.out, hdl, by omega⟩, hb⟩
    · have hilt : i < (dig m).length := by omega
      obtain ⟨x, hx⟩ := get_of_lt hilt
      obtain ⟨ba, offa, rfl⟩ := HA.out.addr (dgs_ne (by omega))
      have cx := cell_keep (HA.out.dgs hx) hb (Nat.le_refl _)
      have hxb := sm_get (sm_dig m) hx
      have j0 : (i : Int) < (dig m).length := by omega
      have hrep : (dig m).length - i = ((dig m).length - (i + 1)) + 1 := by omega
      rw [hrep] at hown
      have c2 := hown.cellAt i (by omega)
      rw [show (dgs (os ++ List.replicate (((dig m).length - (i + 1)) + 1) 0))[i]? = some (.int .u64 (0 : Nat)) from by rw [dgs_append, List.getElem?_append_right (by rw [dgs_length]; omega), dgs_length, hol, Nat.sub_self, List.replicate_succ]; rfl] at c2
      have c3 := hown.frozenAt i
      have hsto := fun o : Nat => (hown.stored i (.int .u64 (o : Nat))).1
      have hsz := hb.size
      have hszl : w.heap.size < wr.heap.size := by have := World.block_lt_of_cell? wr _ c2; simpa using this
      have HSTO : Hid (∀ o : Nat, (wr.setCell ⟨w.heap.size, i, none⟩ (.int .u64 (o : Nat))).ownsRow w.heap.size 196 1 (.slice (some ⟨w.heap.size, 0, none⟩) (dig m).length (dig m).length) (dig m).length (dgs (os ++ [o] ++ List.replicate ((dig m).length - (i + 1)) 0))) := fun o => by
        have := hsto o
        rwa [set_zer _ _ _ _ hol] at this
      have HB2 : Hid (∀ o : Nat, Below w.heap.size w (wr.setCell ⟨w.heap.size, i, none⟩ (.int .u64 (o : Nat)))) := fun o => hb.setCell (Nat.le_refl _) _
      have HHX := Lib.hid hx; have HHEQ := Lib.hid heq; have HHSM := Lib.hid hsm; have HHOL := Lib.hid hol
      have hB : B = 1000000000 := rfl
      clear hx heq hsm hol hii hsto hown hrep
      by_cases hib : i < (dig n).length
      · obtain ⟨y, hy⟩ := get_of_lt hib
        obtain ⟨bb, offb, rfl⟩ := HB.out.addr (dgs_ne (by omega))
        have cy := cell_keep (HB.out.dgs hy) hb (Nat.le_refl _)
        have hyb := sm_get (sm_dig n) hy
        have hyd : (dig n).getD i 0 = y := by simp [List.getD, hy]
        have j1 : (i : Int) < (dig n).length := by omega
        by_cases hneg : x < b + y
        · obtain ⟨o, ho⟩ : ∃ o, o = x + B - b - y := ⟨_, rfl⟩
          have e4 : (x : Int) + 1000000000 - ((b : Int) + y) = (o : Int) := by omega
          have HEQ := Lib.hid (minus_step (o := o) (b' := 1) HHX.out hyd HHOL.out HHEQ.out (by omega))
          have HSM := Lib.hid (sm_append HHSM.out (sm_one (d := o) (by omega)))
          have hneg2 : (x : Int) < ((b : Int) + y) := by omega
          clear hy hyd ho hB hneg
          go_wp2
          go_roundw
          case rel => exact ⟨i + 1, 1, os ++ [o], by omega, by go_num, rfl, by omega, HSM.out, HEQ.out, by rw [List.length_append, HHOL.out]; rfl, HSTO.out o, HB2.out o⟩
          case measure => simp [intOf]; omega
        · obtain ⟨o, ho⟩ : ∃ o, o = x - b - y := ⟨_, rfl⟩
          have e4 : (x : Int) - ((b : Int) + y) = (o : Int) := by omega
          have HEQ := Lib.hid (minus_step (o := o) (b' := 0) HHX.out hyd HHOL.out HHEQ.out (by omega))
          have HSM := Lib.hid (sm_append HHSM.out (sm_one (d := o) (by omega)))
          have hneg2 : ¬ (x : Int) < ((b : Int) + y) := by omega
          clear hy hyd ho hB hneg
          go_wp2
          go_roundw
          case rel => exact ⟨i + 1, 0, os ++ [o], by omega, by go_num, rfl, by omega, HSM.out, HEQ.out, by rw [List.length_append, HHOL.out]; rfl, HSTO.out o, HB2.out o⟩
          case measure => simp [intOf]; omega
      · have hyd : (dig n).getD i 0 = 0 := by simp [List.getD, List.getElem?_eq_none (show (dig n).length ≤ i by omega)]
        have j1 : ¬ (i : Int) < (dig n).length := by omega
        by_cases hneg : x < b + 0
        · obtain ⟨o, ho⟩ : ∃ o, o = x + B - b - 0 := ⟨_, rfl⟩
          have e4 : (x : Int) + 1000000000 - (b : Int) = (o : Int) := by omega
          have HEQ := Lib.hid (minus_step (o := o) (b' := 1) HHX.out hyd HHOL.out HHEQ.out (by omega))
          have HSM := Lib.hid (sm_append HHSM.out (sm_one (d := o) (by omega)))
          have hneg2 : (x : Int) < (b : Int) := by omega
          clear  hyd ho hB hneg
          go_wp2
          go_roundw
          case rel => exact ⟨i + 1, 1, os ++ [o], by omega, by go_num, rfl, by omega, HSM.out, HEQ.out, by rw [List.length_append, HHOL.out]; rfl, HSTO.out o, HB2.out o⟩
          case measure => simp [intOf]; omega
        · obtain ⟨o, ho⟩ : ∃ o, o = x - b - 0 := ⟨_, rfl⟩
          have e4 : (x : Int) - (b : Int) = (o : Int) := by omega
          have HEQ := Lib.hid (minus_step (o := o) (b' := 0) HHX.out hyd HHOL.out HHEQ.out (by omega))
          have HSM := Lib.hid (sm_append HHSM.out (sm_one (d := o) (by omega)))
          have hneg2 : ¬ (x : Int) < (b : Int) := by omega
          clear  hyd ho hB hneg
          go_wp2
          go_roundw
          case rel => exact ⟨i + 1, 0, os ++ [o], by omega, by go_num, rfl, by omega, HSM.out, HEQ.out, by rw [List.length_append, HHOL.out]; rfl, HSTO.out o, HB2.out o⟩
          case measure => simp [intOf]; omega

/-- nat.times, of values -/
theorem natTimes_any (va vb : Value) (m n : Nat) (w : World) (ha : NatV w va m) (hb : NatV w vb n) (hl : (dig m).length + (dig n).length ≤ 17592186044416) :
    Calls Tryz.prog 190 #[va, vb] w fun e w' => (∃ v, e = .returned v ∧ NatV w' v (m * n)) ∧ Below w.heap.size w w' := by
  obtain ⟨aa, ca, rfl, ha, _⟩ := ha
  obtain ⟨ab, cb, rfl, hb0, _⟩ := hb
  refine (times_lists aa ab (dig m) (dig n) ca cb w ha hb0 (sm_dig m) (sm_dig n) hl).mono ?_
  rintro e w' ⟨⟨v, rfl, ho⟩, hb⟩
  rw [val_dig, val_dig] at ho
  exact ⟨⟨v, rfl, natV_own ho⟩, hb⟩
/-- nat.compare, of values -/
theorem natCmp_any (va vb : Value) (m n : Nat) (w : World) (ha : NatV w va m) (hb : NatV w vb n) (hm : (dig m).length ≤ 4611686018427387904) (hn : (dig n).length ≤ 4611686018427387904) :
    Calls Tryz.prog 196 #[va, vb] w fun e w' => e = .returned (.int .i64 (cmpN m n)) ∧ Below w.heap.size w w' := by
  obtain ⟨aa, ca, rfl, ha, _⟩ := ha
  obtain ⟨ab, cb, rfl, hb0, _⟩ := hb
  exact compare_any aa ab m n ca cb w ha hb0 hm hn

/-- a sum of two numbers with signs: its sign, its magnitude -/
def adS (s : Bool) (m : Nat) (t : Bool) (n : Nat) : Bool := if s = t then s else if n ≤ m then s else t
def adN (s : Bool) (m : Nat) (t : Bool) (n : Nat) : Nat := if s = t then m + n else if n ≤ m then m - n else n - m
theorem adN_le (s : Bool) (m : Nat) (t : Bool) (n : Nat) : adN s m t n ≤ m + n := by unfold adN; split <;> (try split) <;> omega
def AddedRes (s : Bool) (m : Nat) (t : Bool) (n : Nat) (w : World) (e : Ending) (w' : World) : Prop := (∃ v, e = .returned (.tuple #[.bool (adS s m t n), v]) ∧ NatV w' v (adN s m t n)) ∧ Below w.heap.size w w'

set_option maxRecDepth 100000 in
theorem added_any (s t : Bool) (va vb : Value) (m n : Nat) (w : World) (ha : NatV w va m) (hb : NatV w vb n) (hm : (dig m).length ≤ 17592186044410) (hn : (dig n).length ≤ 17592186044410) :
    Calls Tryz.prog 189 #[.bool s, va, .bool t, vb] w (AddedRes s m t n w) := by
  have HA := Lib.hid ha; have HB := Lib.hid hb
  obtain ⟨aa, ca, rfl⟩ := ha.cases
  obtain ⟨ab, cb, rfl⟩ := hb.cases
  clear ha hb
  by_cases hst : s = t
  · subst hst
    have e1 : adS s m s n = s := by simp [adS]
    have e2 : adN s m s n = m + n := by simp [adN]
    have E1 := Lib.hid e1; have E2 := Lib.hid e2
    clear e1 e2
    cases s
    all_goals
      go_enter Tryz.func189, Tryz.ntmps189
      go_wp2_with fail
      refine (natPlus_any _ _ m n _ HA.out HB.out hm hn).mono ?_
      rintro e w1 ⟨⟨v1, rfl, hv1⟩, hb1⟩
      have HV := Lib.hid hv1
      obtain ⟨a1, c1, rfl⟩ := hv1.cases
      clear hv1
      go_wp2
      go_ret2
      exact ⟨⟨_, by rw [E1.out]; rfl, by rw [E2.out]; exact HV.out⟩, hb1⟩
  · have hb0 : (s == t) = false := by simpa using hst
    by_cases hle : n ≤ m
    · have e1 : adS s m t n = s := by simp [adS, hst, hle]
      have e2 : adN s m t n = m - n := by simp [adN, hst, hle]
      have hc : (0 : Int) ≤ cmpN m n := by
        rcases Nat.lt_or_ge n m with h | h
        · rw [cmpN_gt h]; omega
        · rw [show m = n by omega, cmpN_eq]; omega
      have E1 := Lib.hid e1; have E2 := Lib.hid e2
      clear e1 e2 hst
      go_enter Tryz.func189, Tryz.ntmps189
      go_wp2_with fail
      refine (natCmp_any _ _ m n _ HA.out HB.out (by omega) (by omega)).mono ?_
      rintro e w0 ⟨rfl, hb0⟩
      go_wp2_with fail
      refine (natMinus_any _ _ m n _ (HA.out.below hb0 (Nat.le_refl _)) (HB.out.below hb0 (Nat.le_refl _)) hm hle).mono ?_
      rintro e w1 ⟨⟨v1, rfl, hv1⟩, hb1⟩
      replace hb1 := hb0.trans (hb1.mono hb0.size)
      have HV := Lib.hid hv1
      obtain ⟨a1, c1, rfl⟩ := hv1.cases
      clear hv1
      go_wp2
      go_ret2
      exact ⟨⟨_, by rw [E1.out]; rfl, by rw [E2.out]; exact HV.out⟩, hb1⟩
    · have e1 : adS s m t n = t := by simp [adS, hst, hle]
      have e2 : adN s m t n = n - m := by simp [adN, hst, hle]
      have hc : cmpN m n < 0 := by rw [cmpN_lt (by omega)]; omega
      have E1 := Lib.hid e1; have E2 := Lib.hid e2
      clear e1 e2 hst
      go_enter Tryz.func189, Tryz.ntmps189
      go_wp2_with fail
      refine (natCmp_any _ _ m n _ HA.out HB.out (by omega) (by omega)).mono ?_
      rintro e w0 ⟨rfl, hb0⟩
      go_wp2_with fail
      refine (natMinus_any _ _ n m _ (HB.out.below hb0 (Nat.le_refl _)) (HA.out.below hb0 (Nat.le_refl _)) hn (by omega)).mono ?_
      rintro e w1 ⟨⟨v1, rfl, hv1⟩, hb1⟩
      replace hb1 := hb0.trans (hb1.mono hb0.size)
      have HV := Lib.hid hv1
      obtain ⟨a1, c1, rfl⟩ := hv1.cases
      clear hv1
      go_wp2
      go_ret2
      exact ⟨⟨_, by rw [E1.out]; rfl, by rw [E2.out]; exact HV.out⟩, hb1⟩
end Go.Proofs.YtmafjfhnejeogaaGreatDoor

/- Rational numbers of package num: the sum. -/
namespace Go.Proofs.YtmafjfhnejeogaaGreatDoor
open Go.RowKit

theorem dig_mul_len (a b : Nat) : (dig (a * b)).length ≤ (dig a).length + (dig b).length := by
  refine dig_len_lt ?_
  rw [Nat.pow_add]
  exact Nat.mul_lt_mul'' (lt_pow_len a) (lt_pow_len b)
theorem dig_add_len {a b k : Nat} (ha : (dig a).length ≤ k) (hb : (dig b).length ≤ k) : (dig (a + b)).length ≤ k + 1 := by
  refine dig_len_lt ?_
  have h1 := Nat.lt_of_lt_of_le (lt_pow_len a) (Nat.pow_le_pow_right B_pos ha)
  have h2 := Nat.lt_of_lt_of_le (lt_pow_len b) (Nat.pow_le_pow_right B_pos hb)
  rw [Nat.pow_succ]
  have : B ^ k * 2 ≤ B ^ k * B := Nat.mul_le_mul_left _ (by decide)
  omega
theorem boxes3 {w w1 : World} {A1 A2 A3 : Array Value} {T1 T2 T3 : TypeId} {B : Nat} (hb : Below B (((w.alloc (.cells A1 T1)).alloc (.cells A2 T2)).alloc (.cells A3 T3)) w1) (hB : w.heap.size + 2 < B) :
    (∀ i, w1.cell? ⟨w.heap.size, i, none⟩ = A1[i]?) ∧ (∀ i, w1.cell? ⟨w.heap.size + 1, i, none⟩ = A2[i]?) ∧ (∀ i, w1.cell? ⟨w.heap.size + 2, i, none⟩ = A3[i]?) ∧ (∀ i, w1.frozen? ⟨w.heap.size + 2, i, none⟩ = false) := by
  refine ⟨fun i => ?_, fun i => ?_, fun i => ?_, fun i => ?_⟩
  · rw [hb.cell (p := ⟨w.heap.size, i, none⟩) (show w.heap.size < B by omega), World.cell?_alloc_old _ _ _ (by simp; omega), World.cell?_alloc_old _ _ _ (by simp)]; simp
  · rw [hb.cell (p := ⟨w.heap.size + 1, i, none⟩) (show w.heap.size + 1 < B by omega)]
    have := box_keep (w := w.alloc (.cells A1 T1)) (B := w.heap.size + 3) (Below.refl _ ((((w.alloc (.cells A1 T1)).alloc (.cells A2 T2)))) ) (by simp) i
    rw [World.cell?_alloc_old _ _ _ (by simp)]
    rw [World.size_alloc] at this
    exact this
  · have := box_keep (w := (w.alloc (.cells A1 T1)).alloc (.cells A2 T2)) hb (by simp; omega) i
    simpa using this
  · have := box_free (w := (w.alloc (.cells A1 T1)).alloc (.cells A2 T2)) hb (by simp; omega) i
    simpa using this
/-- the sum of two rational numbers, reduced -/
def rpU (s1 : Bool) (n1 d1 : Nat) (s2 : Bool) (n2 d2 : Nat) : Nat := adN s1 (n1 * d2) s2 (n2 * d1)
def rpS (s1 : Bool) (n1 d1 : Nat) (s2 : Bool) (n2 d2 : Nat) : Bool := adS s1 (n1 * d2) s2 (n2 * d1) && decide (rpU s1 n1 d1 s2 n2 d2 ≠ 0)
def rpN (s1 : Bool) (n1 d1 : Nat) (s2 : Bool) (n2 d2 : Nat) : Nat := rpU s1 n1 d1 s2 n2 d2 / Nat.gcd (rpU s1 n1 d1 s2 n2 d2) (d1 * d2)
def rpD (s1 : Bool) (n1 d1 : Nat) (s2 : Bool) (n2 d2 : Nat) : Nat := d1 * d2 / Nat.gcd (rpU s1 n1 d1 s2 n2 d2) (d1 * d2)
def RatRes (s : Bool) (n d : Nat) (w : World) (e : Ending) (w' : World) : Prop := (∃ v, e = .returned v ∧ RatV w' v s n d) ∧ Below w.heap.size w w'

theorem RatV.slices {w : World} {v : Value} {s : Bool} {n d : Nat} (h : RatV w v s n d) : ∃ a c a2 c2, v = .agg #[.bool s, .slice a (dig n).length c, .slice a2 (dig d).length c2] ∧ NatV w (.slice a (dig n).length c) n ∧ NatV w (.slice a2 (dig d).length c2) d := by
  obtain ⟨va, vb, rfl, ha, hb⟩ := h
  obtain ⟨aa, ca, rfl⟩ := ha.cases
  obtain ⟨ab, cb, rfl⟩ := hb.cases
  exact ⟨_, _, _, _, rfl, ha, hb⟩

set_option maxRecDepth 100000 in
set_option maxHeartbeats 4000000 in
theorem ratPlus_any (v1 v2 : Value) (s1 : Bool) (n1 d1 : Nat) (s2 : Bool) (n2 d2 : Nat) (w : World) (h1 : RatV w v1 s1 n1 d1) (h2 : RatV w v2 s2 n2 d2) (hd1 : d1 ≠ 0) (hd2 : d2 ≠ 0)
    (l1 : (dig n1).length ≤ 1000000000) (l2 : (dig d1).length ≤ 1000000000) (l3 : (dig n2).length ≤ 1000000000) (l4 : (dig d2).length ≤ 1000000000) :
    Calls Tryz.prog 136 #[v1, v2] w (RatRes (rpS s1 n1 d1 s2 n2 d2) (rpN s1 n1 d1 s2 n2 d2) (rpD s1 n1 d1 s2 n2 d2) w) := by
  obtain ⟨a1, c1, a2, c2, rfl, k1, k2⟩ := h1.slices
  obtain ⟨a3, c3, a4, c4, rfl, k3, k4⟩ := h2.slices
  have m1 := dig_mul_len n1 d2
  have m2 := dig_mul_len n2 d1
  have m3 := dig_mul_len d1 d2
  have m4 := dig_len_mono (adN_le s1 (n1 * d2) s2 (n2 * d1))
  have m5 := dig_add_len (a := n1 * d2) (b := n2 * d1) (k := 2000000000) (by omega) (by omega)
  have m6 : (dig (rpU s1 n1 d1 s2 n2 d2)).length ≤ 2000000001 := Nat.le_trans m4 m5
  have hd0 : d1 * d2 ≠ 0 := Nat.mul_ne_zero hd1 hd2
  have hal : Below w.heap.size w (((w.alloc (.cells #[.bool s1, .slice a1 (dig n1).length c1, .slice a2 (dig d1).length c2] 128)).alloc (.cells #[.bool s2, .slice a3 (dig n2).length c3, .slice a4 (dig d2).length c4] 128)).alloc (.cells #[.bool false, .slice none 0 0, .slice none 0 0] 128)) := (((Below.refl w.heap.size w).alloc (Nat.le_refl _) _).alloc (by simp) _).alloc (by simp; omega) _
  obtain ⟨W3, hW3⟩ : ∃ W3, W3 = (((w.alloc (.cells #[.bool s1, .slice a1 (dig n1).length c1, .slice a2 (dig d1).length c2] 128)).alloc (.cells #[.bool s2, .slice a3 (dig n2).length c3, .slice a4 (dig d2).length c4] 128)).alloc (.cells #[.bool false, .slice none 0 0, .slice none 0 0] 128)) := ⟨_, rfl⟩
  have hz3 : W3.heap.size = w.heap.size + 3 := by rw [hW3]; simp
  have HBX : Hid (∀ {B : Nat} {w1 : World}, Below B W3 w1 → w.heap.size + 2 < B → (∀ i, w1.cell? ⟨w.heap.size, i, none⟩ = #[Value.bool s1, .slice a1 (dig n1).length c1, .slice a2 (dig d1).length c2][i]?) ∧ (∀ i, w1.cell? ⟨w.heap.size + 1, i, none⟩ = #[Value.bool s2, .slice a3 (dig n2).length c3, .slice a4 (dig d2).length c4][i]?) ∧ (∀ i, w1.cell? ⟨w.heap.size + 2, i, none⟩ = #[Value.bool false, .slice none 0 0, .slice none 0 0][i]?) ∧ (∀ i, w1.frozen? ⟨w.heap.size + 2, i, none⟩ = false)) := fun hb hB => by rw [hW3] at hb; exact boxes3 hb hB
  rw [← hW3] at hal
  have HT1 : Hid (∀ W, Below W3.heap.size W3 W → Calls Tryz.prog 190 #[.slice a1 (dig n1).length c1, .slice a4 (dig d2).length c4] W fun e w' => (∃ v, e = .returned v ∧ NatV w' v (n1 * d2)) ∧ Below W.heap.size W w') := fun W hb => natTimes_any _ _ n1 d2 W ((k1.below hal (Nat.le_refl _)).below hb (Nat.le_refl _)) ((k4.below hal (Nat.le_refl _)).below hb (Nat.le_refl _)) (by omega)
  have HT2 : Hid (∀ W, Below W3.heap.size W3 W → Calls Tryz.prog 190 #[.slice a3 (dig n2).length c3, .slice a2 (dig d1).length c2] W fun e w' => (∃ v, e = .returned v ∧ NatV w' v (n2 * d1)) ∧ Below W.heap.size W w') := fun W hb => natTimes_any _ _ n2 d1 W ((k3.below hal (Nat.le_refl _)).below hb (Nat.le_refl _)) ((k2.below hal (Nat.le_refl _)).below hb (Nat.le_refl _)) (by omega)
  have HT3 : Hid (∀ W, Below W3.heap.size W3 W → Calls Tryz.prog 190 #[.slice a2 (dig d1).length c2, .slice a4 (dig d2).length c4] W fun e w' => (∃ v, e = .returned v ∧ NatV w' v (d1 * d2)) ∧ Below W.heap.size W w') := fun W hb => natTimes_any _ _ d1 d2 W ((k2.below hal (Nat.le_refl _)).below hb (Nat.le_refl _)) ((k4.below hal (Nat.le_refl _)).below hb (Nat.le_refl _)) (by omega)
  have HAD : Hid (∀ va vb W, NatV W va (n1 * d2) → NatV W vb (n2 * d1) → Calls Tryz.prog 189 #[.bool s1, va, .bool s2, vb] W (AddedRes s1 (n1 * d2) s2 (n2 * d1) W)) := fun va vb W ha hb => added_any s1 s2 va vb _ _ W ha hb (by omega) (by omega)
  have HRD : Hid (∀ va vb W, NatV W va (adN s1 (n1 * d2) s2 (n2 * d1)) → NatV W vb (d1 * d2) → Calls Tryz.prog 93 #[.bool (adS s1 (n1 * d2) s2 (n2 * d1)), va, vb] W fun e w' => (∃ v, e = .returned v ∧ RatV w' v (rpS s1 n1 d1 s2 n2 d2) (rpN s1 n1 d1 s2 n2 d2) (rpD s1 n1 d1 s2 n2 d2)) ∧ Below W.heap.size W w') := fun va vb W ha hb => reduced_any (d1 * d2 + 1) (overOK_all _) _ va vb _ _ W ha hb (Nat.le_trans m6 (by decide)) (by omega) (by omega) hd0
  obtain ⟨ps, hps⟩ : ∃ ps, ps = rpS s1 n1 d1 s2 n2 d2 := ⟨_, rfl⟩
  obtain ⟨pn, hpn⟩ : ∃ pn, pn = rpN s1 n1 d1 s2 n2 d2 := ⟨_, rfl⟩
  obtain ⟨pd, hpd⟩ : ∃ pd, pd = rpD s1 n1 d1 s2 n2 d2 := ⟨_, rfl⟩
  rw [← hps, ← hpn, ← hpd] at HRD ⊢
  have HBW := Lib.hid hal
  obtain ⟨q0, q1, q2, -⟩ := HBX.out (Below.refl (w.heap.size + 3) W3) (by omega)
  have q00 := q0 0
  have q01 := q0 1
  have q02 := q0 2
  have q10 := q1 0
  have q11 := q1 1
  have q12 := q1 2
  simp only [List.getElem?_toArray, List.getElem?_cons_succ, List.getElem?_cons_zero] at q00 q01 q02 q10 q11 q12
  clear q0 q1 q2 hal h1 h2 k1 k2 k3 k4 m1 m2 m3 m4 m5 m6 hd0 hd1 hd2 hps hpn hpd
  go_enter Tryz.func136, Tryz.ntmps136
  go_wp2_with fail
  rw [← hW3]
  have HW3 := Lib.hid hW3
  clear hW3
  go_region_held3 (fun w' => w'.cell? ⟨w.heap.size, 0, none⟩ = some (.bool s1) ∧ w'.cell? ⟨w.heap.size, 1, none⟩ = some (.slice a1 (dig n1).length c1) ∧ w'.cell? ⟨w.heap.size, 2, none⟩ = some (.slice a2 (dig d1).length c2) ∧ w'.cell? ⟨w.heap.size + 1, 0, none⟩ = some (.bool s2) ∧ w'.cell? ⟨w.heap.size + 1, 1, none⟩ = some (.slice a3 (dig n2).length c3) ∧ w'.cell? ⟨w.heap.size + 1, 2, none⟩ = some (.slice a4 (dig d2).length c4))
    (first | exact ⟨q00, q01, q02, q10, q11, q12⟩ | exact ⟨cell_keep q00 hbz (Nat.le_refl _), cell_keep q01 hbz (Nat.le_refl _), cell_keep q02 hbz (Nat.le_refl _), cell_keep q10 hbz (Nat.le_refl _), cell_keep q11 hbz (Nat.le_refl _), cell_keep q12 hbz (Nat.le_refl _)⟩ | go_keep)
    (first
      | (go_at_call 190; (with_reducible refine Calls.mono (HT1.out W3.drew ((Below.refl W3.heap.size W3).drew)) ?_); rintro e w4 ⟨⟨v4, rfl, h4⟩, hb4⟩; obtain ⟨a5, c5, rfl⟩ := h4.cases; have hbz : Below W3.heap.size W3 w4 := ((Below.refl W3.heap.size W3).drew).trans hb4; have HB4 := Lib.hid hbz; have H4 := Lib.hid h4; clear h4 hb4)
      | (go_at_call 190; (with_reducible refine Calls.mono (HT2.out w4 HB4.out) ?_); rintro e w5 ⟨⟨v5, rfl, h5⟩, hb5⟩; obtain ⟨a6, c6, rfl⟩ := h5.cases; have hbz : Below W3.heap.size W3 w5 := HB4.out.trans (hb5.mono HB4.out.size); have HB5 := Lib.hid hbz; have H45 := Lib.hid (H4.out.below hb5 (Nat.le_refl _)); have H5 := Lib.hid h5; clear h5 hb5)
      | (go_at_call 189; (with_reducible refine Calls.mono (HAD.out _ _ w5 H45.out H5.out) ?_); rintro e w6 ⟨⟨v6, rfl, h6⟩, hb6⟩; obtain ⟨a7, c7, rfl⟩ := h6.cases; have hbz : Below W3.heap.size W3 w6 := HB5.out.trans (hb6.mono HB5.out.size); have HB6 := Lib.hid hbz; have H6 := Lib.hid h6; clear h6 hb6))
  clear hbz q00 q01 q02 q10 q11 q12
  obtain ⟨q0, q1, -, -⟩ := HBX.out HB6.out (by omega)
  have q02 := q0 2
  have q12 := q1 2
  simp only [List.getElem?_toArray, List.getElem?_cons_succ, List.getElem?_cons_zero] at q02 q12
  clear q0 q1
  go_wp2_with fail
  clear q02 q12
  refine (HT3.out w6 HB6.out).mono ?_
  rintro e w7 ⟨⟨v7, rfl, h7⟩, hb7⟩
  have HB7 := Lib.hid (HB6.out.trans (hb7.mono HB6.out.size))
  have H67 := Lib.hid (H6.out.below hb7 (Nat.le_refl _))
  clear hb7
  go_wp2_with fail
  refine (HRD.out _ _ w7 H67.out h7).mono ?_
  rintro e w8 ⟨⟨v8, rfl, h8⟩, hb8⟩
  have HB8 := Lib.hid (HB7.out.trans (hb8.mono HB7.out.size))
  obtain ⟨a8, c8, a9, c9, rfl, k8, k9⟩ := h8.slices
  have K8 := Lib.hid k8; have K9 := Lib.hid k9
  clear h8 h7 hb8 k8 k9
  obtain ⟨-, -, q2, f2⟩ := HBX.out HB8.out (by omega)
  have q20 := q2 0
  have q21 := q2 1
  have q22 := q2 2
  simp only [List.getElem?_toArray, List.getElem?_cons_succ, List.getElem?_cons_zero] at q20 q21 q22
  have f0 := f2 0
  have f1 := f2 1
  have f3 := f2 2
  clear q2 f2
  have hbw := HBW.out.trans (HB8.out.mono (by omega))
  have hle : w.heap.size ≤ w.heap.size + 1 + 1 := by omega
  go_wp2
  refine bodyPost_ret (v := .agg #[.bool ps, .slice a8 (dig pn).length c8, .slice a9 (dig pd).length c9]) (by simp [results, Tryz.results136, go_sem, q20, q21, q22]) rfl ?_
  exact ⟨⟨_, rfl, _, _, rfl, K8.out.box3 q20 q21 q22 trivial trivial trivial, K9.out.box3 q20 q21 q22 trivial trivial trivial⟩, ((hbw.setCell hle _).setCell hle _).setCell hle _⟩
end Go.Proofs.YtmafjfhnejeogaaGreatDoor

/- Numbers' own texts are read as the numbers; the sum of reduced fractions. Plain. -/
namespace Go.Proofs.YtmafjfhnejeogaaGreatDoor
open Go.RowKit

theorem ib_none {l : List UInt8} (h : ∀ b ∈ l, b ≠ 47) : Lib.indexByte l 47 = -1 := by
  induction l with
  | nil => rfl
  | cons b l ih =>
    have h1 := ih (fun x hx => h x (by simp [hx]))
    have h2 : (b == 47) = false := by simpa using h b (by simp)
    rw [Lib.indexByte, h2, h1]; rfl
theorem ib_some {l r : List UInt8} (h : ∀ b ∈ l, b ≠ 47) : Lib.indexByte (l ++ 47 :: r) 47 = l.length := by
  induction l with
  | nil => rfl
  | cons b l ih =>
    have h1 := ih (fun x hx => h x (by simp [hx]))
    have h2 : (b == 47) = false := by simpa using h b (by simp)
    rw [List.cons_append, Lib.indexByte, h2, h1]
    have h3 : (((l.length : Nat) : Int) == -1) = false := by rw [beq_eq_false_iff_ne]; omega
    rw [h3, List.length_cons]
    simp
theorem cut_none {l : List UInt8} (h : ∀ b ∈ l, b ≠ 47) : Lib.cut l [47] = (l, [], false) := by
  unfold Lib.cut
  rw [Lib.index_one, ib_none h, if_neg (by omega)]
theorem cut_some {l r : List UInt8} (h : ∀ b ∈ l, b ≠ 47) : Lib.cut (l ++ 47 :: r) [47] = (l, r, true) := by
  unfold Lib.cut
  rw [Lib.index_one, ib_some h, if_pos (by omega)]
  simp
theorem dg_ne {b : UInt8} (h : isDg b = true) : b ≠ 47 ∧ b ≠ 45 ∧ b ≠ 105 := by
  simp only [isDg, Bool.and_eq_true, decide_eq_true_eq] at h
  refine ⟨?_, ?_, ?_⟩ <;> (rintro rfl; simp at h)
theorem dec_dg (n : Nat) : ∀ b ∈ Lib.decDigits n, isDg b = true := fun b hb => List.all_eq_true.1 (dec_read n).1 b hb
theorem ratT_list (s : Bool) (n d : Nat) : (ratT s n d).data.toList = (if s = true then [45] else []) ++ (Lib.decDigits n ++ if d = 1 then [] else 47 :: Lib.decDigits d) := by
  unfold ratT sgT decB
  cases s <;> by_cases hd : d = 1 <;> simp [hd, ByteArray.data_append]
theorem ratT_size (s : Bool) (n d : Nat) : (ratT s n d).size ≤ Lib.nDigits n + Lib.nDigits d + 2 := by
  have h : (ratT s n d).size = (ratT s n d).data.toList.length := rfl
  rw [h, ratT_list]
  have h1 := Lib.decDigits_length n
  have h2 := Lib.decDigits_length d
  simp only [List.length_append]
  split <;> split <;> simp <;> omega
theorem ratT_noI (s : Bool) (n d : Nat) : Lib.hasSuffix (ratT s n d).data.toList [105] = false := by
  rw [ratT_list]
  unfold Lib.hasSuffix
  have key : ∀ (p : List UInt8) (q : List UInt8), q ≠ [] → (∀ b ∈ q, isDg b = true) → [105].isSuffixOf (p ++ q) = false := by
    intro p q hq hd
    rw [Bool.eq_false_iff]
    intro h
    have h1 := List.isSuffixOf_iff_suffix.1 h
    obtain ⟨r, hr⟩ := h1
    have h2 := congrArg List.getLast? hr
    rw [List.getLast?_append, List.getLast?_append, List.getLast?_eq_some_getLast hq] at h2
    simp only [List.getLast?_singleton, Option.some_or, Option.some.injEq] at h2
    have h3 := List.getLast_mem hq
    rw [← h2] at h3
    exact (dg_ne (hd _ h3)).2.2 rfl
  have hn := (dec_read n).2.2
  by_cases hd : d = 1
  · rw [if_pos hd, List.append_nil]
    exact key _ _ hn (dec_dg n)
  · rw [if_neg hd]
    have := key ((if s = true then [45] else []) ++ (Lib.decDigits n ++ [47])) (Lib.decDigits d) (dec_read d).2.2 (dec_dg d)
    simpa using this
theorem parseR_own (s : Bool) (n d : Nat) (hd : d ≠ 0) : parseR (ratT s n d).data.toList = some (s, n, d) := by
  rw [ratT_list]
  have hne : ∀ b ∈ Lib.decDigits n, b ≠ 47 := fun b hb => (dg_ne (dec_dg n b hb)).1
  have hpre : Lib.hasPrefix ((if s = true then [45] else []) ++ (Lib.decDigits n ++ if d = 1 then [] else 47 :: Lib.decDigits d)) [45] = s := by
    cases s
    · obtain ⟨c, r, hc⟩ := List.exists_cons_of_ne_nil (dec_read n).2.2
      have hc45 : c ≠ 45 := (dg_ne (dec_dg n c (by rw [hc]; simp))).2.1
      have : (45 == c) = false := by rw [beq_eq_false_iff_ne]; exact fun h => hc45 h.symm
      simp [Lib.hasPrefix, hc, List.isPrefixOf, this]
    · simp [Lib.hasPrefix, List.isPrefixOf]
  have htr : Lib.trimPrefix ((if s = true then [45] else []) ++ (Lib.decDigits n ++ if d = 1 then [] else 47 :: Lib.decDigits d)) [45] = Lib.decDigits n ++ if d = 1 then [] else 47 :: Lib.decDigits d := by
    unfold Lib.trimPrefix
    rw [hpre]
    cases s <;> simp
  unfold parseR
  rw [hpre, htr]
  by_cases h1 : d = 1
  · rw [if_pos h1, List.append_nil, cut_none hne, parseD]
    simp only [natP_dec]
    simp [h1]
  · rw [if_neg h1, cut_some hne, parseD]
    simp only [natP_dec]
    simp [hd]
/-- a number in lowest terms that is not too long: its text is read as it -/
theorem getR_own {s : Bool} {n d : Nat} (hd : d ≠ 0) (hg : Nat.gcd n d = 1) (hs : n = 0 → s = false) (hb : bigQ n d = false) : getR (ratT s n d) = some (s, n, d) := by
  have hb2 := hb
  unfold bigQ at hb2
  rw [Bool.or_eq_false_iff, decide_eq_false_iff_not, decide_eq_false_iff_not] at hb2
  have hsz := ratT_size s n d
  unfold getR
  rw [if_neg (by omega), parseR_own s n d hd]
  have hss : (s && decide (n ≠ 0)) = s := by
    by_cases h0 : n = 0
    · rw [hs h0]; rfl
    · simp [h0]
  simp only [ownD, hss, hg, Nat.div_one]
  rw [if_pos ⟨trivial, hb⟩]

/-- the reduced form of a fraction -/
def redI (n : Int) (d : Nat) : Bool × Nat × Nat := (decide (n < 0), n.natAbs / Nat.gcd n.natAbs d, d / Nat.gcd n.natAbs d)
def sgI (s : Bool) (n : Nat) : Int := if s = true then -(n : Int) else (n : Int)
theorem redI_scale (n : Int) (d k : Nat) (hk : 0 < k) : redI (n * k) (d * k) = redI n d := by
  unfold redI
  have h1 : (n * (k : Int)).natAbs = n.natAbs * k := by rw [Int.natAbs_mul, Int.natAbs_natCast]
  have h2 : decide (n * (k : Int) < 0) = decide (n < 0) := by
    rw [Bool.eq_iff_iff, decide_eq_true_iff, decide_eq_true_iff]
    constructor
    · intro h
      rcases Int.lt_or_le n 0 with h3 | h3
      · exact h3
      · have := Int.mul_nonneg h3 (show (0 : Int) ≤ k by omega); omega
    · intro h; exact Int.mul_neg_of_neg_of_pos h (by omega)
  rw [h1, h2, Nat.gcd_mul_right]
  rw [Nat.mul_div_mul_right _ _ hk, Nat.mul_div_mul_right _ _ hk]
theorem redI_gcd {n : Int} {d : Nat} (hd : d ≠ 0) : (redI n d).2.2 ≠ 0 ∧ Nat.gcd (redI n d).2.1 (redI n d).2.2 = 1 ∧ ((redI n d).2.1 = 0 → (redI n d).1 = false) ∧ sgI (redI n d).1 (redI n d).2.1 * (Nat.gcd n.natAbs d : Nat) = n ∧ (redI n d).2.2 * Nat.gcd n.natAbs d = d := by
  have hg : 0 < Nat.gcd n.natAbs d := Nat.gcd_pos_of_pos_right _ (by omega)
  have h1 := Nat.gcd_dvd_left n.natAbs d
  have h2 := Nat.gcd_dvd_right n.natAbs d
  have h3 : n.natAbs / Nat.gcd n.natAbs d * Nat.gcd n.natAbs d = n.natAbs := Nat.div_mul_cancel h1
  have h4 : d / Nat.gcd n.natAbs d * Nat.gcd n.natAbs d = d := Nat.div_mul_cancel h2
  refine ⟨?_, by show Nat.gcd (n.natAbs / Nat.gcd n.natAbs d) (d / Nat.gcd n.natAbs d) = 1; rw [Nat.gcd_div h1 h2, Nat.div_self hg], ?_, ?_, h4⟩
  · show d / Nat.gcd n.natAbs d ≠ 0
    intro h; rw [h] at h4; omega
  · intro h
    have h5 : n.natAbs / Nat.gcd n.natAbs d = 0 := h
    rw [h5] at h3
    show decide (n < 0) = false
    rw [decide_eq_false_iff_not]; omega
  · show sgI (decide (n < 0)) (n.natAbs / Nat.gcd n.natAbs d) * _ = n
    unfold sgI
    by_cases hn : n < 0
    · rw [if_pos (by simpa using hn), Int.neg_mul]
      have : ((n.natAbs / Nat.gcd n.natAbs d : Nat) : Int) * (Nat.gcd n.natAbs d : Nat) = (n.natAbs : Nat) := by rw [← Int.natCast_mul, h3]
      rw [this]; omega
    · rw [if_neg (by simpa using hn)]
      have : ((n.natAbs / Nat.gcd n.natAbs d : Nat) : Int) * (Nat.gcd n.natAbs d : Nat) = (n.natAbs : Nat) := by rw [← Int.natCast_mul, h3]
      rw [this]; omega
theorem ad_sg (s : Bool) (m : Nat) (t : Bool) (n : Nat) : sgI (adS s m t n) (adN s m t n) = sgI s m + sgI t n := by
  unfold sgI adS adN
  by_cases h : n ≤ m
  · cases s <;> cases t <;> simp [h] <;> omega
  · cases s <;> cases t <;> simp [h] <;> omega
theorem sgI_abs (s : Bool) (n : Nat) : (sgI s n).natAbs = n := by unfold sgI; split <;> omega
theorem sgI_neg (s : Bool) (n : Nat) : decide (sgI s n < 0) = (s && decide (n ≠ 0)) := by
  unfold sgI
  cases s
  · simp
  · rw [Bool.eq_iff_iff]; simp; omega
/-- the sum, as reduced forms -/
theorem rp_red (s1 : Bool) (n1 d1 : Nat) (s2 : Bool) (n2 d2 : Nat) : (rpS s1 n1 d1 s2 n2 d2, rpN s1 n1 d1 s2 n2 d2, rpD s1 n1 d1 s2 n2 d2) = redI (sgI s1 n1 * d2 + sgI s2 n2 * d1) (d1 * d2) := by
  have h : sgI (adS s1 (n1 * d2) s2 (n2 * d1)) (rpU s1 n1 d1 s2 n2 d2) = sgI s1 n1 * d2 + sgI s2 n2 * d1 := by
    unfold rpU
    rw [ad_sg]
    unfold sgI
    cases s1 <;> cases s2 <;> simp [Int.neg_mul]
  unfold redI
  rw [← h, sgI_abs, sgI_neg]
  rfl
theorem redI_add {n1 : Int} {d1 : Nat} {n2 : Int} {d2 : Nat} (h1 : d1 ≠ 0) (h2 : d2 ≠ 0) :
    redI (sgI (redI n1 d1).1 (redI n1 d1).2.1 * (redI n2 d2).2.2 + sgI (redI n2 d2).1 (redI n2 d2).2.1 * (redI n1 d1).2.2) ((redI n1 d1).2.2 * (redI n2 d2).2.2) = redI (n1 * d2 + n2 * d1) (d1 * d2) := by
  obtain ⟨_, _, _, a1, a2⟩ := redI_gcd (n := n1) h1
  obtain ⟨_, _, _, b1, b2⟩ := redI_gcd (n := n2) h2
  have hg1 : 0 < Nat.gcd n1.natAbs d1 := Nat.gcd_pos_of_pos_right _ (by omega)
  have hg2 : 0 < Nat.gcd n2.natAbs d2 := Nat.gcd_pos_of_pos_right _ (by omega)
  generalize Nat.gcd n1.natAbs d1 = g1 at *
  generalize Nat.gcd n2.natAbs d2 = g2 at *
  generalize sgI (redI n1 d1).1 (redI n1 d1).2.1 = x1 at *
  generalize sgI (redI n2 d2).1 (redI n2 d2).2.1 = x2 at *
  generalize (redI n1 d1).2.2 = y1 at *
  generalize (redI n2 d2).2.2 = y2 at *
  rw [← redI_scale _ _ (g1 * g2) (Nat.mul_pos hg1 hg2)]
  congr 1
  · rw [← a1, ← b1, ← a2, ← b2]
    simp only [Int.natCast_mul]
    rw [Int.add_mul]
    congr 1 <;> ac_rfl
  · rw [← a2, ← b2]; ac_rfl
end Go.Proofs.YtmafjfhnejeogaaGreatDoor

/- Small functions of numbers. -/
namespace Go.Proofs.YtmafjfhnejeogaaGreatDoor
open Go.RowKit

/-- n is from lo to hi -/
def inB (lo n hi : Int) : Bool := decide (lo ≤ n ∧ n ≤ hi)
theorem inB_eq (lo n hi : Int) : inB lo n hi = (decide (lo ≤ n) && decide (n ≤ hi)) := by simp [inB]

theorem within_any (n lo hi : Int) (w : World) :
    Calls Tryz.prog 44 #[.int .i64 n, .int .i64 lo, .int .i64 hi] w fun e w' => e = .returned (.bool (inB lo n hi)) ∧ w = w' := by
  by_cases h1 : lo ≤ n
  · go_enter Tryz.func44, Tryz.ntmps44
    go_wp2
    go_ret
    exact ⟨ret_bool (by simp [inB]; try omega), rfl⟩
  · go_enter Tryz.func44, Tryz.ntmps44
    go_wp2
    go_ret
    exact ⟨ret_bool (by simp [inB]; try omega), rfl⟩

theorem in_any (n lo hi : Int) (w : World) :
    Calls Tryz.prog 45 #[.int .i64 n, .int .i64 lo, .int .i64 hi] w fun e w' => e = .returned (.bool (inB lo n hi)) ∧ w = w' := by
  by_cases h1 : lo ≤ n
  · go_enter Tryz.func45, Tryz.ntmps45
    go_wp2
    go_ret
    exact ⟨ret_bool (by simp [inB]; try omega), rfl⟩
  · go_enter Tryz.func45, Tryz.ntmps45
    go_wp2
    go_ret
    exact ⟨ret_bool (by simp [inB]; try omega), rfl⟩

theorem seriesOK1_any (n : Int) (w : World) :
    Calls Tryz.prog 114 #[.int .i64 n] w fun e w' => e = .returned (.bool (!inB (-8388608) n 8388608)) ∧ w = w' := by
  go_enter Tryz.func114, Tryz.ntmps114
  go_wp2_with (go_at_call 44; refine (within_any _ _ _ _).mono ?_; rintro e w' ⟨rfl, rfl⟩)
  go_ret
  exact ⟨rfl, rfl⟩

set_option maxRecDepth 100000 in
/-- slices.IndexFunc over ints, at whatever test that computes p and leaves what was there -/
theorem indexFunc_ints (F : FuncId) (capd : Array Value) (p : Int → Bool) (ao : Option Addr) (xs : List Int) (cap : Nat) (w : World) (hc : Cells w ao (xs.map (Value.int .i64))) (hl : xs.length ≤ 9223372036854775807)
    (hcf : ∀ (vs : Array Value) (wx : World), Sem.run Tryz.prog (callFunc F vs) wx = .ok (.enter F vs) wx)
    (hF : ∀ x wx, x ∈ xs → Below w.heap.size w wx → Calls Tryz.prog F (#[.int .i64 x] ++ capd) wx fun e w' => e = .returned (.bool (p x)) ∧ Below wx.heap.size wx w') :
    Calls Tryz.prog 167 #[.slice ao xs.length cap, .func (.func F) #[] capd] w fun e w' => (∃ r : Int, e = .returned (.int .i64 r) ∧ (0 ≤ r ↔ xs.any p = true)) ∧ Below w.heap.size w w' := by
  go_enter Tryz.func167, Tryz.ntmps167
  go_wp2
  go_loopw [8] (fun i wr => ∃ k : Nat, k ≤ xs.length ∧ i = .int .i64 k ∧ (xs.take k).any p = false ∧ Below w.heap.size w wr) (fun i _ => xs.length - (intOf i).toNat)
  case atStart => exact ⟨0, Nat.zero_le _, rfl, rfl, Below.refl _ _⟩
  case round =>
    obtain ⟨k, hk, rfl, hany, hb⟩ := hrel
    by_cases hlt : k < xs.length
    · obtain ⟨x, hx⟩ := get_of_lt hlt
      obtain ⟨b, off, rfl⟩ := hc.addr (by simpa using List.ne_nil_of_length_pos (by omega))
      have hcell := cell_keep (hc.int hx) hb (Nat.le_refl _)
      have HX := Lib.hid hx; clear hx
      have HC := Lib.hid hc; clear hc
      have HF := Lib.hid hF; clear hF
      have HA := Lib.hid hany; clear hany
      go_wp2_with fail
      refine (HF.out x wr (List.mem_of_getElem? HX.out) hb).mono ?_
      rintro e w1 ⟨rfl, hb1⟩
      have hb2 := hb.trans (hb1.mono hb.size)
      clear hb1
      by_cases hp : p x = true
      · go_wp2
        go_ret
        exact ⟨⟨_, rfl, by simp; exact ⟨x, List.mem_of_getElem? HX.out, hp⟩⟩, hb2⟩
      · simp only [Bool.not_eq_true] at hp
        go_wp2
        go_roundw
        case rel => exact ⟨k + 1, by omega, by go_num, by rw [take_get HX.out, List.any_append, HA.out]; simp [hp], hb2⟩
        case measure => simp [intOf]; omega
    · obtain rfl : k = xs.length := by omega
      rw [List.take_length] at hany
      have HA := Lib.hid hany; clear hany
      go_wp2
      go_ret
      exact ⟨⟨_, rfl, by rw [HA.out]; simp⟩, hb⟩
end Go.Proofs.YtmafjfhnejeogaaGreatDoor

/- Series: CheckSeries, of the program and of the reference. -/
namespace Go.Proofs.YtmafjfhnejeogaaGreatDoor
open Go.RowKit

set_option maxRecDepth 100000 in
theorem containsFunc_ints (F : FuncId) (capd : Array Value) (p : Int → Bool) (ao : Option Addr) (xs : List Int) (cap : Nat) (w : World) (hc : Cells w ao (xs.map (Value.int .i64))) (hl : xs.length ≤ 9223372036854775807)
    (hcf : ∀ (vs : Array Value) (wx : World), Sem.run Tryz.prog (callFunc F vs) wx = .ok (.enter F vs) wx)
    (hF : ∀ x wx, x ∈ xs → Below w.heap.size w wx → Calls Tryz.prog F (#[.int .i64 x] ++ capd) wx fun e w' => e = .returned (.bool (p x)) ∧ Below wx.heap.size wx w') :
    Calls Tryz.prog 113 #[.slice ao xs.length cap, .func (.func F) #[] capd] w fun e w' => e = .returned (.bool (xs.any p)) ∧ Below w.heap.size w w' := by
  have HC := Lib.hid hc; clear hc
  have HF := Lib.hid hF; clear hF
  have HCF := Lib.hid hcf; clear hcf
  go_enter Tryz.func113, Tryz.ntmps113
  go_wp2_with fail
  refine (indexFunc_ints F capd p ao xs cap w HC.out hl HCF.out HF.out).mono ?_
  rintro e w1 ⟨⟨r, rfl, hr⟩, hb⟩
  have HR := Lib.hid hr; clear hr
  go_wp2
  go_ret
  exact ⟨ret_bool (by rw [Bool.eq_iff_iff, decide_eq_true_iff]; exact HR.out), hb⟩

/-- a series -/
def serOK (xs : List Int) : Bool := decide (xs.length ≤ 4096) && xs.all (fun n => inB (-8388608) n 8388608)
def serErr (xs : List Int) : Int := if serOK xs then 0 else 55

theorem seriesOK_any (ao : Option Addr) (xs : List Int) (cap : Nat) (w : World) (hc : Cells w ao (xs.map (Value.int .i64))) (hl : xs.length ≤ 9223372036854775807) :
    Calls Tryz.prog 48 #[.slice ao xs.length cap] w fun e w' => e = .returned (.bool (serOK xs)) ∧ Below w.heap.size w w' := by
  have HC := Lib.hid hc; clear hc
  by_cases h : xs.length ≤ 4096
  · go_enter Tryz.func48, Tryz.ntmps48
    go_wp2_with fail
    refine (containsFunc_ints 114 #[] (fun n => !inB (-8388608) n 8388608) ao xs cap w HC.out hl (fun _ _ => by kernel_rfl) (fun x wx _ _ => (seriesOK1_any x wx).mono fun e w' h => ⟨h.1, h.2 ▸ Below.refl _ _⟩)).mono ?_
    rintro e w1 ⟨rfl, hb⟩
    go_wp2
    go_ret
    exact ⟨ret_bool (by simp [serOK, h, List.all_eq_not_any_not]), hb⟩
  · go_enter Tryz.func48, Tryz.ntmps48
    go_wp2
    go_ret
    exact ⟨ret_bool (by simp [serOK]; omega), Below.refl _ _⟩

theorem checkSeries_any (ao : Option Addr) (xs : List Int) (cap : Nat) (w : World) (hc : Cells w ao (xs.map (Value.int .i64))) (hl : xs.length ≤ 9223372036854775807) :
    Calls Tryz.prog 112 #[.slice ao xs.length cap] w fun e w' => e = .returned (.int .i64 (serErr xs)) ∧ Below w.heap.size w w' := by
  have HC := Lib.hid hc; clear hc
  cases hs : serOK xs
  all_goals
    go_enter Tryz.func112, Tryz.ntmps112
    go_wp2_with fail
    refine (seriesOK_any ao xs cap w HC.out hl).mono ?_
    rintro e w1 ⟨rfl, hb⟩
    go_wp2
    go_ret
    exact ⟨ret_int (by simp [serErr, hs]), hb⟩

theorem refCheckSeries_any (ao : Option Addr) (xs : List Int) (cap : Nat) (w : World) (hc : Cells w ao (xs.map (Value.int .i64))) (hl : xs.length ≤ 9223372036854775807) :
    Calls Tryz.prog 50 #[.slice ao xs.length cap] w fun e w' => e = .returned (.int .i64 (serErr xs)) ∧ Below w.heap.size w w' := by
  have HC := Lib.hid hc; clear hc
  go_enter Tryz.func50, Tryz.ntmps50
  go_wp2
  go_loopw [3, 4] (fun o i wr => ∃ k : Nat, k ≤ xs.length ∧ i = .int .i64 k ∧ o = .bool (decide (xs.length ≤ 4096) && (xs.take k).all (fun n => inB (-8388608) n 8388608)) ∧ Below w.heap.size w wr) (fun _ i _ => xs.length - (intOf i).toNat)
  case atStart => exact ⟨0, Nat.zero_le _, rfl, by simp; omega, Below.refl _ _⟩
  case round =>
    obtain ⟨k, hk, rfl, rfl, hb⟩ := hrel
    by_cases hlt : k < xs.length
    · obtain ⟨x, hx⟩ := get_of_lt hlt
      obtain ⟨b, off, rfl⟩ := HC.out.addr (by simpa using List.ne_nil_of_length_pos (by omega))
      have hcell := cell_keep (HC.out.int hx) hb (Nat.le_refl _)
      have hn : (decide (xs.length ≤ 4096) && (xs.take (k + 1)).all (fun n => inB (-8388608) n 8388608)) = ((decide (xs.length ≤ 4096) && (xs.take k).all (fun n => inB (-8388608) n 8388608)) && inB (-8388608) x 8388608) := by
        rw [take_get hx, List.all_append]; simp [Bool.and_assoc]
      have HX := Lib.hid hx; clear hx
      have HN := Lib.hid hn; clear hn
      generalize (decide (xs.length ≤ 4096) && (xs.take k).all (fun n => inB (-8388608) n 8388608)) = o at *
      cases o
      · go_wp2
        go_roundw
        case rel => exact ⟨k + 1, by omega, by go_num, by rw [HN.out]; rfl, hb⟩
        case measure => simp [intOf]; omega
      · go_wp2_with (go_at_call 45; refine (in_any _ _ _ _).mono ?_; rintro e w' ⟨rfl, rfl⟩)
        go_roundw
        case rel => exact ⟨k + 1, by omega, by go_num, by rw [HN.out]; simp, hb⟩
        case measure => simp [intOf]; omega
    · obtain rfl : k = xs.length := by omega
      have hn : serOK xs = (decide (xs.length ≤ 4096) && (xs.take xs.length).all (fun n => inB (-8388608) n 8388608)) := by simp [serOK]
      have HN := Lib.hid hn; clear hn
      generalize (decide (xs.length ≤ 4096) && (xs.take xs.length).all (fun n => inB (-8388608) n 8388608)) = o at *
      cases o
      all_goals
        go_wp2
        go_ret
        exact ⟨ret_int (by simp [serErr, HN.out]), hb⟩
end Go.Proofs.YtmafjfhnejeogaaGreatDoor

/- Lines: CheckLine, lined, Inject, amplitude. -/
namespace Go.Proofs.YtmafjfhnejeogaaGreatDoor
open Go.RowKit

/-- a line -/
def sumL (xs : List Int) : Int := xs.foldl (· + ·) 0
theorem sumL_snoc (xs : List Int) (x : Int) : sumL (xs ++ [x]) = sumL xs + x := by simp [sumL]
def lineOK (xs : List Int) : Bool := xs.all (fun n => inB (-1000) n 1000) && (inB 2 xs.length 32 && (decide (sumL xs = 0) && xs.any (fun n => n != 0)))
def lineErr (xs : List Int) : Int := if lineOK xs then 0 else 54

theorem sumL_bd {xs : List Int} (h : ∀ x ∈ xs, -1000 ≤ x ∧ x ≤ 1000) : -(1000 * (xs.length : Int)) ≤ sumL xs ∧ sumL xs ≤ 1000 * (xs.length : Int) := by
  suffices ∀ (xs : List Int) (a : Int), (∀ x ∈ xs, -1000 ≤ x ∧ x ≤ 1000) → a - 1000 * (xs.length : Int) ≤ xs.foldl (· + ·) a ∧ xs.foldl (· + ·) a ≤ a + 1000 * (xs.length : Int) by
    have := this xs 0 h; simp only [sumL]; omega
  intro xs
  induction xs with
  | nil => intro a _; simp
  | cons x xs ih =>
    intro a h
    have h1 := h x (by simp)
    have h2 := ih (a + x) (fun y hy => h y (by simp [hy]))
    simp only [List.foldl_cons, List.length_cons]
    push_cast
    omega

theorem checkLine_any (ao : Option Addr) (xs : List Int) (cap : Nat) (w : World) (hc : Cells w ao (xs.map (Value.int .i64))) (hl : xs.length ≤ 17592186044416) :
    Calls Tryz.prog 11 #[.slice ao xs.length cap] w fun e w' => e = .returned (.int .i64 (lineErr xs)) ∧ w = w' := by
  have HC := Lib.hid hc; clear hc
  go_enter Tryz.func11, Tryz.ntmps11
  go_wp2
  go_loop [3, 4, 9] (fun sm so i => ∃ k : Nat, k ≤ xs.length ∧ i = .int .i64 k ∧ sm = .int .i64 (sumL (xs.take k)) ∧ so = .bool ((xs.take k).any (fun n => n != 0)) ∧ (xs.take k).all (fun n => inB (-1000) n 1000) = true) (fun _ _ i => xs.length - (intOf i).toNat)
  case atStart => exact ⟨0, Nat.zero_le _, rfl, rfl, rfl, rfl⟩
  case round =>
    obtain ⟨k, hk, rfl, rfl, rfl, hall⟩ := hrel
    have hbd := sumL_bd (xs := xs.take k) (fun x hx => by have := List.all_eq_true.1 hall x hx; simpa [inB] using this)
    rw [List.length_take, Nat.min_eq_left hk] at hbd
    obtain ⟨hb1, hb2⟩ := hbd
    by_cases hlt : k < xs.length
    · obtain ⟨x, hx⟩ := get_of_lt hlt
      obtain ⟨b, off, rfl⟩ := HC.out.addr (by simpa using List.ne_nil_of_length_pos (by omega))
      have hcell := HC.out.int hx
      have ht := take_get hx
      cases hin : inB (-1000) x 1000
      · have he : lineErr xs = 54 := by
          have : xs.all (fun n => inB (-1000) n 1000) = false := List.all_eq_false.2 ⟨x, List.mem_of_getElem? hx, by simp [hin]⟩
          simp [lineErr, lineOK, this]
        have HE := Lib.hid he; clear he hx ht hall
        go_wp2_with (go_at_call 44; refine (within_any _ _ _ _).mono ?_; rintro e w' ⟨rfl, rfl⟩)
        go_ret
        exact ⟨ret_int HE.out.symm, rfl⟩
      · have hx1 : -1000 ≤ x ∧ x ≤ 1000 := by simpa [inB] using hin
        obtain ⟨hx1, hx2⟩ := hx1
        have hs : sumL (xs.take (k + 1)) = sumL (xs.take k) + x := by rw [ht, sumL_snoc]
        have ha : (xs.take (k + 1)).all (fun n => inB (-1000) n 1000) = true := by rw [ht, List.all_append, hall]; simp [hin]
        have hn : (xs.take (k + 1)).any (fun n => n != 0) = ((xs.take k).any (fun n => n != 0) || x != 0) := by rw [ht, List.any_append]; simp
        have HS := Lib.hid hs; have HA := Lib.hid ha; have HN := Lib.hid hn
        clear hs ha hn ht hx hall
        generalize (xs.take k).any (fun n => n != 0) = so at *
        generalize sumL (xs.take k) = sm at *
        cases so
        all_goals
          go_wp2_with (go_at_call 44; refine (within_any _ _ _ _).mono ?_; rintro e w' ⟨rfl, rfl⟩)
          go_round
          case rel => exact ⟨k + 1, by omega, by go_num, by rw [HS.out], by rw [HN.out]; simp, HA.out⟩
          case measure => simp [intOf]; omega
    · obtain rfl : k = xs.length := by omega
      rw [List.take_length] at hall hb1 hb2 ⊢
      have he : lineErr xs = if (inB 2 xs.length 32 && (decide (sumL xs = 0) && xs.any (fun n => n != 0))) then 0 else 54 := by simp only [lineErr, lineOK, hall, Bool.true_and]
      have HE := Lib.hid he; clear he hall
      generalize xs.any (fun n => n != 0) = so at *
      generalize sumL xs = sm at *
      by_cases hsm : sm = 0
      · subst hsm
        cases so
        all_goals
          cases hin : inB 2 xs.length 32
          all_goals
            have HIN := Lib.hid hin
            go_wp2_with (go_at_call 44; refine (within_any _ _ _ _).mono ?_; rintro e w' ⟨rfl, rfl⟩)
            go_ret
            exact ⟨ret_int (by rw [HE.out, HIN.out]; rfl), rfl⟩
      · have h1 : (sm != 0) = true := by simpa using hsm
        have hd : decide (sm = 0) = false := by simpa using hsm
        have HD := Lib.hid hd; clear hd
        cases hin : inB 2 xs.length 32
        all_goals
          have HIN := Lib.hid hin
          go_wp2_with (go_at_call 44; refine (within_any _ _ _ _).mono ?_; rintro e w' ⟨rfl, rfl⟩)
          go_ret
          exact ⟨ret_int (by rw [HE.out, HIN.out, HD.out]; rfl), rfl⟩
end Go.Proofs.YtmafjfhnejeogaaGreatDoor

/- Models: CheckModel, of the program and of the reference. -/
namespace Go.Proofs.YtmafjfhnejeogaaGreatDoor
open Go.RowKit

/-- a wrong tap -/
def tapBad (t : Int × Int) : Bool := decide (t.2 < t.1 ∨ t.1 < -1048576 ∨ 1048576 < t.2)

theorem checkModel1_any (a b : Int) (w : World) :
    Calls Tryz.prog 181 #[.agg #[.int .i64 a, .int .i64 b]] w fun e w' => e = .returned (.bool (tapBad (a, b))) ∧ Below w.heap.size w w' := by
  by_cases h1 : b < a
  · go_enter Tryz.func181, Tryz.ntmps181
    go_wp2
    go_ret
    exact ⟨ret_bool (by simp [tapBad, h1]), (Below.refl _ _).alloc (Nat.le_refl _) _⟩
  · by_cases h2 : a < -1048576
    · go_enter Tryz.func181, Tryz.ntmps181
      go_wp2
      go_ret
      exact ⟨ret_bool (by simp [tapBad, h2]), (Below.refl _ _).alloc (Nat.le_refl _) _⟩
    · go_enter Tryz.func181, Tryz.ntmps181
      go_wp2
      go_ret
      exact ⟨ret_bool (by rw [Bool.eq_iff_iff]; simp only [tapBad, decide_eq_true_eq]; omega), (Below.refl _ _).alloc (Nat.le_refl _) _⟩

set_option maxRecDepth 100000 in
/-- slices.IndexFunc over pairs, at whatever test that computes p and leaves what was there -/
theorem indexFunc_taps (F : FuncId) (capd : Array Value) (p : Int × Int → Bool) (ao : Option Addr) (xs : List (Int × Int)) (cap : Nat) (w : World) (hc : Cells w ao (prs xs)) (hl : xs.length ≤ 9223372036854775807)
    (hcf : ∀ (vs : Array Value) (wx : World), Sem.run Tryz.prog (callFunc F vs) wx = .ok (.enter F vs) wx)
    (hF : ∀ x wx, x ∈ xs → Below w.heap.size w wx → Calls Tryz.prog F (#[.agg #[.int .i64 x.1, .int .i64 x.2]] ++ capd) wx fun e w' => e = .returned (.bool (p x)) ∧ Below wx.heap.size wx w') :
    Calls Tryz.prog 219 #[.slice ao xs.length cap, .func (.func F) #[] capd] w fun e w' => (∃ r : Int, e = .returned (.int .i64 r) ∧ (0 ≤ r ↔ xs.any p = true)) ∧ Below w.heap.size w w' := by
  go_enter Tryz.func219, Tryz.ntmps219
  go_wp2
  go_loopw [8] (fun i wr => ∃ k : Nat, k ≤ xs.length ∧ i = .int .i64 k ∧ (xs.take k).any p = false ∧ Below w.heap.size w wr) (fun i _ => xs.length - (intOf i).toNat)
  case atStart => exact ⟨0, Nat.zero_le _, rfl, rfl, Below.refl _ _⟩
  case round =>
    obtain ⟨k, hk, rfl, hany, hb⟩ := hrel
    by_cases hlt : k < xs.length
    · obtain ⟨x, hx⟩ := get_of_lt hlt
      obtain ⟨b, off, rfl⟩ := hc.addr (prs_ne (by omega))
      have hcell1 := cell_keep (hc.at (prs_fst hx)) hb (Nat.le_refl _)
      have hcell2 := cell_keep (hc.at (prs_snd hx)) hb (Nat.le_refl _)
      rw [← Nat.add_assoc] at hcell2
      obtain ⟨x1, x2⟩ := x
      simp only at hcell1 hcell2
      have HX := Lib.hid hx; clear hx
      have HC := Lib.hid hc; clear hc
      have HF := Lib.hid hF; clear hF
      have HA := Lib.hid hany; clear hany
      go_wp2_with fail
      refine (HF.out (x1, x2) wr (List.mem_of_getElem? HX.out) hb).mono ?_
      rintro e w1 ⟨rfl, hb1⟩
      have hb2 := hb.trans (hb1.mono hb.size)
      clear hb1
      by_cases hp : p (x1, x2) = true
      · go_wp2
        go_ret
        exact ⟨⟨_, rfl, by simp; exact ⟨x1, x2, List.mem_of_getElem? HX.out, hp⟩⟩, hb2⟩
      · simp only [Bool.not_eq_true] at hp
        go_wp2
        go_roundw
        case rel => exact ⟨k + 1, by omega, by go_num, by rw [take_get HX.out, List.any_append, HA.out]; simp [hp], hb2⟩
        case measure => simp [intOf]; omega
    · obtain rfl : k = xs.length := by omega
      rw [List.take_length] at hany
      have HA := Lib.hid hany; clear hany
      go_wp2
      go_ret
      exact ⟨⟨_, rfl, by rw [HA.out]; simp⟩, hb⟩
end Go.Proofs.YtmafjfhnejeogaaGreatDoor

/- Models: CheckModel, of the program and of the reference. -/
namespace Go.Proofs.YtmafjfhnejeogaaGreatDoor
open Go.RowKit

set_option maxRecDepth 100000 in
theorem containsFunc_taps (F : FuncId) (capd : Array Value) (p : Int × Int → Bool) (ao : Option Addr) (xs : List (Int × Int)) (cap : Nat) (w : World) (hc : Cells w ao (prs xs)) (hl : xs.length ≤ 9223372036854775807)
    (hcf : ∀ (vs : Array Value) (wx : World), Sem.run Tryz.prog (callFunc F vs) wx = .ok (.enter F vs) wx)
    (hF : ∀ x wx, x ∈ xs → Below w.heap.size w wx → Calls Tryz.prog F (#[.agg #[.int .i64 x.1, .int .i64 x.2]] ++ capd) wx fun e w' => e = .returned (.bool (p x)) ∧ Below wx.heap.size wx w') :
    Calls Tryz.prog 182 #[.slice ao xs.length cap, .func (.func F) #[] capd] w fun e w' => e = .returned (.bool (xs.any p)) ∧ Below w.heap.size w w' := by
  have HC := Lib.hid hc; clear hc
  have HF := Lib.hid hF; clear hF
  have HCF := Lib.hid hcf; clear hcf
  go_enter Tryz.func182, Tryz.ntmps182
  go_wp2_with fail
  refine (indexFunc_taps F capd p ao xs cap w HC.out hl HCF.out HF.out).mono ?_
  rintro e w1 ⟨⟨r, rfl, hr⟩, hb⟩
  have HR := Lib.hid hr; clear hr
  go_wp2
  go_ret
  exact ⟨ret_bool (by rw [Bool.eq_iff_iff, decide_eq_true_iff]; exact HR.out), hb⟩

/-- a model -/
def modOK (ts : List (Int × Int)) (sh : Int) : Bool := inB 1 ts.length 16 && (!ts.any tapBad && inB 0 sh 20)
def modErr (ts : List (Int × Int)) (sh : Int) : Int := if modOK ts sh then 0 else 53

theorem checkModel_any (ao : Option Addr) (ts : List (Int × Int)) (cap : Nat) (sh : Int) (w : World) (hc : Cells w ao (prs ts)) (hl : ts.length ≤ 9223372036854775807) :
    Calls Tryz.prog 121 #[.agg #[.slice ao ts.length cap, .int .i64 sh]] w fun e w' => e = .returned (.int .i64 (modErr ts sh)) ∧ Below w.heap.size w w' := by
  have HC := Lib.hid hc; clear hc
  cases h1 : inB 1 ts.length 16
  · have hm : modErr ts sh = 53 := by simp [modErr, modOK, h1]
    have HM := Lib.hid hm; clear hm
    go_enter Tryz.func121, Tryz.ntmps121
    go_wp2_with fail
    refine (within_any _ _ _ _).mono ?_
    rintro e w1 ⟨rfl, rfl⟩
    go_wp2
    go_ret
    exact ⟨ret_int (HM.out).symm, (Below.refl _ _).alloc (Nat.le_refl _) _⟩
  · cases h2 : ts.any tapBad
    · have hm : modErr ts sh = if inB 0 sh 20 then 0 else 53 := by simp [modErr, modOK, h1, h2]
      have HM := Lib.hid hm; clear hm
      have H2 := Lib.hid h2; clear h2
      cases h3 : inB 0 sh 20
      all_goals
        have H3 := Lib.hid h3
        go_enter Tryz.func121, Tryz.ntmps121
        go_wp2_with fail
        refine (within_any _ _ _ _).mono ?_
        rintro e w1 ⟨rfl, rfl⟩
        go_wp2_with fail
        refine (containsFunc_taps 181 #[] tapBad ao ts cap _ (HC.out.below ((Below.refl _ _).alloc (Nat.le_refl _) _) (Nat.le_refl _)) hl (fun _ _ => by kernel_rfl) (fun x wx _ _ => checkModel1_any x.1 x.2 wx)).mono ?_
        rintro e w1 ⟨rfl, hb⟩
        rw [H2.out]
        have hc1 : w1.cell? ⟨w.heap.size, 1, none⟩ = some (.int .i64 sh) := box_keep hb (by simp) 1
        go_wp2_with fail
        refine (within_any _ _ _ _).mono ?_
        rintro e w1 ⟨rfl, rfl⟩
        go_wp2
        go_ret
        exact ⟨ret_int (by rw [HM.out, H3.out]; rfl), ((Below.refl _ _).alloc (Nat.le_refl _) _).trans (hb.mono (by simp))⟩
    · have hm : modErr ts sh = 53 := by simp [modErr, modOK, h1, h2]
      have HM := Lib.hid hm; clear hm
      have H2 := Lib.hid h2; clear h2
      go_enter Tryz.func121, Tryz.ntmps121
      go_wp2_with fail
      refine (within_any _ _ _ _).mono ?_
      rintro e w1 ⟨rfl, rfl⟩
      go_wp2_with fail
      refine (containsFunc_taps 181 #[] tapBad ao ts cap _ (HC.out.below ((Below.refl _ _).alloc (Nat.le_refl _) _) (Nat.le_refl _)) hl (fun _ _ => by kernel_rfl) (fun x wx _ _ => checkModel1_any x.1 x.2 wx)).mono ?_
      rintro e w1 ⟨rfl, hb⟩
      rw [H2.out]
      go_wp2
      go_ret
      exact ⟨ret_int (HM.out).symm, ((Below.refl _ _).alloc (Nat.le_refl _) _).trans (hb.mono (by simp))⟩
end Go.Proofs.YtmafjfhnejeogaaGreatDoor
