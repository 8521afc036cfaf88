/- Natural numbers of package num: over at one digit, common, reduced. -/
import Derived.Test.YtoochleabcjljaaDoorN1
namespace Go.Proofs.YtoochleabcjljaaDoor
open Go.RowKit

/-- a slice that is a natural number -/
def NatV (w : World) (v : Value) (n : Nat) : Prop := ∃ a c, v = .slice a (dig n).length c ∧ Cells w a (dgs (dig n)) ∧ (dig n).length ≤ c ∧ c ≤ 9223372036854775807
theorem NatV.below {w w' : World} {B : Nat} {v : Value} {n : Nat} (h : NatV w v n) (hb : Below B w w') (hB : w.heap.size ≤ B) : NatV w' v n := by
  obtain ⟨a, c, h1, h2, h3⟩ := h
  exact ⟨a, c, h1, h2.below hb hB, h3⟩

theorem dig_one {n : Nat} (h0 : n ≠ 0) (h : n < B) : dig n = [n] := dig_small h h0

set_option maxRecDepth 100000 in
theorem over_small (va vb : Value) (m n : Nat) (w : World) (ha : NatV w va m) (hb : NatV w vb n) (hm : (dig m).length ≤ 17592186044416) (hn0 : n ≠ 0) (hn : n < B) :
    Calls Tryd.prog 70 #[va, vb] w fun e w' => (∃ q r, e = .returned (.tuple #[q, r]) ∧ NatV w' q (m / n) ∧ NatV w' r (m % n)) ∧ Below w.heap.size w w' := by
  have HVA := Lib.hid ha
  obtain ⟨aa, ca, rfl, ha, hac, hac2⟩ := ha
  obtain ⟨ab, cb, rfl, hb, hbc, hbc2⟩ := hb
  have hnl : (dig n).length ≤ 1 := by rw [dig_one hn0 hn]; simp
  by_cases hlt : m < n
  · have hq : m / n = 0 := Nat.div_eq_of_lt hlt
    have hr : m % n = m := Nat.mod_eq_of_lt hlt
    have hcmp := compare_any aa ab m n ca cb w ha hb (by omega) (by omega)
    rw [cmpN_lt hlt] at hcmp
    have HC := Lib.hid hcmp; clear hcmp
    have HQ := Lib.hid hq; have HR := Lib.hid hr; clear hq hr ha hb
    go_enter Tryd.func70, Tryd.ntmps70
    go_wp2_with fail
    refine HC.out.mono ?_
    rintro e w1 ⟨rfl, hb1⟩
    go_wp2
    go_ret2
    exact ⟨⟨_, _, rfl, by rw [HQ.out]; exact ⟨none, 0, by rw [dig_zero]; rfl, by rw [dig_zero]; exact Cells.nil _ _, by rw [dig_zero]; simp, by omega⟩, by rw [HR.out]; exact HVA.out.below hb1 (Nat.le_refl _)⟩, hb1⟩
  · have hcmp := compare_any aa ab m n ca cb w ha hb (by omega) (by omega)
    have hge : 0 ≤ cmpN m n := by unfold cmpN; rw [if_neg hlt]; split <;> omega
    have hdn := dig_one hn0 hn
    have hc0 : Cells w ab [.int .u64 (n : Nat)] := by rw [hdn] at hb; exact hb
    obtain ⟨b, off, rfl⟩ := hc0.addr (by simp)
    rw [hdn] at hcmp
    rw [hdn]
    simp only [B] at hn
    have hsh := fun (w1 : World) (h : Cells w1 aa (dgs (dig m))) => short_any aa (dig m) ca n w1 h (sm_dig m) (by omega) (by omega) (by omega)
    rw [val_dig] at hsh
    have hmod : m % n < n := Nat.mod_lt _ (by omega)
    have hnat := fun (w1 : World) => natural_any (m % n) w1 (by omega)
    generalize cmpN m n = cm at *
    have HC := Lib.hid hcmp; have HSH := Lib.hid hsh; have HN := Lib.hid hnat; have HA := Lib.hid ha; have HC0 := Lib.hid hc0
    clear hcmp hsh hnat ha hb hc0 hdn
    go_enter Tryd.func70, Tryd.ntmps70
    go_wp2_with fail
    refine HC.out.mono ?_
    rintro e w1 ⟨rfl, hb1⟩
    have hcell : w1.cell? ⟨b, off, none⟩ = some (.int .u64 (n : Nat)) := (HC0.out.below hb1 (Nat.le_refl _)).at (j := 0) rfl
    go_wp2_with fail
    refine (HSH.out w1 (HA.out.below hb1 (Nat.le_refl _))).mono ?_
    rintro e w2 ⟨⟨a, c, rfl, hq, hqc, hqc2⟩, hb2⟩
    have HQ := Lib.hid hq; clear hq
    go_wp2_with fail
    refine (HN.out w2).mono ?_
    rintro e w3 ⟨⟨a3, c3, rfl, hr, hrc, hrc2⟩, hb3⟩
    have HR := Lib.hid hr; clear hr
    go_wp2
    go_ret2
    exact ⟨⟨_, _, rfl, (NatV.below ⟨_, _, rfl, HQ.out, hqc, by omega⟩ hb3 (Nat.le_refl _)), ⟨_, _, rfl, HR.out, hrc, hrc2⟩⟩, (hb1.trans (hb2.mono hb1.size)).trans (hb3.mono (Nat.le_trans hb1.size hb2.size))⟩
end Go.Proofs.YtoochleabcjljaaDoor
