/- Rational numbers of package num: common, reduced, whole, plain, over whatever contract of 'over' serves below a bound. -/
import Derived.Test.YtoochleabcjljaaDoorN2
namespace Go.Proofs.YtoochleabcjljaaDoor
open Go.RowKit

/-- the contract of 'over' for divisors below K -/
def OverOK (K : Nat) : Prop := ∀ (va vb : Value) (m n : Nat) (w : World), NatV w va m → NatV w vb n → (dig m).length ≤ 17592186044416 → n ≠ 0 → n < K →
  Calls Tryd.prog 70 #[va, vb] w fun e w' => (∃ q r, e = .returned (.tuple #[q, r]) ∧ NatV w' q (m / n) ∧ NatV w' r (m % n)) ∧ Below w.heap.size w w'
theorem overOK_small : OverOK B := fun va vb m n w ha hb hm h0 hn => over_small va vb m n w ha hb hm h0 hn

theorem common_any (K : Nat) (hov : OverOK K) (va vb : Value) (m n : Nat) (w : World) (ha : NatV w va m) (hb : NatV w vb n) (hm : (dig m).length ≤ 17592186044416) (hn : (dig n).length ≤ 17592186044416) (hK : n < K) :
    Calls Tryd.prog 69 #[va, vb] w fun e w' => (∃ v, e = .returned v ∧ NatV w' v (Nat.gcd m n)) ∧ Below w.heap.size w w' := by
  have HA := Lib.hid ha; have HB := Lib.hid hb; have HOV := Lib.hid hov; have HK := Lib.hid hK; have HM := Lib.hid hm; have HN := Lib.hid hn
  clear ha hb hov hK hm hn
  go_enter Tryd.func69, Tryd.ntmps69
  go_wp2
  go_loopg [0, 1] n (fun b x y wr => ∃ p q : Nat, q ≤ b ∧ NatV wr x p ∧ NatV wr y q ∧ Nat.gcd p q = Nat.gcd m n ∧ q < K ∧ (dig p).length ≤ 17592186044416 ∧ (dig q).length ≤ 17592186044416 ∧ Below w.heap.size w wr)
  case atStart => exact ⟨m, n, Nat.le_refl _, HA.out, HB.out, rfl, HK.out, HM.out, HN.out, Below.refl _ _⟩
  case round =>
    obtain ⟨p, q, hqb, hp, hq, hg, hqK, hpl, hql, hbe⟩ := hrel
    have HP := Lib.hid hp; have HQ := Lib.hid hq
    have hq2 := hq
    obtain ⟨aq, cq, rfl, hqc, hqc2⟩ := hq
    by_cases h0 : q = 0
    · subst h0
      have he : p = Nat.gcd m n := by rw [← hg, Nat.gcd_zero_right]
      have hl0 : (dig 0).length = 0 := by rw [dig_zero]; rfl
      rw [hl0]
      have HE := Lib.hid he; clear he hg hq2 hp hqc hqc2 hl0
      go_wp2
      go_ret
      exact ⟨⟨_, rfl, by rw [← HE.out]; exact HP.out⟩, hbe⟩
    · have hlp : 0 < ((dig q).length : Int) := by
        have : (dig q).length ≠ 0 := by rw [Ne, dig_len_pos]; exact h0
        omega
      have hov := HOV.out _ _ p q wr hp hq2 hpl h0 hqK
      have hlt : p % q < q := Nat.mod_lt _ (by omega)
      have hg2 : Nat.gcd q (p % q) = Nat.gcd m n := by rw [← hg, Nat.gcd_comm q, ← Nat.gcd_rec, Nat.gcd_comm]
      have hml : (dig (p % q)).length ≤ 17592186044416 := Nat.le_trans (dig_len_mono (Nat.le_of_lt hlt)) hql
      have HO := Lib.hid hov; have HG := Lib.hid hg2
      clear hov hg hg2 hp hq2 hqc hqc2
      go_wp2_with fail
      refine HO.out.mono ?_
      rintro e w1 ⟨⟨vq, vr, rfl, _, hr⟩, hb1⟩
      have HR := Lib.hid hr; clear hr
      go_wp2
      go_roundg (p % q)
      case measure => omega
      case rel => exact ⟨q, p % q, Nat.le_refl _, HQ.out.below hb1 (Nat.le_refl _), HR.out, HG.out, by omega, hql, hml, hbe.trans (hb1.mono hbe.size)⟩
end Go.Proofs.YtoochleabcjljaaDoor
