/- Parts of a proof, in build order: C0. -/
import Derived.Test.YtdpjdifoonfcdaaGreatDoorKr0

namespace Go.Proofs.YtdpjdifoonfcdaaGreatDoor
open Go.RowKit
def nchOK (i : Nat) (c : Nat) : Bool := decide (97 <= c /\ c <= 122 ∨ i ≠ 0 /\ (c = 95 ∨ 48 <= c /\ c <= 57))
def chAt (s : ByteArray) (i : Nat) : Nat := (s.data.toList.getD i 0).toNat
def nameTo (s : ByteArray) (k : Nat) : Bool := (List.range k).all fun i => nchOK i (chAt s i)
def nameOK (s : ByteArray) : Bool := nameTo s s.size && (decide (1 <= s.size) && decide (s.size <= 16))
theorem nameTo_succ (s : ByteArray) (k : Nat) : nameTo s (k + 1) = (nameTo s k && nchOK k (chAt s k)) := by simp [nameTo, List.range_succ, List.all_append]
theorem nameTo_false {s : ByteArray} {k : Nat} (h : nchOK k (chAt s k) = false) (hk : k < s.size) : nameOK s = false := by
 have : nameTo s s.size = false := by
  rw [nameTo, List.all_eq_false]; exact ⟨k, by simpa using hk, by simp [h]⟩
 simp [nameOK, this]
theorem chAt_eq {s : ByteArray} {k : Nat} (h : k < s.size) : chAt s k = s[k].toNat := by
 unfold chAt
 rw [List.getD_eq_getElem?_getD, List.getElem?_eq_getElem (by simpa using h)]; rfl
set_option maxRecDepth 100000 in
theorem isName_any (s : ByteArray) (w : World) (hs : s.size <= 9223372036854775807) :
 Calls Tryz.prog 185 #[.string s] w fun e w' => e = .returned (.bool (nameOK s)) /\ w = w' := by
 go_enter Tryz.func185, Tryz.ntmps185
 go_wp2
 go_loop [8] (fun i => ∃ k : Nat, k <= s.size /\ i = .int .i64 k /\ nameTo s k = true) (fun i => s.size - (intOf i).toNat)
 case atStart => exact ⟨0, Nat.zero_le _, rfl, rfl⟩
 case round =>
  obtain ⟨k, hk, rfl, hn⟩ := hrel
  by_cases hlt : k < s.size
  · have hsu := nameTo_succ s k
    rw [hn, Bool.true_and] at hsu
    have hfa := fun h => nameTo_false (s := s) (k := k) h hlt
    rw [chAt_eq hlt] at hsu hfa
    have HSU := Lib.hid hsu; have HFA := Lib.hid hfa; clear hsu hfa hn
    have hc : nchOK k s[k].toNat = true ∨ nchOK k s[k].toNat = false := by cases nchOK k s[k].toNat <;> simp
    rcases hc with hc | hc
    · have HSU2 : Hid (nameTo s (k + 1) = true) := by show nameTo s (k + 1) = true; rw [HSU.out, hc]
      simp only [nchOK, decide_eq_true_eq] at hc
      rcases hc with ⟨h1, h2⟩ | ⟨h0, h3 | ⟨h1, h2⟩⟩
      · have g1 : (97 : Int) <= s[k].toNat := by omega
        have g2 : (s[k].toNat : Int) <= 122 := by omega
        clear h1 h2
        go_wp2
        go_round
        case rel => exact ⟨k + 1, by omega, by go_num, HSU2.out⟩
        case measure => simp [intOf]; omega
      · have g0 : ((k : Int) == 0) = false := by rw [beq_eq_false_iff_ne]; omega
        have g1 : ¬ (97 : Int) <= s[k].toNat := by omega
        have g2 : ((s[k].toNat : Int) != 95) = false := by simp [h3]
        clear h3 h0
        go_wp2
        go_round
        case rel => exact ⟨k + 1, by omega, by go_num, HSU2.out⟩
        case measure => simp [intOf]; omega
      · have g0 : ((k : Int) == 0) = false := by rw [beq_eq_false_iff_ne]; omega
        have g1 : ¬ (97 : Int) <= s[k].toNat := by omega
        have g2 : ((s[k].toNat : Int) != 95) = true := by rw [bne_iff_ne]; omega
        have g3 : ¬ (s[k].toNat : Int) < 48 := by omega
        have g4 : ¬ (57 : Int) < s[k].toNat := by omega
        clear h1 h2 h0
        go_wp2
        go_round
        case rel => exact ⟨k + 1, by omega, by go_num, HSU2.out⟩
        case measure => simp [intOf]; omega
    · have HF : Hid (nameOK s = false) := HFA.out hc
      simp only [nchOK, decide_eq_false_iff_not] at hc
      have g1 : (s[k].toNat : Int) < 97 ∨ (122 : Int) < s[k].toNat := by omega
      have g2 : k = 0 ∨ 0 < k := by omega
      rcases g1 with g1 | g1
      all_goals
       try have g5 : decide ((s[k].toNat : Int) <= 122) = false := by rw [decide_eq_false_iff_not]; omega
       rcases g2 with g2 | g2
       · subst g2
         clear hc
         go_wp2
         go_ret
         exact ⟨ret_bool HF.out.symm, rfl⟩
       · have g0 : ((k : Int) == 0) = false := by rw [beq_eq_false_iff_ne]; omega
         have g4 : ((s[k].toNat : Int) != 95) = true := by rw [bne_iff_ne]; omega
         have g3 : (s[k].toNat : Int) < 48 ∨ 57 < (s[k].toNat : Int) := by omega
         clear hc g2
         rcases g3 with g3 | g3
         all_goals first | (exfalso; omega) | (go_wp2; go_ret; exact ⟨ret_bool HF.out.symm, rfl⟩)
  · obtain rfl : k = s.size := by omega
    have hf : nameOK s = (decide (1 <= s.size) && decide (s.size <= 16)) := by rw [nameOK, hn, Bool.true_and]
    have HF := Lib.hid hf; clear hf hn
    by_cases h1 : (1 : Int) <= s.size
    · go_wp2
      go_ret
      exact ⟨ret_bool (by rw [HF.out, Bool.eq_iff_iff]; simp; omega), rfl⟩
    · go_wp2
      go_ret
      exact ⟨ret_bool (by rw [HF.out, Bool.eq_iff_iff]; simp; omega), rfl⟩
end Go.Proofs.YtdpjdifoonfcdaaGreatDoor
