/- Books: slices of channels; slices.IndexFunc and ContainsFunc over them. -/
import Derived.Test.YtoochleabcjljaaDoorC0
namespace Go.Proofs.YtoochleabcjljaaDoor
open Go.RowKit

structure Chan where
  name : ByteArray
  rate : Int
  bits : Int

/-- channels, cell by cell -/
def chs (l : List Chan) : List Value := l.flatMap fun t => [.string t.name, .int .i64 t.rate, .int .i64 t.bits]
theorem chs_cons (t : Chan) (l : List Chan) : chs (t :: l) = .string t.name :: .int .i64 t.rate :: .int .i64 t.bits :: chs l := rfl
theorem chs_append (a b : List Chan) : chs (a ++ b) = chs a ++ chs b := by simp [chs]
theorem chs_length (l : List Chan) : (chs l).length = l.length * 3 := by
  induction l with
  | nil => rfl
  | cons t l ih => simp only [chs_cons, List.length_cons, ih]; omega
theorem chs_get {l : List Chan} {i : Nat} {t : Chan} (h : l[i]? = some t) : (chs l)[i * 3]? = some (.string t.name) ∧ (chs l)[i * 3 + 1]? = some (.int .i64 t.rate) ∧ (chs l)[i * 3 + 2]? = some (.int .i64 t.bits) := by
  induction l generalizing i with
  | nil => simp at h
  | cons s l ih =>
    cases i with
    | zero => simp at h; subst h; simp [chs_cons]
    | succ i =>
      have e : (i + 1) * 3 = i * 3 + 1 + 1 + 1 := by omega
      have e1 : (i + 1) * 3 + 1 = i * 3 + 1 + 1 + 1 + 1 := by omega
      have e2 : (i + 1) * 3 + 2 = i * 3 + 2 + 1 + 1 + 1 := by omega
      rw [chs_cons, e2, e1, e]
      simp only [List.getElem?_cons_succ]
      exact ih (by simpa using h)
theorem chs_ne {l : List Chan} (h : 0 < l.length) : chs l ≠ [] := by
  intro e; have := chs_length l; rw [e] at this; simp at this; omega
theorem chs_take (l : List Chan) (i : Nat) : chs (l.take i) = (chs l).take (i * 3) := by
  induction l generalizing i with
  | nil => simp [chs]
  | cons t l ih =>
    cases i with
    | zero => simp [chs]
    | succ i =>
      have e : (i + 1) * 3 = i * 3 + 1 + 1 + 1 := by omega
      rw [List.take_succ_cons, chs_cons, chs_cons, e, List.take_succ_cons, List.take_succ_cons, List.take_succ_cons, ih]
theorem Cells.take' {w : World} {ao : Option Addr} {cs : List Value} (h : Cells w ao cs) (n : Nat) : Cells w ao (cs.take n) := by
  rcases h with h | ⟨b, off, h1, h2⟩
  · exact .inl (by simp [h])
  · refine .inr ⟨b, off, h1, fun j u hu => h2 j u ?_⟩
    rw [List.getElem?_take] at hu
    split at hu
    · exact hu
    · simp at hu

set_option maxRecDepth 100000 in
/-- slices.IndexFunc over channels -/
theorem indexFunc_chans (F : FuncId) (capd : Array Value) (p : Chan → Bool) (ao : Option Addr) (xs : List Chan) (cap : Nat) (w : World) (hc : Cells w ao (chs xs)) (hl : xs.length ≤ 9223372036854775807)
    (hcf : ∀ (vs : Array Value) (wx : World), Sem.run Tryd.prog (callFunc F vs) wx = .ok (.enter F vs) wx)
    (hF : ∀ x wx, x ∈ xs → Below w.heap.size w wx → Calls Tryd.prog F (#[.agg #[.string x.name, .int .i64 x.rate, .int .i64 x.bits]] ++ capd) wx fun e w' => e = .returned (.bool (p x)) ∧ Below wx.heap.size wx w') :
    Calls Tryd.prog 32 #[.slice ao xs.length cap, .func (.func F) #[] capd] w fun e w' => (∃ r : Int, e = .returned (.int .i64 r) ∧ (0 ≤ r ↔ xs.any p = true) ∧ (∀ i : Nat, r = i → ∃ x, xs[i]? = some x ∧ p x = true ∧ (xs.take i).any p = false)) ∧ Below w.heap.size w w' := by
  go_enter Tryd.func32, Tryd.ntmps32
  go_wp2
  go_loopw [8] (fun i wr => ∃ k : Nat, k ≤ xs.length ∧ i = .int .i64 k ∧ (xs.take k).any p = false ∧ Below w.heap.size w wr) (fun i _ => xs.length - (intOf i).toNat)
  case atStart => exact ⟨0, Nat.zero_le _, rfl, rfl, Below.refl _ _⟩
  case round =>
    obtain ⟨k, hk, rfl, hany, hb⟩ := hrel
    by_cases hlt : k < xs.length
    · obtain ⟨x, hx⟩ := get_of_lt hlt
      obtain ⟨b, off, rfl⟩ := hc.addr (chs_ne (by omega))
      obtain ⟨g0, g1, g2⟩ := chs_get hx
      have hcell1 := cell_keep (hc.at g0) hb (Nat.le_refl _)
      have hcell2 := cell_keep (hc.at g1) hb (Nat.le_refl _)
      have hcell3 := cell_keep (hc.at g2) hb (Nat.le_refl _)
      rw [← Nat.add_assoc] at hcell2 hcell3
      clear g0 g1 g2
      have HX := Lib.hid hx; clear hx
      have HC := Lib.hid hc; clear hc
      have HF := Lib.hid hF; clear hF
      have HA := Lib.hid hany; clear hany
      go_wp2_with fail
      refine (HF.out x wr (List.mem_of_getElem? HX.out) hb).mono ?_
      rintro e w1 ⟨rfl, hb1⟩
      have hb2 := hb.trans (hb1.mono hb.size)
      clear hb1
      by_cases hp : p x = true
      · go_wp2
        go_ret
        refine ⟨⟨_, rfl, ?_, ?_⟩, hb2⟩
        · simp only [Int.natCast_nonneg, true_iff, List.any_eq_true]
          exact ⟨x, List.mem_of_getElem? HX.out, hp⟩
        · intro i hi
          obtain rfl : k = i := by omega
          exact ⟨x, HX.out, hp, HA.out⟩
      · simp only [Bool.not_eq_true] at hp
        go_wp2
        go_roundw
        case rel => exact ⟨k + 1, by omega, by go_num, by rw [take_get HX.out, List.any_append, HA.out]; simp [hp], hb2⟩
        case measure => simp [intOf]; omega
    · obtain rfl : k = xs.length := by omega
      rw [List.take_length] at hany
      have HA := Lib.hid hany; clear hany
      go_wp2
      go_ret
      exact ⟨⟨_, rfl, by rw [HA.out]; simp, fun i hi => by omega⟩, hb⟩

set_option maxRecDepth 100000 in
theorem containsFunc_chans (F : FuncId) (capd : Array Value) (p : Chan → Bool) (ao : Option Addr) (xs : List Chan) (cap : Nat) (w : World) (hc : Cells w ao (chs xs)) (hl : xs.length ≤ 9223372036854775807)
    (hcf : ∀ (vs : Array Value) (wx : World), Sem.run Tryd.prog (callFunc F vs) wx = .ok (.enter F vs) wx)
    (hF : ∀ x wx, x ∈ xs → Below w.heap.size w wx → Calls Tryd.prog F (#[.agg #[.string x.name, .int .i64 x.rate, .int .i64 x.bits]] ++ capd) wx fun e w' => e = .returned (.bool (p x)) ∧ Below wx.heap.size wx w') :
    Calls Tryd.prog 59 #[.slice ao xs.length cap, .func (.func F) #[] capd] w fun e w' => e = .returned (.bool (xs.any p)) ∧ Below w.heap.size w w' := by
  have HC := Lib.hid hc; clear hc
  have HF := Lib.hid hF; clear hF
  have HCF := Lib.hid hcf; clear hcf
  go_enter Tryd.func59, Tryd.ntmps59
  go_wp2_with fail
  refine (indexFunc_chans F capd p ao xs cap w HC.out hl HCF.out HF.out).mono ?_
  rintro e w1 ⟨⟨r, rfl, hr, _⟩, hb⟩
  have HR := Lib.hid hr; clear hr
  go_wp2
  go_ret
  exact ⟨ret_bool (by rw [Bool.eq_iff_iff, decide_eq_true_iff]; exact HR.out), hb⟩

/-- have two channels the same name? -/
def sameName (a b : ByteArray) : Bool := a.toList == b.toList

theorem checkBook1_any (x : Chan) (bc : Nat) (t : ByteArray) (w : World) (hc : w.cell? ⟨bc, 0, none⟩ = some (.string t)) :
    Calls Tryd.prog 60 #[.agg #[.string x.name, .int .i64 x.rate, .int .i64 x.bits], .pointer (some ⟨bc, 0, none⟩)] w fun e w' => e = .returned (.bool (sameName x.name t)) ∧ Below w.heap.size w w' := by
  have hc1 := cell_keep hc ((Below.refl _ _).alloc (Nat.le_refl _) (.cells #[.string x.name, .int .i64 x.rate, .int .i64 x.bits] 57)) (Nat.le_refl _)
  go_enter Tryd.func60, Tryd.ntmps60
  go_wp2
  go_ret
  exact ⟨rfl, (Below.refl _ _).alloc (Nat.le_refl _) _⟩
end Go.Proofs.YtoochleabcjljaaDoor
