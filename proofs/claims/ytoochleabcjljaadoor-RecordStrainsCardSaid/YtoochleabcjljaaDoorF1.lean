/- Codes: Encode. -/
import Derived.Test.YtoochleabcjljaaDoorF0
namespace Go.Proofs.YtoochleabcjljaaDoor
open Go.RowKit

theorem frTo_get {bs : List Chan} {xss : List (List Int)} {n : Nat} (h : frTo bs xss n = true) {i : Nat} {c : Chan} {xs : List Int} (hi : i < n) (hc : bs[i]? = some c) (hx : xss[i]? = some xs) : smpOK c xs = true := by
  induction n with
  | zero => omega
  | succ n ih =>
    simp only [frTo, Bool.and_eq_true] at h
    by_cases hin : i < n
    · exact ih h.1 hin
    · obtain rfl : i = n := by omega
      have := h.2
      rw [hc, hx] at this
      exact this
theorem frmErr_zero {bs : List Chan} {st : Int} {xss : List (List Int)} (h : frmErr bs st xss = 0) : bookOK bs = true ∧ bs.length ≤ 16 ∧ xss.length = bs.length ∧ 0 ≤ st ∧ st ≤ 1073741824 ∧ (∀ xs ∈ xss, xs.length ≤ 64) ∧ ∀ xs ∈ xss, ∀ x ∈ xs, -8388608 ≤ x ∧ x ≤ 8388608 := by
  unfold frmErr at h
  split at h
  · contradiction
  · rename_i hb
    have hb : bookErr bs = 0 := by simpa using hb
    have hk := bookErr_zero hb
    split at h
    · rename_i hf
      simp only [frOK, Bool.and_eq_true, decide_eq_true_eq] at hf
      obtain ⟨h1, h2, h3⟩ := hf
      have hk2 := hk
      simp only [bookOK, inB, Bool.and_eq_true, decide_eq_true_eq] at hk2
      simp only [inB, decide_eq_true_eq] at h1
      have key : ∀ xs ∈ xss, ∃ c, (1 ≤ c.rate ∧ c.rate ≤ 64 ∧ 2 ≤ c.bits ∧ c.bits ≤ 24) ∧ smpOK c xs = true := by
        intro xs hxs
        obtain ⟨i, hi, hx⟩ := List.mem_iff_getElem.1 hxs
        obtain ⟨c, hc⟩ := get_of_lt (show i < bs.length by omega)
        exact ⟨c, book_get hk hc, frTo_get h3 (by omega) hc (by rw [List.getElem?_eq_getElem hi, hx])⟩
      refine ⟨hk, by omega, h2, h1.1, h1.2, fun xs hxs => ?_, fun xs hxs x hx => ?_⟩
      · obtain ⟨c, hc, hs⟩ := key xs hxs
        simp only [smpOK, Bool.and_eq_true, decide_eq_true_eq] at hs
        omega
      · obtain ⟨c, hc, hs⟩ := key xs hxs
        simp only [smpOK, Bool.and_eq_true] at hs
        have h4 := hs.2
        obtain ⟨m1, m2, _⟩ := most_bd hc.2.2.1 hc.2.2.2
        rw [Bool.not_eq_true'] at h4
        have h5 := List.any_eq_false.1 h4 x hx
        simp [inB] at h5
        omega
    · contradiction
def encRes (bs : List Chan) (st : Int) (xss : List (List Int)) : List Nat := if frmErr bs st xss = 0 then encB st xss else []

set_option maxRecDepth 100000 in
theorem Encode_any (ao : Option Addr) (bs : List Chan) (cap : Nat) (st : Int) (asm : Option Addr) (vs : List Value) (xss : List (List Int)) (cs : Nat) (w : World) (hb : BookIn w ao bs cap) (hs : Cells w asm vs) (hr : RowsV w vs xss) (hls : xss.length ≤ 17592186044416) :
    Calls Tryd.prog 26 #[.slice ao bs.length cap, .agg #[.int .i64 st, .slice asm xss.length cs]] w fun e w' => (∃ v, e = .returned (.tuple #[v, .int .i64 (frmErr bs st xss)]) ∧ w'.ownsRow w.heap.size 5 1 v (encRes bs st xss).length (bys (encRes bs st xss))) ∧ Below w.heap.size w w' := by
  have HB := Lib.hid hb; have HS := Lib.hid hs; have HR := Lib.hid hr
  have hlen := hb.len
  clear hs hr hb
  have hck := fun wx h1 h2 h3 => checkFrame_any ao bs cap st asm vs xss cs wx h1 h2 h3 hls
  have HCK := Lib.hid hck; clear hck
  by_cases h1 : frmErr bs st xss = 0
  · have he : encRes bs st xss = encB st xss := by rw [encRes, if_pos h1]
    obtain ⟨_, z1, z2, z3, z4, z5, z6⟩ := frmErr_zero h1
    have hen := fun wx h1 h2 => encode_any ao bs.length cap st asm vs xss cs wx z1 z2 h1 h2 z3 z4 z5 z6
    rw [z2] at HCK ⊢
    have HEN := Lib.hid hen; have HE := Lib.hid he; have H1 := Lib.hid h1
    clear hen he h1 z1 z2 z3 z4 z5 z6 hls
    go_enter Tryd.func26, Tryd.ntmps26
    go_wp2_with fail
    have hb0 := (Below.refl w.heap.size w).alloc (Nat.le_refl _) (.cells #[.int .i64 st, .slice asm bs.length cs] 53)
    refine (HCK.out _ (HB.out.below hb0 (Nat.le_refl _)) (HS.out.below hb0 (Nat.le_refl _)) (HR.out.below hb0 (Nat.le_refl _))).mono ?_
    rintro e w1 ⟨rfl, hb1⟩
    rw [H1.out]
    have q0 : w1.cell? ⟨w.heap.size, 0, none⟩ = some (.int .i64 st) := box_keep hb1 (by simp) 0
    have q1 : w1.cell? ⟨w.heap.size, 1, none⟩ = some (.slice asm bs.length cs) := box_keep hb1 (by simp) 1
    have hbw := hb0.trans (hb1.mono (by simp))
    go_wp2_with fail
    refine (HEN.out _ (HS.out.below hbw (Nat.le_refl _)) (HR.out.below hbw (Nat.le_refl _))).mono ?_
    rintro e w2 ⟨⟨v, rfl, hown⟩, hb2⟩
    have HO := Lib.hid (own_base hown hbw.size)
    have hfin := hbw.trans (hb2.mono hbw.size)
    clear hown hb0 hb1 hbw hb2
    go_wp2
    go_ret2
    exact ⟨⟨v, by rw [H1.out]; rfl, by rw [HE.out]; exact HO.out⟩, hfin⟩
  · have he : encRes bs st xss = [] := by rw [encRes, if_neg h1]
    have h3 : (frmErr bs st xss != 0) = true := by simpa using h1
    have h4 : (frmErr bs st xss == 0) = false := by simpa using h1
    have HE := Lib.hid he; clear he
    go_enter Tryd.func26, Tryd.ntmps26
    go_wp2_with fail
    have hb0 := (Below.refl w.heap.size w).alloc (Nat.le_refl _) (.cells #[.int .i64 st, .slice asm xss.length cs] 53)
    refine (HCK.out _ (HB.out.below hb0 (Nat.le_refl _)) (HS.out.below hb0 (Nat.le_refl _)) (HR.out.below hb0 (Nat.le_refl _))).mono ?_
    rintro e w1 ⟨rfl, hb1⟩
    have hbw := hb0.trans (hb1.mono (by simp))
    go_wp2
    go_ret2
    exact ⟨⟨_, rfl, by rw [HE.out]; exact World.ownsRow_nil _ _ _ _⟩, hbw⟩
end Go.Proofs.YtoochleabcjljaaDoor
