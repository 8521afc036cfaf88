/- Frames: CheckFrame. -/
import Derived.Test.YtoochleabcjljaaDoorC3
namespace Go.Proofs.YtoochleabcjljaaDoor
open Go.RowKit

def frmErr (bs : List Chan) (st : Int) (xss : List (List Int)) : Int := if bookErr bs ≠ 0 then bookErr bs else if frOK bs st xss then 0 else 51
theorem bookErr_zero {bs : List Chan} (h : bookErr bs = 0) : bookOK bs = true := by
  cases e : bookOK bs
  · simp [bookErr, e] at h
  · rfl

/-- what is asked of a book, whatever it holds -/
structure BookIn (w : World) (ao : Option Addr) (bs : List Chan) (cap : Nat) : Prop where
  cells : Cells w ao (chs bs)
  len : bs.length ≤ 17592186044416
  lecap : bs.length ≤ cap
  cap2 : cap ≤ 9223372036854775807
  names : ∀ c ∈ bs, c.name.size ≤ 9223372036854775807
  rates : ∀ c ∈ bs, -9223372036854775808 ≤ c.rate
theorem BookIn.below {w w' : World} {B : Nat} {ao : Option Addr} {bs : List Chan} {cap : Nat} (h : BookIn w ao bs cap) (hb : Below B w w') (hB : w.heap.size ≤ B) : BookIn w' ao bs cap :=
  ⟨h.cells.below hb hB, h.len, h.lecap, h.cap2, h.names, h.rates⟩

set_option maxRecDepth 100000 in
theorem checkFrame_any (ao : Option Addr) (bs : List Chan) (cap : Nat) (st : Int) (asm : Option Addr) (vs : List Value) (xss : List (List Int)) (cs : Nat) (w : World) (hb : BookIn w ao bs cap) (hs : Cells w asm vs) (hr : RowsV w vs xss) (hls : xss.length ≤ 17592186044416) :
    Calls Tryd.prog 37 #[.slice ao bs.length cap, .agg #[.int .i64 st, .slice asm xss.length cs]] w fun e w' => e = .returned (.int .i64 (frmErr bs st xss)) ∧ Below w.heap.size w w' := by
  have HB := Lib.hid hb; have HS := Lib.hid hs; have HR := Lib.hid hr
  have hlen := hb.len
  clear hs hr hb
  have hck := fun wx (h : BookIn wx ao bs cap) => checkBook_any ao bs cap wx h.cells (by have := h.len; omega) h.lecap h.cap2 h.names h.rates
  have HCK := Lib.hid hck; clear hck
  by_cases h1 : bookErr bs = 0
  · have hok := bookErr_zero h1
    have hfr := fun wx h2 h3 h4 => frameOK_any ao bs cap st asm vs xss cs wx h2 hlen h3 h4 hls hok
    have HFR := Lib.hid hfr; clear hfr hok
    have he : frmErr bs st xss = if frOK bs st xss then 0 else 51 := by simp [frmErr, h1]
    have HE := Lib.hid he; have H1 := Lib.hid h1; clear he h1
    cases h2 : frOK bs st xss
    all_goals
      have H2 := Lib.hid h2
      go_enter Tryd.func37, Tryd.ntmps37
      go_wp2_with fail
      refine (HCK.out _ (HB.out.below ((Below.refl _ _).alloc (Nat.le_refl _) _) (Nat.le_refl _))).mono ?_
      rintro e w1 ⟨rfl, hb1⟩
      rw [H1.out]
      have hbw : Below w.heap.size w w1 := ((Below.refl _ _).alloc (Nat.le_refl _) _).trans (hb1.mono (by simp))
      have q0 : w1.cell? ⟨w.heap.size, 0, none⟩ = some (.int .i64 st) := box_keep hb1 (by simp) 0
      have q1 : w1.cell? ⟨w.heap.size, 1, none⟩ = some (.slice asm xss.length cs) := box_keep hb1 (by simp) 1
      go_wp2_with fail
      refine (HFR.out _ (HB.out.below hbw (Nat.le_refl _)).cells (HS.out.below hbw (Nat.le_refl _)) (HR.out.below hbw (Nat.le_refl _))).mono ?_
      rintro e w2 ⟨rfl, hb2⟩
      go_wp2
      go_ret
      exact ⟨ret_int (by rw [HE.out, H2.out]; rfl), hbw.trans (hb2.mono hbw.size)⟩
  · have he : frmErr bs st xss = bookErr bs := by simp [frmErr, h1]
    have h3 : (bookErr bs != 0) = true := by simpa using h1
    have h4 : (bookErr bs == 0) = false := by simpa using h1
    have HE := Lib.hid he; clear he
    go_enter Tryd.func37, Tryd.ntmps37
    go_wp2_with fail
    refine (HCK.out _ (HB.out.below ((Below.refl _ _).alloc (Nat.le_refl _) _) (Nat.le_refl _))).mono ?_
    rintro e w1 ⟨rfl, hb1⟩
    go_wp2
    go_ret
    exact ⟨ret_int HE.out.symm, ((Below.refl _ _).alloc (Nat.le_refl _) _).trans (hb1.mono (by simp))⟩
end Go.Proofs.YtoochleabcjljaaDoor
