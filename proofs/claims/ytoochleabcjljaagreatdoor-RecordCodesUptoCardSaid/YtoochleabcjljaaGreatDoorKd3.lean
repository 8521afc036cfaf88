/- Parts of a proof, in build order: R0, R1, R2, D6, Q0, B0, A2, A3. -/
import Derived.Test.YtoochleabcjljaaGreatDoorKd2

/- Records: slices of frames; CheckRecord, between. -/
namespace Go.Proofs.YtoochleabcjljaaGreatDoor
open Go.RowKit

/-- a frame, and where its samples lie -/
structure Frm where
  st : Int
  a : Option Addr
  c : Nat
  xss : List (List Int)
/-- frames, cell by cell -/
def frs (l : List Frm) : List Value := l.flatMap fun f => [.int .i64 f.st, .slice f.a f.xss.length f.c]
theorem frs_cons (t : Frm) (l : List Frm) : frs (t :: l) = .int .i64 t.st :: .slice t.a t.xss.length t.c :: frs l := rfl
theorem frs_length (l : List Frm) : (frs l).length = l.length * 2 := by
  induction l with
  | nil => rfl
  | cons t l ih => simp only [frs_cons, List.length_cons, ih]; omega
theorem frs_get {l : List Frm} {i : Nat} {t : Frm} (h : l[i]? = some t) : (frs l)[i * 2]? = some (.int .i64 t.st) ∧ (frs l)[i * 2 + 1]? = some (.slice t.a t.xss.length t.c) := by
  induction l generalizing i with
  | nil => simp at h
  | cons s l ih =>
    cases i with
    | zero => simp at h; subst h; simp [frs_cons]
    | succ i =>
      have e : (i + 1) * 2 = i * 2 + 1 + 1 := by omega
      have e1 : (i + 1) * 2 + 1 = i * 2 + 1 + 1 + 1 := by omega
      rw [frs_cons, e1, e]
      simp only [List.getElem?_cons_succ]
      exact ih (by simpa using h)
theorem frs_ne {l : List Frm} (h : 0 < l.length) : frs l ≠ [] := by
  intro e; have := frs_length l; rw [e] at this; simp at this; omega

/-- the samples of a frame lie where it says -/
def FrmIn (w : World) (f : Frm) : Prop := f.xss.length ≤ 9223372036854775807 ∧ ∃ vs, Cells w f.a vs ∧ RowsV w vs f.xss
theorem FrmIn.below {w w' : World} {B : Nat} {f : Frm} (h : FrmIn w f) (hb : Below B w w') (hB : w.heap.size ≤ B) : FrmIn w' f := by
  obtain ⟨h0, vs, h1, h2⟩ := h; exact ⟨h0, vs, h1.below hb hB, h2.below hb hB⟩
structure RecIn (w : World) (al : Option Addr) (l : List Frm) : Prop where
  cells : Cells w al (frs l)
  len : l.length ≤ 9223372036854775807
  rows : ∀ f ∈ l, FrmIn w f
theorem RecIn.below {w w' : World} {B : Nat} {al : Option Addr} {l : List Frm} (h : RecIn w al l) (hb : Below B w w') (hB : w.heap.size ≤ B) : RecIn w' al l :=
  ⟨h.cells.below hb hB, h.len, fun f hf => (h.rows f hf).below hb hB⟩

set_option maxRecDepth 100000 in
/-- slices.IndexFunc over frames -/
theorem indexFunc_frms (F : FuncId) (capd : Array Value) (p : Frm → Bool) (ao : Option Addr) (xs : List Frm) (cap : Nat) (w : World) (hc : Cells w ao (frs xs)) (hl : xs.length ≤ 9223372036854775807)
    (hcf : ∀ (vs : Array Value) (wx : World), Sem.run Tryz.prog (callFunc F vs) wx = .ok (.enter F vs) wx)
    (hF : ∀ x wx, x ∈ xs → Below w.heap.size w wx → Calls Tryz.prog F (#[.agg #[.int .i64 x.st, .slice x.a x.xss.length x.c]] ++ capd) wx fun e w' => e = .returned (.bool (p x)) ∧ Below wx.heap.size wx w') :
    Calls Tryz.prog 120 #[.slice ao xs.length cap, .func (.func F) #[] capd] w fun e w' => (∃ r : Int, e = .returned (.int .i64 r) ∧ (0 ≤ r ↔ xs.any p = true)) ∧ Below w.heap.size w w' := by
  go_enter Tryz.func120, Tryz.ntmps120
  go_wp2
  go_loopw [8] (fun i wr => ∃ k : Nat, k ≤ xs.length ∧ i = .int .i64 k ∧ (xs.take k).any p = false ∧ Below w.heap.size w wr) (fun i _ => xs.length - (intOf i).toNat)
  case atStart => exact ⟨0, Nat.zero_le _, rfl, rfl, Below.refl _ _⟩
  case round =>
    obtain ⟨k, hk, rfl, hany, hb⟩ := hrel
    by_cases hlt : k < xs.length
    · obtain ⟨x, hx⟩ := get_of_lt hlt
      obtain ⟨b, off, rfl⟩ := hc.addr (frs_ne (by omega))
      obtain ⟨g0, g1⟩ := frs_get hx
      have hcell1 := cell_keep (hc.at g0) hb (Nat.le_refl _)
      have hcell2 := cell_keep (hc.at g1) hb (Nat.le_refl _)
      rw [← Nat.add_assoc] at hcell2
      clear g0 g1
      have HX := Lib.hid hx; clear hx
      have HC := Lib.hid hc; clear hc
      have HF := Lib.hid hF; clear hF
      have HA := Lib.hid hany; clear hany
      go_wp2_with fail
      refine (HF.out x wr (List.mem_of_getElem? HX.out) hb).mono ?_
      rintro e w1 ⟨rfl, hb1⟩
      have hb2 := hb.trans (hb1.mono hb.size)
      clear hb1
      by_cases hp : p x = true
      · go_wp2
        go_ret
        refine ⟨⟨_, rfl, ?_⟩, hb2⟩
        simp only [Int.natCast_nonneg, true_iff, List.any_eq_true]
        exact ⟨x, List.mem_of_getElem? HX.out, hp⟩
      · simp only [Bool.not_eq_true] at hp
        go_wp2
        go_roundw
        case rel => exact ⟨k + 1, by omega, by go_num, by rw [take_get HX.out, List.any_append, HA.out]; simp [hp], hb2⟩
        case measure => simp [intOf]; omega
    · obtain rfl : k = xs.length := by omega
      rw [List.take_length] at hany
      have HA := Lib.hid hany; clear hany
      go_wp2
      go_ret
      exact ⟨⟨_, rfl, by rw [HA.out]; simp⟩, hb⟩

set_option maxRecDepth 100000 in
theorem containsFunc_frms (F : FuncId) (capd : Array Value) (p : Frm → Bool) (ao : Option Addr) (xs : List Frm) (cap : Nat) (w : World) (hc : Cells w ao (frs xs)) (hl : xs.length ≤ 9223372036854775807)
    (hcf : ∀ (vs : Array Value) (wx : World), Sem.run Tryz.prog (callFunc F vs) wx = .ok (.enter F vs) wx)
    (hF : ∀ x wx, x ∈ xs → Below w.heap.size w wx → Calls Tryz.prog F (#[.agg #[.int .i64 x.st, .slice x.a x.xss.length x.c]] ++ capd) wx fun e w' => e = .returned (.bool (p x)) ∧ Below wx.heap.size wx w') :
    Calls Tryz.prog 73 #[.slice ao xs.length cap, .func (.func F) #[] capd] w fun e w' => e = .returned (.bool (xs.any p)) ∧ Below w.heap.size w w' := by
  have HC := Lib.hid hc; clear hc
  have HF := Lib.hid hF; clear hF
  have HCF := Lib.hid hcf; clear hcf
  go_enter Tryz.func73, Tryz.ntmps73
  go_wp2_with fail
  refine (indexFunc_frms F capd p ao xs cap w HC.out hl HCF.out HF.out).mono ?_
  rintro e w1 ⟨⟨r, rfl, hr⟩, hb⟩
  have HR := Lib.hid hr; clear hr
  go_wp2
  go_ret
  exact ⟨ret_bool (by rw [Bool.eq_iff_iff, decide_eq_true_iff]; exact HR.out), hb⟩

theorem checkRecord1_any (ao : Option Addr) (bs : List Chan) (cap : Nat) (bc : Nat) (x : Frm) (w : World) (hc : w.cell? ⟨bc, 0, none⟩ = some (.slice ao bs.length cap)) (hb : Cells w ao (chs bs)) (hl : bs.length ≤ 9223372036854775807) (hx : FrmIn w x) (hbk : bookOK bs = true) :
    Calls Tryz.prog 74 #[.agg #[.int .i64 x.st, .slice x.a x.xss.length x.c], .pointer (some ⟨bc, 0, none⟩)] w fun e w' => e = .returned (.bool (!frOK bs x.st x.xss)) ∧ Below w.heap.size w w' := by
  have hb0 := (Below.refl w.heap.size w).alloc (Nat.le_refl _) (.cells #[.int .i64 x.st, .slice x.a x.xss.length x.c] 43)
  have hc1 := cell_keep hc hb0 (Nat.le_refl _)
  obtain ⟨h0, vs, h1, h2⟩ := hx
  have hfr := frameOK_any ao bs cap x.st x.a vs x.xss x.c _ (hb.below hb0 (Nat.le_refl _)) hl (h1.below hb0 (Nat.le_refl _)) (h2.below hb0 (Nat.le_refl _)) h0 hbk
  have HFR := Lib.hid hfr
  have H1 := Lib.hid h1; have H2 := Lib.hid h2; have HB := Lib.hid hb
  clear hfr h1 h2 hb hc
  go_enter Tryz.func74, Tryz.ntmps74
  go_wp2_with fail
  refine HFR.out.mono ?_
  rintro e w1 ⟨rfl, hb1⟩
  have hf := hb0.trans (hb1.mono hb0.size)
  go_wp2
  go_ret
  exact ⟨rfl, hf⟩

/-- the seconds go up -/
def upTo (l : List Frm) : Nat → Bool
  | 0 => true
  | k + 1 => upTo l k && (decide (k = 0) || decide ((l.getD (k - 1) ⟨0, none, 0, []⟩).st < (l.getD k ⟨0, none, 0, []⟩).st))
def recErr (bs : List Chan) (l : List Frm) : Int :=
  if bookErr bs ≠ 0 then bookErr bs else if 64 < l.length then 3 else if l.any fun f => !frOK bs f.st f.xss then 51 else if upTo l l.length = false then 52 else 0
theorem upTo_false {l : List Frm} {k : Nat} (h : upTo l k = false) {n : Nat} (hn : k ≤ n) : upTo l n = false := by
  induction n with
  | zero => obtain rfl : k = 0 := by omega
            exact h
  | succ n ih =>
    by_cases hk : k ≤ n
    · simp [upTo, ih hk]
    · obtain rfl : k = n + 1 := by omega
      exact h

set_option maxRecDepth 100000 in
set_option maxHeartbeats 1000000 in
theorem checkRecord_any (ao : Option Addr) (bs : List Chan) (cap : Nat) (al : Option Addr) (l : List Frm) (cl : Nat) (w : World) (hb : BookIn w ao bs cap) (hr : RecIn w al l) :
    Calls Tryz.prog 28 #[.slice ao bs.length cap, .slice al l.length cl] w fun e w' => e = .returned (.int .i64 (recErr bs l)) ∧ Below w.heap.size w w' := by
  have HB := Lib.hid hb; have HR := Lib.hid hr
  have hll := hr.len
  clear hb hr
  have hb0 := (Below.refl w.heap.size w).alloc (Nat.le_refl _) (.cells #[.slice ao bs.length cap] 37)
  have hck := fun wx (h : BookIn wx ao bs cap) => checkBook_any ao bs cap wx h.cells (by have := h.len; omega) h.lecap h.cap2 h.names h.rates
  have HCK := Lib.hid hck; clear hck
  by_cases h1 : bookErr bs = 0
  · have hok := bookErr_zero h1
    by_cases h2 : 64 < l.length
    · have he : recErr bs l = 3 := by simp [recErr, h1, h2]
      have HE := Lib.hid he; have H1 := Lib.hid h1
      clear he h1 hok
      go_enter Tryz.func28, Tryz.ntmps28
      go_wp2_with fail
      refine (HCK.out _ (HB.out.below hb0 (Nat.le_refl _))).mono ?_
      rintro e w1 ⟨rfl, hb1⟩
      rw [H1.out]
      have hf := hb0.trans (hb1.mono hb0.size)
      go_wp2
      go_ret
      exact ⟨ret_int HE.out.symm, hf⟩
    · have HOK := Lib.hid hok; have H1 := Lib.hid h1
      cases h3 : l.any fun f => !frOK bs f.st f.xss
      · have he : recErr bs l = if upTo l l.length = false then 52 else 0 := by rw [recErr, if_neg (by simpa using h1), if_neg h2, h3]; rfl
        have HE := Lib.hid he; have H3 := Lib.hid h3
        clear he h1 hok h3
        go_enter Tryz.func28, Tryz.ntmps28
        go_wp2_with fail
        refine (HCK.out _ (HB.out.below hb0 (Nat.le_refl _))).mono ?_
        rintro e w1 ⟨rfl, hb1⟩
        rw [H1.out]
        have hf := hb0.trans (hb1.mono hb0.size)
        have q0 : w1.cell? ⟨w.heap.size, 0, none⟩ = some (.slice ao bs.length cap) := box_keep hb1 (by simp) 0
        have HR1 := Lib.hid (HR.out.below hf (Nat.le_refl _))
        have HB1 := Lib.hid (HB.out.below hf (Nat.le_refl _))
        clear hb1
        go_wp2_with fail
        refine (containsFunc_frms 74 #[.pointer (some ⟨w.heap.size, 0, none⟩)] (fun f => !frOK bs f.st f.xss) al l cl w1 HR1.out.cells (by omega) (fun _ _ => by kernel_rfl) (fun x wx hx hbx => checkRecord1_any ao bs cap w.heap.size x wx (cell_keep q0 hbx (Nat.le_refl _)) (HB1.out.cells.below hbx (Nat.le_refl _)) HB1.out.len ((HR1.out.rows x hx).below hbx (Nat.le_refl _)) HOK.out)).mono ?_
        rintro e w2 ⟨rfl, hb2⟩
        rw [H3.out]
        have hf2 := hf.trans (hb2.mono hf.size)
        have HR2 := Lib.hid (HR1.out.below hb2 (Nat.le_refl _))
        have hrf := Below.refl w2.heap.size w2
        have HF2 := Lib.hid hf2
        clear hb2 hf hf2 q0
        go_wp2
        go_loopw [20] (fun i wr => ∃ k : Nat, k ≤ l.length ∧ i = .int .i64 k ∧ upTo l k = true ∧ Below w2.heap.size w2 wr) (fun i _ => l.length - (intOf i).toNat)
        case atStart => exact ⟨0, Nat.zero_le _, rfl, rfl, hrf⟩
        case round =>
          clear hrf
          obtain ⟨k, hk, rfl, hup, hbr⟩ := hrel
          have HU := Lib.hid hup; clear hup
          by_cases hlt : k < l.length
          · obtain ⟨y, hy⟩ := get_of_lt hlt
            obtain ⟨bl, ol, rfl⟩ := HR2.out.cells.addr (frs_ne (by omega))
            have c1 := cell_keep (HR2.out.cells.at (frs_get hy).1) hbr (Nat.le_refl _)
            have hyd : l.getD k ⟨0, none, 0, []⟩ = y := by rw [List.getD_eq_getElem?_getD, hy]; rfl
            by_cases h0 : k = 0
            · subst h0
              have hst : upTo l (0 + 1) = true := by simp [upTo]
              have HST := Lib.hid hst
              clear hst hyd hy
              rw [show ((0 : Nat) : Int) = 0 from rfl]
              have d0 : decide ((0 : Int) < 0) = false := by decide
              go_wp2_with fail
              go_quiet (fail)
              go_wp2
              go_roundw
              case rel => exact ⟨0 + 1, by omega, by go_num, HST.out, bel_drewN hbr _⟩
              case measure => simp [intOf]; omega
            · obtain ⟨x, hx⟩ := get_of_lt (show k - 1 < l.length by omega)
              have c0 := cell_keep (HR2.out.cells.at (frs_get hx).1) hbr (Nat.le_refl _)
              have hxd : l.getD (k - 1) ⟨0, none, 0, []⟩ = x := by rw [List.getD_eq_getElem?_getD, hx]; rfl
              have hst : upTo l (k + 1) = decide (x.st < y.st) := by rw [upTo, HU.out, hxd, hyd]; simp [h0]
              have HST := Lib.hid hst
              clear hst hyd hy hx hxd
              have a1 : IntKind.i64.wrap ((k : Int) - 1) = (k : Int) - 1 := IntWalk.i64_in _ (by omega)
              have a2 : ((k : Int) - 1).toNat = k - 1 := by omega
              have a3 : (0 : Int) ≤ (k : Int) - 1 := by omega
              have a3' : (1 : Int) ≤ (k : Int) := by omega
              have a4 : (k : Int) - 1 < (l.length : Int) := by omega
              have a5 : (0 : Int) < k := by omega
              have d5 : decide (0 < k) = true := by simp; omega
              have a6 : (k : Int) < (l.length : Int) := by omega
              have a7 : (0 : Int) ≤ (k : Int) := by omega
              generalize x.st = xs at *
              generalize y.st = ys at *
              by_cases hxy : xs < ys
              · have d1 : decide (ys ≤ xs) = false := by simp; omega
                go_wp2_with fail
                go_quiet (fail)
                go_wp2
                go_roundw
                case rel => exact ⟨k + 1, by omega, by go_num, by rw [HST.out]; simpa using hxy, bel_drewN hbr _⟩
                case measure => simp [intOf]; omega
              · have d1 : decide (ys ≤ xs) = true := by simp; omega
                have hfl : upTo l l.length = false := upTo_false (k := k + 1) (by rw [HST.out]; simpa using hxy) (by omega)
                have HFL := Lib.hid hfl
                clear hfl
                go_wp2_with fail
                go_quiet (fail)
                go_wp2
                go_ret
                exact ⟨ret_int (by rw [HE.out, HFL.out]; rfl), HF2.out.trans ((bel_drewN hbr _).mono HF2.out.size)⟩
          · obtain rfl : k = l.length := by omega
            go_wp2
            go_ret
            exact ⟨ret_int (by rw [HE.out, HU.out]; rfl), HF2.out.trans (hbr.mono HF2.out.size)⟩
      · have he : recErr bs l = 51 := by rw [recErr, if_neg (by simpa using h1), if_neg h2, h3]; rfl
        have HE := Lib.hid he; have H3 := Lib.hid h3
        clear he h1 hok h3
        go_enter Tryz.func28, Tryz.ntmps28
        go_wp2_with fail
        refine (HCK.out _ (HB.out.below hb0 (Nat.le_refl _))).mono ?_
        rintro e w1 ⟨rfl, hb1⟩
        rw [H1.out]
        have hf := hb0.trans (hb1.mono hb0.size)
        have q0 : w1.cell? ⟨w.heap.size, 0, none⟩ = some (.slice ao bs.length cap) := box_keep hb1 (by simp) 0
        have HR1 := Lib.hid (HR.out.below hf (Nat.le_refl _))
        have HB1 := Lib.hid (HB.out.below hf (Nat.le_refl _))
        clear hb1
        go_wp2_with fail
        refine (containsFunc_frms 74 #[.pointer (some ⟨w.heap.size, 0, none⟩)] (fun f => !frOK bs f.st f.xss) al l cl w1 HR1.out.cells (by omega) (fun _ _ => by kernel_rfl) (fun x wx hx hbx => checkRecord1_any ao bs cap w.heap.size x wx (cell_keep q0 hbx (Nat.le_refl _)) (HB1.out.cells.below hbx (Nat.le_refl _)) HB1.out.len ((HR1.out.rows x hx).below hbx (Nat.le_refl _)) HOK.out)).mono ?_
        rintro e w2 ⟨rfl, hb2⟩
        rw [H3.out]
        have hf2 := hf.trans (hb2.mono hf.size)
        clear hb2 hf q0
        go_wp2
        go_ret
        exact ⟨ret_int HE.out.symm, hf2⟩
  · have he : recErr bs l = bookErr bs := by simp [recErr, h1]
    have h3 : (bookErr bs != 0) = true := by simpa using h1
    have h4 : (bookErr bs == 0) = false := by simpa using h1
    have HE := Lib.hid he; clear he
    go_enter Tryz.func28, Tryz.ntmps28
    go_wp2_with fail
    refine (HCK.out _ (HB.out.below hb0 (Nat.le_refl _))).mono ?_
    rintro e w1 ⟨rfl, hb1⟩
    have hf := hb0.trans (hb1.mono hb0.size)
    go_wp2
    go_ret
    exact ⟨ret_int HE.out.symm, hf⟩
end Go.Proofs.YtoochleabcjljaaGreatDoor

/- Records: between, Gaps. -/
namespace Go.Proofs.YtoochleabcjljaaGreatDoor
open Go.RowKit

def btwErr (bs : List Chan) (l : List Frm) (fr tt : Int) : Int := if recErr bs l ≠ 0 then recErr bs l else if fr < 0 ∨ tt < fr ∨ 1073741824 < tt then 8 else 0

set_option maxRecDepth 100000 in
theorem between_any (ao : Option Addr) (bs : List Chan) (cap : Nat) (al : Option Addr) (l : List Frm) (cl : Nat) (fr tt : Int) (w : World) (hb : BookIn w ao bs cap) (hr : RecIn w al l) :
    Calls Tryz.prog 77 #[.slice ao bs.length cap, .slice al l.length cl, .int .i64 fr, .int .i64 tt] w fun e w' => e = .returned (.int .i64 (btwErr bs l fr tt)) ∧ Below w.heap.size w w' := by
  have hck := checkRecord_any ao bs cap al l cl w hb hr
  have HCK := Lib.hid hck
  clear hck hb hr
  by_cases h1 : recErr bs l = 0
  · have H1 := Lib.hid h1
    have he : btwErr bs l fr tt = if fr < 0 ∨ tt < fr ∨ 1073741824 < tt then 8 else 0 := by rw [btwErr, if_neg (by simpa using h1)]
    have HE := Lib.hid he
    clear h1 he
    by_cases h2 : fr < 0
    · go_enter Tryz.func77, Tryz.ntmps77
      go_wp2_with fail
      refine HCK.out.mono ?_
      rintro e w1 ⟨rfl, hb1⟩
      rw [H1.out]
      go_wp2
      go_ret
      exact ⟨ret_int (by rw [HE.out, if_pos (.inl h2)]), hb1⟩
    · by_cases h3 : tt < fr
      · go_enter Tryz.func77, Tryz.ntmps77
        go_wp2_with fail
        refine HCK.out.mono ?_
        rintro e w1 ⟨rfl, hb1⟩
        rw [H1.out]
        go_wp2
        go_ret
        exact ⟨ret_int (by rw [HE.out, if_pos (.inr (.inl h3))]), hb1⟩
      · by_cases h4 : 1073741824 < tt
        · go_enter Tryz.func77, Tryz.ntmps77
          go_wp2_with fail
          refine HCK.out.mono ?_
          rintro e w1 ⟨rfl, hb1⟩
          rw [H1.out]
          go_wp2
          go_ret
          exact ⟨ret_int (by rw [HE.out, if_pos (.inr (.inr h4))]), hb1⟩
        · go_enter Tryz.func77, Tryz.ntmps77
          go_wp2_with fail
          refine HCK.out.mono ?_
          rintro e w1 ⟨rfl, hb1⟩
          rw [H1.out]
          go_wp2
          go_ret
          exact ⟨ret_int (by rw [HE.out, if_neg (by omega)]), hb1⟩
  · have he : btwErr bs l fr tt = recErr bs l := by simp [btwErr, h1]
    have h3 : (recErr bs l != 0) = true := by simpa using h1
    have h4 : (recErr bs l == 0) = false := by simpa using h1
    have HE := Lib.hid he; clear he
    go_enter Tryz.func77, Tryz.ntmps77
    go_wp2_with fail
    refine HCK.out.mono ?_
    rintro e w1 ⟨rfl, hb1⟩
    go_wp2
    go_ret
    exact ⟨ret_int HE.out.symm, hb1⟩

/-- one more span, if it is not empty -/
def addS (at_ : Int) (ss : List (Int × Int)) (e : Int) : List (Int × Int) := if at_ < e then ss ++ [(at_, e)] else ss
/-- the gaps till now: where the next one begins, and those that are done -/
structure GapS (base bA bO : Nat) (at_ : Int) (ss : List (Int × Int)) (v : Value) (w : World) : Prop where
  a : Blk w bA 3 #[.int .i64 at_]
  o : Blk w bO 54 #[v]
  own : w.ownsRow base 71 2 v ss.length (prs ss)

theorem Tryz.infoSpan : (Tryz.prog.info? 71).map (fun i => (i.zero, i.size, i.bytes)) = some (some (.agg #[.int .i64 0, .int .i64 0]), 2, 16) := by kernel_rfl
theorem blk_own_ne {w : World} {b base : Nat} {T e : TypeId} {cs : Array Value} {s n : Nat} {v : Value} {xs : List Value} (h : Blk w b T cs) (ho : w.ownsRow base e s v n xs) (hT : T ≠ e) : v.ownBlock ≠ some b := by
  intro hv
  rcases ho.2 with ⟨rfl, _⟩ | ⟨g, cap, cur, rfl, _, hg, _⟩
  · simp [Value.ownBlock] at hv
  · simp [Value.ownBlock] at hv
    subst hv
    rw [show w.heap[g]? = _ from h] at hg
    simp at hg
    exact hT hg.2

set_option maxRecDepth 100000 in
theorem gaps1_any (base bA bO : Nat) (hA : base ≤ bA) (hO : base ≤ bO) (hne : bA ≠ bO) (at_ e_ : Int) (ss : List (Int × Int)) (v : Value) (w : World) (h : GapS base bA bO at_ ss v w) (hl : ss.length ≤ 1000) :
    Calls Tryz.prog 78 #[.int .i64 e_, .pointer (some ⟨bA, 0, none⟩), .pointer (some ⟨bO, 0, none⟩)] w fun e w' => e = .returned (.tuple #[]) ∧ (∃ v', GapS base bA bO at_ (addS at_ ss e_) v' w') ∧ Below base w w' ∧ ∀ j, j < w.heap.size → j ≠ bO → v.ownBlock ≠ some j → w'.heap[j]? = w.heap[j]? := by
  have c1 := h.a.c0
  have c2 := h.o.c0
  have f2 := h.o.free 0
  have HG := Lib.hid h
  clear h
  by_cases hlt : at_ < e_
  · have hs : addS at_ ss e_ = ss ++ [(at_, e_)] := by rw [addS, if_pos hlt]
    have HS := Lib.hid hs; clear hs
    obtain ⟨i0, hi, hz0, hz1, hz2⟩ := info_parts Tryz.infoSpan
    have hsz : base ≤ w.heap.size := by have := HG.out.a.lt; omega
    have HOW := Lib.hid HG.out.own
    go_enter Tryz.func78, Tryz.ntmps78
    go_wp2_with (at_builtin; refine wpList_append_lies _ rfl _ _ _ rfl base 71 i0 (.agg #[.int .i64 0, .int .i64 0]) 2 16 Tryz.underlying54 hi hz0 hz1 hz2 rfl (by decide) v ss.length (prs ss) rfl (HOW.out.alloc _) ⟨w.heap.size, 0, none⟩ 1 1 [.int .i64 at_, .int .i64 e_] rfl rfl (World.news_of_block (cs := #[.int .i64 at_, .int .i64 e_]) (t := 71) (fr := (0, 0)) (heap_alloc_new w _)) (by simp [Value.oneCell']) (by omega) (by unfold maxLen; omega) (by omega) (by simp; omega) (w.heap.size + 1) (by simp) ?_)
    intro gg cp wz hown1 hgrow hat hlt1
    have k1 := (HG.out.a.alloc (.cells #[.int .i64 at_, .int .i64 e_] 71)).kept hgrow (fun e => blk_own_ne HG.out.a HG.out.own (by decide) e.symm)
    have k2 := (HG.out.o.alloc (.cells #[.int .i64 at_, .int .i64 e_] 71)).kept hgrow (fun e => blk_own_ne HG.out.o HG.out.own (by decide) e.symm)
    have z2 := k2.c0
    have g2 := k2.free 0
    have t2 := blk_own_ne k2 hown1 (by decide)
    have hfin : GapS base bA bO at_ (addS at_ ss e_) (.slice (some ⟨gg, 0, none⟩) (ss.length + 1) cp) (wz.setCell ⟨bO, 0, none⟩ (.slice (some ⟨gg, 0, none⟩) (ss.length + 1) cp)) := by
      refine ⟨k1.other hne _ _, k2.set0 _, ?_⟩
      rw [HS.out, List.length_append, prs_append]
      exact own_set_other hown1 t2
    have hbz := (((Below.refl base w).alloc hsz (.cells #[.int .i64 at_, .int .i64 e_] 71)).grown hgrow (by simp; omega) (fun j e => (HOW.out.lt j e).1)).setCell (p := ⟨bO, 0, none⟩) hO (.slice (some ⟨gg, 0, none⟩) (ss.length + 1) cp)
    have hkeep : ∀ j, j < w.heap.size → j ≠ bO → v.ownBlock ≠ some j → (wz.setCell ⟨bO, 0, none⟩ (.slice (some ⟨gg, 0, none⟩) (ss.length + 1) cp)).heap[j]? = w.heap[j]? := fun j hj hjo hjv => by
      rw [Below.heap_setCell _ _ _ _ hjo, hgrow.block j (by simp; omega) (fun e => hjv e.symm), Below.heap_alloc _ _ _ hj]
    have HF := Lib.hid hfin; have HKP := Lib.hid hkeep
    clear hown1 hgrow hat hlt1 k1 k2 t2 hfin hkeep
    go_wp2
    go_end0
    exact ⟨rfl, ⟨_, HF.out⟩, hbz, HKP.out⟩
  · have hs : addS at_ ss e_ = ss := by rw [addS, if_neg hlt]
    have HS := Lib.hid hs; clear hs
    go_enter Tryz.func78, Tryz.ntmps78
    go_wp2
    go_end0
    exact ⟨rfl, ⟨v, by rw [HS.out]; exact HG.out⟩, Below.refl _ _, fun _ _ _ _ => rfl⟩
end Go.Proofs.YtoochleabcjljaaGreatDoor

/- Records: Gaps. -/
namespace Go.Proofs.YtoochleabcjljaaGreatDoor
open Go.RowKit

def gapStep (fr tt : Int) (s : Int × List (Int × Int)) (f : Frm) : Int × List (Int × Int) := if fr ≤ f.st ∧ f.st < tt then (f.st + 1, addS s.1 s.2 f.st) else s
def gapsTo (fr tt : Int) (l : List Frm) : Int × List (Int × Int) := l.foldl (gapStep fr tt) (fr, [])
def gapsOf (fr tt : Int) (l : List Frm) : List (Int × Int) := addS (gapsTo fr tt l).1 (gapsTo fr tt l).2 tt
def gapsRes (bs : List Chan) (l : List Frm) (fr tt : Int) : List (Int × Int) := if btwErr bs l fr tt = 0 then gapsOf fr tt l else []
theorem gapsTo_snoc (fr tt : Int) (l : List Frm) (f : Frm) : gapsTo fr tt (l ++ [f]) = gapStep fr tt (gapsTo fr tt l) f := by simp [gapsTo]
theorem addS_length (a : Int) (ss : List (Int × Int)) (e : Int) : (addS a ss e).length ≤ ss.length + 1 := by unfold addS; split <;> simp
theorem gapsTo_length (fr tt : Int) (l : List Frm) : (gapsTo fr tt l).2.length ≤ l.length := by
  suffices ∀ n (l : List Frm), l.length = n → (gapsTo fr tt l).2.length ≤ n by exact this _ l rfl
  intro n
  induction n with
  | zero => intro l hl; rw [List.length_eq_zero_iff.1 hl]; simp [gapsTo]
  | succ n ih =>
    intro l hl
    obtain ⟨l', f, rfl⟩ : ∃ l' f, l = l' ++ [f] := by
      rcases List.eq_nil_or_concat l with rfl | ⟨l', b, rfl⟩
      · simp at hl
      · exact ⟨l', b, by simp⟩
    simp at hl
    have h := ih l' hl
    rw [gapsTo_snoc, gapStep]
    split
    · have := addS_length (gapsTo fr tt l').1 (gapsTo fr tt l').2 f.st
      simp only; omega
    · omega

theorem recErr_zero {bs : List Chan} {l : List Frm} (h : recErr bs l = 0) : bookErr bs = 0 ∧ l.length ≤ 64 ∧ (∀ f ∈ l, frOK bs f.st f.xss = true) ∧ upTo l l.length = true := by
  unfold recErr at h
  split at h
  · contradiction
  · rename_i h1
    split at h
    · contradiction
    · rename_i h2
      split at h
      · contradiction
      · rename_i h3
        split at h
        · contradiction
        · rename_i h4
          refine ⟨by simpa using h1, by omega, fun f hf => ?_, by simpa using h4⟩
          have h3 := (Bool.not_eq_true _).mp h3
          have := List.any_eq_false.1 h3 f hf
          simpa using this
theorem btwErr_zero {bs : List Chan} {l : List Frm} {fr tt : Int} (h : btwErr bs l fr tt = 0) : recErr bs l = 0 ∧ 0 ≤ fr ∧ fr ≤ tt ∧ tt ≤ 1073741824 := by
  unfold btwErr at h
  split at h
  · contradiction
  · rename_i h1
    split at h
    · contradiction
    · exact ⟨by simpa using h1, by omega, by omega, by omega⟩

set_option maxRecDepth 100000 in
set_option maxHeartbeats 1000000 in
theorem gaps_any (ao : Option Addr) (bs : List Chan) (cap : Nat) (al : Option Addr) (l : List Frm) (cl : Nat) (fr tt : Int) (w : World) (hb : BookIn w ao bs cap) (hr : RecIn w al l) :
    Calls Tryz.prog 34 #[.slice ao bs.length cap, .slice al l.length cl, .int .i64 fr, .int .i64 tt] w fun e w' => (∃ a c, e = .returned (.tuple #[.slice a (gapsRes bs l fr tt).length c, .int .i64 (btwErr bs l fr tt)]) ∧ Cells w' a (prs (gapsRes bs l fr tt))) ∧ Below w.heap.size w w' := by
  have hck := between_any ao bs cap al l cl fr tt w hb hr
  have HCK := Lib.hid hck; have HR := Lib.hid hr
  clear hck hb hr
  by_cases h1 : btwErr bs l fr tt = 0
  · have he : gapsRes bs l fr tt = gapsOf fr tt l := by rw [gapsRes, if_pos h1]
    obtain ⟨z0, z1, z2, z3⟩ := btwErr_zero h1
    obtain ⟨_, z4, _, _⟩ := recErr_zero z0
    have HE := Lib.hid he; have H1 := Lib.hid h1
    clear he h1 z0
    go_enter Tryz.func34, Tryz.ntmps34
    go_wp2_with fail
    refine HCK.out.mono ?_
    rintro e w1 ⟨rfl, hb1⟩
    rw [H1.out]
    have hg0 : GapS w1.heap.size (w1.heap.size + 1) w1.heap.size fr [] (.slice none 0 0) ((w1.alloc (.cells #[.slice none 0 0] 54)).alloc (.cells #[.int .i64 fr] 3)) := by
      refine ⟨?_, (Blk.new w1 54 #[.slice none 0 0]).alloc _, World.ownsRow_nil _ _ _ _⟩
      have := Blk.new (w1.alloc (.cells #[.slice none 0 0] 54)) 3 #[.int .i64 fr]
      rwa [World.size_alloc] at this
    have hbw := (((Below.refl w1.heap.size w1).alloc (Nat.le_refl _) (.cells #[.slice none 0 0] 54)).alloc (by simp) (.cells #[.int .i64 fr] 3))
    have HG0 := Lib.hid hg0
    have HR1 := Lib.hid (HR.out.below hb1 (Nat.le_refl _))
    clear hg0
    go_wp2
    go_loopw [28] (fun i wr => ∃ k : Nat, k ≤ l.length ∧ i = .int .i64 k ∧ (∃ v, GapS w1.heap.size (w1.heap.size + 1) w1.heap.size (gapsTo fr tt (l.take k)).1 (gapsTo fr tt (l.take k)).2 v wr) ∧ Below w1.heap.size w1 wr) (fun i _ => l.length - (intOf i).toNat)
    case atStart => exact ⟨0, Nat.zero_le _, rfl, ⟨_, HG0.out⟩, hbw⟩
    case round =>
      clear hbw HG0
      obtain ⟨k, hk, rfl, ⟨v, hg⟩, hbr⟩ := hrel
      have HG := Lib.hid hg; clear hg
      have hgl := gapsTo_length fr tt (l.take k)
      rw [List.length_take, Nat.min_eq_left hk] at hgl
      by_cases hlt : k < l.length
      · obtain ⟨x, hx⟩ := get_of_lt hlt
        obtain ⟨bl, ol, rfl⟩ := HR1.out.cells.addr (frs_ne (by omega))
        have c0 := cell_keep (HR1.out.cells.at (frs_get hx).1) hbr (Nat.le_refl _)
        have c1 := cell_keep (HR1.out.cells.at (frs_get hx).2) hbr (Nat.le_refl _)
        rw [← Nat.add_assoc] at c1
        have hst : gapsTo fr tt (l.take (k + 1)) = gapStep fr tt (gapsTo fr tt (l.take k)) x := by rw [take_get hx, gapsTo_snoc]
        have HST := Lib.hid hst
        have hz := hbr.size
        clear hst hx
        by_cases hin : fr ≤ x.st ∧ x.st < tt
        · obtain ⟨hi1, hi2⟩ := hin
          have hgs : gapStep fr tt (gapsTo fr tt (l.take k)) x = (x.st + 1, addS (gapsTo fr tt (l.take k)).1 (gapsTo fr tt (l.take k)).2 x.st) := by rw [gapStep, if_pos ⟨hi1, hi2⟩]
          have HGS := Lib.hid hgs
          clear hgs
          have hb0 := (Below.refl wr.heap.size wr).alloc (Nat.le_refl _) (.cells #[.int .i64 x.st, .slice x.a x.xss.length x.c] 43)
          have hga : GapS w1.heap.size (w1.heap.size + 1) w1.heap.size (gapsTo fr tt (l.take k)).1 (gapsTo fr tt (l.take k)).2 v (wr.alloc (.cells #[.int .i64 x.st, .slice x.a x.xss.length x.c] 43)) := ⟨HG.out.a.alloc _, HG.out.o.alloc _, HG.out.own.alloc _⟩
          have hba := hbr.alloc hz (.cells #[.int .i64 x.st, .slice x.a x.xss.length x.c] 43)
          have hxb := Blk.new wr 43 #[.int .i64 x.st, .slice x.a x.xss.length x.c]
          have HXB := Lib.hid hxb
          have HGA := Lib.hid hga
          have hgA := HG.out.a.lt
          clear hga hxb hb0
          go_wp2_with fail
          refine (gaps1_any w1.heap.size (w1.heap.size + 1) w1.heap.size (by omega) (by omega) (by omega) (gapsTo fr tt (l.take k)).1 x.st (gapsTo fr tt (l.take k)).2 v _ HGA.out (by omega)).mono ?_
          rintro e w2 ⟨rfl, ⟨v', hg2⟩, hb2, hkp⟩
          have hx2 : Blk w2 wr.heap.size 43 #[.int .i64 x.st, .slice x.a x.xss.length x.c] :=
            (hkp wr.heap.size (by simp) (by omega) (fun e => by have := (HG.out.own.lt _ e).2; omega)).trans HXB.out
          have r0 := hx2.c0
          have hq : GapS w1.heap.size (w1.heap.size + 1) w1.heap.size (gapsTo fr tt (l.take (k + 1))).1 (gapsTo fr tt (l.take (k + 1))).2 v' (w2.setCell ⟨w1.heap.size + 1, 0, none⟩ (.int .i64 (x.st + 1))) := by
            rw [HST.out, HGS.out]
            exact ⟨hg2.a.set0 _, hg2.o.other (by omega) _ _, own_set_other hg2.own (blk_own_ne hg2.a hg2.own (by decide))⟩
          have hbq := (hba.trans hb2).setCell (p := ⟨w1.heap.size + 1, 0, none⟩) (by simp) (.int .i64 (x.st + 1))
          have s0 := hg2.a.c0
          have s1 := hg2.a.free 0
          have HQ := Lib.hid hq
          clear hq hg2 hx2 hkp hb2 hba
          go_wp2
          go_roundw
          case rel => exact ⟨k + 1, by omega, by go_num, ⟨v', HQ.out⟩, hbq⟩
          case measure => simp [intOf]; omega
        · have hgs : gapStep fr tt (gapsTo fr tt (l.take k)) x = gapsTo fr tt (l.take k) := by rw [gapStep, if_neg hin]
          have hga : GapS w1.heap.size (w1.heap.size + 1) w1.heap.size (gapsTo fr tt (l.take (k + 1))).1 (gapsTo fr tt (l.take (k + 1))).2 v (wr.alloc (.cells #[.int .i64 x.st, .slice x.a x.xss.length x.c] 43)) := by
            rw [HST.out, hgs]; exact ⟨HG.out.a.alloc _, HG.out.o.alloc _, HG.out.own.alloc _⟩
          have hba := hbr.alloc hz (.cells #[.int .i64 x.st, .slice x.a x.xss.length x.c] 43)
          have HGA := Lib.hid hga
          clear hga hgs
          have hjj : x.st < fr ∨ (fr ≤ x.st ∧ tt ≤ x.st) := by omega
          clear hin
          rcases hjj with h | ⟨h, h'⟩
          all_goals
            go_wp2
            go_roundw
            case rel => exact ⟨k + 1, by omega, by go_num, ⟨v, HGA.out⟩, hba⟩
            case measure => simp [intOf]; omega
      · obtain rfl : k = l.length := by omega
        rw [List.take_length] at HG hgl
        go_wp2_with fail
        refine (gaps1_any w1.heap.size (w1.heap.size + 1) w1.heap.size (by omega) (by omega) (by omega) (gapsTo fr tt l).1 tt (gapsTo fr tt l).2 v _ HG.out (by omega)).mono ?_
        rintro e w2 ⟨rfl, ⟨v', hg2⟩, hb2, _⟩
        have hbq := hb1.trans ((hbr.trans hb2).mono hb1.size)
        have r0 := hg2.o.c0
        obtain ⟨a, c, rfl, hcs⟩ := own_cells hg2.own
        have HCS := Lib.hid hcs
        clear hg2 hb2 hbr hcs
        go_wp2
        go_ret2
        exact ⟨⟨a, c, by rw [HE.out, H1.out]; rfl, by rw [HE.out]; exact HCS.out⟩, hbq⟩
  · have he : gapsRes bs l fr tt = [] := by rw [gapsRes, if_neg h1]
    have h3 : (btwErr bs l fr tt != 0) = true := by simpa using h1
    have h4 : (btwErr bs l fr tt == 0) = false := by simpa using h1
    have HE := Lib.hid he; clear he
    go_enter Tryz.func34, Tryz.ntmps34
    go_wp2_with fail
    refine HCK.out.mono ?_
    rintro e w1 ⟨rfl, hb1⟩
    go_wp2
    go_ret2
    exact ⟨⟨none, 0, by rw [HE.out]; rfl, by rw [HE.out]; exact Cells.nil _ _⟩, hb1⟩
end Go.Proofs.YtoochleabcjljaaGreatDoor

/- Codes: Unpack and Salvage, in plain words. -/
namespace Go.Proofs.YtoochleabcjljaaGreatDoor
open Go.RowKit

abbrev Fr := Int × List (List Int)
def encF (f : Fr) : List Nat := encB f.1 f.2
/-- the start of the last frame -/
def lastR (out : List Fr) : Int := match out.getLast? with | some f => f.1 | none => -1
theorem lastR_snoc (out : List Fr) (x : Fr) : lastR (out ++ [x]) = x.1 := by simp [lastR]
theorem lastR_nil : lastR [] = -1 := rfl
def unpackR (bs : List Chan) : Nat → List Nat → List Fr → Option (List Fr)
  | _, [], out => some out
  | 0, _ :: _, _ => none
  | f + 1, b :: l, out => match firstR bs (b :: l) with
    | none => none
    | some (x, n) => if out.length = 64 ∨ x.1 ≤ lastR out then none else unpackR bs f ((b :: l).drop n) (out ++ [x])
theorem unpackR_nil (bs : List Chan) (f : Nat) (out : List Fr) : unpackR bs f [] out = some out := by cases f <;> rfl
theorem unpackR_none {bs : List Chan} {f : Nat} {l : List Nat} {out : List Fr} (h0 : 0 < l.length) (h : firstR bs l = none) : unpackR bs f l out = none := by
  match f, l, h0 with
  | 0, b :: l, _ => rfl
  | f + 1, b :: l, _ => rw [unpackR, h]
theorem unpackR_bad {bs : List Chan} {f : Nat} {l : List Nat} {out : List Fr} {x : Fr} {n : Nat} (h0 : 0 < l.length) (h : firstR bs l = some (x, n)) (h2 : out.length = 64 ∨ x.1 ≤ lastR out) : unpackR bs f l out = none := by
  match f, l, h0 with
  | 0, b :: l, _ => rfl
  | f + 1, b :: l, _ => rw [unpackR, h]; simp only; rw [if_pos h2]
theorem unpackR_step {bs : List Chan} {f : Nat} {l : List Nat} {out : List Fr} {x : Fr} {n : Nat} (h0 : 0 < l.length) (h : firstR bs l = some (x, n)) (h2 : ¬ (out.length = 64 ∨ x.1 ≤ lastR out)) : unpackR bs (f + 1) l out = unpackR bs f (l.drop n) (out ++ [x]) := by
  match l, h0 with
  | b :: l, _ => rw [unpackR, h]; simp only; rw [if_neg h2]

/-- the seconds go up, from behind one on -/
def IncR : Int → List Fr → Prop
  | _, [] => True
  | a, f :: l => a < f.1 ∧ IncR f.1 l
theorem encF_pos (f : Fr) : 0 < (encF f).length := by unfold encF encB hdB; simp
theorem unpackR_enc {bs : List Chan} (hb : bookOK bs = true) : ∀ (l : List Fr) (f : Nat) (out : List Fr), (∀ x ∈ l, frOK bs x.1 x.2 = true) → IncR (lastR out) l → out.length + l.length ≤ 64 → l.length ≤ f → unpackR bs f (l.flatMap encF) out = some (out ++ l) := by
  intro l
  induction l with
  | nil => intro f out _ _ _ _; rw [List.flatMap_nil, unpackR_nil, List.append_nil]
  | cons x l ih =>
    intro f out h1 h2 h3 h4
    obtain ⟨f, rfl⟩ : ∃ g, f = g + 1 := ⟨f - 1, by simp at h4; omega⟩
    have hf := firstR_enc hb (h1 x (by simp)) (l.flatMap encF)
    have he : encB x.1 x.2 = encF x := rfl
    rw [he] at hf
    have hp := encF_pos x
    simp only [List.length_cons] at h3 h4
    rw [List.flatMap_cons, unpackR_step (by rw [List.length_append]; omega) hf (by have := h2.1; simp only; omega), List.drop_append_of_le_length (Nat.le_refl _), List.drop_eq_nil_of_le (Nat.le_refl _), List.nil_append]
    rw [ih f (out ++ [(x.1, x.2)]) (fun y hy => h1 y (by simp [hy])) (by rw [lastR_snoc]; exact h2.2) (by rw [List.length_append]; simp; omega) (by omega)]
    simp

def joinS (ss : List (Int × Int)) (i : Nat) : List (Int × Int) := match ss.getLast? with
  | some p => if p.2 = (i : Int) then ss.dropLast ++ [(p.1, (i : Int) + 1)] else ss ++ [((i : Int), (i : Int) + 1)]
  | none => ss ++ [((i : Int), (i : Int) + 1)]
/-- one more place: what is found so far and where it ends; is the place lost? -/
def salP (bs : List Chan) (l : List Nat) (s : List Fr × Nat) (i : Nat) : (List Fr × Nat) × Bool :=
  if i < s.2 then (s, false) else if s.1.length < 64 then
    match firstR bs (l.drop i) with
    | some (x, n) => if lastR s.1 < x.1 then ((s.1 ++ [x], i + n), false) else (s, true)
    | none => (s, true)
  else (s, true)
def salTo (bs : List Chan) (l : List Nat) : Nat → List Fr × Nat
  | 0 => ([], 0)
  | i + 1 => (salP bs l (salTo bs l i) i).1
def lostTo (bs : List Chan) (l : List Nat) : Nat → List (Int × Int)
  | 0 => []
  | i + 1 => if (salP bs l (salTo bs l i) i).2 then joinS (lostTo bs l i) i else lostTo bs l i
theorem salP_in {bs : List Chan} {l : List Nat} {s : List Fr × Nat} {i : Nat} (h : i < s.2) : salP bs l s i = (s, false) := by rw [salP, if_pos h]
theorem salP_full {bs : List Chan} {l : List Nat} {s : List Fr × Nat} {i : Nat} (h : ¬ i < s.2) (h2 : ¬ s.1.length < 64) : salP bs l s i = (s, true) := by rw [salP, if_neg h, if_neg h2]
theorem salP_none {bs : List Chan} {l : List Nat} {s : List Fr × Nat} {i : Nat} (h : ¬ i < s.2) (h2 : s.1.length < 64) (h3 : firstR bs (l.drop i) = none) : salP bs l s i = (s, true) := by rw [salP, if_neg h, if_pos h2, h3]
theorem salP_old {bs : List Chan} {l : List Nat} {s : List Fr × Nat} {i : Nat} {x : Fr} {n : Nat} (h : ¬ i < s.2) (h2 : s.1.length < 64) (h3 : firstR bs (l.drop i) = some (x, n)) (h4 : ¬ lastR s.1 < x.1) : salP bs l s i = (s, true) := by
  rw [salP, if_neg h, if_pos h2, h3]; simp only; rw [if_neg h4]
theorem salP_new {bs : List Chan} {l : List Nat} {s : List Fr × Nat} {i : Nat} {x : Fr} {n : Nat} (h : ¬ i < s.2) (h2 : s.1.length < 64) (h3 : firstR bs (l.drop i) = some (x, n)) (h4 : lastR s.1 < x.1) : salP bs l s i = ((s.1 ++ [x], i + n), false) := by
  rw [salP, if_neg h, if_pos h2, h3]; simp only; rw [if_pos h4]
theorem salP_bd (bs : List Chan) (l : List Nat) (s : List Fr × Nat) (i : Nat) (hs : s.2 ≤ l.length) (hi : i ≤ l.length) (h64 : s.1.length ≤ 64) : (salP bs l s i).1.2 ≤ l.length ∧ (salP bs l s i).1.1.length ≤ 64 := by
  unfold salP
  split
  · exact ⟨hs, h64⟩
  · split
    · rename_i h1 h2
      split
      · rename_i x n hx
        split
        · obtain ⟨-, -, h3, -⟩ := firstR_sound (st := x.1) (xss := x.2) hx
          rw [List.length_drop] at h3
          exact ⟨by simp only; omega, by simp only [List.length_append, List.length_singleton]; omega⟩
        · exact ⟨hs, h64⟩
      · exact ⟨hs, h64⟩
    · exact ⟨hs, h64⟩
theorem salTo_bd (bs : List Chan) (l : List Nat) (i : Nat) (hi : i ≤ l.length) : (salTo bs l i).2 ≤ l.length ∧ (salTo bs l i).1.length ≤ 64 := by
  induction i with
  | zero => exact ⟨Nat.zero_le _, by simp [salTo]⟩
  | succ i ih =>
    obtain ⟨h1, h2⟩ := ih (by omega)
    exact salP_bd bs l _ i h1 (by omega) h2
theorem joinS_length (ss : List (Int × Int)) (i : Nat) : (joinS ss i).length ≤ ss.length + 1 := by
  unfold joinS
  split
  · split
    · rw [List.length_append, List.length_dropLast]; simp <;> omega
    · simp
  · simp
theorem lostTo_length (bs : List Chan) (l : List Nat) (i : Nat) : (lostTo bs l i).length ≤ i := by
  induction i with
  | zero => simp [lostTo]
  | succ i ih =>
    rw [lostTo]
    split
    · have := joinS_length (lostTo bs l i) i; omega
    · omega

theorem sal_enc {bs : List Chan} (hb : bookOK bs = true) (l : List Fr) (h1 : ∀ x ∈ l, frOK bs x.1 x.2 = true) (hlen : l.length ≤ 64) :
    ∀ (j : Nat) (pre post : List Fr), l = pre ++ post → pre.length = j → (∀ (a b : List Fr) (x : Fr), l = a ++ x :: b → lastR a < x.1) →
      salTo bs (l.flatMap encF) (pre.flatMap encF).length = (pre, (pre.flatMap encF).length) ∧ lostTo bs (l.flatMap encF) (pre.flatMap encF).length = [] := by
  intro j
  induction j with
  | zero => intro pre post _ hp _; rw [List.length_eq_zero_iff.1 hp]; exact ⟨rfl, rfl⟩
  | succ j ih =>
    intro pre post hl hp hinc
    obtain ⟨pre, x, rfl⟩ : ∃ p x, pre = p ++ [x] := by
      rcases List.eq_nil_or_concat pre with rfl | ⟨l', b, rfl⟩
      · simp at hp
      · exact ⟨l', b, by simp⟩
    simp at hp
    have hl2 : l = pre ++ x :: post := by rw [hl]; simp
    obtain ⟨i1, i2⟩ := ih pre (x :: post) hl2 hp hinc
    have hlt := hinc pre post x hl2
    have hfm : l.flatMap encF = pre.flatMap encF ++ (encF x ++ post.flatMap encF) := by rw [hl2]; simp
    have hf := firstR_enc hb (h1 x (by rw [hl2]; simp)) (post.flatMap encF)
    have he : encB x.1 x.2 = encF x := rfl
    rw [he] at hf
    have hpl : pre.length < 64 := by rw [hl2] at hlen; simp at hlen; omega
    have hdr : (l.flatMap encF).drop (pre.flatMap encF).length = encF x ++ post.flatMap encF := by
      rw [hfm, List.drop_append_of_le_length (Nat.le_refl _), List.drop_eq_nil_of_le (Nat.le_refl _), List.nil_append]
    have hs := salP_new (bs := bs) (l := l.flatMap encF) (s := (pre, (pre.flatMap encF).length)) (i := (pre.flatMap encF).length) (x := (x.1, x.2)) (n := (encF x).length) (Nat.lt_irrefl _) hpl (by rw [hdr]; exact hf) hlt
    have hpos := encF_pos x
    have hl3 : ((pre ++ [x]).flatMap encF).length = (pre.flatMap encF).length + (encF x).length := by simp
    have key : ∀ t, t < (encF x).length → salTo bs (l.flatMap encF) ((pre.flatMap encF).length + 1 + t) = (pre ++ [x], (pre.flatMap encF).length + (encF x).length) ∧ lostTo bs (l.flatMap encF) ((pre.flatMap encF).length + 1 + t) = [] := by
      intro t
      induction t with
      | zero =>
        intro _
        rw [Nat.add_zero, salTo, lostTo, i1, hs]
        exact ⟨rfl, by simpa using i2⟩
      | succ t iht =>
        intro ht
        obtain ⟨t1, t2⟩ := iht (by omega)
        have hin := salP_in (bs := bs) (l := l.flatMap encF) (s := (pre ++ [x], (pre.flatMap encF).length + (encF x).length)) (i := (pre.flatMap encF).length + 1 + t) (by simp only; omega)
        rw [← Nat.add_assoc, salTo, lostTo, t1, hin]
        exact ⟨rfl, by simpa using t2⟩
    have hk := key ((encF x).length - 1) (by omega)
    rw [show (pre.flatMap encF).length + 1 + ((encF x).length - 1) = (pre.flatMap encF).length + (encF x).length from by omega] at hk
    rw [hl3]; exact hk

/-- the frames of a record, without their places -/
def frm (f : Frm) : Fr := (f.st, f.xss)
theorem upTo_get {l : List Frm} {n : Nat} (h : upTo l n = true) {k : Nat} (hk : k + 1 < n) : (l.getD k ⟨0, none, 0, []⟩).st < (l.getD (k + 1) ⟨0, none, 0, []⟩).st := by
  induction n with
  | zero => omega
  | succ n ih =>
    simp only [upTo, Bool.and_eq_true, Bool.or_eq_true, decide_eq_true_eq] at h
    by_cases hn : k + 1 < n
    · exact ih h.1 hn
    · obtain rfl : n = k + 1 := by omega
      rcases h.2 with h2 | h2
      · omega
      · simpa using h2
theorem rec_inc {bs : List Chan} {l : List Frm} (h : recErr bs l = 0) (a b : List Fr) (x : Fr) (he : l.map frm = a ++ x :: b) : lastR a < x.1 := by
  obtain ⟨-, -, h3, h4⟩ := recErr_zero h
  have hx : (l.map frm)[a.length]? = some x := by rw [he]; simp
  rw [List.getElem?_map, Option.map_eq_some_iff] at hx
  obtain ⟨f, hf, rfl⟩ := hx
  rcases List.eq_nil_or_concat a with rfl | ⟨a', y, rfl⟩
  · rw [lastR_nil]
    have := h3 f (List.mem_of_getElem? hf)
    simp only [frOK, inB, Bool.and_eq_true, decide_eq_true_eq] at this
    have := this.1.1
    show -1 < f.st
    omega
  · rw [List.concat_eq_append] at he hf
    have hy : (l.map frm)[a'.length]? = some y := by rw [he]; simp
    rw [List.getElem?_map, Option.map_eq_some_iff] at hy
    obtain ⟨g, hg, rfl⟩ := hy
    rw [List.length_append, List.length_singleton] at hf
    have hlt := (List.getElem?_eq_some_iff.1 hf).1
    have hu := upTo_get h4 hlt
    rw [List.getD_eq_getElem?_getD, List.getD_eq_getElem?_getD, hf, hg] at hu
    rw [List.concat_eq_append, lastR_snoc]
    exact hu
theorem inc_of {l : List Fr} (h : ∀ (a b : List Fr) (x : Fr), l = a ++ x :: b → lastR a < x.1) : ∀ (post pre : List Fr), l = pre ++ post → IncR (lastR pre) post := by
  intro post
  induction post with
  | nil => intro _ _; trivial
  | cons x post ih =>
    intro pre he
    refine ⟨h pre post x he, ?_⟩
    have := ih (pre ++ [x]) (by rw [he]; simp)
    rwa [lastR_snoc] at this
/-- what was packed is what is unpacked and salvaged -/
theorem pack_back {bs : List Chan} {l : List Frm} (h : recErr bs l = 0) (f : Nat) (hf : l.length ≤ f) :
    unpackR bs f ((l.map frm).flatMap encF) [] = some (l.map frm) ∧ salTo bs ((l.map frm).flatMap encF) ((l.map frm).flatMap encF).length = (l.map frm, ((l.map frm).flatMap encF).length) ∧ lostTo bs ((l.map frm).flatMap encF) ((l.map frm).flatMap encF).length = [] := by
  obtain ⟨h1, h2, h3, -⟩ := recErr_zero h
  have hb := bookErr_zero h1
  have hok : ∀ x ∈ l.map frm, frOK bs x.1 x.2 = true := by
    intro x hx
    obtain ⟨g, hg, rfl⟩ := List.mem_map.1 hx
    exact h3 g hg
  have hinc := rec_inc h
  have hi := inc_of hinc (l.map frm) [] rfl
  have hs := sal_enc hb (l.map frm) hok (by simpa using h2) _ (l.map frm) [] (by simp) rfl hinc
  refine ⟨?_, hs.1, hs.2⟩
  have := unpackR_enc hb (l.map frm) f [] hok hi (by simpa using h2) (by simpa using hf)
  simpa using this
end Go.Proofs.YtoochleabcjljaaGreatDoor

/- Codes as the reference reads them; plain. -/
namespace Go.Proofs.YtoochleabcjljaaGreatDoor
open Go.RowKit

/-- a folded value as the reference reads it: the value, were bits missing, the rest -/
def valueF (sh : Nat) : Nat → List Nat → (Nat × Bool) × List Nat
  | 0, r => (((takeR r 32).1.1, !(takeR r 32).1.2), (takeR r 32).2)
  | f + 1, [] => (((20 - (f + 1)) * 2 ^ sh, true), [])
  | f + 1, b :: r => if b = 1 then valueF sh f r else (((20 - (f + 1)) * 2 ^ sh + (takeR r sh).1.1, !(takeR r sh).1.2), (takeR r sh).2)
theorem takeR_nil (k : Nat) : (takeR [] k).1.1 = 0 ∧ (takeR [] k).2 = [] := by
  unfold takeR; split <;> simp [valB]
theorem valueF_of (sh : Nat) : ∀ (f : Nat) (r : List Nat) (u : Nat) (s : List Nat), (∀ b ∈ r, b ≤ 1) → valueR sh f r = ((u, true), s) → valueF sh f r = ((u, false), s)
  | 0, r, u, s, _, h => by rw [valueR] at h; rw [valueF, h]; rfl
  | f + 1, [], u, s, _, h => by rw [valueR] at h; cases h
  | f + 1, b :: r, u, s, hb, h => by
    rw [valueR] at h
    rw [valueF]
    by_cases h0 : b = 0
    · rw [if_pos h0] at h
      rw [if_neg (by omega)]
      simp only [Prod.mk.injEq] at h ⊢
      obtain ⟨⟨h1, h2⟩, h3⟩ := h
      exact ⟨⟨h1, by rw [h2]; rfl⟩, h3⟩
    · rw [if_neg h0] at h
      have : b = 1 := by have := hb b (by simp); omega
      rw [if_pos this]
      exact valueF_of sh f r u s (fun x hx => hb x (by simp [hx])) h
theorem valueF_bd {sh : Nat} (hs : sh ≤ 30) : ∀ (f : Nat) {r : List Nat}, f ≤ 20 → (∀ b ∈ r, b ≤ 1) → (valueF sh f r).1.1 ≤ 25769803776 ∧ ∀ b ∈ (valueF sh f r).2, b ≤ 1
  | 0, r, _, h => by
    have := takeR_bd h 32
    rw [valueF]; exact ⟨by simp only; omega, this.2⟩
  | f + 1, [], hf, h => by
    rw [valueF]
    have h2 : (2 : Nat) ^ sh ≤ 2 ^ 30 := Nat.pow_le_pow_right (by decide) hs
    have h3 : (20 - (f + 1)) * 2 ^ sh ≤ 20 * 2 ^ 30 := Nat.mul_le_mul (by omega) h2
    exact ⟨by simp only; omega, fun b hb => by simp at hb⟩
  | f + 1, b :: r, hf, h => by
    have hr : ∀ b ∈ r, b ≤ 1 := fun x hx => h x (by simp [hx])
    rw [valueF]
    split
    · exact valueF_bd hs f (by omega) hr
    · have h1 := takeR_bd hr sh
      have h2 : (2 : Nat) ^ sh ≤ 2 ^ 30 := Nat.pow_le_pow_right (by decide) hs
      have h3 : (20 - (f + 1)) * 2 ^ sh ≤ 20 * 2 ^ 30 := Nat.mul_le_mul (by omega) h2
      exact ⟨by simp only; omega, h1.2⟩
/-- so many residues -/
def rowF (sh : Nat) : Nat → List Nat → Bool → List Int → (List Int × Bool) × List Nat
  | 0, r, ov, acc => ((acc, ov), r)
  | n + 1, r, ov, acc => rowF sh n (valueF sh 20 r).2 (ov || (valueF sh 20 r).1.2) (acc ++ [unfU (valueF sh 20 r).1.1])
theorem rowF_of (sh : Nat) : ∀ (n : Nat) (r : List Nat) (acc : List Int) (p : List Int × List Nat), (∀ b ∈ r, b ≤ 1) → sh ≤ 30 → rowR sh n r acc = some p → rowF sh n r false acc = ((p.1, false), p.2)
  | 0, r, acc, p, _, _, h => by rw [rowR] at h; simp at h; subst h; rfl
  | n + 1, r, acc, p, hb, hs, h => by
    rw [rowR] at h
    split at h
    · rename_i hok
      rcases hv : valueR sh 20 r with ⟨⟨u, ok⟩, s⟩
      rw [hv] at hok h
      simp only at hok h
      subst hok
      have h1 := valueF_of sh 20 r u s hb hv
      have h2 := (valueR_bd hs 20 (Nat.le_refl _) hb).2
      rw [hv] at h2
      rw [rowF, h1]
      exact rowF_of sh n s _ p h2 hs h
    · contradiction
/-- a channel -/
def chanF (m : Nat) (r : List Nat) (ov : Bool) : (List Int × Bool) × List Nat :=
  let t1 := takeR r 2
  let t2 := takeR t1.2 5
  let p := rowF (min t2.1.1 30) m t2.2 (ov || !t1.1.2 || !t2.1.2) []
  ((sumsR p.1.1 t1.1.1, p.1.2), p.2)
theorem chanF_of (m : Nat) (r : List Nat) (x : List Int) (s : List Nat) (hb : ∀ b ∈ r, b ≤ 1) (h : readR m r = some (x, s)) : chanF m r false = ((x, false), s) := by
  unfold readR at h
  split at h
  · rename_i hc
    obtain ⟨h1, h2⟩ := hc
    rw [Option.map_eq_some_iff] at h
    obtain ⟨p, hp, he⟩ := h
    have ht1 : (takeR r 2).1.2 = true := by
      rcases Bool.eq_false_or_eq_true (takeR r 2).1.2 with h9 | h9
      · exact h9
      · exfalso
        have : (takeR r 2).2 = [] := by
          unfold takeR at h9 ⊢
          split
          · rename_i hk; rw [if_pos hk] at h9; cases h9
          · rfl
        rw [this] at h1
        simp [takeR] at h1
    have hb2 := (takeR_bd (takeR_bd hb 2).2 5).2
    have h3 := rowF_of _ m _ [] p hb2 h2 hp
    unfold chanF
    simp only [ht1, h1, Nat.min_eq_left h2, Bool.not_true, Bool.or_false, h3]
    simp only [Prod.mk.injEq] at he
    obtain ⟨rfl, rfl⟩ := he
    rfl
  · contradiction
/-- the channels of a book -/
def chF' : List Chan → List Nat → Bool → List (List Int) → List (List Int) × Bool
  | [], _, ov, acc => (acc, ov)
  | c :: bs, r, ov, acc => chF' bs (chanF c.rate.toNat r ov).2 (chanF c.rate.toNat r ov).1.2 (acc ++ [(chanF c.rate.toNat r ov).1.1])
theorem rowR_bits {sh : Nat} (hs : sh ≤ 30) : ∀ (n : Nat) (r : List Nat) (acc : List Int) (p : List Int × List Nat), (∀ b ∈ r, b ≤ 1) → rowR sh n r acc = some p → ∀ b ∈ p.2, b ≤ 1
  | 0, r, acc, p, hb, h => by rw [rowR] at h; simp at h; subst h; exact hb
  | n + 1, r, acc, p, hb, h => by
    rw [rowR] at h
    split at h
    · exact rowR_bits hs n _ _ p (valueR_bd hs 20 (Nat.le_refl _) hb).2 h
    · contradiction
theorem readR_bits {m : Nat} {r : List Nat} {x : List Int} {s : List Nat} (hb : ∀ b ∈ r, b ≤ 1) (h : readR m r = some (x, s)) : ∀ b ∈ s, b ≤ 1 := by
  unfold readR at h
  split at h
  · rename_i hc
    rw [Option.map_eq_some_iff] at h
    obtain ⟨p, hp, he⟩ := h
    simp only [Prod.mk.injEq] at he
    obtain ⟨-, rfl⟩ := he
    exact rowR_bits hc.2 m _ [] p (takeR_bd (takeR_bd hb 2).2 5).2 hp
  · contradiction
theorem chF_of (bs : List Chan) : ∀ (r : List Nat) (acc xss : List (List Int)), (∀ b ∈ r, b ≤ 1) → chR bs r acc = some xss → chF' bs r false acc = (xss, false) := by
  induction bs with
  | nil => intro r acc xss _ h; rw [chR] at h; simp at h; subst h; rfl
  | cons c bs ih =>
    intro r acc xss hb h
    rw [chR] at h
    cases hr : readR c.rate.toNat r with
    | none => rw [hr] at h; cases h
    | some p =>
      obtain ⟨x, s⟩ := p
      rw [hr] at h
      rw [chF', chanF_of _ r x s hb hr]
      exact ih s _ xss (readR_bits hb hr) h

/-- what 'loose' returns: the frame, its length, is it whole; none: too short, or not begun so -/
def looseC (l : List Nat) : Prop := 11 ≤ l.length ∧ l.getD 0 0 = 165 ∧ l.getD 1 0 = 90 ∧ endR l ≤ l.length ∧ 11 ≤ endR l
def rowsF (bs : List Chan) (l : List Nat) : List (List Int) × Bool := chF' bs (takeR (unB ((l.take (endR l - 3)).drop 4)) 32).2 (!(takeR (unB ((l.take (endR l - 3)).drop 4)) 32).1.2) []
theorem encF_ge (f : Fr) : 11 ≤ (encF f).length := by
  unfold encF encB hdB frBits
  have h1 := octs_len (binL f.1 32 ++ f.2.flatMap encC)
  rw [List.length_append, binL_length] at h1
  have h2 := octs_len (binL ((octs (binL f.1 32 ++ f.2.flatMap encC)).length : Nat) 16)
  rw [binL_length] at h2
  have h3 := fun n : Int => octs_len (binL n 24)
  simp only [List.length_append, h2, h3, binL_length, List.length_cons, List.length_nil]
  omega
/-- where the reference and the program agree -/
theorem begins_some {bs : List Chan} {l : List Nat} {p : Fr} {n : Nat} (h : firstR bs l = some (p, n)) : looseC l ∧ rowsF bs l = (p.2, false) ∧ p.1 = (startR l : Nat) ∧ n = endR l := by
  obtain ⟨-, h2, h3, h4, -⟩ := firstR_sound (st := p.1) (xss := p.2) h
  have hge := encF_ge p
  have he : encB p.1 p.2 = encF p := rfl
  rw [he] at h4
  unfold firstR at h
  split at h
  · rename_i h0
    split at h
    · contradiction
    · rename_i xss hx
      split at h
      · simp only [Option.some.injEq, Prod.mk.injEq] at h
        obtain ⟨h8, h9⟩ := h
        refine ⟨⟨by omega, h0.2.1, h0.2.2.1, h0.2.2.2, by omega⟩, ?_, by rw [← h8], h9.symm⟩
        unfold rowsR at hx
        split at hx
        · rename_i ht
          unfold rowsF
          rw [ht]
          have := chF_of bs _ [] xss (takeR_bd (unB_bits _) 32).2 hx
          rw [Bool.not_true, this, ← h8]
        · contradiction
      · contradiction
  · contradiction
theorem begins_none {bs : List Chan} (hb : bookOK bs = true) {l : List Nat} (h : firstR bs l = none) {st : Int} {xss : List (List Int)} (hf : frOK bs st xss = true) (n : Nat) (he : encB st xss = l.take n) : False := by
  have h1 := firstR_enc hb hf (l.drop n)
  rw [he, List.take_append_drop, h] at h1
  contradiction
end Go.Proofs.YtoochleabcjljaaGreatDoor

/- Lines: CheckLine, lined, Inject, amplitude. -/
namespace Go.Proofs.YtoochleabcjljaaGreatDoor
open Go.RowKit

/-- a line -/
def sumL (xs : List Int) : Int := xs.foldl (· + ·) 0
theorem sumL_snoc (xs : List Int) (x : Int) : sumL (xs ++ [x]) = sumL xs + x := by simp [sumL]
def lineOK (xs : List Int) : Bool := xs.all (fun n => inB (-1000) n 1000) && (inB 2 xs.length 32 && (decide (sumL xs = 0) && xs.any (fun n => n != 0)))
def lineErr (xs : List Int) : Int := if lineOK xs then 0 else 54

theorem sumL_bd {xs : List Int} (h : ∀ x ∈ xs, -1000 ≤ x ∧ x ≤ 1000) : -(1000 * (xs.length : Int)) ≤ sumL xs ∧ sumL xs ≤ 1000 * (xs.length : Int) := by
  suffices ∀ (xs : List Int) (a : Int), (∀ x ∈ xs, -1000 ≤ x ∧ x ≤ 1000) → a - 1000 * (xs.length : Int) ≤ xs.foldl (· + ·) a ∧ xs.foldl (· + ·) a ≤ a + 1000 * (xs.length : Int) by
    have := this xs 0 h; simp only [sumL]; omega
  intro xs
  induction xs with
  | nil => intro a _; simp
  | cons x xs ih =>
    intro a h
    have h1 := h x (by simp)
    have h2 := ih (a + x) (fun y hy => h y (by simp [hy]))
    simp only [List.foldl_cons, List.length_cons]
    push_cast
    omega

theorem checkLine_any (ao : Option Addr) (xs : List Int) (cap : Nat) (w : World) (hc : Cells w ao (xs.map (Value.int .i64))) (hl : xs.length ≤ 17592186044416) :
    Calls Tryz.prog 12 #[.slice ao xs.length cap] w fun e w' => e = .returned (.int .i64 (lineErr xs)) ∧ w = w' := by
  have HC := Lib.hid hc; clear hc
  go_enter Tryz.func12, Tryz.ntmps12
  go_wp2
  go_loop [3, 4, 9] (fun sm so i => ∃ k : Nat, k ≤ xs.length ∧ i = .int .i64 k ∧ sm = .int .i64 (sumL (xs.take k)) ∧ so = .bool ((xs.take k).any (fun n => n != 0)) ∧ (xs.take k).all (fun n => inB (-1000) n 1000) = true) (fun _ _ i => xs.length - (intOf i).toNat)
  case atStart => exact ⟨0, Nat.zero_le _, rfl, rfl, rfl, rfl⟩
  case round =>
    obtain ⟨k, hk, rfl, rfl, rfl, hall⟩ := hrel
    have hbd := sumL_bd (xs := xs.take k) (fun x hx => by have := List.all_eq_true.1 hall x hx; simpa [inB] using this)
    rw [List.length_take, Nat.min_eq_left hk] at hbd
    obtain ⟨hb1, hb2⟩ := hbd
    by_cases hlt : k < xs.length
    · obtain ⟨x, hx⟩ := get_of_lt hlt
      obtain ⟨b, off, rfl⟩ := HC.out.addr (by simpa using List.ne_nil_of_length_pos (by omega))
      have hcell := HC.out.int hx
      have ht := take_get hx
      cases hin : inB (-1000) x 1000
      · have he : lineErr xs = 54 := by
          have : xs.all (fun n => inB (-1000) n 1000) = false := List.all_eq_false.2 ⟨x, List.mem_of_getElem? hx, by simp [hin]⟩
          simp [lineErr, lineOK, this]
        have HE := Lib.hid he; clear he hx ht hall
        go_wp2_with (go_at_call 53; refine (within_any _ _ _ _).mono ?_; rintro e w' ⟨rfl, rfl⟩)
        go_ret
        exact ⟨ret_int HE.out.symm, rfl⟩
      · have hx1 : -1000 ≤ x ∧ x ≤ 1000 := by simpa [inB] using hin
        obtain ⟨hx1, hx2⟩ := hx1
        have hs : sumL (xs.take (k + 1)) = sumL (xs.take k) + x := by rw [ht, sumL_snoc]
        have ha : (xs.take (k + 1)).all (fun n => inB (-1000) n 1000) = true := by rw [ht, List.all_append, hall]; simp [hin]
        have hn : (xs.take (k + 1)).any (fun n => n != 0) = ((xs.take k).any (fun n => n != 0) || x != 0) := by rw [ht, List.any_append]; simp
        have HS := Lib.hid hs; have HA := Lib.hid ha; have HN := Lib.hid hn
        clear hs ha hn ht hx hall
        generalize (xs.take k).any (fun n => n != 0) = so at *
        generalize sumL (xs.take k) = sm at *
        cases so
        all_goals
          go_wp2_with (go_at_call 53; refine (within_any _ _ _ _).mono ?_; rintro e w' ⟨rfl, rfl⟩)
          go_round
          case rel => exact ⟨k + 1, by omega, by go_num, by rw [HS.out], by rw [HN.out]; simp, HA.out⟩
          case measure => simp [intOf]; omega
    · obtain rfl : k = xs.length := by omega
      rw [List.take_length] at hall hb1 hb2 ⊢
      have he : lineErr xs = if (inB 2 xs.length 32 && (decide (sumL xs = 0) && xs.any (fun n => n != 0))) then 0 else 54 := by simp only [lineErr, lineOK, hall, Bool.true_and]
      have HE := Lib.hid he; clear he hall
      generalize xs.any (fun n => n != 0) = so at *
      generalize sumL xs = sm at *
      by_cases hsm : sm = 0
      · subst hsm
        cases so
        all_goals
          cases hin : inB 2 xs.length 32
          all_goals
            have HIN := Lib.hid hin
            go_wp2_with (go_at_call 53; refine (within_any _ _ _ _).mono ?_; rintro e w' ⟨rfl, rfl⟩)
            go_ret
            exact ⟨ret_int (by rw [HE.out, HIN.out]; rfl), rfl⟩
      · have h1 : (sm != 0) = true := by simpa using hsm
        have hd : decide (sm = 0) = false := by simpa using hsm
        have HD := Lib.hid hd; clear hd
        cases hin : inB 2 xs.length 32
        all_goals
          have HIN := Lib.hid hin
          go_wp2_with (go_at_call 53; refine (within_any _ _ _ _).mono ?_; rintro e w' ⟨rfl, rfl⟩)
          go_ret
          exact ⟨ret_int (by rw [HE.out, HIN.out, HD.out]; rfl), rfl⟩
end Go.Proofs.YtoochleabcjljaaGreatDoor

/- Models: CheckModel, of the program and of the reference. -/
namespace Go.Proofs.YtoochleabcjljaaGreatDoor
open Go.RowKit

/-- a wrong tap -/
def tapBad (t : Int × Int) : Bool := decide (t.2 < t.1 ∨ t.1 < -1048576 ∨ 1048576 < t.2)

theorem checkModel1_any (a b : Int) (w : World) :
    Calls Tryz.prog 174 #[.agg #[.int .i64 a, .int .i64 b]] w fun e w' => e = .returned (.bool (tapBad (a, b))) ∧ Below w.heap.size w w' := by
  by_cases h1 : b < a
  · go_enter Tryz.func174, Tryz.ntmps174
    go_wp2
    go_ret
    exact ⟨ret_bool (by simp [tapBad, h1]), (Below.refl _ _).alloc (Nat.le_refl _) _⟩
  · by_cases h2 : a < -1048576
    · go_enter Tryz.func174, Tryz.ntmps174
      go_wp2
      go_ret
      exact ⟨ret_bool (by simp [tapBad, h2]), (Below.refl _ _).alloc (Nat.le_refl _) _⟩
    · go_enter Tryz.func174, Tryz.ntmps174
      go_wp2
      go_ret
      exact ⟨ret_bool (by rw [Bool.eq_iff_iff]; simp only [tapBad, decide_eq_true_eq]; omega), (Below.refl _ _).alloc (Nat.le_refl _) _⟩

set_option maxRecDepth 100000 in
/-- slices.IndexFunc over pairs, at whatever test that computes p and leaves what was there -/
theorem indexFunc_taps (F : FuncId) (capd : Array Value) (p : Int × Int → Bool) (ao : Option Addr) (xs : List (Int × Int)) (cap : Nat) (w : World) (hc : Cells w ao (prs xs)) (hl : xs.length ≤ 9223372036854775807)
    (hcf : ∀ (vs : Array Value) (wx : World), Sem.run Tryz.prog (callFunc F vs) wx = .ok (.enter F vs) wx)
    (hF : ∀ x wx, x ∈ xs → Below w.heap.size w wx → Calls Tryz.prog F (#[.agg #[.int .i64 x.1, .int .i64 x.2]] ++ capd) wx fun e w' => e = .returned (.bool (p x)) ∧ Below wx.heap.size wx w') :
    Calls Tryz.prog 217 #[.slice ao xs.length cap, .func (.func F) #[] capd] w fun e w' => (∃ r : Int, e = .returned (.int .i64 r) ∧ (0 ≤ r ↔ xs.any p = true)) ∧ Below w.heap.size w w' := by
  go_enter Tryz.func217, Tryz.ntmps217
  go_wp2
  go_loopw [8] (fun i wr => ∃ k : Nat, k ≤ xs.length ∧ i = .int .i64 k ∧ (xs.take k).any p = false ∧ Below w.heap.size w wr) (fun i _ => xs.length - (intOf i).toNat)
  case atStart => exact ⟨0, Nat.zero_le _, rfl, rfl, Below.refl _ _⟩
  case round =>
    obtain ⟨k, hk, rfl, hany, hb⟩ := hrel
    by_cases hlt : k < xs.length
    · obtain ⟨x, hx⟩ := get_of_lt hlt
      obtain ⟨b, off, rfl⟩ := hc.addr (prs_ne (by omega))
      have hcell1 := cell_keep (hc.at (prs_fst hx)) hb (Nat.le_refl _)
      have hcell2 := cell_keep (hc.at (prs_snd hx)) hb (Nat.le_refl _)
      rw [← Nat.add_assoc] at hcell2
      obtain ⟨x1, x2⟩ := x
      simp only at hcell1 hcell2
      have HX := Lib.hid hx; clear hx
      have HC := Lib.hid hc; clear hc
      have HF := Lib.hid hF; clear hF
      have HA := Lib.hid hany; clear hany
      go_wp2_with fail
      refine (HF.out (x1, x2) wr (List.mem_of_getElem? HX.out) hb).mono ?_
      rintro e w1 ⟨rfl, hb1⟩
      have hb2 := hb.trans (hb1.mono hb.size)
      clear hb1
      by_cases hp : p (x1, x2) = true
      · go_wp2
        go_ret
        exact ⟨⟨_, rfl, by simp; exact ⟨x1, x2, List.mem_of_getElem? HX.out, hp⟩⟩, hb2⟩
      · simp only [Bool.not_eq_true] at hp
        go_wp2
        go_roundw
        case rel => exact ⟨k + 1, by omega, by go_num, by rw [take_get HX.out, List.any_append, HA.out]; simp [hp], hb2⟩
        case measure => simp [intOf]; omega
    · obtain rfl : k = xs.length := by omega
      rw [List.take_length] at hany
      have HA := Lib.hid hany; clear hany
      go_wp2
      go_ret
      exact ⟨⟨_, rfl, by rw [HA.out]; simp⟩, hb⟩
end Go.Proofs.YtoochleabcjljaaGreatDoor

/- Models: CheckModel, of the program and of the reference. -/
namespace Go.Proofs.YtoochleabcjljaaGreatDoor
open Go.RowKit

set_option maxRecDepth 100000 in
theorem containsFunc_taps (F : FuncId) (capd : Array Value) (p : Int × Int → Bool) (ao : Option Addr) (xs : List (Int × Int)) (cap : Nat) (w : World) (hc : Cells w ao (prs xs)) (hl : xs.length ≤ 9223372036854775807)
    (hcf : ∀ (vs : Array Value) (wx : World), Sem.run Tryz.prog (callFunc F vs) wx = .ok (.enter F vs) wx)
    (hF : ∀ x wx, x ∈ xs → Below w.heap.size w wx → Calls Tryz.prog F (#[.agg #[.int .i64 x.1, .int .i64 x.2]] ++ capd) wx fun e w' => e = .returned (.bool (p x)) ∧ Below wx.heap.size wx w') :
    Calls Tryz.prog 175 #[.slice ao xs.length cap, .func (.func F) #[] capd] w fun e w' => e = .returned (.bool (xs.any p)) ∧ Below w.heap.size w w' := by
  have HC := Lib.hid hc; clear hc
  have HF := Lib.hid hF; clear hF
  have HCF := Lib.hid hcf; clear hcf
  go_enter Tryz.func175, Tryz.ntmps175
  go_wp2_with fail
  refine (indexFunc_taps F capd p ao xs cap w HC.out hl HCF.out HF.out).mono ?_
  rintro e w1 ⟨⟨r, rfl, hr⟩, hb⟩
  have HR := Lib.hid hr; clear hr
  go_wp2
  go_ret
  exact ⟨ret_bool (by rw [Bool.eq_iff_iff, decide_eq_true_iff]; exact HR.out), hb⟩

/-- a model -/
def modOK (ts : List (Int × Int)) (sh : Int) : Bool := inB 1 ts.length 16 && (!ts.any tapBad && inB 0 sh 20)
def modErr (ts : List (Int × Int)) (sh : Int) : Int := if modOK ts sh then 0 else 53

theorem checkModel_any (ao : Option Addr) (ts : List (Int × Int)) (cap : Nat) (sh : Int) (w : World) (hc : Cells w ao (prs ts)) (hl : ts.length ≤ 9223372036854775807) :
    Calls Tryz.prog 118 #[.agg #[.slice ao ts.length cap, .int .i64 sh]] w fun e w' => e = .returned (.int .i64 (modErr ts sh)) ∧ Below w.heap.size w w' := by
  have HC := Lib.hid hc; clear hc
  cases h1 : inB 1 ts.length 16
  · have hm : modErr ts sh = 53 := by simp [modErr, modOK, h1]
    have HM := Lib.hid hm; clear hm
    go_enter Tryz.func118, Tryz.ntmps118
    go_wp2_with fail
    refine (within_any _ _ _ _).mono ?_
    rintro e w1 ⟨rfl, rfl⟩
    go_wp2
    go_ret
    exact ⟨ret_int (HM.out).symm, (Below.refl _ _).alloc (Nat.le_refl _) _⟩
  · cases h2 : ts.any tapBad
    · have hm : modErr ts sh = if inB 0 sh 20 then 0 else 53 := by simp [modErr, modOK, h1, h2]
      have HM := Lib.hid hm; clear hm
      have H2 := Lib.hid h2; clear h2
      cases h3 : inB 0 sh 20
      all_goals
        have H3 := Lib.hid h3
        go_enter Tryz.func118, Tryz.ntmps118
        go_wp2_with fail
        refine (within_any _ _ _ _).mono ?_
        rintro e w1 ⟨rfl, rfl⟩
        go_wp2_with fail
        refine (containsFunc_taps 174 #[] tapBad ao ts cap _ (HC.out.below ((Below.refl _ _).alloc (Nat.le_refl _) _) (Nat.le_refl _)) hl (fun _ _ => by kernel_rfl) (fun x wx _ _ => checkModel1_any x.1 x.2 wx)).mono ?_
        rintro e w1 ⟨rfl, hb⟩
        rw [H2.out]
        have hc1 : w1.cell? ⟨w.heap.size, 1, none⟩ = some (.int .i64 sh) := box_keep hb (by simp) 1
        go_wp2_with fail
        refine (within_any _ _ _ _).mono ?_
        rintro e w1 ⟨rfl, rfl⟩
        go_wp2
        go_ret
        exact ⟨ret_int (by rw [HM.out, H3.out]; rfl), ((Below.refl _ _).alloc (Nat.le_refl _) _).trans (hb.mono (by simp))⟩
    · have hm : modErr ts sh = 53 := by simp [modErr, modOK, h1, h2]
      have HM := Lib.hid hm; clear hm
      have H2 := Lib.hid h2; clear h2
      go_enter Tryz.func118, Tryz.ntmps118
      go_wp2_with fail
      refine (within_any _ _ _ _).mono ?_
      rintro e w1 ⟨rfl, rfl⟩
      go_wp2_with fail
      refine (containsFunc_taps 174 #[] tapBad ao ts cap _ (HC.out.below ((Below.refl _ _).alloc (Nat.le_refl _) _) (Nat.le_refl _)) hl (fun _ _ => by kernel_rfl) (fun x wx _ _ => checkModel1_any x.1 x.2 wx)).mono ?_
      rintro e w1 ⟨rfl, hb⟩
      rw [H2.out]
      go_wp2
      go_ret
      exact ⟨ret_int (HM.out).symm, ((Below.refl _ _).alloc (Nat.le_refl _) _).trans (hb.mono (by simp))⟩
end Go.Proofs.YtoochleabcjljaaGreatDoor
