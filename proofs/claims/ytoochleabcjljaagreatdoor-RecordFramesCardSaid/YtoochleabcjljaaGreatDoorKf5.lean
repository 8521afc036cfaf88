/- Parts of a proof, in build order: R3, T6, A7, F2, B2, Dig, Dig2, N0. -/
import Derived.Test.YtoochleabcjljaaGreatDoorKf4

/- Records: Series. -/
namespace Go.Proofs.YtoochleabcjljaaGreatDoor
open Go.RowKit

theorem series1_any (x : Chan) (bc : Nat) (t : ByteArray) (w : World) (hc : w.cell? ⟨bc, 0, none⟩ = some (.string t)) :
    Calls Tryz.prog 81 #[.agg #[.string x.name, .int .i64 x.rate, .int .i64 x.bits], .pointer (some ⟨bc, 0, none⟩)] w fun e w' => e = .returned (.bool (sameName x.name t)) ∧ Below w.heap.size w w' := by
  have hc1 := cell_keep hc ((Below.refl _ _).alloc (Nat.le_refl _) (.cells #[.string x.name, .int .i64 x.rate, .int .i64 x.bits] 106)) (Nat.le_refl _)
  go_enter Tryz.func81, Tryz.ntmps81
  go_wp2
  go_ret
  exact ⟨rfl, (Below.refl _ _).alloc (Nat.le_refl _) _⟩

/-- is a frame within? -/
def inF (fr tt : Int) (f : Frm) : Bool := decide (fr ≤ f.st) && decide (f.st < tt)
def serOf (k : Nat) (fr tt : Int) (l : List Frm) : List Int := l.flatMap fun f => if inF fr tt f then f.xss.getD k [] else []
def cntOf (fr tt : Int) (l : List Frm) : Nat := (l.filter (inF fr tt)).length
theorem serOf_snoc (k : Nat) (fr tt : Int) (l : List Frm) (f : Frm) : serOf k fr tt (l ++ [f]) = serOf k fr tt l ++ if inF fr tt f then f.xss.getD k [] else [] := by simp [serOf]
theorem cntOf_snoc (fr tt : Int) (l : List Frm) (f : Frm) : cntOf fr tt (l ++ [f]) = cntOf fr tt l + if inF fr tt f then 1 else 0 := by
  rw [cntOf, List.filter_append, List.length_append, cntOf]
  cases h : inF fr tt f <;> simp [List.filter, h]
def chI (bs : List Chan) (name : ByteArray) : Nat := bs.findIdx fun c => sameName c.name name
def serE (bs : List Chan) (l : List Frm) (name : ByteArray) (fr tt : Int) : Int :=
  if btwErr bs l fr tt ≠ 0 then btwErr bs l fr tt else if (bs.any fun c => sameName c.name name) = false then 2 else if (cntOf fr tt l : Int) ≠ tt - fr then 4 else 0
def serR (bs : List Chan) (l : List Frm) (name : ByteArray) (fr tt : Int) : List Int := if serE bs l name fr tt = 0 then serOf (chI bs name) fr tt l else []

theorem findIdx_of {α : Type} {l : List α} {p : α → Bool} {i : Nat} {x : α} (h : l[i]? = some x) (hp : p x = true) (ht : (l.take i).any p = false) : l.findIdx p = i := by
  induction l generalizing i with
  | nil => simp at h
  | cons a l ih =>
    cases i with
    | zero => simp at h; subst h; simp [List.findIdx_cons, hp]
    | succ i =>
      simp only [List.take_succ_cons, List.any_cons, Bool.or_eq_false_iff] at ht
      rw [List.findIdx_cons, ht.1, ih (by simpa using h) ht.2]
      rfl

theorem frTo_row {bs : List Chan} {st : Int} {xss : List (List Int)} (h : frOK bs st xss = true) (hb : bookOK bs = true) {k : Nat} (hk : k < bs.length) : ∃ xs, xss[k]? = some xs ∧ 1 ≤ xs.length ∧ xs.length ≤ 64 := by
  simp only [frOK, Bool.and_eq_true, decide_eq_true_eq] at h
  obtain ⟨h1, h2, h3⟩ := h
  obtain ⟨xs, hx⟩ := get_of_lt (show k < xss.length by omega)
  obtain ⟨c, hc⟩ := get_of_lt hk
  have := book_get hb hc
  have hs := frTo_get h3 hk hc hx
  simp only [smpOK, Bool.and_eq_true, decide_eq_true_eq] at hs
  exact ⟨xs, hx, by omega, by omega⟩
theorem serOf_length (k : Nat) (fr tt : Int) (l : List Frm) (h : ∀ f ∈ l, (f.xss.getD k []).length ≤ 64) : (serOf k fr tt l).length ≤ 64 * l.length := by
  induction l with
  | nil => simp [serOf]
  | cons f l ih =>
    have := ih fun g hg => h g (by simp [hg])
    have h2 := h f (by simp)
    have e : serOf k fr tt (f :: l) = (if inF fr tt f then f.xss.getD k [] else []) ++ serOf k fr tt l := rfl
    have h3 : (if inF fr tt f then f.xss.getD k [] else []).length ≤ 64 := by
      split
      · exact h2
      · simp
    rw [e, List.length_append, List.length_cons]
    omega
theorem chI_spec {bs : List Chan} {name : ByteArray} (hany : (bs.any fun c => sameName c.name name) = true) : ∃ c, bs[chI bs name]? = some c ∧ sameName c.name name = true ∧ (bs.take (chI bs name)).any (fun c => sameName c.name name) = false := by
  have hlt : bs.findIdx (fun c : Chan => sameName c.name name) < bs.length := List.findIdx_lt_length.2 (by obtain ⟨x, hx, hp⟩ := List.any_eq_true.1 hany; exact ⟨x, hx, hp⟩)
  unfold chI
  refine ⟨bs[bs.findIdx (fun c : Chan => sameName c.name name)], by simp [hlt], List.findIdx_getElem (xs := bs) (p := fun c : Chan => sameName c.name name) (w := hlt), ?_⟩
  rw [List.any_eq_false]
  intro x hx
  obtain ⟨i, hi, rfl⟩ := List.mem_iff_getElem.1 hx
  rw [List.length_take] at hi
  rw [List.getElem_take]
  have := List.not_of_lt_findIdx (p := fun c : Chan => sameName c.name name) (xs := bs) (i := i) (by omega)
  simpa using this
theorem chI_uniq {bs : List Chan} {name : ByteArray} {i : Nat} {x : Chan} (h : bs[i]? = some x) (hp : sameName x.name name = true) (ht : (bs.take i).any (fun c => sameName c.name name) = false) : i = chI bs name := by
  unfold chI
  exact (findIdx_of (p := fun c : Chan => sameName c.name name) h hp ht).symm
theorem book_len {bs : List Chan} (h : bookOK bs = true) : bs.length ≤ 16 := by
  simp only [bookOK, inB, Bool.and_eq_true, decide_eq_true_eq] at h; omega
theorem Cells.at' {w : World} {ao : Option Addr} {b off : Nat} {cs : List Value} (h : Cells w ao cs) (ha : ao = some ⟨b, off, none⟩) {j : Nat} {u : Value} (hu : cs[j]? = some u) : w.cell? ⟨b, off + j, none⟩ = some u := by
  subst ha; exact h.at hu
theorem cntOf_le (fr tt : Int) (l : List Frm) : cntOf fr tt l ≤ l.length := List.length_filter_le _ _

set_option maxRecDepth 100000 in
set_option maxHeartbeats 1000000 in
theorem series_any (ao : Option Addr) (bs : List Chan) (cap : Nat) (al : Option Addr) (l : List Frm) (cl : Nat) (name : ByteArray) (fr tt : Int) (w : World) (hb : BookIn w ao bs cap) (hr : RecIn w al l) :
    Calls Tryz.prog 37 #[.slice ao bs.length cap, .slice al l.length cl, .string name, .int .i64 fr, .int .i64 tt] w fun e w' => (∃ v, e = .returned (.tuple #[v, .int .i64 (serE bs l name fr tt)]) ∧ w'.ownsRow w.heap.size 3 1 v (serR bs l name fr tt).length ((serR bs l name fr tt).map (Value.int .i64))) ∧ Below w.heap.size w w' := by
  have hb0 := (Below.refl w.heap.size w).alloc (Nat.le_refl _) (.cells #[.string name] 9)
  have hck := between_any ao bs cap al l cl fr tt _ (hb.below hb0 (Nat.le_refl _)) (hr.below hb0 (Nat.le_refl _))
  have HCK := Lib.hid hck; have HR := Lib.hid hr; have HB := Lib.hid hb
  have hbl := hb.len
  clear hck hb hr
  by_cases h1 : btwErr bs l fr tt = 0
  · obtain ⟨z0, z1, z2, z3⟩ := btwErr_zero h1
    obtain ⟨z5, z4, z6, _⟩ := recErr_zero z0
    have hok := bookErr_zero z5
    have H1 := Lib.hid h1; have Z6 := Lib.hid z6; have HOK := Lib.hid hok
    obtain ⟨i0, hi, hz0, hz1, hz2⟩ := info_parts Tryz.infoInt
    cases hany : bs.any fun c => sameName c.name name
    · have he : serE bs l name fr tt = 2 := by rw [serE, if_neg (by simpa using h1), hany]; rfl
      have hres : serR bs l name fr tt = [] := by rw [serR, he]; rfl
      have HE := Lib.hid he; have HS := Lib.hid hres; have HA := Lib.hid hany
      clear h1 z0 z5 z6 hok he hres hany
      go_enter Tryz.func37, Tryz.ntmps37
      go_wp2_with fail
      refine HCK.out.mono ?_
      rintro e w1 ⟨rfl, hb1⟩
      rw [H1.out]
      have hf := hb0.trans (hb1.mono hb0.size)
      have q0 : w1.cell? ⟨w.heap.size, 0, none⟩ = some (.string name) := box_keep hb1 (by simp) 0
      have HB1 := Lib.hid (HB.out.below hf (Nat.le_refl _))
      clear hb1
      go_wp2_with fail
      refine (indexFunc_chans 81 #[.pointer (some ⟨w.heap.size, 0, none⟩)] (fun c => sameName c.name name) ao bs cap w1 HB1.out.cells (by omega) (fun _ _ => by kernel_rfl) (fun x wx hx hbx => series1_any x w.heap.size name wx (cell_keep q0 hbx (Nat.le_refl _)))).mono ?_
      rintro e w2 ⟨⟨r, rfl, hr1, _⟩, hb2⟩
      have hr0 : r < 0 := by
        rw [HA.out] at hr1
        have := hr1.1
        rcases Int.lt_or_le r 0 with h | h
        · exact h
        · simp at hr1; omega
      have hf2 := hf.trans (hb2.mono hf.size)
      clear hr1 hf hb2 q0
      go_wp2
      go_ret2
      exact ⟨⟨_, by rw [HE.out]; rfl, by rw [HS.out]; exact World.ownsRow_nil _ _ _ _⟩, hf2⟩
    · obtain ⟨c0, hc0, hp0, ht0⟩ := chI_spec hany
      have hk := (List.getElem?_eq_some_iff.1 hc0).1
      have hrow : ∀ f ∈ l, ∃ xs, f.xss[chI bs name]? = some xs ∧ 1 ≤ xs.length ∧ xs.length ≤ 64 := fun f hf => frTo_row (z6 f hf) hok hk
      have hser : ∀ n, n ≤ l.length → (serOf (chI bs name) fr tt (l.take n)).length ≤ 64 * n := fun n hn => by
        have := serOf_length (chI bs name) fr tt (l.take n) (fun f hf => by
          obtain ⟨xs, h1, _, h2⟩ := hrow f (List.mem_of_mem_take hf)
          rw [List.getD_eq_getElem?_getD, h1]; exact h2)
        rw [List.length_take, Nat.min_eq_left hn] at this; exact this
      have HA := Lib.hid hany; have HROW := Lib.hid hrow; have HSER := Lib.hid hser
      have he : serE bs l name fr tt = if (cntOf fr tt l : Int) ≠ tt - fr then 4 else 0 := by rw [serE, if_neg (by simpa using h1), hany]; rfl
      have hrr : serR bs l name fr tt = if serE bs l name fr tt = 0 then serOf (chI bs name) fr tt l else [] := rfl
      have HE := Lib.hid he; have HRR := Lib.hid hrr
      have HF0 := Lib.hid (show ∀ i : Nat, (∃ x, bs[i]? = some x ∧ sameName x.name name = true ∧ (bs.take i).any (fun c => sameName c.name name) = false) → i = chI bs name from fun i ⟨x, a, b, c⟩ => chI_uniq a b c)
      have hk16 : chI bs name < 16 := by
        have := (book_len hok); omega
      clear h1 z0 z5 z6 hok he hrr hany hrow hser hc0 hp0 ht0
      generalize serE bs l name fr tt = ee at *
      generalize serR bs l name fr tt = rr at *
      generalize chI bs name = ck at *
      go_enter Tryz.func37, Tryz.ntmps37
      go_wp2_with fail
      refine HCK.out.mono ?_
      rintro e w1 ⟨rfl, hb1⟩
      rw [H1.out]
      have hf := hb0.trans (hb1.mono hb0.size)
      have q0 : w1.cell? ⟨w.heap.size, 0, none⟩ = some (.string name) := box_keep hb1 (by simp) 0
      have HB1 := Lib.hid (HB.out.below hf (Nat.le_refl _))
      clear hb1
      go_wp2_with fail
      refine (indexFunc_chans 81 #[.pointer (some ⟨w.heap.size, 0, none⟩)] (fun c => sameName c.name name) ao bs cap w1 HB1.out.cells (by omega) (fun _ _ => by kernel_rfl) (fun x wx hx hbx => series1_any x w.heap.size name wx (cell_keep q0 hbx (Nat.le_refl _)))).mono ?_
      rintro e w2 ⟨⟨r, rfl, hr1, hr2⟩, hb2⟩
      have hr0 : 0 ≤ r := hr1.2 HA.out
      obtain ⟨rn, rfl⟩ := Int.eq_ofNat_of_zero_le hr0
      obtain rfl : rn = ck := HF0.out rn (hr2 rn rfl)
      have hf2 := hf.trans (hb2.mono hf.size)
      have HR2 := Lib.hid (HR.out.below hf2 (Nat.le_refl _))
      clear hr1 hr2 hf hb2 q0 hr0
      have hrf := Below.refl w2.heap.size w2
      go_wp2
      go_loopw [14, 15, 33] (fun v s i wr => ∃ k : Nat, k ≤ l.length ∧ i = .int .i64 k ∧ s = .int .i64 (cntOf fr tt (l.take k) : Nat) ∧ wr.ownsRow w2.heap.size 3 1 v (serOf rn fr tt (l.take k)).length ((serOf rn fr tt (l.take k)).map (Value.int .i64)) ∧ Below w2.heap.size w2 wr) (fun _ _ i _ => l.length - (intOf i).toNat)
      case atStart => exact ⟨0, Nat.zero_le _, rfl, rfl, World.ownsRow_nil _ _ _ _, hrf⟩
      case round =>
        clear hrf
        obtain ⟨k, hk1, rfl, rfl, hown, hbr⟩ := hrel
        have hcl := cntOf_le fr tt (l.take k)
        rw [List.length_take, Nat.min_eq_left hk1] at hcl
        by_cases hlt : k < l.length
        · obtain ⟨⟨xst, xa, xc, xss⟩, hx⟩ := get_of_lt hlt
          obtain ⟨xs, hxs, hx1, hx2⟩ := HROW.out _ (List.mem_of_getElem? hx)
          obtain ⟨bl, ol, rfl⟩ := HR2.out.cells.addr (frs_ne (by omega))
          have d0 := cell_keep (HR2.out.cells.at (frs_get hx).1) hbr (Nat.le_refl _)
          have d1 := cell_keep (HR2.out.cells.at (frs_get hx).2) hbr (Nat.le_refl _)
          rw [← Nat.add_assoc] at d1
          obtain ⟨_, vs, hvs, hrv⟩ := HR2.out.rows _ (List.mem_of_getElem? hx)
          simp only at hxs hvs hrv d0 d1
          obtain ⟨v, hv⟩ := get_of_lt (show rn < vs.length by have := (List.getElem?_eq_some_iff.1 hxs).1; have := hrv.1; omega)
          obtain ⟨ax, cx, rfl, hax, _⟩ := hrv.2 rn v xs hv hxs
          obtain ⟨bv, ov, rfl⟩ := hvs.addr (List.ne_nil_of_length_pos (by have := (List.getElem?_eq_some_iff.1 hv).1; omega))
          obtain ⟨bx, ox, rfl⟩ := hax.addr (by simpa using List.ne_nil_of_length_pos (by omega))
          have hst : serOf rn fr tt (l.take (k + 1)) = serOf rn fr tt (l.take k) ++ if inF fr tt ⟨xst, some ⟨bv, ov, none⟩, xc, xss⟩ then xs else [] := by
            rw [take_get hx, serOf_snoc, List.getD_eq_getElem?_getD, hxs]; rfl
          have hct : cntOf fr tt (l.take (k + 1)) = cntOf fr tt (l.take k) + if inF fr tt ⟨xst, some ⟨bv, ov, none⟩, xc, xss⟩ then 1 else 0 := by rw [take_get hx, cntOf_snoc]
          have hsl := HSER.out k hk1
          have HST := Lib.hid hst; have HCT := Lib.hid hct; have HO := Lib.hid hown
          have hz := hbr.size
          have hba := hbr.alloc hz (.cells #[.int .i64 xst, .slice (some ⟨bv, ov, none⟩) xss.length xc] 43)
          by_cases hin : fr ≤ xst ∧ xst < tt
          · have hi0 : inF fr tt ⟨xst, some ⟨bv, ov, none⟩, xc, xss⟩ = true := by simp [inF, hin.1, hin.2]
            obtain ⟨hi1, hi2⟩ := hin
            rw [hi0] at HST HCT
            have e1 := cell_keep (hvs.at hv) hba (Nat.le_refl _)
            have HAX := Lib.hid (hax.below hba (Nat.le_refl _))
            have hkx : rn < xss.length := (List.getElem?_eq_some_iff.1 hxs).1
            have hbx := Blk.new wr 43 #[.int .i64 xst, .slice (some ⟨bv, ov, none⟩) xss.length xc]
            clear hst hct hown hxs hx hv hvs hrv hax hi0
            have hcts : Below w2.heap.size w2 wr := hbr
            clear hbx
            go_wp2_with (at_builtin; refine wpList_append_lies _ rfl _ _ _ rfl w2.heap.size 3 i0 (.int .i64 0) 1 8 Tryz.underlying22 hi hz0 hz1 hz2 rfl (by decide) _ _ _ rfl (HO.out.alloc _) ⟨bx, ox, none⟩ xs.length cx (xs.map (Value.int .i64)) rfl (by simp) (fun j u hu => by rw [Addr.add_lit]; exact HAX.out.at hu) (by intro u hu; obtain ⟨d, _, rfl⟩ := List.mem_map.1 hu; rfl) (by omega) (by unfold maxLen; omega) (by omega) (by simp; omega) (wr.heap.size + 1) (by simp) ?_)
            intro gg cp wz hown1 hgrow hat hlt1
            have hfin : wz.ownsRow w2.heap.size 3 1 (.slice (some ⟨gg, 0, none⟩) ((serOf rn fr tt (l.take k)).length + xs.length) cp) (serOf rn fr tt (l.take (k + 1))).length ((serOf rn fr tt (l.take (k + 1))).map (Value.int .i64)) := by
              rw [HST.out, if_pos trivial, List.length_append, List.map_append]; exact hown1
            have hbz := hba.grown hgrow (by simp; omega) (fun j e => (HO.out.lt j e).1)
            have HFIN := Lib.hid hfin
            clear hown1 hgrow hat hlt1 hfin
            go_wp2
            go_roundw
            case rel => exact ⟨k + 1, by omega, by go_num, by rw [HCT.out, if_pos trivial]; go_num, HFIN.out, hbz⟩
            case measure => simp [intOf]; omega
          · have hi0 : inF fr tt ⟨xst, some ⟨bv, ov, none⟩, xc, xss⟩ = false := by
              simp only [inF, Bool.and_eq_false_iff, decide_eq_false_iff_not]; omega
            rw [hi0] at HST HCT
            have hfin : (wr.alloc (.cells #[.int .i64 xst, .slice (some ⟨bv, ov, none⟩) xss.length xc] 43)).ownsRow w2.heap.size 3 1 u14 (serOf rn fr tt (l.take (k + 1))).length ((serOf rn fr tt (l.take (k + 1))).map (Value.int .i64)) := by
              rw [HST.out, if_neg (by simp), List.append_nil]; exact HO.out.alloc _
            have HFIN := Lib.hid hfin
            have hct2 : cntOf fr tt (l.take (k + 1)) = cntOf fr tt (l.take k) := by rw [HCT.out]; simp
            have HCT2 := Lib.hid hct2
            clear hst hct hown hxs hx hv hvs hrv hax hi0 hfin hct2
            have hjj : xst < fr ∨ (fr ≤ xst ∧ tt ≤ xst) := by omega
            clear hin
            rcases hjj with h | ⟨h, h'⟩
            all_goals
              go_wp2
              go_roundw
              case rel => exact ⟨k + 1, by omega, by go_num, by rw [HCT2.out], HFIN.out, hba⟩
              case measure => simp [intOf]; omega
        · obtain rfl : k = l.length := by omega
          rw [List.take_length] at hown hcl ⊢
          have HO := Lib.hid hown
          have hbf := hf2.trans (hbr.mono hf2.size)
          have hsz2 := hf2.size
          by_cases hcc : (cntOf fr tt l : Int) = tt - fr
          · have he0 : ee = 0 := by rw [HE.out, if_neg (by omega)]
            have hr0 : rr = serOf rn fr tt l := by rw [HRR.out, if_pos he0]
            have HE0 := Lib.hid he0; have HR0 := Lib.hid hr0
            have hneq : ((cntOf fr tt l : Int) != tt - fr) = false := by simpa using hcc
            clear hown he0 hr0 hcc
            go_wp2
            go_ret2
            exact ⟨⟨_, by rw [HE0.out]; rfl, by rw [HR0.out]; exact own_base HO.out hsz2⟩, hbf⟩
          · have he0 : ee = 4 := by rw [HE.out, if_pos hcc]
            have hr0 : rr = [] := by rw [HRR.out, if_neg (by rw [he0]; decide)]
            have HE0 := Lib.hid he0; have HR0 := Lib.hid hr0
            have hneq : ((cntOf fr tt l : Int) != tt - fr) = true := by simpa using hcc
            clear hown he0 hr0
            go_wp2
            go_ret2
            exact ⟨⟨_, by rw [HE0.out]; rfl, by rw [HR0.out]; exact World.ownsRow_nil _ _ _ _⟩, hbf⟩
  · have he : serE bs l name fr tt = btwErr bs l fr tt := by rw [serE, if_pos h1]
    have hres : serR bs l name fr tt = [] := by rw [serR, he, if_neg h1]
    have h3 : (btwErr bs l fr tt != 0) = true := by simpa using h1
    have h4 : (btwErr bs l fr tt == 0) = false := by simpa using h1
    have HE := Lib.hid he; have HS := Lib.hid hres
    clear he hres
    go_enter Tryz.func37, Tryz.ntmps37
    go_wp2_with fail
    refine HCK.out.mono ?_
    rintro e w1 ⟨rfl, hb1⟩
    have hf := hb0.trans (hb1.mono hb0.size)
    go_wp2
    go_ret2
    exact ⟨⟨_, by rw [HE.out]; rfl, by rw [HS.out]; exact World.ownsRow_nil _ _ _ _⟩, hf⟩
end Go.Proofs.YtoochleabcjljaaGreatDoor

/- The chapter's CheckFrame and Encode; Pack. -/
namespace Go.Proofs.YtoochleabcjljaaGreatDoor
open Go.RowKit

set_option maxRecDepth 100000 in
theorem refCheckFrame_any (ao : Option Addr) (bs : List Chan) (cap : Nat) (st : Int) (asm : Option Addr) (vs : List Value) (xss : List (List Int)) (cs : Nat) (w : World) (hb : BookIn w ao bs cap) (hs : Cells w asm vs) (hr : RowsV w vs xss) (hls : xss.length ≤ 9223372036854775807) :
    Calls Tryz.prog 27 #[.slice ao bs.length cap, .agg #[.int .i64 st, .slice asm xss.length cs]] w fun e w' => e = .returned (.int .i64 (frmErr bs st xss)) ∧ Below w.heap.size w w' := by
  have HB := Lib.hid hb; have HS := Lib.hid hs; have HR := Lib.hid hr
  have hlen := hb.len
  clear hs hr hb
  have hck := fun wx (h : BookIn wx ao bs cap) => refCheckBook_any ao bs cap wx h.in0
  have HCK := Lib.hid hck; clear hck
  by_cases h1 : bookErr bs = 0
  · have hok := bookErr_zero h1
    have hfr := fun wx h2 h3 h4 => refFrame_any ao bs cap st asm vs xss cs wx h2 hlen h3 h4 hls hok
    have HFR := Lib.hid hfr; clear hfr hok
    have he : frmErr bs st xss = if frOK bs st xss then 0 else 51 := by simp [frmErr, h1]
    have HE := Lib.hid he; have H1 := Lib.hid h1; clear he h1
    cases h2 : frOK bs st xss
    all_goals
      have H2 := Lib.hid h2
      go_enter Tryz.func27, Tryz.ntmps27
      go_wp2_with fail
      refine (HCK.out _ (HB.out.below ((Below.refl _ _).alloc (Nat.le_refl _) _) (Nat.le_refl _))).mono ?_
      rintro e w1 ⟨rfl, hb1⟩
      rw [H1.out]
      have hbw : Below w.heap.size w w1 := ((Below.refl _ _).alloc (Nat.le_refl _) _).trans (hb1.mono (by simp))
      have q0 : w1.cell? ⟨w.heap.size, 0, none⟩ = some (.int .i64 st) := box_keep hb1 (by simp) 0
      have q1 : w1.cell? ⟨w.heap.size, 1, none⟩ = some (.slice asm xss.length cs) := box_keep hb1 (by simp) 1
      go_wp2_with fail
      refine (HFR.out _ (HB.out.below hbw (Nat.le_refl _)).cells (HS.out.below hbw (Nat.le_refl _)) (HR.out.below hbw (Nat.le_refl _))).mono ?_
      rintro e w2 ⟨rfl, hb2⟩
      go_wp2
      go_ret
      exact ⟨ret_int (by rw [HE.out, H2.out]; rfl), hbw.trans (hb2.mono hbw.size)⟩
  · have he : frmErr bs st xss = bookErr bs := by simp [frmErr, h1]
    have h3 : (bookErr bs != 0) = true := by simpa using h1
    have h4 : (bookErr bs == 0) = false := by simpa using h1
    have HE := Lib.hid he; clear he
    go_enter Tryz.func27, Tryz.ntmps27
    go_wp2_with fail
    refine (HCK.out _ (HB.out.below ((Below.refl _ _).alloc (Nat.le_refl _) _) (Nat.le_refl _))).mono ?_
    rintro e w1 ⟨rfl, hb1⟩
    go_wp2
    go_ret
    exact ⟨ret_int HE.out.symm, ((Below.refl _ _).alloc (Nat.le_refl _) _).trans (hb1.mono (by simp))⟩

set_option maxRecDepth 100000 in
theorem refEncode_any (ao : Option Addr) (bs : List Chan) (cap : Nat) (st : Int) (asm : Option Addr) (vs : List Value) (xss : List (List Int)) (cs : Nat) (w : World) (hb : BookIn w ao bs cap) (hs : Cells w asm vs) (hr : RowsV w vs xss) (hls : xss.length ≤ 9223372036854775807) :
    Calls Tryz.prog 31 #[.slice ao bs.length cap, .agg #[.int .i64 st, .slice asm xss.length cs]] w fun e w' => (∃ v, e = .returned (.tuple #[v, .int .i64 (frmErr bs st xss)]) ∧ w'.ownsRow w.heap.size 5 1 v (encRes bs st xss).length (bys (encRes bs st xss))) ∧ Below w.heap.size w w' := by
  have HB := Lib.hid hb; have HS := Lib.hid hs; have HR := Lib.hid hr
  have hlen := hb.len
  clear hs hr hb
  have hck := fun wx h1 h2 h3 => refCheckFrame_any ao bs cap st asm vs xss cs wx h1 h2 h3 hls
  have HCK := Lib.hid hck; clear hck
  by_cases h1 : frmErr bs st xss = 0
  · have he : encRes bs st xss = encB st xss := by rw [encRes, if_pos h1]
    obtain ⟨_, z1, z2, z3, z4, z5, z6⟩ := frmErr_zero h1
    have hen := fun wx h1 h2 => refCode_any st asm vs xss cs wx h1 h2 (by omega) z3 z4 z5 z6
    rw [z2] at HCK hen ⊢
    have HEN := Lib.hid hen; have HE := Lib.hid he; have H1 := Lib.hid h1
    clear hen he h1 z1 z2 z3 z4 z5 z6 hls
    go_enter Tryz.func31, Tryz.ntmps31
    go_wp2_with fail
    have hb0 := (Below.refl w.heap.size w).alloc (Nat.le_refl _) (.cells #[.int .i64 st, .slice asm bs.length cs] 43)
    refine (HCK.out _ (HB.out.below hb0 (Nat.le_refl _)) (HS.out.below hb0 (Nat.le_refl _)) (HR.out.below hb0 (Nat.le_refl _))).mono ?_
    rintro e w1 ⟨rfl, hb1⟩
    rw [H1.out]
    have q0 : w1.cell? ⟨w.heap.size, 0, none⟩ = some (.int .i64 st) := box_keep hb1 (by simp) 0
    have q1 : w1.cell? ⟨w.heap.size, 1, none⟩ = some (.slice asm bs.length cs) := box_keep hb1 (by simp) 1
    have hbw := hb0.trans (hb1.mono (by simp))
    go_wp2_with fail
    refine (HEN.out _ (HS.out.below hbw (Nat.le_refl _)) (HR.out.below hbw (Nat.le_refl _))).mono ?_
    rintro e w2 ⟨⟨v, rfl, hown⟩, hb2⟩
    have HO := Lib.hid (own_base hown hbw.size)
    have hfin := hbw.trans (hb2.mono hbw.size)
    clear hown hb0 hb1 hbw hb2
    go_wp2
    go_ret2
    exact ⟨⟨v, by rw [H1.out]; rfl, by rw [HE.out]; exact HO.out⟩, hfin⟩
  · have he : encRes bs st xss = [] := by rw [encRes, if_neg h1]
    have h3 : (frmErr bs st xss != 0) = true := by simpa using h1
    have h4 : (frmErr bs st xss == 0) = false := by simpa using h1
    have HE := Lib.hid he; clear he
    go_enter Tryz.func31, Tryz.ntmps31
    go_wp2_with fail
    have hb0 := (Below.refl w.heap.size w).alloc (Nat.le_refl _) (.cells #[.int .i64 st, .slice asm xss.length cs] 43)
    refine (HCK.out _ (HB.out.below hb0 (Nat.le_refl _)) (HS.out.below hb0 (Nat.le_refl _)) (HR.out.below hb0 (Nat.le_refl _))).mono ?_
    rintro e w1 ⟨rfl, hb1⟩
    have hbw := hb0.trans (hb1.mono (by simp))
    go_wp2
    go_ret2
    exact ⟨⟨_, rfl, by rw [HE.out]; exact World.ownsRow_nil _ _ _ _⟩, hbw⟩

/-- the codes of the first frames; of a record -/
def packTo (l : List Frm) (k : Nat) : List Nat := (l.take k).flatMap fun f => encB f.st f.xss
def packRes (bs : List Chan) (l : List Frm) : List Nat := if recErr bs l = 0 then l.flatMap fun f => encB f.st f.xss else []
theorem packTo_succ {l : List Frm} {k : Nat} {f : Frm} (h : l[k]? = some f) : packTo l (k + 1) = packTo l k ++ encB f.st f.xss := by
  rw [packTo, take_get h, List.flatMap_append]; simp [packTo]
theorem encB_length (st : Int) (xss : List (List Int)) (hl : xss.length ≤ 16) (hxl : ∀ xs ∈ xss, xs.length ≤ 64) : (encB st xss).length ≤ 6800 := by
  have hfl := flat_encC xss 64 hxl
  have h1 : (octs (frBits st xss)).length ≤ 6700 := by
    rw [octs_len, frBits, List.length_append, binL_length]; omega
  have h24 : ∀ n : Int, (octs (binL n 24)).length = 3 := fun n => by rw [octs_len, binL_length]
  have h16 : ∀ n : Int, (octs (binL n 16)).length = 2 := fun n => by rw [octs_len, binL_length]
  rw [encB, List.length_append, h24, hdB, List.length_append, List.length_append, h16]
  simp only [List.length_cons, List.length_nil]; omega
theorem packTo_le {bs : List Chan} (l : List Frm) (k : Nat) (h : ∀ f ∈ l, frmErr bs f.st f.xss = 0) : (packTo l k).length ≤ 6800 * k := by
  induction k with
  | zero => simp [packTo]
  | succ k ih =>
    by_cases hk : k < l.length
    · obtain ⟨f, hf⟩ := get_of_lt hk
      obtain ⟨_, z1, z2, _, _, z5, _⟩ := frmErr_zero (h f (List.mem_of_getElem? hf))
      have := encB_length f.st f.xss (by omega) z5
      rw [packTo_succ hf, List.length_append]; omega
    · have : packTo l (k + 1) = packTo l k := by rw [packTo, packTo, List.take_of_length_le (by omega), List.take_of_length_le (by omega)]
      rw [this]; omega

set_option maxRecDepth 100000 in
set_option maxHeartbeats 1000000 in
theorem pack_any (ao : Option Addr) (bs : List Chan) (cap : Nat) (al : Option Addr) (l : List Frm) (cl : Nat) (w : World) (hb : BookIn w ao bs cap) (hr : RecIn w al l) :
    Calls Tryz.prog 32 #[.slice ao bs.length cap, .slice al l.length cl] w fun e w' => (∃ v, e = .returned (.tuple #[v, .int .i64 (recErr bs l)]) ∧ w'.ownsRow w.heap.size 5 1 v (packRes bs l).length (bys (packRes bs l))) ∧ Below w.heap.size w w' := by
  have hck := checkRecord_any ao bs cap al l cl w hb hr
  have HCK := Lib.hid hck; have HR := Lib.hid hr; have HB := Lib.hid hb
  have hlen := hr.len
  clear hck hr hb
  by_cases h1 : recErr bs l = 0
  · have he : packRes bs l = packTo l l.length := by rw [packRes, if_pos h1, packTo, List.take_length]
    obtain ⟨y5, y4, y6, _⟩ := recErr_zero h1
    have hfz : ∀ f ∈ l, frmErr bs f.st f.xss = 0 := fun f hf => by rw [frmErr, if_neg (by simpa using y5), if_pos (y6 f hf)]
    have HE := Lib.hid he; have H1 := Lib.hid h1; have HFZ := Lib.hid hfz
    have HPL := Lib.hid (fun k => packTo_le l k hfz)
    obtain ⟨i0, hi, hz0, hz1, hz2⟩ := info_parts Tryz.infoByte
    clear he h1 y5 y6 hfz
    go_enter Tryz.func32, Tryz.ntmps32
    go_wp2_with fail
    refine HCK.out.mono ?_
    rintro e w1 ⟨rfl, hb1⟩
    rw [H1.out]
    have HR1 := Lib.hid (HR.out.below hb1 (Nat.le_refl _))
    have hw1 := hb1.size
    have hrf := Below.refl w1.heap.size w1
    go_wp2_with fail
    go_loopw [7, 18] (fun v i wr => ∃ k : Nat, k ≤ l.length ∧ i = .int .i64 k ∧ wr.ownsRow w1.heap.size 5 1 v (packTo l k).length (bys (packTo l k)) ∧ Below w1.heap.size w1 wr) (fun _ i _ => l.length - (intOf i).toNat)
    case atStart => exact ⟨0, Nat.zero_le _, rfl, World.ownsRow_nil _ _ _ _, hrf⟩
    case round =>
      clear hrf
      obtain ⟨k, hk, rfl, hown, hbr⟩ := hrel
      have HO := Lib.hid hown; clear hown
      have hz := hbr.size
      have hpl := HPL.out k
      by_cases hlt : k < l.length
      · obtain ⟨⟨xst, xa, xc, xss⟩, hx⟩ := get_of_lt hlt
        have hmem := List.mem_of_getElem? hx
        have hst := packTo_succ hx
        obtain ⟨_, z1, z2, z3, z4, z5, z6⟩ := frmErr_zero (HFZ.out _ hmem)
        simp only at z1 z2 z3 z4 z5 z6 hst
        have hel := encB_length xst xss (by omega) z5
        obtain ⟨bl, ol, rfl⟩ := HR1.out.cells.addr (frs_ne (by omega))
        have d0 := cell_keep (HR1.out.cells.at (frs_get hx).1) hbr (Nat.le_refl _)
        have d1 := cell_keep (HR1.out.cells.at (frs_get hx).2) hbr (Nat.le_refl _)
        rw [← Nat.add_assoc] at d1
        obtain ⟨_, vs, hvs, hrv⟩ := HR1.out.rows _ hmem
        simp only at d0 d1 hvs hrv
        rw [z2] at d1
        have hen := fun wx h1 h2 => encode_any ao bs.length cap xst xa vs xss xc wx z1 z2 h1 h2 z3 z4 z5 z6
        skip
        have HEN := Lib.hid hen; have HST := Lib.hid hst
        have hba : Below w1.heap.size w1 (wr.alloc (.cells #[.int .i64 xst, .slice xa bs.length xc] 43)) := hbr.alloc hz _
        have HVS := Lib.hid (hvs.below hba (Nat.le_refl _)); have HRV := Lib.hid (hrv.below hba (Nat.le_refl _))
        have HOA : Hid ((wr.alloc (.cells #[.int .i64 xst, .slice xa bs.length xc] 43)).ownsRow w1.heap.size 5 1 u7 (packTo l k).length (bys (packTo l k))) := Lib.hid (HO.out.alloc _)
        have hza := hba.size
        have i1 : (k : Int) < l.length := by omega
        have i2 : (0 : Int) ≤ k := by omega
        clear hen hst hvs hrv hx hmem z1 z2 z3 z4 z5 z6
        go_wp2_with fail
        refine (HEN.out _ HVS.out HRV.out).mono ?_
        rintro e w2 ⟨⟨v2, rfl, ho2⟩, hb2⟩
        have HO2 := Lib.hid ho2
        have HOL := Lib.hid (own_below HOA.out hb2 (Nat.le_refl _))
        have hbb := hba.trans (hb2.mono hza)
        have hzz := hbb.size
        clear ho2 hb2
        go_wp2_with (at_builtin; refine wpList_append_two rfl _ _ 48 rfl w1.heap.size 5 i0 (.int .u8 0) 1 1 Tryz.underlying48 hi hz0 hz1 hz2 rfl (by decide) _ _ _ rfl HOL.out _ _ _ _ rfl HO2.out (bys_one _) (by unfold maxLen; omega) (by omega) (by omega) ?_; intro v3 wz hown3 hgrow _)
        have hbz := hbb.grown hgrow (by omega) (fun j e => (HOL.out.lt j e).1)
        have hfin : wz.ownsRow w1.heap.size 5 1 v3 (packTo l (k + 1)).length (bys (packTo l (k + 1))) := by
          rw [HST.out, List.length_append, bys_append]; exact hown3
        have HF := Lib.hid hfin
        clear hown3 hgrow hfin
        go_wp2
        go_roundw
        case rel => exact ⟨k + 1, by omega, by go_num, HF.out, hbz⟩
        case measure => simp [intOf]; omega
      · obtain rfl : k = l.length := by omega
        have hbf := hb1.trans (hbr.mono hw1)
        go_wp2
        go_ret2
        exact ⟨⟨_, by rw [H1.out]; rfl, by rw [HE.out]; exact own_base HO.out hw1⟩, hbf⟩
  · have he : packRes bs l = [] := by rw [packRes, if_neg h1]
    have h3 : (recErr bs l != 0) = true := by simpa using h1
    have h4 : (recErr bs l == 0) = false := by simpa using h1
    have HE := Lib.hid he; clear he
    go_enter Tryz.func32, Tryz.ntmps32
    go_wp2_with fail
    refine HCK.out.mono ?_
    rintro e w1 ⟨rfl, hb1⟩
    go_wp2
    go_ret2
    exact ⟨⟨_, rfl, by rw [HE.out]; exact World.ownsRow_nil _ _ _ _⟩, hb1⟩

set_option maxRecDepth 100000 in
set_option maxHeartbeats 1000000 in
theorem refPack_any (ao : Option Addr) (bs : List Chan) (cap : Nat) (al : Option Addr) (l : List Frm) (cl : Nat) (w : World) (hb : BookIn w ao bs cap) (hr : RecIn w al l) :
    Calls Tryz.prog 33 #[.slice ao bs.length cap, .slice al l.length cl] w fun e w' => (∃ v, e = .returned (.tuple #[v, .int .i64 (recErr bs l)]) ∧ w'.ownsRow w.heap.size 5 1 v (packRes bs l).length (bys (packRes bs l))) ∧ Below w.heap.size w w' := by
  have hck := refCheckRecord_any ao bs cap al l cl w hb hr
  have HCK := Lib.hid hck; have HR := Lib.hid hr; have HB := Lib.hid hb
  have hlen := hr.len
  clear hck hr hb
  by_cases h1 : recErr bs l = 0
  · have he : packRes bs l = packTo l l.length := by rw [packRes, if_pos h1, packTo, List.take_length]
    obtain ⟨y5, y4, y6, _⟩ := recErr_zero h1
    have hfz : ∀ f ∈ l, frmErr bs f.st f.xss = 0 := fun f hf => by rw [frmErr, if_neg (by simpa using y5), if_pos (y6 f hf)]
    have HE := Lib.hid he; have H1 := Lib.hid h1; have HFZ := Lib.hid hfz
    have HPL := Lib.hid (fun k => packTo_le l k hfz)
    obtain ⟨i0, hi, hz0, hz1, hz2⟩ := info_parts Tryz.infoByte
    clear he h1 y5 y6 hfz
    go_enter Tryz.func33, Tryz.ntmps33
    go_wp2_with fail
    refine HCK.out.mono ?_
    rintro e w1 ⟨rfl, hb1⟩
    rw [H1.out]
    have HR1 := Lib.hid (HR.out.below hb1 (Nat.le_refl _))
    have hw1 := hb1.size
    have hrf := Below.refl w1.heap.size w1
    go_wp2_with fail
    go_loopw [7, 8] (fun v i wr => ∃ k : Nat, k ≤ l.length ∧ i = .int .i64 k ∧ wr.ownsRow w1.heap.size 5 1 v (packTo l k).length (bys (packTo l k)) ∧ Below w1.heap.size w1 wr) (fun _ i _ => l.length - (intOf i).toNat)
    case atStart => exact ⟨0, Nat.zero_le _, rfl, World.ownsRow_nil _ _ _ _, hrf⟩
    case round =>
      clear hrf
      obtain ⟨k, hk, rfl, hown, hbr⟩ := hrel
      have HO := Lib.hid hown; clear hown
      have hz := hbr.size
      have hpl := HPL.out k
      by_cases hlt : k < l.length
      · obtain ⟨⟨xst, xa, xc, xss⟩, hx⟩ := get_of_lt hlt
        have hmem := List.mem_of_getElem? hx
        have hst := packTo_succ hx
        obtain ⟨_, z1, z2, z3, z4, z5, z6⟩ := frmErr_zero (HFZ.out _ hmem)
        simp only at z1 z2 z3 z4 z5 z6 hst
        have hel := encB_length xst xss (by omega) z5
        obtain ⟨bl, ol, rfl⟩ := HR1.out.cells.addr (frs_ne (by omega))
        have d0 := cell_keep (HR1.out.cells.at (frs_get hx).1) hbr (Nat.le_refl _)
        have d1 := cell_keep (HR1.out.cells.at (frs_get hx).2) hbr (Nat.le_refl _)
        rw [← Nat.add_assoc] at d1
        obtain ⟨_, vs, hvs, hrv⟩ := HR1.out.rows _ hmem
        simp only at d0 d1 hvs hrv
        rw [z2] at d1
        have hen := fun wx h1 h2 => refCode_any xst xa vs xss xc wx h1 h2 (by omega) z3 z4 z5 z6
        rw [z2] at hen
        have HEN := Lib.hid hen; have HST := Lib.hid hst
        have hba : Below w1.heap.size w1 wr := hbr
        have HVS := Lib.hid (hvs.below hba (Nat.le_refl _)); have HRV := Lib.hid (hrv.below hba (Nat.le_refl _))
        have HOA : Hid (wr.ownsRow w1.heap.size 5 1 u7 (packTo l k).length (bys (packTo l k))) := HO
        have hza := hba.size
        have i1 : (k : Int) < l.length := by omega
        have i2 : (0 : Int) ≤ k := by omega
        clear hen hst hvs hrv hx hmem z1 z2 z3 z4 z5 z6
        go_wp2_with fail
        refine (HEN.out _ HVS.out HRV.out).mono ?_
        rintro e w2 ⟨⟨v2, rfl, ho2⟩, hb2⟩
        have HO2 := Lib.hid ho2
        have HOL := Lib.hid (own_below HOA.out hb2 (Nat.le_refl _))
        have hbb := hba.trans (hb2.mono hza)
        have hzz := hbb.size
        clear ho2 hb2
        go_wp2_with (at_builtin; refine wpList_append_two rfl _ _ 48 rfl w1.heap.size 5 i0 (.int .u8 0) 1 1 Tryz.underlying48 hi hz0 hz1 hz2 rfl (by decide) _ _ _ rfl HOL.out _ _ _ _ rfl HO2.out (bys_one _) (by unfold maxLen; omega) (by omega) (by omega) ?_; intro v3 wz hown3 hgrow _)
        have hbz := hbb.grown hgrow (by omega) (fun j e => (HOL.out.lt j e).1)
        have hfin : wz.ownsRow w1.heap.size 5 1 v3 (packTo l (k + 1)).length (bys (packTo l (k + 1))) := by
          rw [HST.out, List.length_append, bys_append]; exact hown3
        have HF := Lib.hid hfin
        clear hown3 hgrow hfin
        go_wp2
        go_roundw
        case rel => exact ⟨k + 1, by omega, by go_num, HF.out, hbz⟩
        case measure => simp [intOf]; omega
      · obtain rfl : k = l.length := by omega
        have hbf := hb1.trans (hbr.mono hw1)
        go_wp2
        go_ret2
        exact ⟨⟨_, by rw [H1.out]; rfl, by rw [HE.out]; exact own_base HO.out hw1⟩, hbf⟩
  · have he : packRes bs l = [] := by rw [packRes, if_neg h1]
    have h3 : (recErr bs l != 0) = true := by simpa using h1
    have h4 : (recErr bs l == 0) = false := by simpa using h1
    have HE := Lib.hid he; clear he
    go_enter Tryz.func33, Tryz.ntmps33
    go_wp2_with fail
    refine HCK.out.mono ?_
    rintro e w1 ⟨rfl, hb1⟩
    go_wp2
    go_ret2
    exact ⟨⟨_, rfl, by rw [HE.out]; exact World.ownsRow_nil _ _ _ _⟩, hb1⟩
end Go.Proofs.YtoochleabcjljaaGreatDoor

/- sameBands. -/
namespace Go.Proofs.YtoochleabcjljaaGreatDoor
open Go.RowKit

/-- sameBands: are two lists of pairs the same? -/
theorem sameBands_any (aa ab : Option Addr) (xs ys : List (Int × Int)) (ca cb : Nat) (w : World) (ha : Cells w aa (prs xs)) (hb : Cells w ab (prs ys)) (hl : xs.length ≤ 9223372036854775807) (hl' : ys.length ≤ 9223372036854775807) :
    Calls Tryz.prog 65 #[.slice aa xs.length ca, .slice ab ys.length cb] w fun e w' => e = .returned (.bool (decide (xs = ys))) ∧ Below w.heap.size w w' := by
  by_cases hlen : xs.length = ys.length
  · have h1 : ((xs.length : Int) != ys.length) = false := by simp [hlen]
    have hlt : (ys.length : Int) ≤ xs.length := by omega
    have HL := Lib.hid hlen; clear hlen
    go_enter Tryz.func65, Tryz.ntmps65
    go_wp2
    go_loopw [5] (fun i wr => ∃ k : Nat, k ≤ xs.length ∧ i = .int .i64 k ∧ xs.take k = ys.take k ∧ Below w.heap.size w wr) (fun i _ => xs.length - (intOf i).toNat)
    case atStart => exact ⟨0, Nat.zero_le _, rfl, rfl, Below.refl _ _⟩
    case round =>
      obtain ⟨k, hk, rfl, heq, hbe⟩ := hrel
      have HQ := Lib.hid heq; clear heq
      by_cases hlt : k < xs.length
      · have hlt2 : k < ys.length := by have := HL.out; omega
        obtain ⟨⟨x1, x2⟩, hx⟩ := get_of_lt hlt
        obtain ⟨⟨y1, y2⟩, hy⟩ := get_of_lt hlt2
        obtain ⟨b, off, rfl⟩ := ha.addr (prs_ne (by omega))
        obtain ⟨b2, off2, rfl⟩ := hb.addr (prs_ne (by omega))
        have c1 := cell_keep (ha.at (prs_fst hx)) hbe (Nat.le_refl _)
        have c2 := cell_keep (ha.at (prs_snd hx)) hbe (Nat.le_refl _)
        have c3 := cell_keep (hb.at (prs_fst hy)) hbe (Nat.le_refl _)
        have c4 := cell_keep (hb.at (prs_snd hy)) hbe (Nat.le_refl _)
        rw [← Nat.add_assoc] at c2 c4
        simp only at c1 c2 c3 c4
        have i1 : (k : Int) < xs.length := by omega
        have i2 : (k : Int) < ys.length := by omega
        have i3 : (0 : Int) ≤ k := by omega
        by_cases hxy : x1 = y1 ∧ x2 = y2
        · obtain ⟨rfl, rfl⟩ := hxy
          have ht : xs.take (k + 1) = ys.take (k + 1) := by rw [take_get hx, take_get hy, HQ.out]
          have HT := Lib.hid ht; clear ht hx hy
          go_wp2
          go_quiet (fail)
          go_wp2
          go_roundw
          case rel => exact ⟨k + 1, by omega, by go_num, HT.out, bel_drewN hbe _⟩
          case measure => simp [intOf]; omega
        · have hne : decide (xs = ys) = false := by
            rw [decide_eq_false_iff_not]; rintro rfl
            rw [hx] at hy; simp at hy; exact hxy hy
          have HNE := Lib.hid hne; clear hne hx hy
          by_cases hx1 : x1 = y1
          · obtain rfl := hx1
            have hb1 : (x2 == y2) = false := by simpa using hxy
            go_wp2
            go_quiet (fail)
            go_wp2
            go_ret
            exact ⟨ret_bool HNE.out.symm, bel_drewN hbe _⟩
          · have hb1 : (x1 == y1) = false := by simpa using hx1
            go_wp2
            go_quiet (fail)
            go_wp2
            go_ret
            exact ⟨ret_bool HNE.out.symm, bel_drewN hbe _⟩
      · obtain rfl : k = xs.length := by omega
        have he : decide (xs = ys) = true := by
          rw [decide_eq_true_iff]
          have := HQ.out
          rw [List.take_length, HL.out, List.take_length] at this; exact this
        have HE := Lib.hid he; clear he
        go_wp2
        go_ret
        exact ⟨ret_bool HE.out.symm, hbe⟩
  · have h1 : ((xs.length : Int) != ys.length) = true := by simp; omega
    have he : decide (xs = ys) = false := by
      rw [decide_eq_false_iff_not]; rintro rfl; exact hlen rfl
    have HE := Lib.hid he; clear he
    go_enter Tryz.func65, Tryz.ntmps65
    go_wp2
    go_ret
    exact ⟨ret_bool HE.out.symm, Below.refl _ _⟩
end Go.Proofs.YtoochleabcjljaaGreatDoor

/- Examples: SameInts, the book. -/
namespace Go.Proofs.YtoochleabcjljaaGreatDoor
open Go.RowKit

/-- SameInts: are two lists of numbers the same? -/
theorem sameInts_any (aa ab : Option Addr) (xs ys : List Int) (ca cb : Nat) (w : World) (ha : Cells w aa (xs.map (Value.int .i64))) (hb : Cells w ab (ys.map (Value.int .i64))) (hl : xs.length ≤ 9223372036854775807) (hl' : ys.length ≤ 9223372036854775807) :
    Calls Tryz.prog 17 #[.slice aa xs.length ca, .slice ab ys.length cb] w fun e w' => e = .returned (.bool (decide (xs = ys))) ∧ Below w.heap.size w w' := by
  by_cases hlen : xs.length = ys.length
  · have h1 : ((xs.length : Int) != ys.length) = false := by simp [hlen]
    have hlt : (ys.length : Int) ≤ xs.length := by omega
    have HL := Lib.hid hlen; clear hlen
    have HA := Lib.hid ha; have HB := Lib.hid hb; clear ha hb
    go_enter Tryz.func17, Tryz.ntmps17
    go_wp2
    go_loopw [5] (fun i wr => ∃ k : Nat, k ≤ xs.length ∧ i = .int .i64 k ∧ xs.take k = ys.take k ∧ Below w.heap.size w wr) (fun i _ => xs.length - (intOf i).toNat)
    case atStart => exact ⟨0, Nat.zero_le _, rfl, rfl, Below.refl _ _⟩
    case round =>
      obtain ⟨k, hk, rfl, heq, hbe⟩ := hrel
      have HQ := Lib.hid heq; clear heq
      by_cases hlt : k < xs.length
      · have hlt2 : k < ys.length := by have := HL.out; omega
        obtain ⟨x, hx⟩ := get_of_lt hlt
        obtain ⟨y, hy⟩ := get_of_lt hlt2
        obtain ⟨b, off, rfl⟩ := HA.out.addr (by simpa using List.ne_nil_of_length_pos (by omega))
        obtain ⟨b2, off2, rfl⟩ := HB.out.addr (by simpa using List.ne_nil_of_length_pos (by omega))
        have c1 := cell_keep (HA.out.int hx) hbe (Nat.le_refl _)
        have c2 := cell_keep (HB.out.int hy) hbe (Nat.le_refl _)
        have i1 : (k : Int) < xs.length := by omega
        have i2 : (k : Int) < ys.length := by omega
        have i3 : (0 : Int) ≤ k := by omega
        by_cases hxy : x = y
        · obtain rfl := hxy
          have ht : xs.take (k + 1) = ys.take (k + 1) := by rw [take_get hx, take_get hy, HQ.out]
          have HT := Lib.hid ht; clear ht hx hy
          go_wp2
          go_quiet (fail)
          go_wp2
          go_roundw
          case rel => exact ⟨k + 1, by omega, by go_num, HT.out, bel_drewN hbe _⟩
          case measure => simp [intOf]; omega
        · have hne : decide (xs = ys) = false := by
            rw [decide_eq_false_iff_not]; rintro rfl
            rw [hx] at hy; simp at hy; exact hxy hy
          have HNE := Lib.hid hne; clear hne hx hy
          have hb1 : (x == y) = false := by simpa using hxy
          have hb2 : (x != y) = true := by simpa using hxy
          go_wp2
          go_quiet (fail)
          go_wp2
          go_ret
          exact ⟨ret_bool HNE.out.symm, bel_drewN hbe _⟩
      · obtain rfl : k = xs.length := by omega
        have he : decide (xs = ys) = true := by
          rw [decide_eq_true_iff]
          have := HQ.out
          rw [List.take_length, HL.out, List.take_length] at this; exact this
        have HE := Lib.hid he; clear he
        go_wp2
        go_ret
        exact ⟨ret_bool HE.out.symm, hbe⟩
  · have h1 : ((xs.length : Int) != ys.length) = true := by simp; omega
    have he : decide (xs = ys) = false := by
      rw [decide_eq_false_iff_not]; rintro rfl; exact hlen rfl
    have HE := Lib.hid he; clear he
    go_enter Tryz.func17, Tryz.ntmps17
    go_wp2
    go_ret
    exact ⟨ret_bool HE.out.symm, Below.refl _ _⟩

/-- the book of the examples -/
def bookX : List Chan := [⟨⟨#[101, 114, 114]⟩, 4, 8⟩, ⟨⟨#[97, 117, 120]⟩, 1, 4⟩]
theorem book_any (w : World) :
    Calls Tryz.prog 52 #[] w fun e w' => e = .returned (.slice (some ⟨w.heap.size, 0, none⟩) 2 2) ∧ w' = w.alloc (.cells #[.string ⟨#[101, 114, 114]⟩, .int .i64 4, .int .i64 8, .string ⟨#[97, 117, 120]⟩, .int .i64 1, .int .i64 4] 106) := by
  go_enter Tryz.func52, Tryz.ntmps52
  go_wp2
  go_ret
  exact ⟨rfl, rfl⟩
end Go.Proofs.YtoochleabcjljaaGreatDoor

/- Lines: amplitude. -/
namespace Go.Proofs.YtoochleabcjljaaGreatDoor
open Go.RowKit

def ampN (sh xs : List Int) : Nat → Int
  | 0 => 0
  | t + 1 => ampN sh xs t + xs.getD t 0 * sh.getD (t % sh.length) 0
def ampD (sh : List Int) : Nat → Int
  | 0 => 0
  | t + 1 => ampD sh t + sh.getD (t % sh.length) 0 * sh.getD (t % sh.length) 0
/-- the whole periods -/
def whole (sh xs : List Int) : Nat := xs.length / sh.length * sh.length

theorem amp_bd {sh xs : List Int} (h : linedErr sh xs = 0) (t : Nat) (ht : t ≤ xs.length) :
    -(8388608000 * (t : Int)) ≤ ampN sh xs t ∧ ampN sh xs t ≤ 8388608000 * (t : Int) ∧ 0 ≤ ampD sh t ∧ ampD sh t ≤ 1000000 * (t : Int) := by
  obtain ⟨h1, h2⟩ := linedErr_zero h
  obtain ⟨a1, a2, _, a3⟩ := lineErr_zero h1
  obtain ⟨b1, b2⟩ := serErr_zero h2
  induction t with
  | zero => simp [ampN, ampD]
  | succ t ih =>
    have ih := ih (by omega)
    have hm : t % sh.length < sh.length := Nat.mod_lt _ (by omega)
    have m1 := a3 (sh.getD (t % sh.length) 0) (by rw [List.getD_eq_getElem?_getD, List.getElem?_eq_getElem hm]; exact List.getElem_mem _)
    have m2 := b2 (xs.getD t 0) (by rw [List.getD_eq_getElem?_getD, List.getElem?_eq_getElem (by omega)]; exact List.getElem_mem _)
    have p1 := mul_bd (A := 8388608) (X := 1000) m2.1 m2.2 m1.1 m1.2
    have p2 := mul_bd (A := 1000) (X := 1000) m1.1 m1.2 m1.1 m1.2
    have p3 : 0 ≤ sh.getD (t % sh.length) 0 * sh.getD (t % sh.length) 0 := by
      rcases Int.le_total 0 (sh.getD (t % sh.length) 0) with h | h
      · exact Int.mul_nonneg h h
      · exact Int.mul_nonneg_of_nonpos_of_nonpos h h
    simp only [ampN, ampD]
    push_cast
    omega

theorem whole_le (sh xs : List Int) : whole sh xs ≤ xs.length := Nat.div_mul_le_self _ _

set_option maxRecDepth 100000 in
set_option maxHeartbeats 1000000 in
theorem amplitude_any (ao : Option Addr) (sh : List Int) (cap : Nat) (ax : Option Addr) (xs : List Int) (cx : Nat) (w : World) (hc : Cells w ao (sh.map (Value.int .i64))) (hx : Cells w ax (xs.map (Value.int .i64))) (h : linedErr sh xs = 0) :
    Calls Tryz.prog 60 #[.slice ao sh.length cap, .slice ax xs.length cx] w fun e w' => e = .returned (.tuple #[.int .i64 (ampN sh xs (whole sh xs)), .int .i64 (ampD sh (whole sh xs))]) ∧ w = w' := by
  have HC := Lib.hid hc; clear hc
  have HX := Lib.hid hx; clear hx
  obtain ⟨h1, h2⟩ := linedErr_zero h
  obtain ⟨a1, a2, _, a3⟩ := lineErr_zero h1
  obtain ⟨b1, b2⟩ := serErr_zero h2
  have HB := Lib.hid (fun t ht => amp_bd h t ht)
  have A3 := Lib.hid a3; clear a3
  have B2 := Lib.hid b2; clear b2
  have hw := whole_le sh xs
  have hw0 : ((xs.length : Int) / sh.length) * sh.length = (whole sh xs : Nat) := by simp [whole]
  have hw1 : 0 ≤ ((xs.length : Int) / sh.length) * sh.length := by rw [hw0]; omega
  have hw2 : ((xs.length : Int) / sh.length) * sh.length ≤ 4096 := by rw [hw0]; omega
  have hq1 : 0 ≤ (xs.length : Int) / sh.length := Int.ediv_nonneg (by omega) (by omega)
  have hq2 : (xs.length : Int) / sh.length ≤ 4096 := by have := Int.ediv_le_self (a := (xs.length : Int)) (sh.length : Int) (by omega); omega
  have HW := Lib.hid hw0; clear hw0
  have hne : ((sh.length : Int) == 0) = false := by simp; intro e; simp [e] at a1
  clear h h1 h2
  go_enter Tryz.func60, Tryz.ntmps60
  go_wp2
  rw [HW.out]
  clear hw1 hw2 hq1 hq2
  go_loop [4, 5, 16] (fun n d i => ∃ k : Nat, k ≤ whole sh xs ∧ i = .int .i64 k ∧ n = .int .i64 (ampN sh xs k) ∧ d = .int .i64 (ampD sh k)) (fun _ _ i => whole sh xs - (intOf i).toNat)
  case atStart => exact ⟨0, Nat.zero_le _, rfl, rfl, rfl⟩
  case round =>
    obtain ⟨k, hk, rfl, rfl, rfl⟩ := hrel
    obtain ⟨d1, d2, d3, d4⟩ := HB.out k (by omega)
    by_cases hlt : k < whole sh xs
    · obtain ⟨x, hx⟩ := get_of_lt (show k < xs.length by omega)
      have hm0 : k % sh.length < sh.length := Nat.mod_lt _ (by omega)
      obtain ⟨y, hy⟩ := get_of_lt hm0
      obtain ⟨b, off, rfl⟩ := HC.out.addr (by simpa using List.ne_nil_of_length_pos (by omega))
      obtain ⟨bx, ox, rfl⟩ := HX.out.addr (by simpa using List.ne_nil_of_length_pos (by omega))
      have c1 := HX.out.int hx
      have c2 := HC.out.int hy
      have t1 := B2.out _ (List.mem_of_getElem? hx)
      have t2 := A3.out _ (List.mem_of_getElem? hy)
      have p1 := mul_bd t1.1 t1.2 t2.1 t2.2
      have p2 := mul_bd t2.1 t2.2 t2.1 t2.2
      obtain ⟨p11, p12⟩ := p1
      obtain ⟨p21, p22⟩ := p2
      have e1 : ampN sh xs (k + 1) = ampN sh xs k + x * y := by simp [ampN, hx, hy]
      have e2 : ampD sh (k + 1) = ampD sh k + y * y := by simp [ampD, hy]
      have E1 := Lib.hid e1; have E2 := Lib.hid e2; clear e1 e2 hx hy
      go_wp2
      go_round
      case rel => exact ⟨k + 1, by omega, by go_num, by rw [E1.out], by rw [E2.out]⟩
      case measure => simp [intOf]; omega
    · obtain rfl : k = whole sh xs := by omega
      go_wp2
      go_ret2
      exact ⟨rfl, rfl⟩
end Go.Proofs.YtoochleabcjljaaGreatDoor

/- Digits of natural numbers to the base 10^9, the least one first: plain facts. -/
namespace Go.Proofs.YtoochleabcjljaaGreatDoor
def B : Nat := 1000000000

def val : List Nat → Nat
  | [] => 0
  | d :: ds => d + B * val ds

def dig (n : Nat) : List Nat := if n = 0 then [] else n % B :: dig (n / B)
termination_by n
decreasing_by exact Nat.div_lt_self (Nat.pos_of_ne_zero ‹_›) (by decide)

theorem B_pos : 0 < B := by decide
theorem dig_zero : dig 0 = [] := by rw [dig]; simp
theorem dig_pos {n : Nat} (h : n ≠ 0) : dig n = n % B :: dig (n / B) := by rw [dig]; simp [h]

theorem val_dig (n : Nat) : val (dig n) = n := by
  induction n using Nat.strongRecOn with
  | _ n ih =>
    by_cases h : n = 0
    · subst h; simp [dig_zero, val]
    · rw [dig_pos h, val, ih _ (Nat.div_lt_self (Nat.pos_of_ne_zero h) (by decide))]
      exact Nat.mod_add_div n B

def Sm (xs : List Nat) : Prop := ∀ d ∈ xs, d < B

theorem sm_dig (n : Nat) : Sm (dig n) := by
  induction n using Nat.strongRecOn with
  | _ n ih =>
    by_cases h : n = 0
    · subst h; simp [dig_zero, Sm]
    · rw [dig_pos h]
      intro d hd
      rcases List.mem_cons.1 hd with rfl | hd
      · exact Nat.mod_lt _ B_pos
      · exact ih _ (Nat.div_lt_self (Nat.pos_of_ne_zero h) (by decide)) d hd

theorem val_nil : val [] = 0 := rfl
theorem val_cons (d : Nat) (ds : List Nat) : val (d :: ds) = d + B * val ds := rfl

theorem val_append (xs ys : List Nat) : val (xs ++ ys) = val xs + B ^ xs.length * val ys := by
  induction xs with
  | nil => simp [val]
  | cons d ds ih => simp only [List.cons_append, val_cons, ih, List.length_cons, Nat.pow_succ]; rw [Nat.mul_add, Nat.add_assoc, Nat.mul_comm (B ^ ds.length) B, Nat.mul_assoc]

theorem val_snoc (xs : List Nat) (d : Nat) : val (xs ++ [d]) = val xs + B ^ xs.length * d := by
  rw [val_append]; simp [val]

theorem val_lt {xs : List Nat} (h : Sm xs) : val xs < B ^ xs.length := by
  induction xs with
  | nil => simp [val]
  | cons d ds ih =>
    have h1 : d < B := h d (by simp)
    have h2 := ih (fun x hx => h x (by simp [hx]))
    simp only [val_cons, List.length_cons, Nat.pow_succ]
    have : B * (val ds + 1) ≤ B * B ^ ds.length := Nat.mul_le_mul_left _ h2
    rw [Nat.mul_add, Nat.mul_one] at this
    rw [Nat.mul_comm (B ^ ds.length) B]; omega

/-- digits without zeros at the end -/
def Lean_ (xs : List Nat) : Prop := Sm xs ∧ xs.getLast? ≠ some 0

theorem val_eq_zero {xs : List Nat} : val xs = 0 ↔ ∀ d ∈ xs, d = 0 := by
  induction xs with
  | nil => simp [val]
  | cons d ds ih =>
    simp only [val_cons, List.mem_cons, forall_eq_or_imp, ← ih]
    constructor
    · intro h
      have h1 : d = 0 := by omega
      have h2 : B * val ds = 0 := by omega
      refine ⟨h1, ?_⟩
      rcases Nat.mul_eq_zero.1 h2 with h | h
      · exact absurd h (by decide)
      · exact h
    · rintro ⟨rfl, h⟩; simp [h]

theorem dig_val {xs : List Nat} (h : Sm xs) (hl : xs.getLast? ≠ some 0) : dig (val xs) = xs := by
  induction xs with
  | nil => simp [val, dig_zero]
  | cons d ds ih =>
    have h1 : d < B := h d (by simp)
    have hs : Sm ds := fun x hx => h x (by simp [hx])
    have hne : val (d :: ds) ≠ 0 := by
      intro h0
      have h0' := val_eq_zero.1 h0
      have : ((d :: ds).getLast (by simp)) = 0 := h0' _ (List.getLast_mem _)
      exact hl (by rw [List.getLast?_eq_some_getLast (by simp), this])
    rw [dig_pos hne, val_cons]
    have e1 : (d + B * val ds) % B = d := by rw [Nat.add_mul_mod_self_left, Nat.mod_eq_of_lt h1]
    have e2 : (d + B * val ds) / B = val ds := by rw [Nat.add_mul_div_left _ _ B_pos, Nat.div_eq_of_lt h1, Nat.zero_add]
    rw [e1, e2, ih hs]
    cases ds with
    | nil => simp
    | cons x xs => simpa [List.getLast?_cons_cons] using hl

theorem last_dig (n : Nat) : (dig n).getLast? ≠ some 0 := by
  induction n using Nat.strongRecOn with
  | _ n ih =>
    by_cases h : n = 0
    · subst h; simp [dig_zero]
    · rw [dig_pos h]
      have := ih (n / B) (Nat.div_lt_self (Nat.pos_of_ne_zero h) (by decide))
      by_cases h2 : n / B = 0
      · rw [h2, dig_zero]; simp
        have h3 : n < B := by
          rcases Nat.div_eq_zero_iff.1 h2 with h | h
          · exact absurd h (by decide)
          · exact h
        rw [Nat.mod_eq_of_lt h3]; exact h
      · rw [dig_pos h2] at this ⊢
        simpa [List.getLast?_cons_cons] using this

theorem dig_len_pos {n : Nat} : (dig n).length = 0 ↔ n = 0 := by
  by_cases h : n = 0
  · subst h; simp [dig_zero]
  · rw [dig_pos h]; simp [h]

theorem dig_small {n : Nat} (h : n < B) (h0 : n ≠ 0) : dig n = [n] := by
  rw [dig_pos h0, Nat.mod_eq_of_lt h, Nat.div_eq_of_lt h, dig_zero]

theorem lt_pow_len (n : Nat) : n < B ^ (dig n).length := by
  have := val_lt (sm_dig n); rwa [val_dig] at this

theorem pow_len_le {n : Nat} (h : n ≠ 0) : B ^ ((dig n).length - 1) ≤ n := by
  induction n using Nat.strongRecOn with
  | _ n ih =>
    rw [dig_pos h]
    by_cases h2 : n / B = 0
    · rw [h2, dig_zero]; simp; omega
    · have := ih _ (Nat.div_lt_self (Nat.pos_of_ne_zero h) (by decide)) h2
      have hl : (dig (n / B)).length ≠ 0 := by rw [Ne, dig_len_pos]; exact h2
      simp only [List.length_cons, Nat.add_sub_cancel]
      obtain ⟨k, hk⟩ : ∃ k, (dig (n / B)).length = k + 1 := ⟨(dig (n/B)).length - 1, by omega⟩
      rw [hk, Nat.add_sub_cancel] at this
      rw [hk, Nat.pow_succ]
      calc B ^ k * B ≤ n / B * B := Nat.mul_le_mul_right _ this
        _ ≤ n := Nat.div_mul_le_self n B

/-- lengths tell the order -/
theorem lt_of_len {m n : Nat} (h : (dig m).length < (dig n).length) : m < n := by
  have hn : n ≠ 0 := by rintro rfl; simp [dig_zero] at h
  have h1 := lt_pow_len m
  have h2 := pow_len_le hn
  have h3 : B ^ (dig m).length ≤ B ^ ((dig n).length - 1) := Nat.pow_le_pow_right B_pos (by omega)
  omega

theorem dig_len_mono {m n : Nat} (h : m ≤ n) : (dig m).length ≤ (dig n).length := by
  apply Nat.le_of_not_lt
  intro hc
  have := lt_of_len hc
  omega
end Go.Proofs.YtoochleabcjljaaGreatDoor

/- Digits: order, quotients. -/
namespace Go.Proofs.YtoochleabcjljaaGreatDoor

theorem val_split {l : List Nat} {j x : Nat} (hx : l[j]? = some x) : val l = val (l.take j) + B ^ j * (x + B * val (l.drop (j + 1))) := by
  have hj : j < l.length := (List.getElem?_eq_some_iff.1 hx).1
  have h1 : l = l.take j ++ (x :: l.drop (j + 1)) := by
    have := (List.take_append_drop j l).symm
    rw [List.drop_eq_getElem_cons hj, (List.getElem?_eq_some_iff.1 hx).2] at this
    exact this
  have h2 := congrArg val h1
  rw [val_append, val_cons, List.length_take, Nat.min_eq_left (by omega)] at h2
  exact h2

theorem cmp_digit {l1 l2 : List Nat} (h1 : Sm l1) {j x y : Nat} (hx : l1[j]? = some x) (hy : l2[j]? = some y) (hd : l1.drop (j + 1) = l2.drop (j + 1)) (hlt : x < y) : val l1 < val l2 := by
  rw [val_split hx, val_split hy, hd]
  have hj : j < l1.length := (List.getElem?_eq_some_iff.1 hx).1
  have h3 : val (l1.take j) < B ^ j := by
    have := val_lt (xs := l1.take j) (fun d hd => h1 d (List.mem_of_mem_take hd))
    rwa [List.length_take, Nat.min_eq_left (by omega)] at this
  have h4 : B ^ j * (x + 1 + B * val (l2.drop (j + 1))) ≤ B ^ j * (y + B * val (l2.drop (j + 1))) := Nat.mul_le_mul_left _ (by omega)
  have h5 : B ^ j * (x + 1 + B * val (l2.drop (j + 1))) = B ^ j * (x + B * val (l2.drop (j + 1))) + B ^ j := by
    rw [show x + 1 + B * val (l2.drop (j + 1)) = (x + B * val (l2.drop (j + 1))) + 1 from by omega, Nat.mul_add, Nat.mul_one]
  omega

/-- the order, as Go's compare says it -/
def cmpN (m n : Nat) : Int := if m < n then -1 else if n < m then 1 else 0
theorem cmpN_lt {m n : Nat} (h : m < n) : cmpN m n = -1 := by simp [cmpN, h]
theorem cmpN_gt {m n : Nat} (h : n < m) : cmpN m n = 1 := by simp [cmpN, h]; omega
theorem cmpN_eq (n : Nat) : cmpN n n = 0 := by simp [cmpN]

/-- a step of a division by one digit: r the rest of what lies above -/
theorem short_step {H d x : Nat} (hd : 0 < d) : ((H % d) * B + x) / d + B * (H / d) = (x + B * H) / d ∧ ((H % d) * B + x) % d = (x + B * H) % d := by
  have h : x + B * H = ((H % d) * B + x) + d * (B * (H / d)) := by
    have h1 : d * (H / d) + H % d = H := Nat.div_add_mod H d
    have h2 : B * H = B * (d * (H / d)) + B * (H % d) := by rw [← Nat.mul_add, h1]
    rw [h2, Nat.mul_comm (H % d) B, Nat.mul_left_comm d B]; omega
  rw [h, Nat.add_mul_div_left _ _ hd, Nat.add_mul_mod_self_left]
  exact ⟨rfl, rfl⟩

theorem short_dig {r d x : Nat} (hr : r < d) (hx : x < B) : (r * B + x) / d < B := by
  apply Nat.div_lt_of_lt_mul
  have : (r + 1) * B ≤ d * B := Nat.mul_le_mul_right _ hr
  rw [Nat.add_mul] at this; omega
theorem dig_len_val {l : List Nat} (h : Sm l) : (dig (val l)).length ≤ l.length := by
  have h1 := val_lt h
  apply Nat.le_of_not_lt
  intro hc
  have hne : val l ≠ 0 := by
    intro h0; rw [h0, dig_zero] at hc; simp at hc
  have h2 := pow_len_le hne
  have h3 : B ^ l.length ≤ B ^ ((dig (val l)).length - 1) := Nat.pow_le_pow_right B_pos (by omega)
  omega
end Go.Proofs.YtoochleabcjljaaGreatDoor

/- Natural numbers of package num: natural, lean, compare. -/
namespace Go.Proofs.YtoochleabcjljaaGreatDoor
open Go.RowKit

/-- digits, cell by cell -/
def dgs (l : List Nat) : List Value := l.map fun d => Value.int .u64 (d : Nat)
theorem dgs_length (l : List Nat) : (dgs l).length = l.length := by simp [dgs]
theorem dgs_append (a b : List Nat) : dgs (a ++ b) = dgs a ++ dgs b := by simp [dgs]
theorem dgs_ne {l : List Nat} (h : 0 < l.length) : dgs l ≠ [] := by
  intro e; have := dgs_length l; rw [e] at this; simp at this; omega
theorem Cells.dgs {w : World} {b off : Nat} {l : List Nat} (h : Cells w (some ⟨b, off, none⟩) (dgs l)) {i d : Nat} (hd : l[i]? = some d) : w.cell? ⟨b, off + i, none⟩ = some (.int .u64 (d : Nat)) :=
  h.at (by simp [Go.Proofs.YtoochleabcjljaaGreatDoor.dgs, hd])
theorem Cells.take {w : World} {ao : Option Addr} {cs : List Value} (h : Cells w ao cs) (n : Nat) : Cells w ao (cs.take n) := by
  rcases h with h | ⟨b, off, h1, h2⟩
  · exact .inl (by simp [h])
  · refine .inr ⟨b, off, h1, fun j u hu => h2 j u ?_⟩
    rw [List.getElem?_take] at hu
    split at hu
    · exact hu
    · simp at hu
theorem sm_get {l : List Nat} (h : Sm l) {i d : Nat} (hd : l[i]? = some d) : d ≤ 999999999 := by
  have := h d (List.mem_of_getElem? hd); simp only [B] at this; omega

theorem Tryz.infoU64 : (Tryz.prog.info? 187).map (fun i => (i.zero, i.size, i.bytes)) = some (some (.int .u64 0), 1, 8) := by kernel_rfl

/-- an owned row, as a slice, with its capacity -/
theorem own_cap {w : World} {b : Nat} {e : TypeId} {s : Nat} {v : Value} {n : Nat} {xs : List Value} (h : w.ownsRow b e s v n xs) : ∃ a c, v = .slice a n c ∧ Cells w a xs ∧ n ≤ c ∧ c ≤ maxLen := by
  obtain ⟨a, c, hv, hc⟩ := own_cells h
  obtain ⟨h0, h1⟩ := h
  rcases h1 with ⟨h2, h3⟩ | ⟨g, cap, cur, h2, hb, hg, hn, hm, hs, ht⟩
  · rw [h2] at hv; simp at hv
    obtain ⟨rfl, rfl, rfl⟩ := hv
    exact ⟨none, 0, h2, hc, by omega, by unfold maxLen; omega⟩
  · rw [h2] at hv; simp at hv
    obtain ⟨rfl, rfl⟩ := hv
    exact ⟨_, _, h2, hc, hn, hm⟩

theorem dig_len_u64 {n : Nat} (h : n < 18446744073709551616) : (dig n).length ≤ 3 := by
  apply Nat.le_of_not_lt
  intro hc
  have hn : n ≠ 0 := by rintro rfl; simp [dig_zero] at hc
  have h1 := pow_len_le hn
  have h2 : B ^ 3 ≤ B ^ ((dig n).length - 1) := Nat.pow_le_pow_right B_pos (by omega)
  have h3 : B ^ 3 = 1000000000000000000000000000 := by decide
  omega

set_option maxRecDepth 100000 in
theorem natural_any (n : Nat) (w : World) (hn : n < 18446744073709551616) :
    Calls Tryz.prog 136 #[.int .u64 (n : Nat)] w fun e w' => (∃ a c, e = .returned (.slice a (dig n).length c) ∧ Cells w' a (dgs (dig n)) ∧ (dig n).length ≤ c ∧ c ≤ 9223372036854775807) ∧ Below w.heap.size w w' := by
  obtain ⟨i0, hi, hz0, hz1, hz2⟩ := info_parts Tryz.infoU64
  have hlen := dig_len_u64 hn
  have hn1 : n ≤ 18446744073709551615 := by omega
  clear hn
  go_enter Tryz.func136, Tryz.ntmps136
  go_wp2
  go_loopw [3, 0] (fun v m wr => ∃ (ds : List Nat) (k : Nat), m = .int .u64 (k : Nat) ∧ k ≤ n ∧ dig n = ds ++ dig k ∧ wr.ownsRow w.heap.size 187 1 v ds.length (dgs ds) ∧ Below w.heap.size w wr) (fun _ m _ => (intOf m).toNat)
  case atStart => exact ⟨[], n, rfl, Nat.le_refl _, rfl, World.ownsRow_nil _ _ _ _, Below.refl _ _⟩
  case round =>
    obtain ⟨ds, k, rfl, hk, hds, hown, hb⟩ := hrel
    by_cases h0 : k = 0
    · subst h0
      rw [dig_zero, List.append_nil] at hds
      subst hds
      obtain ⟨g, c, rfl, hcs, hc1, hc2⟩ := own_cap hown
      unfold maxLen at hc2
      have HCS := Lib.hid hcs; clear hcs hown
      go_wp2
      go_ret
      exact ⟨⟨g, c, rfl, HCS.out, hc1, hc2⟩, hb⟩
    · have hkp : 0 < (k : Int) := by omega
      have hds2 : dig n = (ds ++ [k % B]) ++ dig (k / B) := by rw [hds, dig_pos h0]; simp
      have hle : ds.length ≤ 2 := by
        have := congrArg List.length hds2
        simp only [List.length_append, List.length_singleton] at this; omega
      have HDS := Lib.hid hds2; clear hds hds2 hlen
      have e1 : ((k : Int) % 1000000000) = ((k % B : Nat) : Int) := by simp [B]
      have e2 : ((k : Int) / 1000000000) = ((k / B : Nat) : Int) := by simp [B]
      have hlt : k / B < k := Nat.div_lt_self (by omega) (by decide)
      have HE1 := Lib.hid e1; have HE2 := Lib.hid e2; clear e1 e2
      have HOB : Hid (∀ j, u3.ownBlock = some j → w.heap.size ≤ j) := fun j e => (hown.lt j e).1
      have hsz := hb.size
      go_wp2_with (at_builtin; refine wpList_append_own _ rfl _ _ 128 rfl w.heap.size 187 i0 (.int .u64 0) 1 8 Tryz.underlying128 hi hz0 hz1 hz2 rfl (by decide) _ _ _ rfl (hown.alloc _) ⟨wr.heap.size, 0, none⟩ 1 1 [.int .u64 ((k : Int) % 1000000000)] rfl rfl (news1 _ _ _) (by simp [Value.oneCell']) (by unfold maxLen; omega) (by omega) (by simp; omega) ?_; intro v1 wz hown1 hgrow _)
      have hfin := hown1
      rw [show dgs ds ++ [.int .u64 ((k : Int) % 1000000000)] = dgs (ds ++ [k % B]) from by rw [dgs_append, HE1.out]; rfl] at hfin
      have hbz := (hb.alloc hsz (.cells #[.int .u64 ((k : Int) % 1000000000)] 187)).grown hgrow (by simp; omega) HOB.out
      clear hown1 hgrow hown
      have HFIN := Lib.hid hfin; clear hfin
      go_wp2
      go_roundw
      case rel => exact ⟨ds ++ [k % B], k / B, by rw [HE2.out], by omega, HDS.out, by simpa using HFIN.out, hbz⟩
      case measure => simp only [intOf]; rw [HE2.out]; simp; omega

/-- zeros at the end go -/
theorem val_take_zero {l : List Nat} {k : Nat} (h0 : l[k]? = some 0) : val (l.take (k + 1)) = val (l.take k) := by
  rw [take_get h0, val_snoc]; simp

/-- a slice's length: for a measure -/
def lenOf : Value → Nat | .slice _ n _ => n | _ => 0

theorem lean_any (ao : Option Addr) (l : List Nat) (c : Nat) (w : World) (hc : Cells w ao (dgs l)) (hs : Sm l) (hl : l.length ≤ 9223372036854775807) (hcap : l.length ≤ c) (hc2 : c ≤ 9223372036854775807) :
    Calls Tryz.prog 192 #[.slice ao l.length c] w fun e w' => (e = .returned (.slice ao (dig (val l)).length c) ∧ Cells w' ao (dgs (dig (val l)))) ∧ w = w' := by
  have HC := Lib.hid hc; clear hc
  have HS := Lib.hid hs; clear hs
  go_enter Tryz.func192, Tryz.ntmps192
  go_wp2
  go_loop [0] (fun v => ∃ k : Nat, k ≤ l.length ∧ v = .slice ao k c ∧ val (l.take k) = val l) (fun v => lenOf v)
  case atStart => exact ⟨l.length, Nat.le_refl _, rfl, by rw [List.take_length]⟩
  case round =>
    obtain ⟨k, hk, rfl, hv⟩ := hrel
    by_cases h0 : k = 0
    · subst h0
      rw [List.take_zero, val_nil] at hv
      have hv2 : dig (val l) = [] := by rw [← hv, dig_zero]
      have HV := Lib.hid hv2; clear hv hv2
      go_wp2
      go_ret
      exact ⟨⟨by rw [HV.out]; rfl, by rw [HV.out]; exact Cells.nil _ _⟩, rfl⟩
    · obtain ⟨j, rfl⟩ : ∃ j, k = j + 1 := ⟨k - 1, by omega⟩
      have hj : j < l.length := by omega
      obtain ⟨d, hd⟩ := get_of_lt hj
      obtain ⟨b, off, rfl⟩ := HC.out.addr (dgs_ne (by omega))
      have hcell := HC.out.dgs hd
      by_cases hd0 : d = 0
      · subst hd0
        have hv2 := val_take_zero hd
        rw [hv] at hv2
        have HV := Lib.hid hv2.symm; clear hv hv2 hd
        go_wp2
        go_round
        case rel => exact ⟨j, by omega, by go_num, HV.out⟩
        case measure => simp [lenOf]
      · have hdp : 0 < d := by omega
        have hne : ((d : Int) == 0) = false := by simp; omega
        have hlast : (l.take (j + 1)).getLast? ≠ some 0 := by rw [take_get hd]; simp; omega
        have hsm : Sm (l.take (j + 1)) := fun x hx => HS.out x (List.mem_of_mem_take hx)
        have hv2 : dig (val l) = l.take (j + 1) := by rw [← hv, dig_val hsm hlast]
        have hl2 : (dig (val l)).length = j + 1 := by rw [hv2, List.length_take]; omega
        have hcs : Cells w (some ⟨b, off, none⟩) (dgs (dig (val l))) := by
          rw [hv2, dgs, List.map_take]; exact HC.out.take _
        have HL := Lib.hid hl2; have HCS := Lib.hid hcs; clear hv hv2 hl2 hcs hd hsm hlast
        go_wp2
        go_ret
        exact ⟨⟨by rw [HL.out]; rfl, HCS.out⟩, rfl⟩

theorem drop_of_len {l1 l2 : List Nat} (h : l1.length = l2.length) : l1.drop l1.length = l2.drop l1.length := by
  rw [List.drop_length, h, List.drop_length]

set_option maxRecDepth 100000 in
theorem compare_any (aa ab : Option Addr) (m n : Nat) (ca cb : Nat) (w : World) (ha : Cells w aa (dgs (dig m))) (hb : Cells w ab (dgs (dig n))) (hm : (dig m).length ≤ 4611686018427387904) (hn : (dig n).length ≤ 4611686018427387904) :
    Calls Tryz.prog 189 #[.slice aa (dig m).length ca, .slice ab (dig n).length cb] w fun e w' => e = .returned (.int .i64 (cmpN m n)) ∧ Below w.heap.size w w' := by
  have HA := Lib.hid ha; clear ha
  have HB := Lib.hid hb; clear hb
  by_cases hlen : (dig m).length = (dig n).length
  · have h1 : (((dig m).length : Int) != (dig n).length) = false := by simp [hlen]
    have HL := Lib.hid hlen; clear hlen
    go_enter Tryz.func189, Tryz.ntmps189
    go_wp2
    go_loopw [5] (fun i wr => ∃ k : Nat, k ≤ (dig m).length ∧ i = .int .i64 ((k : Int) - 1) ∧ (dig m).drop k = (dig n).drop k ∧ Below w.heap.size w wr) (fun i _ => (intOf i + 1).toNat)
    case atStart => exact ⟨(dig m).length, Nat.le_refl _, rfl, drop_of_len HL.out, Below.refl _ _⟩
    case round =>
      obtain ⟨k, hk, rfl, hd, hbe⟩ := hrel
      have HD := Lib.hid hd; clear hd
      by_cases h0 : k = 0
      · subst h0
        have he : cmpN m n = 0 := by
          have := HD.out
          simp only [List.drop_zero] at this
          have h2 := congrArg val this
          rw [val_dig, val_dig] at h2
          rw [h2, cmpN_eq]
        have HE := Lib.hid he; clear he
        go_wp2
        go_ret
        exact ⟨ret_int HE.out.symm, hbe⟩
      · obtain ⟨j, rfl⟩ : ∃ j, k = j + 1 := ⟨k - 1, by omega⟩
        have hj2 : j < (dig n).length := by have := HL.out; omega
        obtain ⟨x, hx⟩ := get_of_lt (show j < (dig m).length by omega)
        obtain ⟨y, hy⟩ := get_of_lt hj2
        obtain ⟨b, off, rfl⟩ := HA.out.addr (dgs_ne (by omega))
        obtain ⟨b2, off2, rfl⟩ := HB.out.addr (dgs_ne (by omega))
        have c1 := cell_keep (HA.out.dgs hx) hbe (Nat.le_refl _)
        have c2 := cell_keep (HB.out.dgs hy) hbe (Nat.le_refl _)
        have e1 : (((j + 1 : Nat) : Int) - 1) = (j : Int) := by omega
        rw [e1]
        have i1 : (j : Int) < (dig m).length := by omega
        have i2 : (j : Int) < (dig n).length := by omega
        have i3 : (0 : Int) ≤ j := by omega
        have hxy : x < y ∨ y < x ∨ x = y := by omega
        rcases hxy with hlt | hgt | heq
        · have he : cmpN m n = -1 := cmpN_lt (by have := cmp_digit (sm_dig m) hx hy HD.out hlt; rwa [val_dig, val_dig] at this)
          have HE := Lib.hid he; clear he hx hy e1
          have hne : ((x : Int) != y) = true := by simp; omega
          have hl : decide ((x : Int) < y) = true := by simp; omega
          go_wp2
          go_quiet (fail)
          go_wp2
          go_quiet (fail)
          go_wp2
          go_ret
          exact ⟨ret_int HE.out.symm, bel_drewN (bel_drewN hbe _) _⟩
        · have he : cmpN m n = 1 := cmpN_gt (by have := cmp_digit (sm_dig n) hy hx HD.out.symm hgt; rwa [val_dig, val_dig] at this)
          have HE := Lib.hid he; clear he hx hy e1
          have hne : ((x : Int) != y) = true := by simp; omega
          have hl : decide ((x : Int) < y) = false := by simp; omega
          go_wp2
          go_quiet (fail)
          go_wp2
          go_quiet (fail)
          go_wp2
          go_ret
          exact ⟨ret_int HE.out.symm, bel_drewN (bel_drewN hbe _) _⟩
        · subst heq
          have he : (dig m).drop j = (dig n).drop j := by
            rw [List.drop_eq_getElem_cons (show j < (dig m).length by omega), List.drop_eq_getElem_cons hj2, HD.out, (List.getElem?_eq_some_iff.1 hx).2, (List.getElem?_eq_some_iff.1 hy).2]
          have HE := Lib.hid he; clear he hx hy e1
          have hne : ((x : Int) != x) = false := by simp
          go_wp2
          go_quiet (fail)
          go_wp2
          go_roundw
          case rel => exact ⟨j, by omega, by go_num, HE.out, bel_drewN hbe _⟩
          case measure => simp [intOf]
  · rcases Nat.lt_or_gt_of_ne hlen with hlt | hgt
    · have he : cmpN m n = -1 := cmpN_lt (lt_of_len hlt)
      have HE := Lib.hid he; clear he
      have h1 : (((dig m).length : Int) != (dig n).length) = true := by simp; omega
      go_enter Tryz.func189, Tryz.ntmps189
      go_wp2
      go_ret
      exact ⟨ret_int HE.out.symm, Below.refl _ _⟩
    · have he : cmpN m n = 1 := cmpN_gt (lt_of_len hgt)
      have HE := Lib.hid he; clear he
      have h1 : (((dig m).length : Int) != (dig n).length) = true := by simp; omega
      have h2 : (dig n).length ≤ (dig m).length := by omega
      go_enter Tryz.func189, Tryz.ntmps189
      go_wp2
      go_ret
      exact ⟨ret_int HE.out.symm, Below.refl _ _⟩

end Go.Proofs.YtoochleabcjljaaGreatDoor
