/- Parts of a proof, in build order: R3, T0, D0, D6, T4, T6. -/
import Derived.Test.YtdpjdifoonfcdaaGreatDoorKr17

namespace Go.Proofs.YtdpjdifoonfcdaaGreatDoor
open Go.RowKit
theorem series1_any (x : Chan) (bc : Nat) (t : ByteArray) (w : World) (hc : w.cell? ⟨bc, 0, none⟩ = some (.string t)) :
 Calls Tryz.prog 122 #[.agg #[.string x.name, .int .i64 x.rate, .int .i64 x.bits], .pointer (some ⟨bc, 0, none⟩)] w fun e w' => e = .returned (.bool (sameName x.name t)) /\ Below w.heap.size w w' := by
 have hc1 := cell_keep hc ((Below.refl _ _).alloc (Nat.le_refl _) (.cells #[.string x.name, .int .i64 x.rate, .int .i64 x.bits] 104)) (Nat.le_refl _)
 go_enter Tryz.func122, Tryz.ntmps122
 go_wp2
 go_ret
 exact ⟨rfl, (Below.refl _ _).alloc (Nat.le_refl _) _⟩
def inF (fr tt : Int) (f : Frm) : Bool := decide (fr <= f.st) && decide (f.st < tt)
def serOf (k : Nat) (fr tt : Int) (l : List Frm) : List Int := l.flatMap fun f => if inF fr tt f then f.xss.getD k [] else []
def cntOf (fr tt : Int) (l : List Frm) : Nat := (l.filter (inF fr tt)).length
theorem serOf_snoc (k : Nat) (fr tt : Int) (l : List Frm) (f : Frm) : serOf k fr tt (l ++ [f]) = serOf k fr tt l ++ if inF fr tt f then f.xss.getD k [] else [] := by simp [serOf]
theorem cntOf_snoc (fr tt : Int) (l : List Frm) (f : Frm) : cntOf fr tt (l ++ [f]) = cntOf fr tt l + if inF fr tt f then 1 else 0 := by
 rw [cntOf, List.filter_append, List.length_append, cntOf]
 cases h : inF fr tt f <;> simp [List.filter, h]
def chI (bs : List Chan) (name : ByteArray) : Nat := bs.findIdx fun c => sameName c.name name
def serE (bs : List Chan) (l : List Frm) (name : ByteArray) (fr tt : Int) : Int :=
 if btwErr bs l fr tt ≠ 0 then btwErr bs l fr tt else if (bs.any fun c => sameName c.name name) = false then 2 else if (cntOf fr tt l : Int) ≠ tt - fr then 4 else 0
def serR (bs : List Chan) (l : List Frm) (name : ByteArray) (fr tt : Int) : List Int := if serE bs l name fr tt = 0 then serOf (chI bs name) fr tt l else []
theorem findIdx_of {α : Type} {l : List α} {p : α -> Bool} {i : Nat} {x : α} (h : l[i]? = some x) (hp : p x = true) (ht : (l.take i).any p = false) : l.findIdx p = i := by
 induction l generalizing i with
 | nil => simp at h
 | cons a l ih =>
   cases i with
   | zero => simp at h; subst h; simp [List.findIdx_cons, hp]
   | succ i =>
     simp only [List.take_succ_cons, List.any_cons, Bool.or_eq_false_iff] at ht
     rw [List.findIdx_cons, ht.1, ih (by simpa using h) ht.2]
     rfl
theorem frTo_row {bs : List Chan} {st : Int} {xss : List (List Int)} (h : frOK bs st xss = true) (hb : bookOK bs = true) {k : Nat} (hk : k < bs.length) : ∃ xs, xss[k]? = some xs /\ 1 <= xs.length /\ xs.length <= 64 := by
 simp only [frOK, Bool.and_eq_true, decide_eq_true_eq] at h
 obtain ⟨h1, h2, h3⟩ := h
 obtain ⟨xs, hx⟩ := get_of_lt (show k < xss.length by omega)
 obtain ⟨c, hc⟩ := get_of_lt hk
 have := book_get hb hc
 have hs := frTo_get h3 hk hc hx
 simp only [smpOK, Bool.and_eq_true, decide_eq_true_eq] at hs
 exact ⟨xs, hx, by omega, by omega⟩
theorem serOf_length (k : Nat) (fr tt : Int) (l : List Frm) (h : ∀ f ∈ l, (f.xss.getD k []).length <= 64) : (serOf k fr tt l).length <= 64 * l.length := by
 induction l with
 | nil => simp [serOf]
 | cons f l ih =>
   have := ih fun g hg => h g (by simp [hg])
   have h2 := h f (by simp)
   have e : serOf k fr tt (f :: l) = (if inF fr tt f then f.xss.getD k [] else []) ++ serOf k fr tt l := rfl
   have h3 : (if inF fr tt f then f.xss.getD k [] else []).length <= 64 := by
    split
    · exact h2
    · simp
   rw [e, List.length_append, List.length_cons]
   omega
theorem chI_spec {bs : List Chan} {name : ByteArray} (hany : (bs.any fun c => sameName c.name name) = true) : ∃ c, bs[chI bs name]? = some c /\ sameName c.name name = true /\ (bs.take (chI bs name)).any (fun c => sameName c.name name) = false := by
 have hlt : bs.findIdx (fun c : Chan => sameName c.name name) < bs.length := List.findIdx_lt_length.2 (by obtain ⟨x, hx, hp⟩ := List.any_eq_true.1 hany; exact ⟨x, hx, hp⟩)
 unfold chI
 refine ⟨bs[bs.findIdx (fun c : Chan => sameName c.name name)], by simp [hlt], List.findIdx_getElem (xs := bs) (p := fun c : Chan => sameName c.name name) (w := hlt), ?_⟩
 rw [List.any_eq_false]
 intro x hx
 obtain ⟨i, hi, rfl⟩ := List.mem_iff_getElem.1 hx
 rw [List.length_take] at hi
 rw [List.getElem_take]
 have := List.not_of_lt_findIdx (p := fun c : Chan => sameName c.name name) (xs := bs) (i := i) (by omega)
 simpa using this
theorem chI_uniq {bs : List Chan} {name : ByteArray} {i : Nat} {x : Chan} (h : bs[i]? = some x) (hp : sameName x.name name = true) (ht : (bs.take i).any (fun c => sameName c.name name) = false) : i = chI bs name := by
 unfold chI
 exact (findIdx_of (p := fun c : Chan => sameName c.name name) h hp ht).symm
theorem book_len {bs : List Chan} (h : bookOK bs = true) : bs.length <= 16 := by
 simp only [bookOK, inB, Bool.and_eq_true, decide_eq_true_eq] at h; omega
theorem Cells.at' {w : World} {ao : Option Addr} {b off : Nat} {cs : List Value} (h : Cells w ao cs) (ha : ao = some ⟨b, off, none⟩) {j : Nat} {u : Value} (hu : cs[j]? = some u) : w.cell? ⟨b, off + j, none⟩ = some u := by
 subst ha; exact h.at hu
theorem cntOf_le (fr tt : Int) (l : List Frm) : cntOf fr tt l <= l.length := List.length_filter_le _ _
set_option maxRecDepth 100000 in
set_option maxHeartbeats 1000000 in
theorem series_any (ao : Option Addr) (bs : List Chan) (cap : Nat) (al : Option Addr) (l : List Frm) (cl : Nat) (name : ByteArray) (fr tt : Int) (w : World) (hb : BookIn w ao bs cap) (hr : RecIn w al l) :
 Calls Tryz.prog 57 #[.slice ao bs.length cap, .slice al l.length cl, .string name, .int .i64 fr, .int .i64 tt] w fun e w' => (∃ v, e = .returned (.tuple #[v, .int .i64 (serE bs l name fr tt)]) /\ w'.ownsRow w.heap.size 3 1 v (serR bs l name fr tt).length ((serR bs l name fr tt).map (Value.int .i64))) /\ Below w.heap.size w w' := by
 have hb0 := (Below.refl w.heap.size w).alloc (Nat.le_refl _) (.cells #[.string name] 9)
 have hck := between_any ao bs cap al l cl fr tt _ (hb.below hb0 (Nat.le_refl _)) (hr.below hb0 (Nat.le_refl _))
 have HCK := Lib.hid hck; have HR := Lib.hid hr; have HB := Lib.hid hb
 have hbl := hb.len
 clear hck hb hr
 by_cases h1 : btwErr bs l fr tt = 0
 · obtain ⟨z0, z1, z2, z3⟩ := btwErr_zero h1
   obtain ⟨z5, z4, z6, _⟩ := recErr_zero z0
   have hok := bookErr_zero z5
   have H1 := Lib.hid h1; have Z6 := Lib.hid z6; have HOK := Lib.hid hok
   obtain ⟨i0, hi, hz0, hz1, hz2⟩ := info_parts Tryz.infoInt
   cases hany : bs.any fun c => sameName c.name name
   · have he : serE bs l name fr tt = 2 := by rw [serE, if_neg (by simpa using h1), hany]; rfl
     have hres : serR bs l name fr tt = [] := by rw [serR, he]; rfl
     have HE := Lib.hid he; have HS := Lib.hid hres; have HA := Lib.hid hany
     clear h1 z0 z5 z6 hok he hres hany
     go_enter Tryz.func57, Tryz.ntmps57
     go_wp2_with fail
     refine HCK.out.mono ?_
     rintro e w1 ⟨rfl, hb1⟩
     rw [H1.out]
     have hf := hb0.trans (hb1.mono hb0.size)
     have q0 : w1.cell? ⟨w.heap.size, 0, none⟩ = some (.string name) := box_keep hb1 (by simp) 0
     have HB1 := Lib.hid (HB.out.below hf (Nat.le_refl _))
     clear hb1
     go_wp2_with fail
     refine (indexFunc_chans 122 #[.pointer (some ⟨w.heap.size, 0, none⟩)] (fun c => sameName c.name name) ao bs cap w1 HB1.out.cells (by omega) (fun _ _ => by kernel_rfl) (fun x wx hx hbx => series1_any x w.heap.size name wx (cell_keep q0 hbx (Nat.le_refl _)))).mono ?_
     rintro e w2 ⟨⟨r, rfl, hr1, _⟩, hb2⟩
     have hr0 : r < 0 := by
      rw [HA.out] at hr1
      have := hr1.1
      rcases Int.lt_or_le r 0 with h | h
      · exact h
      · simp at hr1; omega
     have hf2 := hf.trans (hb2.mono hf.size)
     clear hr1 hf hb2 q0
     go_wp2
     go_ret2
     exact ⟨⟨_, by rw [HE.out]; rfl, by rw [HS.out]; exact World.ownsRow_nil _ _ _ _⟩, hf2⟩
   · obtain ⟨c0, hc0, hp0, ht0⟩ := chI_spec hany
     have hk := (List.getElem?_eq_some_iff.1 hc0).1
     have hrow : ∀ f ∈ l, ∃ xs, f.xss[chI bs name]? = some xs /\ 1 <= xs.length /\ xs.length <= 64 := fun f hf => frTo_row (z6 f hf) hok hk
     have hser : ∀ n, n <= l.length -> (serOf (chI bs name) fr tt (l.take n)).length <= 64 * n := fun n hn => by
      have := serOf_length (chI bs name) fr tt (l.take n) (fun f hf => by
       obtain ⟨xs, h1, _, h2⟩ := hrow f (List.mem_of_mem_take hf)
       rw [List.getD_eq_getElem?_getD, h1]; exact h2)
      rw [List.length_take, Nat.min_eq_left hn] at this; exact this
     have HA := Lib.hid hany; have HROW := Lib.hid hrow; have HSER := Lib.hid hser
     have he : serE bs l name fr tt = if (cntOf fr tt l : Int) ≠ tt - fr then 4 else 0 := by rw [serE, if_neg (by simpa using h1), hany]; rfl
     have hrr : serR bs l name fr tt = if serE bs l name fr tt = 0 then serOf (chI bs name) fr tt l else [] := rfl
     have HE := Lib.hid he; have HRR := Lib.hid hrr
     have HF0 := Lib.hid (show ∀ i : Nat, (∃ x, bs[i]? = some x /\ sameName x.name name = true /\ (bs.take i).any (fun c => sameName c.name name) = false) -> i = chI bs name from fun i ⟨x, a, b, c⟩ => chI_uniq a b c)
     have hk16 : chI bs name < 16 := by
      have := (book_len hok); omega
     clear h1 z0 z5 z6 hok he hrr hany hrow hser hc0 hp0 ht0
     generalize serE bs l name fr tt = ee at *
     generalize serR bs l name fr tt = rr at *
     generalize chI bs name = ck at *
     go_enter Tryz.func57, Tryz.ntmps57
     go_wp2_with fail
     refine HCK.out.mono ?_
     rintro e w1 ⟨rfl, hb1⟩
     rw [H1.out]
     have hf := hb0.trans (hb1.mono hb0.size)
     have q0 : w1.cell? ⟨w.heap.size, 0, none⟩ = some (.string name) := box_keep hb1 (by simp) 0
     have HB1 := Lib.hid (HB.out.below hf (Nat.le_refl _))
     clear hb1
     go_wp2_with fail
     refine (indexFunc_chans 122 #[.pointer (some ⟨w.heap.size, 0, none⟩)] (fun c => sameName c.name name) ao bs cap w1 HB1.out.cells (by omega) (fun _ _ => by kernel_rfl) (fun x wx hx hbx => series1_any x w.heap.size name wx (cell_keep q0 hbx (Nat.le_refl _)))).mono ?_
     rintro e w2 ⟨⟨r, rfl, hr1, hr2⟩, hb2⟩
     have hr0 : 0 <= r := hr1.2 HA.out
     obtain ⟨rn, rfl⟩ := Int.eq_ofNat_of_zero_le hr0
     obtain rfl : rn = ck := HF0.out rn (hr2 rn rfl)
     have hf2 := hf.trans (hb2.mono hf.size)
     have HR2 := Lib.hid (HR.out.below hf2 (Nat.le_refl _))
     clear hr1 hr2 hf hb2 q0 hr0
     have hrf := Below.refl w2.heap.size w2
     go_wp2
     go_loopw [14, 15, 33] (fun v s i wr => ∃ k : Nat, k <= l.length /\ i = .int .i64 k /\ s = .int .i64 (cntOf fr tt (l.take k) : Nat) /\ wr.ownsRow w2.heap.size 3 1 v (serOf rn fr tt (l.take k)).length ((serOf rn fr tt (l.take k)).map (Value.int .i64)) /\ Below w2.heap.size w2 wr) (fun _ _ i _ => l.length - (intOf i).toNat)
     case atStart => exact ⟨0, Nat.zero_le _, rfl, rfl, World.ownsRow_nil _ _ _ _, hrf⟩
     case round =>
      clear hrf
      obtain ⟨k, hk1, rfl, rfl, hown, hbr⟩ := hrel
      have hcl := cntOf_le fr tt (l.take k)
      rw [List.length_take, Nat.min_eq_left hk1] at hcl
      by_cases hlt : k < l.length
      · obtain ⟨⟨xst, xa, xc, xss⟩, hx⟩ := get_of_lt hlt
        obtain ⟨xs, hxs, hx1, hx2⟩ := HROW.out _ (List.mem_of_getElem? hx)
        obtain ⟨bl, ol, rfl⟩ := HR2.out.cells.addr (frs_ne (by omega))
        have d0 := cell_keep (HR2.out.cells.at (frs_get hx).1) hbr (Nat.le_refl _)
        have d1 := cell_keep (HR2.out.cells.at (frs_get hx).2) hbr (Nat.le_refl _)
        rw [<- Nat.add_assoc] at d1
        obtain ⟨_, vs, hvs, hrv⟩ := HR2.out.rows _ (List.mem_of_getElem? hx)
        simp only at hxs hvs hrv d0 d1
        obtain ⟨v, hv⟩ := get_of_lt (show rn < vs.length by have := (List.getElem?_eq_some_iff.1 hxs).1; have := hrv.1; omega)
        obtain ⟨ax, cx, rfl, hax, _⟩ := hrv.2 rn v xs hv hxs
        obtain ⟨bv, ov, rfl⟩ := hvs.addr (List.ne_nil_of_length_pos (by have := (List.getElem?_eq_some_iff.1 hv).1; omega))
        obtain ⟨bx, ox, rfl⟩ := hax.addr (by simpa using List.ne_nil_of_length_pos (by omega))
        have hst : serOf rn fr tt (l.take (k + 1)) = serOf rn fr tt (l.take k) ++ if inF fr tt ⟨xst, some ⟨bv, ov, none⟩, xc, xss⟩ then xs else [] := by
         rw [take_get hx, serOf_snoc, List.getD_eq_getElem?_getD, hxs]; rfl
        have hct : cntOf fr tt (l.take (k + 1)) = cntOf fr tt (l.take k) + if inF fr tt ⟨xst, some ⟨bv, ov, none⟩, xc, xss⟩ then 1 else 0 := by rw [take_get hx, cntOf_snoc]
        have hsl := HSER.out k hk1
        have HST := Lib.hid hst; have HCT := Lib.hid hct; have HO := Lib.hid hown
        have hz := hbr.size
        have hba := hbr.alloc hz (.cells #[.int .i64 xst, .slice (some ⟨bv, ov, none⟩) xss.length xc] 108)
        by_cases hin : fr <= xst /\ xst < tt
        · have hi0 : inF fr tt ⟨xst, some ⟨bv, ov, none⟩, xc, xss⟩ = true := by simp [inF, hin.1, hin.2]
          obtain ⟨hi1, hi2⟩ := hin
          rw [hi0] at HST HCT
          have e1 := cell_keep (hvs.at hv) hba (Nat.le_refl _)
          have HAX := Lib.hid (hax.below hba (Nat.le_refl _))
          have hkx : rn < xss.length := (List.getElem?_eq_some_iff.1 hxs).1
          have hbx := Blk.new wr 108 #[.int .i64 xst, .slice (some ⟨bv, ov, none⟩) xss.length xc]
          clear hst hct hown hxs hx hv hvs hrv hax hi0
          have hcts : Below w2.heap.size w2 wr := hbr
          clear hbx
          go_wp2_with (at_builtin; refine wpList_append_lies _ rfl _ _ _ rfl w2.heap.size 3 i0 (.int .i64 0) 1 8 Tryz.underlying24 hi hz0 hz1 hz2 rfl (by decide) _ _ _ rfl (HO.out.alloc _) ⟨bx, ox, none⟩ xs.length cx (xs.map (Value.int .i64)) rfl (by simp) (fun j u hu => by rw [Addr.add_lit]; exact HAX.out.at hu) (by intro u hu; obtain ⟨d, _, rfl⟩ := List.mem_map.1 hu; rfl) (by omega) (by unfold maxLen; omega) (by omega) (by simp; omega) (wr.heap.size + 1) (by simp) ?_)
          intro gg cp wz hown1 hgrow hat hlt1
          have hfin : wz.ownsRow w2.heap.size 3 1 (.slice (some ⟨gg, 0, none⟩) ((serOf rn fr tt (l.take k)).length + xs.length) cp) (serOf rn fr tt (l.take (k + 1))).length ((serOf rn fr tt (l.take (k + 1))).map (Value.int .i64)) := by
           rw [HST.out, if_pos trivial, List.length_append, List.map_append]; exact hown1
          have hbz := hba.grown hgrow (by simp; omega) (fun j e => (HO.out.lt j e).1)
          have HFIN := Lib.hid hfin
          clear hown1 hgrow hat hlt1 hfin
          go_wp2
          go_roundw
          case rel => exact ⟨k + 1, by omega, by go_num, by rw [HCT.out, if_pos trivial]; go_num, HFIN.out, hbz⟩
          case measure => simp [intOf]; omega
        · have hi0 : inF fr tt ⟨xst, some ⟨bv, ov, none⟩, xc, xss⟩ = false := by
           simp only [inF, Bool.and_eq_false_iff, decide_eq_false_iff_not]; omega
          rw [hi0] at HST HCT
          have hfin : (wr.alloc (.cells #[.int .i64 xst, .slice (some ⟨bv, ov, none⟩) xss.length xc] 108)).ownsRow w2.heap.size 3 1 u14 (serOf rn fr tt (l.take (k + 1))).length ((serOf rn fr tt (l.take (k + 1))).map (Value.int .i64)) := by
           rw [HST.out, if_neg (by simp), List.append_nil]; exact HO.out.alloc _
          have HFIN := Lib.hid hfin
          have hct2 : cntOf fr tt (l.take (k + 1)) = cntOf fr tt (l.take k) := by rw [HCT.out]; simp
          have HCT2 := Lib.hid hct2
          clear hst hct hown hxs hx hv hvs hrv hax hi0 hfin hct2
          have hjj : xst < fr ∨ (fr <= xst /\ tt <= xst) := by omega
          clear hin
          rcases hjj with h | ⟨h, h'⟩
          all_goals
           go_wp2
           go_roundw
           case rel => exact ⟨k + 1, by omega, by go_num, by rw [HCT2.out], HFIN.out, hba⟩
           case measure => simp [intOf]; omega
      · obtain rfl : k = l.length := by omega
        rw [List.take_length] at hown hcl ⊢
        have HO := Lib.hid hown
        have hbf := hf2.trans (hbr.mono hf2.size)
        have hsz2 := hf2.size
        by_cases hcc : (cntOf fr tt l : Int) = tt - fr
        · have he0 : ee = 0 := by rw [HE.out, if_neg (by omega)]
          have hr0 : rr = serOf rn fr tt l := by rw [HRR.out, if_pos he0]
          have HE0 := Lib.hid he0; have HR0 := Lib.hid hr0
          have hneq : ((cntOf fr tt l : Int) != tt - fr) = false := by simpa using hcc
          clear hown he0 hr0 hcc
          go_wp2
          go_ret2
          exact ⟨⟨_, by rw [HE0.out]; rfl, by rw [HR0.out]; exact own_base HO.out hsz2⟩, hbf⟩
        · have he0 : ee = 4 := by rw [HE.out, if_pos hcc]
          have hr0 : rr = [] := by rw [HRR.out, if_neg (by rw [he0]; decide)]
          have HE0 := Lib.hid he0; have HR0 := Lib.hid hr0
          have hneq : ((cntOf fr tt l : Int) != tt - fr) = true := by simpa using hcc
          clear hown he0 hr0
          go_wp2
          go_ret2
          exact ⟨⟨_, by rw [HE0.out]; rfl, by rw [HR0.out]; exact World.ownsRow_nil _ _ _ _⟩, hbf⟩
 · have he : serE bs l name fr tt = btwErr bs l fr tt := by rw [serE, if_pos h1]
   have hres : serR bs l name fr tt = [] := by rw [serR, he, if_neg h1]
   have h3 : (btwErr bs l fr tt != 0) = true := by simpa using h1
   have h4 : (btwErr bs l fr tt == 0) = false := by simpa using h1
   have HE := Lib.hid he; have HS := Lib.hid hres
   clear he hres
   go_enter Tryz.func57, Tryz.ntmps57
   go_wp2_with fail
   refine HCK.out.mono ?_
   rintro e w1 ⟨rfl, hb1⟩
   have hf := hb0.trans (hb1.mono hb0.size)
   go_wp2
   go_ret2
   exact ⟨⟨_, by rw [HE.out]; rfl, by rw [HS.out]; exact World.ownsRow_nil _ _ _ _⟩, hf⟩
end Go.Proofs.YtdpjdifoonfcdaaGreatDoor

namespace Go.Proofs.YtdpjdifoonfcdaaGreatDoor
open Go.RowKit
theorem ones_bin : ∀ q : Fin 20, binL (2 ^ (q.val + 1) - 2) (q.val + 1) = List.replicate q.val 1 ++ [0] := by decide +kernel
theorem ones20 : binL 1048575 20 = List.replicate 20 1 := by decide +kernel
theorem encU_lt {u : Int} {sh q : Nat} (h0 : u / 2 ^ sh = q) (h : q < 20) : encU u sh = List.replicate q 1 ++ 0 :: binL u sh := by
 have h1 := ones_bin ⟨q, h⟩
 unfold encU
 rw [h0, if_pos (by omega), Int.toNat_natCast, h1, List.append_assoc]; rfl
theorem encU_ge {u : Int} {sh : Nat} (h : ¬ u / 2 ^ sh < 20) : encU u sh = List.replicate 20 1 ++ binL u 32 := by
 unfold encU
 rw [if_neg h, ones20]
def padP (b : List Nat) : Nat -> Nat
 | 0 => 0
 | j + 1 => 2 * padP b j + b.getD j 0
theorem octs_short : ∀ b : List Nat, 1 <= b.length -> b.length <= 8 -> octs b = [padP b 8]
 | [], h, _ => by simp at h
 | [_], _, _ => by simp [octs, octsP, pushBit, padP]; omega
 | [_, _], _, _ => by simp [octs, octsP, pushBit, padP]; omega
 | [_, _, _], _, _ => by simp [octs, octsP, pushBit, padP]; omega
 | [_, _, _, _], _, _ => by simp [octs, octsP, pushBit, padP]; omega
 | [_, _, _, _, _], _, _ => by simp [octs, octsP, pushBit, padP]; omega
 | [_, _, _, _, _, _], _, _ => by simp [octs, octsP, pushBit, padP]; omega
 | [_, _, _, _, _, _, _], _, _ => by simp [octs, octsP, pushBit, padP]; omega
 | [_, _, _, _, _, _, _, _], _, _ => by simp [octs, octsP, pushBit, padP]; omega
 | _ :: _ :: _ :: _ :: _ :: _ :: _ :: _ :: _ :: _, _, h => by simp at h
end Go.Proofs.YtdpjdifoonfcdaaGreatDoor

namespace Go.Proofs.YtdpjdifoonfcdaaGreatDoor
open Go.RowKit
def valB (l : List Nat) : Nat := l.foldl (fun n b => 2 * n + b) 0
theorem valB_snoc (l : List Nat) (b : Nat) : valB (l ++ [b]) = 2 * valB l + b := by simp [valB]
theorem binN (n k : Nat) : binL (n : Int) (k + 1) = (n / 2 ^ k % 2) :: binL (n : Int) k := by
 have h : ((n : Int) / 2 ^ k % 2).toNat = n / 2 ^ k % 2 := by
  have : ((n / 2 ^ k % 2 : Nat) : Int) = (n : Int) / 2 ^ k % 2 := by simp
  omega
 rw [binL, h]
theorem binN_snoc (n k : Nat) : binL (n : Int) (k + 1) = binL ((n / 2 : Nat) : Int) k ++ [n % 2] := by
 induction k with
 | zero => rw [binN]; simp [binL]
 | succ k ih =>
   rw [binN, ih, binN (n / 2) k, List.cons_append, Nat.div_div_eq_div_mul, Nat.pow_succ, Nat.mul_comm 2]
theorem valB_bin (n k : Nat) : valB (binL (n : Int) k) = n % 2 ^ k := by
 induction k generalizing n with
 | zero => simp [binL, valB, Nat.mod_one]
 | succ k ih =>
   rw [binN_snoc, valB_snoc, ih, Nat.pow_succ, Nat.mul_comm (2 ^ k), Nat.mod_mul]
   omega
theorem valB_lt {l : List Nat} (h : ∀ b ∈ l, b <= 1) : valB l < 2 ^ l.length := by
 suffices ∀ n (l : List Nat), l.length = n -> (∀ b ∈ l, b <= 1) -> valB l < 2 ^ n from this _ l rfl h
 intro n
 induction n with
 | zero => intro l hl _; rw [List.length_eq_zero_iff.1 hl]; simp [valB]
 | succ n ih =>
   intro l hl hb
   obtain ⟨l', b, rfl⟩ : ∃ l' b, l = l' ++ [b] := by
    rcases List.eq_nil_or_concat l with rfl | ⟨l', b, rfl⟩
    · simp at hl
    · exact ⟨l', b, by simp⟩
   simp at hl
   have h1 := ih l' hl (fun x hx => hb x (by simp [hx]))
   have h2 : b <= 1 := hb b (by simp)
   rw [valB_snoc, Nat.pow_succ]; omega
def takeR (r : List Nat) (k : Nat) : (Nat × Bool) × List Nat := if k <= r.length then ((valB (r.take k), true), r.drop k) else ((0, false), [])
theorem takeR_bin (n k : Nat) (r : List Nat) : takeR (binL (n : Int) k ++ r) k = ((n % 2 ^ k, true), r) := by
 have hl := binL_length (n : Int) k
 unfold takeR
 rw [if_pos (by rw [List.length_append]; omega), List.take_append_of_le_length (by omega), List.take_of_length_le (by omega), valB_bin, List.drop_append_of_le_length (by omega), List.drop_eq_nil_of_le (by omega), List.nil_append]
theorem takeR_bd {r : List Nat} (h : ∀ b ∈ r, b <= 1) (k : Nat) : (takeR r k).1.1 < 2 ^ k /\ ∀ b ∈ (takeR r k).2, b <= 1 := by
 unfold takeR
 split
 · rename_i hk
   have := valB_lt (l := r.take k) (fun b hb => h b (List.mem_of_mem_take hb))
   rw [List.length_take, Nat.min_eq_left hk] at this
   exact ⟨this, fun b hb => h b (List.mem_of_mem_drop hb)⟩
 · exact ⟨Nat.pow_pos (by decide), fun b hb => by simp at hb⟩
def valueR (sh : Nat) : Nat -> List Nat -> (Nat × Bool) × List Nat
 | 0, r => takeR r 32
 | _ + 1, [] => ((0, false), [])
 | f + 1, b :: r => if b = 0 then (((20 - (f + 1)) * 2 ^ sh + (takeR r sh).1.1, (takeR r sh).1.2), (takeR r sh).2) else valueR sh f r
theorem valueR_ones (sh f q : Nat) (s : List Nat) : valueR sh (f + q) (List.replicate q 1 ++ s) = valueR sh f s := by
 induction q generalizing s with
 | zero => simp
 | succ q ih =>
   rw [List.replicate_succ, List.cons_append, <- Nat.add_assoc, valueR, if_neg (by decide), ih]
theorem valueR_enc {u sh : Nat} (hu : u < 4294967296) (r : List Nat) : valueR sh 20 (encU (u : Int) sh ++ r) = ((u, true), r) := by
 by_cases h : u / 2 ^ sh < 20
 · have h0 : (u : Int) / 2 ^ sh = ((u / 2 ^ sh : Nat) : Int) := by simp
   rw [encU_lt h0 h]
   generalize hq : u / 2 ^ sh = q at *
   obtain ⟨f, hf⟩ : ∃ f, 20 = f + 1 + q := ⟨19 - q, by omega⟩
   rw [List.append_assoc]
   conv => lhs; rw [hf]
   rw [valueR_ones, List.cons_append, valueR, if_pos rfl, takeR_bin]
   have e : 20 - (f + 1) = q := by omega
   have := Nat.div_add_mod u (2 ^ sh)
   rw [hq, Nat.mul_comm] at this
   simp only [e, this]
 · have h0 : ¬ (u : Int) / 2 ^ sh < 20 := by
    have : (u : Int) / 2 ^ sh = ((u / 2 ^ sh : Nat) : Int) := by simp
    rw [this]; omega
   rw [encU_ge h0, List.append_assoc]
   have h1 := valueR_ones sh 0 20 (binL (u : Int) 32 ++ r)
   rw [Nat.zero_add] at h1
   rw [h1, valueR, takeR_bin, Nat.mod_eq_of_lt (by omega)]
theorem valueR_bd {sh : Nat} (hs : sh <= 30) : ∀ (f : Nat) {r : List Nat}, f <= 20 -> (∀ b ∈ r, b <= 1) -> (valueR sh f r).1.1 <= 25769803776 /\ ∀ b ∈ (valueR sh f r).2, b <= 1
 | 0, r, _, h => by
   have := takeR_bd h 32
   rw [valueR]; exact ⟨by omega, this.2⟩
 | f + 1, [], _, h => by rw [valueR]; simp
 | f + 1, b :: r, hf, h => by
   have hr : ∀ b ∈ r, b <= 1 := fun x hx => h x (by simp [hx])
   rw [valueR]
   split
   · have h1 := takeR_bd hr sh
     have h2 : (2 : Nat) ^ sh <= 2 ^ 30 := Nat.pow_le_pow_right (by decide) hs
     have h3 : (20 - (f + 1)) * 2 ^ sh <= 20 * 2 ^ 30 := Nat.mul_le_mul (by omega) h2
     exact ⟨by simp only; omega, h1.2⟩
   · exact valueR_bd hs f (by omega) hr
def unfU (u : Nat) : Int := if u % 2 = 1 then -(((u : Int) + 1) / 2) else (u : Int) / 2
theorem unfU_fold (r : Int) : unfU (foldU r).toNat = r := by
 unfold unfU foldU
 split <;> split at * <;> omega
theorem unfU_bd {u : Nat} (h : u <= 25769803776) : -12884901889 <= unfU u /\ unfU u <= 12884901889 := by
 unfold unfU; split <;> omega
def rowR (sh : Nat) : Nat -> List Nat -> List Int -> Option (List Int × List Nat)
 | 0, r, acc => some (acc, r)
 | n + 1, r, acc => if (valueR sh 20 r).1.2 then rowR sh n (valueR sh 20 r).2 (acc ++ [unfU (valueR sh 20 r).1.1]) else none
theorem rowR_enc (sh : Nat) (l : List Int) (h : ∀ x ∈ l, -67108864 <= x /\ x <= 67108864) (r : List Nat) (acc : List Int) : rowR sh l.length ((l.flatMap fun x => encU (foldU x) sh) ++ r) acc = some (acc ++ l, r) := by
 induction l generalizing acc with
 | nil => simp [rowR]
 | cons x l ih =>
   have hx := foldU_bd (h x (by simp)).1 (h x (by simp)).2
   obtain ⟨u, hu⟩ := Int.eq_ofNat_of_zero_le hx.1
   have h1 := valueR_enc (u := u) (sh := sh) (by omega) ((l.flatMap fun x => encU (foldU x) sh) ++ r)
   have h2 := unfU_fold x
   rw [hu] at h2
   rw [List.length_cons, List.flatMap_cons, List.append_assoc, hu, rowR, h1]
   simp only [if_true]
   rw [Int.toNat_natCast] at h2
   rw [h2, ih (fun y hy => h y (by simp [hy]))]
   simp
def psum (xs : List Int) : List Int := (List.range xs.length).map fun i => (xs.take (i + 1)).sum
theorem psum_length (xs : List Int) : (psum xs).length = xs.length := by simp [psum]
theorem psum_get {xs : List Int} {i : Nat} (h : i < xs.length) : (psum xs)[i]? = some (xs.take (i + 1)).sum := by simp [psum, h]
theorem sum_snoc {xs : List Int} {i : Nat} {x : Int} (h : xs[i]? = some x) : (xs.take (i + 1)).sum = (xs.take i).sum + x := by
 rw [take_get h, List.sum_append]; simp
theorem diffs_sum (xs : List Int) (i : Nat) (h : i < xs.length) : ((diffs xs).take (i + 1)).sum = xs.getD i 0 := by
 induction i with
 | zero =>
   rw [sum_snoc (diffs_get h)]; simp
 | succ i ih =>
   rw [sum_snoc (diffs_get h), ih (by omega), if_neg (by omega), Nat.add_sub_cancel]; omega
theorem psum_diffs (xs : List Int) : psum (diffs xs) = xs := by
 apply List.ext_getElem?
 intro i
 by_cases h : i < xs.length
 · rw [psum_get (by rw [diffs_length]; exact h), diffs_sum xs i h, List.getD_eq_getElem?_getD, List.getElem?_eq_getElem h]; rfl
 · rw [List.getElem?_eq_none (by rw [psum_length, diffs_length]; omega), List.getElem?_eq_none (by omega)]
def sumsR (l : List Int) : Nat -> List Int
 | 0 => l
 | o + 1 => psum (sumsR l o)
theorem sumsR_length (l : List Int) (o : Nat) : (sumsR l o).length = l.length := by
 induction o with
 | zero => rfl
 | succ o ih => rw [sumsR, psum_length, ih]
theorem sumsR_comm (l : List Int) (o : Nat) : psum (sumsR l o) = sumsR (psum l) o := by
 induction o with
 | zero => rfl
 | succ o ih => rw [sumsR, ih]; rfl
theorem sumsR_resid (x : List Int) (o : Nat) : sumsR (resid x o) o = x := by
 induction o with
 | zero => rfl
 | succ o ih => rw [resid, sumsR, sumsR_comm, psum_diffs, ih]
theorem sum_bd {M : Int} (_hM : 0 <= M) {l : List Int} (h : ∀ x ∈ l, -M <= x /\ x <= M) : -(M * l.length) <= l.sum /\ l.sum <= M * l.length := by
 induction l with
 | nil => simp
 | cons x l ih =>
   have h1 := h x (by simp)
   have h2 := ih (fun y hy => h y (by simp [hy]))
   rw [List.sum_cons, List.length_cons]
   have e : M * ((l.length + 1 : Nat) : Int) = M * l.length + M := by rw [Int.natCast_add, Int.mul_add]; simp
   rw [e]; omega
theorem psum_bd {M : Int} (hM : 0 <= M) {l : List Int} (hl : l.length <= 64) (h : ∀ x ∈ l, -M <= x /\ x <= M) : ∀ x ∈ psum l, -(M * 64) <= x /\ x <= M * 64 := by
 intro x hx
 simp only [psum, List.mem_map, List.mem_range] at hx
 obtain ⟨i, hi, rfl⟩ := hx
 have h1 := sum_bd hM (l := l.take (i + 1)) (fun y hy => h y (List.mem_of_mem_take hy))
 have h2 : M * ((l.take (i + 1)).length : Int) <= M * 64 := Int.mul_le_mul_of_nonneg_left (by rw [List.length_take]; omega) hM
 omega
theorem sumsR_bd {l : List Int} (hl : l.length <= 64) (h : ∀ x ∈ l, -12884901889 <= x /\ x <= 12884901889) (o : Nat) (ho : o <= 3) : ∀ x ∈ sumsR l o, -3377699720790016 <= x /\ x <= 3377699720790016 := by
 have h1 := psum_bd (M := 12884901889) (by omega) hl h
 have h2 := psum_bd (M := 12884901889 * 64) (by omega) (by rw [psum_length]; exact hl) h1
 have h3 := psum_bd (M := 12884901889 * 64 * 64) (by omega) (by rw [psum_length, psum_length]; exact hl) h2
 match o, ho with
 | 0, _ => intro x hx; have := h x hx; omega
 | 1, _ => intro x hx; have := h1 x hx; omega
 | 2, _ => intro x hx; have := h2 x hx; omega
 | 3, _ => intro x hx; have := h3 x hx; omega
theorem psum_step {xs : List Int} {k : Nat} {x y : Int} (hx : xs[k + 1]? = some x) (hy : (psum xs)[k]? = some y) :
 ((psum xs).take (k + 1) ++ xs.drop (k + 1)).set (k + 1) (x + y) = (psum xs).take (k + 2) ++ xs.drop (k + 2) := by
 have hl := (List.getElem?_eq_some_iff.1 hx).1
 have h1 := psum_get hl
 have h2 := psum_get (show k < xs.length by omega)
 rw [sum_snoc hx] at h1
 rw [hy] at h2
 have e : y = (xs.take (k + 1)).sum := by simpa using h2
 rw [<- e] at h1
 rw [List.set_append_right _ _ (by rw [List.length_take]; omega), show (k + 1) - ((psum xs).take (k + 1)).length = 0 from by rw [List.length_take, psum_length]; omega, List.drop_eq_getElem_cons hl, List.set_cons_zero, take_get h1, List.append_assoc, Int.add_comm x y]; rfl
def readR (many : Nat) (r : List Nat) : Option (List Int × List Nat) :=
 if (takeR (takeR r 2).2 5).1.2 = true /\ (takeR (takeR r 2).2 5).1.1 <= 30 then (rowR (takeR (takeR r 2).2 5).1.1 many (takeR (takeR r 2).2 5).2 []).map fun p => (sumsR p.1 (takeR r 2).1.1, p.2) else none
theorem readR_enc {x : List Int} (hx : ∀ v ∈ x, -8388608 <= v /\ v <= 8388608) (r : List Nat) : readR x.length (encC x ++ r) = some (x, r) := by
 obtain ⟨h1, h2⟩ := wayOf_bd x
 unfold encC encL
 generalize (wayOf x).1 = o at *
 generalize (wayOf x).2 = s at *
 have e1 := takeR_bin o 2 (binL (s : Int) 5 ++ ((resid x o).flatMap fun r => encU (foldU r) s) ++ r)
 have e2 := takeR_bin s 5 (((resid x o).flatMap fun r => encU (foldU r) s) ++ r)
 rw [Nat.mod_eq_of_lt (by omega)] at e1 e2
 have e3 := rowR_enc s (resid x o) (resid_bd hx o h1) r []
 rw [resid_length, List.nil_append] at e3
 unfold readR
 simp only [List.append_assoc] at *
 rw [e1]
 simp only [e2]
 rw [if_pos ⟨trivial, h2⟩, e3, Option.map_some, sumsR_resid]
def chR : List Chan -> List Nat -> List (List Int) -> Option (List (List Int))
 | [], _, acc => some acc
 | c :: bs, r, acc => match readR c.rate.toNat r with | some (x, r') => chR bs r' (acc ++ [x]) | none => none
theorem chR_enc (bs : List Chan) : ∀ (xss : List (List Int)) (acc : List (List Int)) (r : List Nat), xss.length = bs.length -> (∀ (i : Nat) c xs, bs[i]? = some c -> xss[i]? = some xs -> c.rate = xs.length /\ ∀ v ∈ xs, -8388608 <= v /\ v <= 8388608) -> chR bs (xss.flatMap encC ++ r) acc = some (acc ++ xss) := by
 induction bs with
 | nil => intro xss acc r hl _; rw [List.length_eq_zero_iff.1 hl]; simp [chR]
 | cons c bs ih =>
   intro xss acc r hl h
   match xss, hl with
   | x :: xss, hl =>
     obtain ⟨h1, h2⟩ := h 0 c x rfl rfl
     rw [chR, List.flatMap_cons, List.append_assoc, h1, Int.toNat_natCast, readR_enc h2]
     simp only
     rw [ih xss _ r (by simpa using hl) (fun i c' xs' hc hx => h (i + 1) c' xs' (by simpa using hc) (by simpa using hx))]
     simp
def endR (l : List Nat) : Nat := 4 + (l.getD 2 0) * 256 + l.getD 3 0 + 3
def rowsR (bs : List Chan) (l : List Nat) : Option (List (List Int)) := if (takeR (unB ((l.take (endR l - 3)).drop 4)) 32).1.2 then chR bs (takeR (unB ((l.take (endR l - 3)).drop 4)) 32).2 [] else none
def startR (l : List Nat) : Nat := (takeR (unB ((l.take (endR l - 3)).drop 4)) 32).1.1
def firstR (bs : List Chan) (l : List Nat) : Option ((Int × List (List Int)) × Nat) :=
 if 7 <= l.length /\ l.getD 0 0 = 165 /\ l.getD 1 0 = 90 /\ endR l <= l.length then
  match rowsR bs l with
  | none => none
  | some xss => if frOK bs (startR l : Nat) xss && decide (encB (startR l : Nat) xss = l.take (endR l)) then some (((startR l : Nat), xss), endR l) else none
 else none
theorem firstR_sound {bs : List Chan} {l : List Nat} {st : Int} {xss : List (List Int)} {n : Nat} (h : firstR bs l = some ((st, xss), n)) : frOK bs st xss = true /\ encB st xss = l.take n /\ n <= l.length /\ (encB st xss).length = n /\ 7 <= n := by
 unfold firstR at h
 split at h
 · rename_i h0
   split at h
   · contradiction
   · split at h
     · rename_i h1
       simp only [Option.some.injEq, Prod.mk.injEq] at h
       obtain ⟨⟨rfl, rfl⟩, rfl⟩ := h
       simp only [Bool.and_eq_true, decide_eq_true_eq] at h1
       refine ⟨h1.1, h1.2, h0.2.2.2, ?_, by unfold endR; omega⟩
       rw [h1.2, List.length_take]; have := h0.2.2.2; omega
     · contradiction
 · contradiction
theorem unB_cons (b : Nat) (l : List Nat) : unB (b :: l) = binL (b : Int) 8 ++ unB l := by simp [unB]
theorem unB_append (a b : List Nat) : unB (a ++ b) = unB a ++ unB b := by simp [unB]
theorem bin_pad (b : List Nat) (h : ∀ x ∈ b, x <= 1) (j : Nat) : binL ((padP b j : Nat) : Int) j = (List.range j).map fun i => b.getD i 0 := by
 induction j with
 | zero => simp [binL]
 | succ j ih =>
   have hb : b.getD j 0 <= 1 := by
    rw [List.getD_eq_getElem?_getD]
    cases hx : b[j]? with
    | none => simp
    | some x => exact h x (List.mem_of_getElem? hx)
   rw [padP, binN_snoc, show (2 * padP b j + b.getD j 0) / 2 = padP b j from by omega, show (2 * padP b j + b.getD j 0) % 2 = b.getD j 0 from by omega, ih, List.range_succ, List.map_append]; rfl
theorem range_getD (b : List Nat) (j : Nat) (h : b.length <= j) : ((List.range j).map fun i => b.getD i 0) = b ++ List.replicate (j - b.length) 0 := by
 apply List.ext_getElem?
 intro i
 rw [List.getElem?_map]
 by_cases hi : i < j
 · rw [List.getElem?_range hi]
   by_cases hb : i < b.length
   · rw [List.getElem?_append_left hb, List.getElem?_eq_getElem hb]; simp [hb]
   · rw [List.getElem?_append_right (by omega), List.getElem?_replicate, if_pos (by omega)]
     simp [List.getD_eq_getElem?_getD, List.getElem?_eq_none (show b.length <= i by omega)]
 · rw [List.getElem?_eq_none (by simp; omega), List.getElem?_eq_none (by simp; omega)]; rfl
theorem unB_octs : ∀ (n : Nat) (l : List Nat), l.length <= n -> (∀ b ∈ l, b <= 1) -> ∃ p, unB (octs l) = l ++ p := by
 intro n
 induction n with
 | zero =>
   intro l hl _
   obtain rfl : l = [] := List.length_eq_zero_iff.1 (by omega)
   exact ⟨[], rfl⟩
 | succ n ih =>
   intro l hl hb
   rcases Nat.eq_zero_or_pos l.length with h0 | h0
   · obtain rfl : l = [] := List.length_eq_zero_iff.1 h0
     exact ⟨[], rfl⟩
   · by_cases h8 : l.length <= 8
     · rw [octs_short l h0 h8, unB_cons, bin_pad l hb, range_getD l 8 h8]
       exact ⟨List.replicate (8 - l.length) 0, by simp [unB]⟩
     · obtain ⟨p, hp⟩ := ih (l.drop 8) (by rw [List.length_drop]; omega) (fun b h => hb b (List.mem_of_mem_drop h))
       refine ⟨p, ?_⟩
       have hl8 : (l.take 8).length = 8 := by rw [List.length_take]; omega
       conv => lhs; rw [<- List.take_append_drop 8 l]
       rw [octs_append _ (by rw [hl8]), unB_append, hp, octs_short (l.take 8) (by omega) (by omega), unB_cons, bin_pad _ (fun b h => hb b (List.mem_of_mem_take h)), range_getD _ 8 (by omega), hl8, <- List.append_assoc]
       simp [unB]
theorem large2 (n : Nat) (h : n < 65536) : ∃ a b, octs (binL (n : Int) 16) = [a, b] /\ a * 256 + b = n := by
 have hl := octs_len (binL (n : Int) 16)
 rw [binL_length] at hl
 obtain ⟨hb, _⟩ := octs_ok (binL (n : Int) 16) (binL_bits _ _)
 obtain ⟨p, hp⟩ := unB_octs 16 (binL (n : Int) 16) (by rw [binL_length]; omega) (binL_bits _ _)
 match hm : octs (binL (n : Int) 16), hl with
 | [a, b], _ =>
   rw [hm] at hb hp
   refine ⟨a, b, rfl, ?_⟩
   have hpl : p = [] := by
    have := congrArg List.length hp
    rw [unB_length, List.length_append, binL_length] at this
    simpa using this
   rw [hpl, List.append_nil] at hp
   have ha : a < 256 := hb a (by simp)
   have hb2 : b < 256 := hb b (by simp)
   have h1 : takeR (unB [a, b]) 8 = ((a % 2 ^ 8, true), binL (b : Int) 8) := by
    rw [unB_cons, takeR_bin]; simp [unB]
   rw [hp, show (16 : Nat) = 15 + 1 from rfl] at h1
   have key : ∀ k n : Nat, k <= 16 -> valB ((binL (n : Int) 16).take k) = n / 2 ^ (16 - k) % 2 ^ k := by
    intro k
    induction k with
    | zero => intro n _; simp [valB, Nat.mod_one]
    | succ k ih =>
      intro n hk
      have hg := binL_get (n : Int) 16 (15 - k) (by omega)
      rw [show 16 - 1 - (15 - k) = k from by omega] at hg
      rw [take_get hg, valB_snoc, ih n (by omega)]
      have e0 : ((n : Int) / 2 ^ (15 - k) % 2).toNat = n / 2 ^ (15 - k) % 2 := by
       have : ((n / 2 ^ (15 - k) % 2 : Nat) : Int) = (n : Int) / 2 ^ (15 - k) % 2 := by simp
       omega
      rw [e0, show 16 - (k + 1) = 15 - k from by omega, Nat.pow_succ, Nat.mul_comm (2 ^ k), Nat.mod_mul, show 16 - k = (15 - k) + 1 from by omega, Nat.pow_succ, <- Nat.div_div_eq_div_mul]
      omega
   have h2 := key 8 n (by omega)
   have h3 : valB ((binL (n : Int) 16).take 8) = a % 2 ^ 8 := by
    have := congrArg (fun t => t.1.1) h1
    simp only [takeR] at this
    rw [if_pos (by rw [binL_length]; omega)] at this
    exact this
   have h4 : (binL (n : Int) 16).drop 8 = binL (b : Int) 8 := by
    have := congrArg (fun t => t.2) h1
    simp only [takeR] at this
    rw [if_pos (by rw [binL_length]; omega)] at this
    exact this
   have h5 : valB (binL (n : Int) 16) = valB ((binL (n : Int) 16).take 8) * 256 + valB ((binL (n : Int) 16).drop 8) := by
    have h6 : ∀ (y x : List Nat), valB (x ++ y) = valB x * 2 ^ y.length + valB y := by
     intro y
     induction y with
     | nil => intro x; simp [valB]
     | cons c y ih =>
       intro x
       have e1 := ih (x ++ [c])
       have e2 := ih [c]
       rw [List.append_assoc, List.singleton_append, valB_snoc] at e1
       have e3 : valB (c :: y) = c * 2 ^ y.length + valB y := by
        have := e2; simp only [List.singleton_append] at this
        rw [this]; simp [valB]
       rw [e1, e3, List.length_cons, Nat.pow_succ, Nat.add_mul]
       have : 2 * valB x * 2 ^ y.length = valB x * (2 ^ y.length * 2) := by rw [Nat.mul_comm 2, Nat.mul_assoc, Nat.mul_comm 2]
       omega
    have h7 := h6 ((binL (n : Int) 16).drop 8) ((binL (n : Int) 16).take 8)
    rw [List.take_append_drop, List.length_drop, binL_length] at h7
    exact h7
   rw [valB_bin, h3, h4, valB_bin, Nat.mod_eq_of_lt h] at h5
   omega
theorem firstR_enc {bs : List Chan} {st : Int} {xss : List (List Int)} (hb : bookOK bs = true) (hf : frOK bs st xss = true) (r : List Nat) : firstR bs (encB st xss ++ r) = some ((st, xss), (encB st xss).length) := by
 have hz : frmErr bs st xss = 0 := by
  have : bookErr bs = 0 := by simp [bookErr, hb]
  simp [frmErr, this, hf]
 obtain ⟨-, hbl, hxl, hs0, hs1, hx64, hxb⟩ := frmErr_zero hz
 have hlen : xss.length = bs.length := hxl
 have hfr := hf
 simp only [frOK, Bool.and_eq_true, decide_eq_true_eq] at hfr
 obtain ⟨s, rfl⟩ := Int.eq_ofNat_of_zero_le hs0
 have hrt : ∀ (i : Nat) c xs, bs[i]? = some c -> xss[i]? = some xs -> c.rate = xs.length /\ ∀ v ∈ xs, -8388608 <= v /\ v <= 8388608 := by
  intro i c xs hc hx
  have h1 := frTo_get hfr.2.2 (List.getElem?_eq_some_iff.1 hc).1 hc hx
  simp only [smpOK, Bool.and_eq_true, decide_eq_true_eq] at h1
  exact ⟨h1.1.symm, fun v hv => hxb xs (List.mem_of_getElem? hx) v hv⟩
 have hbits := frBits_bits (s : Int) xss
 have hol := octs_len (frBits (s : Int) xss)
 have hfl : (frBits (s : Int) xss).length <= 32 + 3335 * 16 := by
  have h1 := flat_encC xss 64 hx64
  rw [frBits, List.length_append, binL_length]; omega
 obtain ⟨p, hp⟩ := unB_octs _ (frBits (s : Int) xss) (Nat.le_refl _) hbits
 obtain ⟨a, b, hab, habn⟩ := large2 (octs (frBits (s : Int) xss)).length (by omega)
 have henc : encB (s : Int) xss = 165 :: 90 :: a :: b :: (octs (frBits (s : Int) xss) ++ octs (binL (chkL (hdB (octs (frBits (s : Int) xss))) : Nat) 24)) := by
  rw [encB]
  conv => lhs; arg 1; rw [hdB, hab]
  simp
 have hcl := octs_len (binL (chkL (hdB (octs (frBits (s : Int) xss))) : Nat) 24)
 rw [binL_length] at hcl
 have hel : (encB (s : Int) xss).length = 4 + (octs (frBits (s : Int) xss)).length + 3 := by
  rw [henc]; simp only [List.length_cons, List.length_append]; omega
 have hend : endR (encB (s : Int) xss ++ r) = (encB (s : Int) xss).length := by
  rw [hel]; unfold endR; rw [henc]; simp; omega
 have hbody : ((encB (s : Int) xss ++ r).take ((encB (s : Int) xss).length - 3)).drop 4 = octs (frBits (s : Int) xss) := by
  rw [hel, henc]
  generalize octs (frBits (s : Int) xss) = body at *
  rw [show 4 + body.length + 3 - 3 = body.length + 4 from by omega]
  simp
 have ht : takeR (unB (((encB (s : Int) xss ++ r).take ((encB (s : Int) xss).length - 3)).drop 4)) 32 = ((s, true), xss.flatMap encC ++ p) := by
  rw [hbody, hp, frBits, List.append_assoc, takeR_bin, Nat.mod_eq_of_lt (by omega)]
 have hst : startR (encB (s : Int) xss ++ r) = s := by unfold startR; rw [hend, ht]
 have hrows : rowsR bs (encB (s : Int) xss ++ r) = some xss := by
  unfold rowsR; rw [hend, ht]
  simp only [if_true]
  rw [chR_enc bs xss [] p hlen hrt, List.nil_append]
 have htk : (encB (s : Int) xss ++ r).take (encB (s : Int) xss).length = encB (s : Int) xss := by
  rw [List.take_append_of_le_length (Nat.le_refl _), List.take_of_length_le (Nat.le_refl _)]
 unfold firstR
 rw [hend, hrows, hst]
 have hlen7 : 7 <= (encB (s : Int) xss ++ r).length := by rw [List.length_append]; omega
 have h165 : (encB (s : Int) xss ++ r).getD 0 0 = 165 := by rw [henc]; rfl
 have h90 : (encB (s : Int) xss ++ r).getD 1 0 = 90 := by rw [henc]; rfl
 rw [if_pos ⟨hlen7, h165, h90, by rw [List.length_append]; omega⟩]
 simp only
 rw [htk, if_pos (by simp [hf])]
end Go.Proofs.YtdpjdifoonfcdaaGreatDoor

namespace Go.Proofs.YtdpjdifoonfcdaaGreatDoor
open Go.RowKit
abbrev Fr := Int × List (List Int)
def encF (f : Fr) : List Nat := encB f.1 f.2
def lastR (out : List Fr) : Int := match out.getLast? with | some f => f.1 | none => -1
theorem lastR_snoc (out : List Fr) (x : Fr) : lastR (out ++ [x]) = x.1 := by simp [lastR]
theorem lastR_nil : lastR [] = -1 := rfl
def unpackR (bs : List Chan) : Nat -> List Nat -> List Fr -> Option (List Fr)
 | _, [], out => some out
 | 0, _ :: _, _ => none
 | f + 1, b :: l, out => match firstR bs (b :: l) with
   | none => none
   | some (x, n) => if out.length = 64 ∨ x.1 <= lastR out then none else unpackR bs f ((b :: l).drop n) (out ++ [x])
theorem unpackR_nil (bs : List Chan) (f : Nat) (out : List Fr) : unpackR bs f [] out = some out := by cases f <;> rfl
theorem unpackR_step {bs : List Chan} {f : Nat} {l : List Nat} {out : List Fr} {x : Fr} {n : Nat} (h0 : 0 < l.length) (h : firstR bs l = some (x, n)) (h2 : ¬ (out.length = 64 ∨ x.1 <= lastR out)) : unpackR bs (f + 1) l out = unpackR bs f (l.drop n) (out ++ [x]) := by
 match l, h0 with
 | b :: l, _ => rw [unpackR, h]; simp only; rw [if_neg h2]
def IncR : Int -> List Fr -> Prop
 | _, [] => True
 | a, f :: l => a < f.1 /\ IncR f.1 l
theorem encF_pos (f : Fr) : 0 < (encF f).length := by unfold encF encB hdB; simp
theorem unpackR_enc {bs : List Chan} (hb : bookOK bs = true) : ∀ (l : List Fr) (f : Nat) (out : List Fr), (∀ x ∈ l, frOK bs x.1 x.2 = true) -> IncR (lastR out) l -> out.length + l.length <= 64 -> l.length <= f -> unpackR bs f (l.flatMap encF) out = some (out ++ l) := by
 intro l
 induction l with
 | nil => intro f out _ _ _ _; rw [List.flatMap_nil, unpackR_nil, List.append_nil]
 | cons x l ih =>
   intro f out h1 h2 h3 h4
   obtain ⟨f, rfl⟩ : ∃ g, f = g + 1 := ⟨f - 1, by simp at h4; omega⟩
   have hf := firstR_enc hb (h1 x (by simp)) (l.flatMap encF)
   have he : encB x.1 x.2 = encF x := rfl
   rw [he] at hf
   have hp := encF_pos x
   simp only [List.length_cons] at h3 h4
   rw [List.flatMap_cons, unpackR_step (by rw [List.length_append]; omega) hf (by have := h2.1; simp only; omega), List.drop_append_of_le_length (Nat.le_refl _), List.drop_eq_nil_of_le (Nat.le_refl _), List.nil_append]
   rw [ih f (out ++ [(x.1, x.2)]) (fun y hy => h1 y (by simp [hy])) (by rw [lastR_snoc]; exact h2.2) (by rw [List.length_append]; simp; omega) (by omega)]
   simp
def joinS (ss : List (Int × Int)) (i : Nat) : List (Int × Int) := match ss.getLast? with
 | some p => if p.2 = (i : Int) then ss.dropLast ++ [(p.1, (i : Int) + 1)] else ss ++ [((i : Int), (i : Int) + 1)]
 | none => ss ++ [((i : Int), (i : Int) + 1)]
def salP (bs : List Chan) (l : List Nat) (s : List Fr × Nat) (i : Nat) : (List Fr × Nat) × Bool :=
 if i < s.2 then (s, false) else if s.1.length < 64 then
  match firstR bs (l.drop i) with
  | some (x, n) => if lastR s.1 < x.1 then ((s.1 ++ [x], i + n), false) else (s, true)
  | none => (s, true)
 else (s, true)
def salTo (bs : List Chan) (l : List Nat) : Nat -> List Fr × Nat
 | 0 => ([], 0)
 | i + 1 => (salP bs l (salTo bs l i) i).1
def lostTo (bs : List Chan) (l : List Nat) : Nat -> List (Int × Int)
 | 0 => []
 | i + 1 => if (salP bs l (salTo bs l i) i).2 then joinS (lostTo bs l i) i else lostTo bs l i
theorem salP_in {bs : List Chan} {l : List Nat} {s : List Fr × Nat} {i : Nat} (h : i < s.2) : salP bs l s i = (s, false) := by rw [salP, if_pos h]
theorem salP_full {bs : List Chan} {l : List Nat} {s : List Fr × Nat} {i : Nat} (h : ¬ i < s.2) (h2 : ¬ s.1.length < 64) : salP bs l s i = (s, true) := by rw [salP, if_neg h, if_neg h2]
theorem salP_none {bs : List Chan} {l : List Nat} {s : List Fr × Nat} {i : Nat} (h : ¬ i < s.2) (h2 : s.1.length < 64) (h3 : firstR bs (l.drop i) = none) : salP bs l s i = (s, true) := by rw [salP, if_neg h, if_pos h2, h3]
theorem salP_old {bs : List Chan} {l : List Nat} {s : List Fr × Nat} {i : Nat} {x : Fr} {n : Nat} (h : ¬ i < s.2) (h2 : s.1.length < 64) (h3 : firstR bs (l.drop i) = some (x, n)) (h4 : ¬ lastR s.1 < x.1) : salP bs l s i = (s, true) := by
 rw [salP, if_neg h, if_pos h2, h3]; simp only; rw [if_neg h4]
theorem salP_new {bs : List Chan} {l : List Nat} {s : List Fr × Nat} {i : Nat} {x : Fr} {n : Nat} (h : ¬ i < s.2) (h2 : s.1.length < 64) (h3 : firstR bs (l.drop i) = some (x, n)) (h4 : lastR s.1 < x.1) : salP bs l s i = ((s.1 ++ [x], i + n), false) := by
 rw [salP, if_neg h, if_pos h2, h3]; simp only; rw [if_pos h4]
theorem salP_bd (bs : List Chan) (l : List Nat) (s : List Fr × Nat) (i : Nat) (hs : s.2 <= l.length) (hi : i <= l.length) (h64 : s.1.length <= 64) : (salP bs l s i).1.2 <= l.length /\ (salP bs l s i).1.1.length <= 64 := by
 unfold salP
 split
 · exact ⟨hs, h64⟩
 · split
   · rename_i h1 h2
     split
     · rename_i x n hx
       split
       · obtain ⟨-, -, h3, -⟩ := firstR_sound (st := x.1) (xss := x.2) hx
         rw [List.length_drop] at h3
         exact ⟨by simp only; omega, by simp only [List.length_append, List.length_singleton]; omega⟩
       · exact ⟨hs, h64⟩
     · exact ⟨hs, h64⟩
   · exact ⟨hs, h64⟩
theorem salTo_bd (bs : List Chan) (l : List Nat) (i : Nat) (hi : i <= l.length) : (salTo bs l i).2 <= l.length /\ (salTo bs l i).1.length <= 64 := by
 induction i with
 | zero => exact ⟨Nat.zero_le _, by simp [salTo]⟩
 | succ i ih =>
   obtain ⟨h1, h2⟩ := ih (by omega)
   exact salP_bd bs l _ i h1 (by omega) h2
theorem joinS_length (ss : List (Int × Int)) (i : Nat) : (joinS ss i).length <= ss.length + 1 := by
 unfold joinS
 split
 · split
   · rw [List.length_append, List.length_dropLast]; simp <;> omega
   · simp
 · simp
theorem sal_enc {bs : List Chan} (hb : bookOK bs = true) (l : List Fr) (h1 : ∀ x ∈ l, frOK bs x.1 x.2 = true) (hlen : l.length <= 64) :
 ∀ (j : Nat) (pre post : List Fr), l = pre ++ post -> pre.length = j -> (∀ (a b : List Fr) (x : Fr), l = a ++ x :: b -> lastR a < x.1) ->
   salTo bs (l.flatMap encF) (pre.flatMap encF).length = (pre, (pre.flatMap encF).length) /\ lostTo bs (l.flatMap encF) (pre.flatMap encF).length = [] := by
 intro j
 induction j with
 | zero => intro pre post _ hp _; rw [List.length_eq_zero_iff.1 hp]; exact ⟨rfl, rfl⟩
 | succ j ih =>
   intro pre post hl hp hinc
   obtain ⟨pre, x, rfl⟩ : ∃ p x, pre = p ++ [x] := by
    rcases List.eq_nil_or_concat pre with rfl | ⟨l', b, rfl⟩
    · simp at hp
    · exact ⟨l', b, by simp⟩
   simp at hp
   have hl2 : l = pre ++ x :: post := by rw [hl]; simp
   obtain ⟨i1, i2⟩ := ih pre (x :: post) hl2 hp hinc
   have hlt := hinc pre post x hl2
   have hfm : l.flatMap encF = pre.flatMap encF ++ (encF x ++ post.flatMap encF) := by rw [hl2]; simp
   have hf := firstR_enc hb (h1 x (by rw [hl2]; simp)) (post.flatMap encF)
   have he : encB x.1 x.2 = encF x := rfl
   rw [he] at hf
   have hpl : pre.length < 64 := by rw [hl2] at hlen; simp at hlen; omega
   have hdr : (l.flatMap encF).drop (pre.flatMap encF).length = encF x ++ post.flatMap encF := by
    rw [hfm, List.drop_append_of_le_length (Nat.le_refl _), List.drop_eq_nil_of_le (Nat.le_refl _), List.nil_append]
   have hs := salP_new (bs := bs) (l := l.flatMap encF) (s := (pre, (pre.flatMap encF).length)) (i := (pre.flatMap encF).length) (x := (x.1, x.2)) (n := (encF x).length) (Nat.lt_irrefl _) hpl (by rw [hdr]; exact hf) hlt
   have hpos := encF_pos x
   have hl3 : ((pre ++ [x]).flatMap encF).length = (pre.flatMap encF).length + (encF x).length := by simp
   have key : ∀ t, t < (encF x).length -> salTo bs (l.flatMap encF) ((pre.flatMap encF).length + 1 + t) = (pre ++ [x], (pre.flatMap encF).length + (encF x).length) /\ lostTo bs (l.flatMap encF) ((pre.flatMap encF).length + 1 + t) = [] := by
    intro t
    induction t with
    | zero =>
      intro _
      rw [Nat.add_zero, salTo, lostTo, i1, hs]
      exact ⟨rfl, by simpa using i2⟩
    | succ t iht =>
      intro ht
      obtain ⟨t1, t2⟩ := iht (by omega)
      have hin := salP_in (bs := bs) (l := l.flatMap encF) (s := (pre ++ [x], (pre.flatMap encF).length + (encF x).length)) (i := (pre.flatMap encF).length + 1 + t) (by simp only; omega)
      rw [<- Nat.add_assoc, salTo, lostTo, t1, hin]
      exact ⟨rfl, by simpa using t2⟩
   have hk := key ((encF x).length - 1) (by omega)
   rw [show (pre.flatMap encF).length + 1 + ((encF x).length - 1) = (pre.flatMap encF).length + (encF x).length from by omega] at hk
   rw [hl3]; exact hk
def frm (f : Frm) : Fr := (f.st, f.xss)
theorem upTo_get {l : List Frm} {n : Nat} (h : upTo l n = true) {k : Nat} (hk : k + 1 < n) : (l.getD k ⟨0, none, 0, []⟩).st < (l.getD (k + 1) ⟨0, none, 0, []⟩).st := by
 induction n with
 | zero => omega
 | succ n ih =>
   simp only [upTo, Bool.and_eq_true, Bool.or_eq_true, decide_eq_true_eq] at h
   by_cases hn : k + 1 < n
   · exact ih h.1 hn
   · obtain rfl : n = k + 1 := by omega
     rcases h.2 with h2 | h2
     · omega
     · simpa using h2
theorem rec_inc {bs : List Chan} {l : List Frm} (h : recErr bs l = 0) (a b : List Fr) (x : Fr) (he : l.map frm = a ++ x :: b) : lastR a < x.1 := by
 obtain ⟨-, -, h3, h4⟩ := recErr_zero h
 have hx : (l.map frm)[a.length]? = some x := by rw [he]; simp
 rw [List.getElem?_map, Option.map_eq_some_iff] at hx
 obtain ⟨f, hf, rfl⟩ := hx
 rcases List.eq_nil_or_concat a with rfl | ⟨a', y, rfl⟩
 · rw [lastR_nil]
   have := h3 f (List.mem_of_getElem? hf)
   simp only [frOK, inB, Bool.and_eq_true, decide_eq_true_eq] at this
   have := this.1.1
   show -1 < f.st
   omega
 · rw [List.concat_eq_append] at he hf
   have hy : (l.map frm)[a'.length]? = some y := by rw [he]; simp
   rw [List.getElem?_map, Option.map_eq_some_iff] at hy
   obtain ⟨g, hg, rfl⟩ := hy
   rw [List.length_append, List.length_singleton] at hf
   have hlt := (List.getElem?_eq_some_iff.1 hf).1
   have hu := upTo_get h4 hlt
   rw [List.getD_eq_getElem?_getD, List.getD_eq_getElem?_getD, hf, hg] at hu
   rw [List.concat_eq_append, lastR_snoc]
   exact hu
theorem inc_of {l : List Fr} (h : ∀ (a b : List Fr) (x : Fr), l = a ++ x :: b -> lastR a < x.1) : ∀ (post pre : List Fr), l = pre ++ post -> IncR (lastR pre) post := by
 intro post
 induction post with
 | nil => intro _ _; trivial
 | cons x post ih =>
   intro pre he
   refine ⟨h pre post x he, ?_⟩
   have := ih (pre ++ [x]) (by rw [he]; simp)
   rwa [lastR_snoc] at this
theorem pack_back {bs : List Chan} {l : List Frm} (h : recErr bs l = 0) (f : Nat) (hf : l.length <= f) :
 unpackR bs f ((l.map frm).flatMap encF) [] = some (l.map frm) /\ salTo bs ((l.map frm).flatMap encF) ((l.map frm).flatMap encF).length = (l.map frm, ((l.map frm).flatMap encF).length) /\ lostTo bs ((l.map frm).flatMap encF) ((l.map frm).flatMap encF).length = [] := by
 obtain ⟨h1, h2, h3, -⟩ := recErr_zero h
 have hb := bookErr_zero h1
 have hok : ∀ x ∈ l.map frm, frOK bs x.1 x.2 = true := by
  intro x hx
  obtain ⟨g, hg, rfl⟩ := List.mem_map.1 hx
  exact h3 g hg
 have hinc := rec_inc h
 have hi := inc_of hinc (l.map frm) [] rfl
 have hs := sal_enc hb (l.map frm) hok (by simpa using h2) _ (l.map frm) [] (by simp) rfl hinc
 refine ⟨?_, hs.1, hs.2⟩
 have := unpackR_enc hb (l.map frm) f [] hok hi (by simpa using h2) (by simpa using hf)
 simpa using this
end Go.Proofs.YtdpjdifoonfcdaaGreatDoor

namespace Go.Proofs.YtdpjdifoonfcdaaGreatDoor
open Go.RowKit
theorem bys_one (l : List Nat) : ∀ u ∈ bys l, u.oneCell' = true := by
 intro u hu; obtain ⟨d, _, rfl⟩ := List.mem_map.1 hu; rfl
end Go.Proofs.YtdpjdifoonfcdaaGreatDoor

namespace Go.Proofs.YtdpjdifoonfcdaaGreatDoor
open Go.RowKit
def packTo (l : List Frm) (k : Nat) : List Nat := (l.take k).flatMap fun f => encB f.st f.xss
def packRes (bs : List Chan) (l : List Frm) : List Nat := if recErr bs l = 0 then l.flatMap fun f => encB f.st f.xss else []
theorem packTo_succ {l : List Frm} {k : Nat} {f : Frm} (h : l[k]? = some f) : packTo l (k + 1) = packTo l k ++ encB f.st f.xss := by
 rw [packTo, take_get h, List.flatMap_append]; simp [packTo]
theorem encB_length (st : Int) (xss : List (List Int)) (hl : xss.length <= 16) (hxl : ∀ xs ∈ xss, xs.length <= 64) : (encB st xss).length <= 6800 := by
 have hfl := flat_encC xss 64 hxl
 have h1 : (octs (frBits st xss)).length <= 6700 := by
  rw [octs_len, frBits, List.length_append, binL_length]; omega
 have h24 : ∀ n : Int, (octs (binL n 24)).length = 3 := fun n => by rw [octs_len, binL_length]
 have h16 : ∀ n : Int, (octs (binL n 16)).length = 2 := fun n => by rw [octs_len, binL_length]
 rw [encB, List.length_append, h24, hdB, List.length_append, List.length_append, h16]
 simp only [List.length_cons, List.length_nil]; omega
theorem packTo_le {bs : List Chan} (l : List Frm) (k : Nat) (h : ∀ f ∈ l, frmErr bs f.st f.xss = 0) : (packTo l k).length <= 6800 * k := by
 induction k with
 | zero => simp [packTo]
 | succ k ih =>
   by_cases hk : k < l.length
   · obtain ⟨f, hf⟩ := get_of_lt hk
     obtain ⟨_, z1, z2, _, _, z5, _⟩ := frmErr_zero (h f (List.mem_of_getElem? hf))
     have := encB_length f.st f.xss (by omega) z5
     rw [packTo_succ hf, List.length_append]; omega
   · have : packTo l (k + 1) = packTo l k := by rw [packTo, packTo, List.take_of_length_le (by omega), List.take_of_length_le (by omega)]
     rw [this]; omega
set_option maxRecDepth 100000 in
set_option maxHeartbeats 1000000 in
theorem pack_any (ao : Option Addr) (bs : List Chan) (cap : Nat) (al : Option Addr) (l : List Frm) (cl : Nat) (w : World) (hb : BookIn w ao bs cap) (hr : RecIn w al l) :
 Calls Tryz.prog 55 #[.slice ao bs.length cap, .slice al l.length cl] w fun e w' => (∃ v, e = .returned (.tuple #[v, .int .i64 (recErr bs l)]) /\ w'.ownsRow w.heap.size 5 1 v (packRes bs l).length (bys (packRes bs l))) /\ Below w.heap.size w w' := by
 have hck := checkRecord_any ao bs cap al l cl w hb hr
 have HCK := Lib.hid hck; have HR := Lib.hid hr; have HB := Lib.hid hb
 have hlen := hr.len
 clear hck hr hb
 by_cases h1 : recErr bs l = 0
 · have he : packRes bs l = packTo l l.length := by rw [packRes, if_pos h1, packTo, List.take_length]
   obtain ⟨y5, y4, y6, _⟩ := recErr_zero h1
   have hfz : ∀ f ∈ l, frmErr bs f.st f.xss = 0 := fun f hf => by rw [frmErr, if_neg (by simpa using y5), if_pos (y6 f hf)]
   have HE := Lib.hid he; have H1 := Lib.hid h1; have HFZ := Lib.hid hfz
   have HPL := Lib.hid (fun k => packTo_le l k hfz)
   obtain ⟨i0, hi, hz0, hz1, hz2⟩ := info_parts Tryz.infoByte
   clear he h1 y5 y6 hfz
   go_enter Tryz.func55, Tryz.ntmps55
   go_wp2_with fail
   refine HCK.out.mono ?_
   rintro e w1 ⟨rfl, hb1⟩
   rw [H1.out]
   have HR1 := Lib.hid (HR.out.below hb1 (Nat.le_refl _))
   have hw1 := hb1.size
   have hrf := Below.refl w1.heap.size w1
   go_wp2_with fail
   go_loopw [7, 18] (fun v i wr => ∃ k : Nat, k <= l.length /\ i = .int .i64 k /\ wr.ownsRow w1.heap.size 5 1 v (packTo l k).length (bys (packTo l k)) /\ Below w1.heap.size w1 wr) (fun _ i _ => l.length - (intOf i).toNat)
   case atStart => exact ⟨0, Nat.zero_le _, rfl, World.ownsRow_nil _ _ _ _, hrf⟩
   case round =>
    clear hrf
    obtain ⟨k, hk, rfl, hown, hbr⟩ := hrel
    have HO := Lib.hid hown; clear hown
    have hz := hbr.size
    have hpl := HPL.out k
    by_cases hlt : k < l.length
    · obtain ⟨⟨xst, xa, xc, xss⟩, hx⟩ := get_of_lt hlt
      have hmem := List.mem_of_getElem? hx
      have hst := packTo_succ hx
      obtain ⟨_, z1, z2, z3, z4, z5, z6⟩ := frmErr_zero (HFZ.out _ hmem)
      simp only at z1 z2 z3 z4 z5 z6 hst
      have hel := encB_length xst xss (by omega) z5
      obtain ⟨bl, ol, rfl⟩ := HR1.out.cells.addr (frs_ne (by omega))
      have d0 := cell_keep (HR1.out.cells.at (frs_get hx).1) hbr (Nat.le_refl _)
      have d1 := cell_keep (HR1.out.cells.at (frs_get hx).2) hbr (Nat.le_refl _)
      rw [<- Nat.add_assoc] at d1
      obtain ⟨_, vs, hvs, hrv⟩ := HR1.out.rows _ hmem
      simp only at d0 d1 hvs hrv
      rw [z2] at d1
      have hen := fun wx h1 h2 => encode_any ao bs.length cap xst xa vs xss xc wx z1 z2 h1 h2 z3 z4 z5 z6
      skip
      have HEN := Lib.hid hen; have HST := Lib.hid hst
      have hba : Below w1.heap.size w1 (wr.alloc (.cells #[.int .i64 xst, .slice xa bs.length xc] 108)) := hbr.alloc hz _
      have HVS := Lib.hid (hvs.below hba (Nat.le_refl _)); have HRV := Lib.hid (hrv.below hba (Nat.le_refl _))
      have HOA : Hid ((wr.alloc (.cells #[.int .i64 xst, .slice xa bs.length xc] 108)).ownsRow w1.heap.size 5 1 u7 (packTo l k).length (bys (packTo l k))) := Lib.hid (HO.out.alloc _)
      have hza := hba.size
      have i1 : (k : Int) < l.length := by omega
      have i2 : (0 : Int) <= k := by omega
      clear hen hst hvs hrv hx hmem z1 z2 z3 z4 z5 z6
      go_wp2_with fail
      refine (HEN.out _ HVS.out HRV.out).mono ?_
      rintro e w2 ⟨⟨v2, rfl, ho2⟩, hb2⟩
      have HO2 := Lib.hid ho2
      have HOL := Lib.hid (own_below HOA.out hb2 (Nat.le_refl _))
      have hbb := hba.trans (hb2.mono hza)
      have hzz := hbb.size
      clear ho2 hb2
      go_wp2_with (at_builtin; refine wpList_append_two rfl _ _ 109 rfl w1.heap.size 5 i0 (.int .u8 0) 1 1 Tryz.underlying109 hi hz0 hz1 hz2 rfl (by decide) _ _ _ rfl HOL.out _ _ _ _ rfl HO2.out (bys_one _) (by unfold maxLen; omega) (by omega) (by omega) ?_; intro v3 wz hown3 hgrow _)
      have hbz := hbb.grown hgrow (by omega) (fun j e => (HOL.out.lt j e).1)
      have hfin : wz.ownsRow w1.heap.size 5 1 v3 (packTo l (k + 1)).length (bys (packTo l (k + 1))) := by
       rw [HST.out, List.length_append, bys_append]; exact hown3
      have HF := Lib.hid hfin
      clear hown3 hgrow hfin
      go_wp2
      go_roundw
      case rel => exact ⟨k + 1, by omega, by go_num, HF.out, hbz⟩
      case measure => simp [intOf]; omega
    · obtain rfl : k = l.length := by omega
      have hbf := hb1.trans (hbr.mono hw1)
      go_wp2
      go_ret2
      exact ⟨⟨_, by rw [H1.out]; rfl, by rw [HE.out]; exact own_base HO.out hw1⟩, hbf⟩
 · have he : packRes bs l = [] := by rw [packRes, if_neg h1]
   have h3 : (recErr bs l != 0) = true := by simpa using h1
   have h4 : (recErr bs l == 0) = false := by simpa using h1
   have HE := Lib.hid he; clear he
   go_enter Tryz.func55, Tryz.ntmps55
   go_wp2_with fail
   refine HCK.out.mono ?_
   rintro e w1 ⟨rfl, hb1⟩
   go_wp2
   go_ret2
   exact ⟨⟨_, rfl, by rw [HE.out]; exact World.ownsRow_nil _ _ _ _⟩, hb1⟩
end Go.Proofs.YtdpjdifoonfcdaaGreatDoor
