/- Parts of a proof, in build order: Dq, Dk, V1, V2. -/
import Derived.Test.YtoochleabcjljaaGreatDoorKc10
import Derived.ProofKit
import Derived.OpenShut
import Derived.ReadAgain
import Derived.Deep.Slices
import Derived.Deep.SlicePairs
import Derived.Lib.SmallJoins
import Derived.Below
import Derived.ChangeSame
import Derived.Deep.Strs

/- RecordChanged: the walk, more frames. -/
namespace Go.Proofs.YtoochleabcjljaaGreatDoor
open Go.RowKit

set_option maxRecDepth 100000 in
set_option maxHeartbeats 100000000 in
theorem changed_b (ao : Option Addr) (bs : List Chan) (cap : Nat) (al : Option Addr) (l : List Frm) (cl : Nat) (at_ by_ : Int) (w : World) (hb : BookIn w ao bs cap) (hr : RecIn w al l) (hq : ¬ l.length = 1) :
    Calls Tryz.prog 7 #[.agg #[.slice ao bs.length cap, .slice al l.length cl], .int .i64 at_, .int .i64 by_] w fun e w' => e = .returned (.bool true) ∧ Below w.heap.size w w' := by
  have HB := Lib.hid hb; have HR := Lib.hid hr
  have hlen := hb.len
  have hll := hr.len
  clear hb hr
  have hb0 := (Below.refl w.heap.size w).alloc (Nat.le_refl _) (.cells #[.slice ao bs.length cap, .slice al l.length cl] 40)
  go_enter Tryz.func7, Tryz.ntmps7
  go_wp2_with fail
  refine (pack_any ao bs cap al l cl _ (HB.out.below hb0 (Nat.le_refl _)) (HR.out.below hb0 (Nat.le_refl _))).mono ?_
  rintro e w1 ⟨⟨v1, rfl, ho1⟩, hb1⟩
  have hbx := Blk.below (Blk.new w 40 #[.slice ao bs.length cap, .slice al l.length cl]) hb1 (by simp)
  have n1 := hb0.trans (hb1.mono (by simp))
  have hz1 := n1.size
  have q0 := hbx.c0
  have q1 := hbx.c1
  clear hb0 hb1
  by_cases h1 : recErr bs l = 0
  · have hpl := pack_len h1
    have hpf := packRes_flat h1
    have hbook := (recErr_zero h1).1
    have H1 := Lib.hid h1
    by_cases h0 : (packRes bs l).length = 0
    · have hl0 : l.length = 0 := by
        cases l with
        | nil => rfl
        | cons f m =>
          have := encF_pos (frm f)
          rw [hpf] at h0
          simp only [List.map_cons, List.flatMap_cons, List.length_append] at h0
          omega
      obtain ⟨ea, ec, rfl, -, -, -⟩ := own_cap ho1
      rw [h1, h0]
      clear ho1 hpl hpf h0
      go_wp2_with fail
      refine (works_any _).mono ?_
      rintro e w6 ⟨rfl, hb6⟩
      have hfin := n1.trans (hb6.mono hz1)
      go_wp2
      go_ret
      exact ⟨rfl, hfin⟩
    · obtain ⟨g, ec, rfl, hgb, -⟩ := ho1.form (by omega)
      have hone : l.length = 1 → ∃ f, l = [f] ∧ packRes bs l = encF (frm f) := by
        intro hl1
        obtain ⟨f, rfl⟩ := List.length_eq_one_iff.1 hl1
        exact ⟨f, rfl, by rw [hpf]; simp⟩
      have hP256 := packRes_lt bs l
      have HONE := Lib.hid hone; have HP256 := Lib.hid hP256
      rw [h1]
      clear h1 hpf hP256 hone
      generalize packRes bs l = P at *
      obtain ⟨pn, hpn⟩ := Int.eq_ofNat_of_zero_le (Int.emod_nonneg at_ (show (P.length : Int) ≠ 0 by omega))
      have hplt : pn < P.length := by have := Int.emod_lt_of_pos at_ (show (0 : Int) < P.length by omega); omega
      obtain ⟨mm, hmm⟩ := Int.eq_ofNat_of_zero_le (Int.emod_nonneg by_ (show (255 : Int) ≠ 0 by decide))
      have hmm254 : mm ≤ 254 := by have := Int.emod_lt_of_pos by_ (show (0 : Int) < 255 by decide); omega
      obtain ⟨d, hd⟩ := get_of_lt hplt
      have hd256 := HP256.out d (List.mem_of_getElem? hd)
      obtain ⟨x, hx, hxd, hxw⟩ := changed_byte hd256 hmm254
      have hm1 := modz_any at_ P.length w1 (by omega) (by omega)
      rw [hpn] at hm1
      have hm2 := fun (wx : World) => modz_any by_ 255 wx (by decide) (by decide)
      rw [hmm] at hm2
      have hcd : w1.cell? ⟨g, pn, none⟩ = some (.int .u8 (d : Nat)) := by
        rw [ho1.cellAt pn (by omega), bys_get hd]
      have hcf := ho1.frozenAt pn
      have hsto := ho1.stored pn (.int .u8 (x : Nat))
      rw [set_bys] at hsto
      have hglt := ho1.lt g rfl
      simp only [World.size_alloc] at hglt
      have i1 : (pn : Int) < P.length := by omega
      have i2 : (0 : Int) ≤ pn := by omega
      have q9 : IntKind.i64.wrap (1 + (mm : Int)) = 1 + (mm : Int) := IntWalk.i64_in _ (by omega)
      have q8 : IntKind.u8.wrap (1 + (mm : Int)) = 1 + (mm : Int) := IntWalk.u8_in _ (by omega)
      have h0i : ¬ (P.length : Int) = 0 := by omega
      have hgne : w.heap.size ≠ g := by omega
      have hPl : (P.set pn x).length = P.length := List.length_set
      have hbxW : Blk (w1.setCell ⟨g, pn, none⟩ (.int .u8 (x : Nat))).drew w.heap.size 40 #[.slice ao bs.length cap, .slice al l.length cl] := hbx.other hgne _ _
      have hbW : Below w.heap.size w (w1.setCell ⟨g, pn, none⟩ (.int .u8 (x : Nat))).drew := (n1.setCell (p := ⟨g, pn, none⟩) (by simp; omega) _).drew
      have hoW : (w1.setCell ⟨g, pn, none⟩ (.int .u8 (x : Nat))).drew.ownsRow (w.heap.size + 1) 5 1 (.slice (some ⟨g, 0, none⟩) P.length ec) P.length (bys (P.set pn x)) := by
        have := hsto.1
        simp only [World.size_alloc] at this
        exact this
      obtain ⟨_, _, hv, hcW, hnc, hcm⟩ := own_cap hoW
      simp only [Value.slice.injEq, true_and] at hv
      obtain ⟨rfl, rfl⟩ := hv
      have hmx : maxLen = 9223372036854775807 := rfl
      rw [hmx] at hcm
      have hbyW : ByIn (w1.setCell ⟨g, pn, none⟩ (.int .u8 (x : Nat))).drew (some ⟨g, 0, none⟩) (P.set pn x) ec := ⟨hcW, fun e he => by
        rcases List.mem_or_eq_of_mem_set he with h | h
        · exact HP256.out e h
        · rw [h]; exact hx, by omega, by omega, hcm⟩
      have hdn : l.length = 1 → decR bs (P.set pn x) = none ∧ decErr bs (P.set pn x) = 5 := by
        intro hl1
        obtain ⟨f, rfl, hf⟩ := HONE.out hl1
        subst hf
        have h2 := dec_changed (bs := bs) (f := frm f) (i := pn) hx hplt (by rw [getD_of hd]; exact hxd) HP256.out
        exact ⟨h2, by rw [decErr, if_neg (by simpa using hbook), h2]; rfl⟩
      have hse : salErr bs (P.set pn x) = 0 := by unfold salErr; rw [if_neg (by simpa using hbook), if_neg (by omega)]
      have HM1 := Lib.hid hm1; have HM2 := Lib.hid hm2; have HBXW := Lib.hid hbxW; have HBW := Lib.hid hbW; have HBYW := Lib.hid hbyW; have HDN := Lib.hid hdn; have HSE := Lib.hid hse; have HPL := Lib.hid hPl; have HBK := Lib.hid hbook
      clear hm1 hm2 hsto hd hbx hpn hmm ho1 hbxW hbW hoW hcW hbyW hdn hse hPl hmx hbook HONE HP256
      by_cases hl1 : l.length = 1
      · exact absurd hl1 hq
      · have hl1i : ¬ (l.length : Int) = 1 := by omega
        go_wp2_with fail
        refine HM1.out.mono ?_
        rintro e w2 ⟨rfl, rfl⟩
        go_wp2_with fail
        go_region_with (go_at_call 47; refine (HM2.out _).mono ?_; rintro e w2 ⟨rfl, rfl⟩)
        all_goals
          generalize (w1.setCell ⟨g, pn, none⟩ (.int .u8 (x : Nat))).drew = Wz at *
          have r0 := HBXW.out.c0
          have r1 := HBXW.out.c1
          have HBXZ := HBXW; have HBYZ := HBYW; have HBZ := HBW
          clear q0 q1 hcd hcf HBXW HBYW HBW
          go_wp2_with fail
          have hsa := salvage_any ao bs cap (some ⟨g, 0, none⟩) (P.set pn x) ec Wz (HB.out.below HBZ.out (Nat.le_refl _)) HBYZ.out
          rw [HPL.out] at hsa
          refine hsa.mono ?_
          rintro e w4 ⟨hres, hb4⟩
          unfold SalRes at hres
          rw [if_pos HSE.out] at hres
          obtain ⟨v3, vl, fs, rfl, hfm, hfs, hol⟩ := hres
          obtain ⟨a3, c3, rfl, hri⟩ := hfs.recIn
          obtain ⟨la, lc, rfl, hlc⟩ := own_cells hol
          obtain ⟨ht, hinc, hfok⟩ := sal_tiles bs (P.set pn x)
          have hlost := lostTo_length bs (P.set pn x) (P.set pn x).length
          have hfsl := (salTo_bd bs (P.set pn x) (P.set pn x).length (Nat.le_refl _)).2
          rw [← hfm] at ht hinc hfok hfsl
          rw [List.length_map] at hfsl
          have hpc := HPL.out
          have hbx4 := HBXZ.out.below hb4 HBXZ.out.lt
          have hbe4 := HBZ.out.trans (hb4.mono HBZ.out.size)
          have r0 := hbx4.c0
          have HT := Lib.hid ht; have HINC := Lib.hid hinc; have HFOK := Lib.hid hfok; have HRI := Lib.hid hri; have HLC := Lib.hid hlc; have HBE4 := Lib.hid hbe4; have HBY4 := Lib.hid (HBYZ.out.below hb4 (Nat.le_refl _))
          have HR4 := Lib.hid r0
          clear hsa hb4 hfm hfs hol ht hinc hfok hri hlc hbx4 hbe4 r0 r1 HBXZ HBYZ HBZ
          generalize lostTo bs (P.set pn x) (P.set pn x).length = lost at *
          generalize P.set pn x = Pc at *
          go_wp2_with fail
          go_loopw [13, 14, 15] (fun fv kv iv wr => ∃ (fr k i : Nat), fv = .int .i64 fr ∧ kv = .int .i64 k ∧ iv = .int .i64 i ∧ i ≤ fs.length ∧ k ≤ lost.length ∧ Tl Pc fr ((fs.map frm).drop i) (lost.drop k) ∧ Below w4.heap.size w4 wr) (fun _ _ iv _ => fs.length + 1 - (intOf iv).toNat)
          case atStart => exact ⟨0, 0, 0, rfl, rfl, rfl, Nat.zero_le _, Nat.zero_le _, by simpa using HT.out, Below.refl _ _⟩
          case round =>
            obtain ⟨fr, k, i, rfl, rfl, rfl, hi, hk, htl, hb⟩ := hrel
            have r0 := cell_keep HR4.out hb (Nat.le_refl _)
            have hil : (i : Int) ≤ fs.length := by omega
            rcases htl with ⟨z, rest, hlk, hz, htc, hhd⟩ | ⟨htc, hhd⟩
            · have hkl : k < lost.length := by
                rcases Nat.lt_or_ge k lost.length with h9 | h9
                · exact h9
                · rw [List.drop_eq_nil_of_le h9] at hlk; cases hlk
              have hlg : lost[k]? = some ((fr : Int), (z : Int)) := by
                have h9 : (lost.drop k)[0]? = some ((fr : Int), (z : Int)) := by rw [hlk]; rfl
                rwa [List.getElem?_drop, Nat.add_zero] at h9
              have hrest : rest = lost.drop (k + 1) := by
                have h9 := congrArg (List.drop 1) hlk
                rw [List.drop_drop] at h9; simpa using h9.symm
              rw [hrest] at htc hhd
              obtain ⟨lb, lo, rfl⟩ := HLC.out.addr (prs_ne (by omega))
              have s0 := cell_keep (HLC.out.at (prs_fst hlg)) hb (Nat.le_refl _)
              have s9 := cell_keep (HLC.out.at (prs_snd hlg)) hb (Nat.le_refl _)
              rw [← Nat.add_assoc] at s9
              have k1 : (k : Int) < lost.length := by omega
              have k2 : (0 : Int) ≤ k := by omega
              have k3 : ¬ (z : Int) ≤ fr := by omega
              have k4 : k < lost.length := hkl
              have hzl := htc.le
              clear hlk hrest hlg
              by_cases hend : i = fs.length
              · have hdr0 : (fs.map frm).drop i = [] := List.drop_eq_nil_of_le (by simp; omega)
                rw [hdr0] at htc
                obtain ⟨hke, hFe⟩ := htc
                have hk2 : k + 1 = lost.length := by
                  have := congrArg List.length hke
                  rw [List.length_drop, List.length_nil] at this; omega
                have hkb : (((k : Int) + 1) == (lost.length : Int)) = true := by rw [beq_iff_eq]; omega
                have hFb : (((z : Nat) : Int) == (P.length : Int)) = true := by rw [beq_iff_eq]; have := HPL.out; omega
                have hie : (i : Int) = fs.length := by omega
                clear hdr0 hke hFe hk2 hhd
                go_wp2_with fail
                refine (works_any _).mono ?_
                rintro e w9 ⟨rfl, hb9⟩
                have hfin := HBE4.out.trans ((hb.trans (hb9.mono hb.size)).mono HBE4.out.size)
                go_wp2
                go_ret
                exact ⟨rfl, hfin⟩
              · obtain ⟨f, hf⟩ := get_of_lt (show i < fs.length by omega)
                have hmem := List.mem_of_getElem? hf
                have hdri : (fs.map frm).drop i = frm f :: (fs.map frm).drop (i + 1) := by
                  have hli : i < (fs.map frm).length := by simp; omega
                  rw [List.drop_eq_getElem_cons hli]
                  congr 1
                  have := (List.getElem?_eq_some_iff.1 (show (fs.map frm)[i]? = some (frm f) by simp [hf])).2
                  exact this
                rw [hdri] at htc
                obtain ⟨hcode, hcl, htl2⟩ := htc.next
                have hfe : frmErr bs f.st f.xss = 0 := by
                  have h9 := HFOK.out (frm f) (List.mem_map.2 ⟨f, hmem, rfl⟩)
                  simp only [frm] at h9
                  simp [frmErr, HBK.out, h9]
                obtain ⟨hfl, vs, hcs, hrv⟩ := HRI.out.rows f hmem
                obtain ⟨fb, fo, hfa⟩ := HRI.out.cells.addr (frs_ne (by omega))
                have c0 := cell_keep (show w4.cell? ⟨fb, fo + i * 2, none⟩ = some (.int .i64 f.st) from by have h8 := HRI.out.cells; rw [hfa] at h8; exact h8.at (frs_get hf).1) hb (Nat.le_refl _)
                have c1 := cell_keep (show w4.cell? ⟨fb, fo + (i * 2 + 1), none⟩ = some (.slice f.a f.xss.length f.c) from by have h8 := HRI.out.cells; rw [hfa] at h8; exact h8.at (frs_get hf).2) hb (Nat.le_refl _)
                rw [← Nat.add_assoc] at c1
                subst hfa
                have hbw := HBE4.out.trans (hb.mono HBE4.out.size)
                have hen := Encode_any ao bs cap f.st f.a vs f.xss f.c wr.drew (HB.out.below hbw.drew (Nat.le_refl _)) (hcs.below hb.drew (Nat.le_refl _)) (hrv.below hb.drew (Nat.le_refl _)) hfl
                rw [hfe, show encRes bs f.st f.xss = encF (frm f) from by rw [encRes, if_pos hfe]; rfl] at hen
                have hE256 : ∀ d ∈ encF (frm f), d < 256 := encB_lt f.st f.xss
                have hEp := encF_pos (frm f)
                have hsub : Cells w4 (some ⟨g, z, none⟩) (bys (encF (frm f))) := by
                  refine .inr ⟨g, z, rfl, fun j u hu => ?_⟩
                  have h8 := HBY4.out.cells.at (j := z + j) (u := u) (by
                    rw [← hu, ← hcode, bys, bys, List.map_take, List.map_drop, List.getElem?_take, if_pos (by have := (List.getElem?_eq_some_iff.1 hu).1; rw [bys_length] at this; exact this), List.getElem?_drop])
                  rw [Nat.zero_add] at h8; exact h8
                have hst2 : ∀ m, i = m + 1 → ∃ f0, fs[m]? = some f0 ∧ f0.st < f.st := by
                  intro m hm
                  subst hm
                  obtain ⟨f0, hf0⟩ := get_of_lt (show m < fs.length by omega)
                  refine ⟨f0, hf0, ?_⟩
                  have h8 := HINC.out ((fs.map frm).take (m + 1)) ((fs.map frm).drop (m + 2)) (frm f) (by rw [← hdri, List.take_append_drop])
                  rw [take_get (show (fs.map frm)[m]? = some (frm f0) by simp [hf0]), lastR_snoc] at h8
                  exact h8
                have HEN := Lib.hid hen; have HSUB := Lib.hid hsub; have HE256 := Lib.hid hE256; have HST2 := Lib.hid hst2; have HTL2 := Lib.hid htl2; have HF := Lib.hid hf; have HCODE := Lib.hid hcode
                have HFI := Lib.hid (HRI.out.rows f hmem)
                have j1 : (i : Int) < fs.length := by omega
                have j2 : (0 : Int) ≤ i := by omega
                have j3 : ((i : Int) == fs.length) = false := by rw [beq_eq_false_iff_ne]; omega
                have j4 : ¬ (i : Int) = fs.length := by omega
                have hzr := hb.size
                clear hen hsub hE256 hst2 htl2 hf hcode hfe hcs hrv hmem hdri htc hhd
                generalize encF (frm f) = E at *
                go_wp2_with fail
                go_region_held3 (fun w' => w'.cell? ⟨w.heap.size, 0, none⟩ = some (.slice ao bs.length cap) ∧ w'.cell? ⟨fb, fo + i * 2, none⟩ = some (.int .i64 f.st) ∧ w'.cell? ⟨fb, fo + i * 2 + 1, none⟩ = some (.slice f.a f.xss.length f.c))
                  (first | exact ⟨r0, c0, c1⟩ | exact ⟨cell_keep r0 hbz (Nat.le_refl _), cell_keep c0 hbz (Nat.le_refl _), cell_keep c1 hbz (Nat.le_refl _)⟩ | go_keep)
                  (first | (go_at_call 30; refine HEN.out.mono ?_; rintro e w5 ⟨⟨v5, rfl, ho5⟩, hb5⟩; have hbz : Below wr.heap.size wr w5 := ((Below.refl wr.heap.size wr).drew).trans hb5; clear hb5; have HO5 := Lib.hid ho5; clear ho5))
                all_goals
                  obtain ⟨ga, gc, rfl, -, -, -⟩ := own_cap HO5.out
                  have hbz4 := hb.trans (hbz.mono hzr)
                  have hcv2 := fun (n : Nat) => conv_own (w := w5.drewN n) E (own_drewN HO5.out n) HE256.out
                  have hcv1 := fun (n : Nat) => conv_cells (w := w5.drewN n) E (ec - z) (HSUB.out.below (bel_drewN hbz4 n) (Nat.le_refl _)) HE256.out
                  generalize bstr E = sE at hcv1 hcv2
                  have s1 := cell_keep c0 hbz (Nat.le_refl _)
                  have p1 : IntKind.i64.wrap ((z : Int) + E.length) = (z : Int) + E.length := IntWalk.i64_in _ (by omega)
                  have p2 : decide ((P.length : Int) < (z : Int) + E.length) = false := by rw [decide_eq_false_iff_not]; have := HPL.out; omega
                  have p10 : (sE.toList == sE.toList) = true := by simp
                  have p3 : (z : Int) ≤ (z : Int) + E.length := by omega
                  have p4 : (z : Int) + E.length ≤ ec := by have := HPL.out; have := HBY4.out.lecap; omega
                  have p5 : (0 : Int) ≤ z := by omega
                  have p6 : ((z : Int) + E.length).toNat = z + E.length := by omega
                  have p7 : z + E.length - z = E.length := by omega
                  have p8 : ¬ ec = z := by have := HPL.out; have := HBY4.out.lecap; omega
                  have p9 : ¬ ec - z = 0 := by have := HPL.out; have := HBY4.out.lecap; omega
                  clear c0 c1 r0
                  rcases Nat.eq_zero_or_pos i with hi0 | hi0
                  · have hii : decide ((0 : Int) < (i : Int)) = false := by rw [decide_eq_false_iff_not]; omega
                    have hii2 : decide (0 < i) = false := by rw [decide_eq_false_iff_not]; omega
                    clear hi0
                    go_wp2_with fail
                    go_quiet (fail)
                    go_wp2_with fail
                    clear hcv1 hcv2 p1 p2 p3 p4 p5 p6 p7 p8 p9 s1
                    go_roundw
                    case rel => exact ⟨z + E.length, k + 1, i + 1, by go_num, by go_num, by go_num, by omega, by omega, HTL2.out, bel_drewN hbz4 _⟩
                    case measure => simp [intOf]; omega
                  · obtain ⟨m, hm⟩ : ∃ m, i = m + 1 := ⟨i - 1, by omega⟩
                    obtain ⟨f0, hf0, hlt0⟩ := HST2.out m hm
                    have y0 := cell_keep (HRI.out.cells.at (frs_get hf0).1) hbz4 (Nat.le_refl _)
                    have hii : decide ((0 : Int) < (i : Int)) = true := by rw [decide_eq_true_iff]; omega
                    have hii2 : decide (0 < i) = true := by rw [decide_eq_true_iff]; omega
                    have q1 : IntKind.i64.wrap ((i : Int) - 1) = (i : Int) - 1 := IntWalk.i64_in _ (by omega)
                    have q2 : ((i : Int) - 1).toNat = m := by omega
                    have q3 : (0 : Int) ≤ (i : Int) - 1 := by omega
                    have q4 : (i : Int) - 1 < fs.length := by omega
                    have q5 : decide (f.st ≤ f0.st) = false := by rw [decide_eq_false_iff_not]; omega
                    clear hi0 hm hf0 hlt0
                    go_wp2_with fail
                    go_quiet (fail)
                    go_wp2_with fail
                    clear hcv1 hcv2 p1 p2 p3 p4 p5 p6 p7 p8 p9 s1 y0 q1 q2 q3 q4 q5 hii hii2
                    go_roundw
                    case rel => exact ⟨z + E.length, k + 1, i + 1, by go_num, by go_num, by go_num, by omega, by omega, HTL2.out, bel_drewN hbz4 _⟩
                    case measure => simp [intOf]; omega
            · have hzl := htc.le
              rcases Nat.lt_or_ge k lost.length with hkl | hkl
              · obtain ⟨p, hlg⟩ := get_of_lt hkl
                have hpf := hhd p (by
                  have h9 : (lost.drop k)[0]? = some p := by rw [List.getElem?_drop, Nat.add_zero]; exact hlg
                  exact List.mem_of_getElem? h9)
                obtain ⟨lb, lo, rfl⟩ := HLC.out.addr (prs_ne (by omega))
                have s0 := cell_keep (HLC.out.at (prs_fst hlg)) hb (Nat.le_refl _)
                have k1 : (k : Int) < lost.length := by omega
                have k2 : (0 : Int) ≤ k := by omega
                have k3 : (p.1 == (fr : Int)) = false := by rw [beq_eq_false_iff_ne]; omega
                clear hlg
                by_cases hend : i = fs.length
                · have hdr0 : (fs.map frm).drop i = [] := List.drop_eq_nil_of_le (by simp; omega)
                  rw [hdr0] at htc
                  obtain ⟨hke, hFe⟩ := htc
                  have hk2 : k = lost.length := by
                    have := congrArg List.length hke
                    rw [List.length_drop, List.length_nil] at this; omega
                  have hkb : (((k : Int)) == (lost.length : Int)) = true := by rw [beq_iff_eq]; omega
                  have hFb : (((fr : Nat) : Int) == (P.length : Int)) = true := by rw [beq_iff_eq]; have := HPL.out; omega
                  have hie : (i : Int) = fs.length := by omega
                  clear hdr0 hke hFe hk2 hhd
                  go_wp2_with fail
                  refine (works_any _).mono ?_
                  rintro e w9 ⟨rfl, hb9⟩
                  have hfin := HBE4.out.trans ((hb.trans (hb9.mono hb.size)).mono HBE4.out.size)
                  go_wp2
                  go_ret
                  exact ⟨rfl, hfin⟩
                · obtain ⟨f, hf⟩ := get_of_lt (show i < fs.length by omega)
                  have hmem := List.mem_of_getElem? hf
                  have hdri : (fs.map frm).drop i = frm f :: (fs.map frm).drop (i + 1) := by
                    have hli : i < (fs.map frm).length := by simp; omega
                    rw [List.drop_eq_getElem_cons hli]
                    congr 1
                    have := (List.getElem?_eq_some_iff.1 (show (fs.map frm)[i]? = some (frm f) by simp [hf])).2
                    exact this
                  rw [hdri] at htc
                  obtain ⟨hcode, hcl, htl2⟩ := htc.next
                  have hfe : frmErr bs f.st f.xss = 0 := by
                    have h9 := HFOK.out (frm f) (List.mem_map.2 ⟨f, hmem, rfl⟩)
                    simp only [frm] at h9
                    simp [frmErr, HBK.out, h9]
                  obtain ⟨hfl, vs, hcs, hrv⟩ := HRI.out.rows f hmem
                  obtain ⟨fb, fo, hfa⟩ := HRI.out.cells.addr (frs_ne (by omega))
                  have c0 := cell_keep (show w4.cell? ⟨fb, fo + i * 2, none⟩ = some (.int .i64 f.st) from by have h8 := HRI.out.cells; rw [hfa] at h8; exact h8.at (frs_get hf).1) hb (Nat.le_refl _)
                  have c1 := cell_keep (show w4.cell? ⟨fb, fo + (i * 2 + 1), none⟩ = some (.slice f.a f.xss.length f.c) from by have h8 := HRI.out.cells; rw [hfa] at h8; exact h8.at (frs_get hf).2) hb (Nat.le_refl _)
                  rw [← Nat.add_assoc] at c1
                  subst hfa
                  have hbw := HBE4.out.trans (hb.mono HBE4.out.size)
                  have hen := Encode_any ao bs cap f.st f.a vs f.xss f.c wr.drew (HB.out.below hbw.drew (Nat.le_refl _)) (hcs.below hb.drew (Nat.le_refl _)) (hrv.below hb.drew (Nat.le_refl _)) hfl
                  rw [hfe, show encRes bs f.st f.xss = encF (frm f) from by rw [encRes, if_pos hfe]; rfl] at hen
                  have hE256 : ∀ d ∈ encF (frm f), d < 256 := encB_lt f.st f.xss
                  have hEp := encF_pos (frm f)
                  have hsub : Cells w4 (some ⟨g, fr, none⟩) (bys (encF (frm f))) := by
                    refine .inr ⟨g, fr, rfl, fun j u hu => ?_⟩
                    have h8 := HBY4.out.cells.at (j := fr + j) (u := u) (by
                      rw [← hu, ← hcode, bys, bys, List.map_take, List.map_drop, List.getElem?_take, if_pos (by have := (List.getElem?_eq_some_iff.1 hu).1; rw [bys_length] at this; exact this), List.getElem?_drop])
                    rw [Nat.zero_add] at h8; exact h8
                  have hst2 : ∀ m, i = m + 1 → ∃ f0, fs[m]? = some f0 ∧ f0.st < f.st := by
                    intro m hm
                    subst hm
                    obtain ⟨f0, hf0⟩ := get_of_lt (show m < fs.length by omega)
                    refine ⟨f0, hf0, ?_⟩
                    have h8 := HINC.out ((fs.map frm).take (m + 1)) ((fs.map frm).drop (m + 2)) (frm f) (by rw [← hdri, List.take_append_drop])
                    rw [take_get (show (fs.map frm)[m]? = some (frm f0) by simp [hf0]), lastR_snoc] at h8
                    exact h8
                  have HEN := Lib.hid hen; have HSUB := Lib.hid hsub; have HE256 := Lib.hid hE256; have HST2 := Lib.hid hst2; have HTL2 := Lib.hid htl2; have HF := Lib.hid hf; have HCODE := Lib.hid hcode
                  have HFI := Lib.hid (HRI.out.rows f hmem)
                  have j1 : (i : Int) < fs.length := by omega
                  have j2 : (0 : Int) ≤ i := by omega
                  have j3 : ((i : Int) == fs.length) = false := by rw [beq_eq_false_iff_ne]; omega
                  have j4 : ¬ (i : Int) = fs.length := by omega
                  have hzr := hb.size
                  clear hen hsub hE256 hst2 htl2 hf hcode hfe hcs hrv hmem hdri htc hhd
                  generalize encF (frm f) = E at *
                  go_wp2_with fail
                  go_region_held3 (fun w' => w'.cell? ⟨w.heap.size, 0, none⟩ = some (.slice ao bs.length cap) ∧ w'.cell? ⟨fb, fo + i * 2, none⟩ = some (.int .i64 f.st) ∧ w'.cell? ⟨fb, fo + i * 2 + 1, none⟩ = some (.slice f.a f.xss.length f.c))
                    (first | exact ⟨r0, c0, c1⟩ | exact ⟨cell_keep r0 hbz (Nat.le_refl _), cell_keep c0 hbz (Nat.le_refl _), cell_keep c1 hbz (Nat.le_refl _)⟩ | go_keep)
                    (first | (go_at_call 30; refine HEN.out.mono ?_; rintro e w5 ⟨⟨v5, rfl, ho5⟩, hb5⟩; have hbz : Below wr.heap.size wr w5 := ((Below.refl wr.heap.size wr).drew).trans hb5; clear hb5; have HO5 := Lib.hid ho5; clear ho5))
                  all_goals
                    obtain ⟨ga, gc, rfl, -, -, -⟩ := own_cap HO5.out
                    have hbz4 := hb.trans (hbz.mono hzr)
                    have hcv2 := fun (n : Nat) => conv_own (w := w5.drewN n) E (own_drewN HO5.out n) HE256.out
                    have hcv1 := fun (n : Nat) => conv_cells (w := w5.drewN n) E (ec - fr) (HSUB.out.below (bel_drewN hbz4 n) (Nat.le_refl _)) HE256.out
                    generalize bstr E = sE at hcv1 hcv2
                    have s1 := cell_keep c0 hbz (Nat.le_refl _)
                    have p1 : IntKind.i64.wrap ((fr : Int) + E.length) = (fr : Int) + E.length := IntWalk.i64_in _ (by omega)
                    have p2 : decide ((P.length : Int) < (fr : Int) + E.length) = false := by rw [decide_eq_false_iff_not]; have := HPL.out; omega
                    have p10 : (sE.toList == sE.toList) = true := by simp
                    have p3 : (fr : Int) ≤ (fr : Int) + E.length := by omega
                    have p4 : (fr : Int) + E.length ≤ ec := by have := HPL.out; have := HBY4.out.lecap; omega
                    have p5 : (0 : Int) ≤ fr := by omega
                    have p6 : ((fr : Int) + E.length).toNat = fr + E.length := by omega
                    have p7 : fr + E.length - fr = E.length := by omega
                    have p8 : ¬ ec = fr := by have := HPL.out; have := HBY4.out.lecap; omega
                    have p9 : ¬ ec - fr = 0 := by have := HPL.out; have := HBY4.out.lecap; omega
                    clear c0 c1 r0
                    rcases Nat.eq_zero_or_pos i with hi0 | hi0
                    · have hii : decide ((0 : Int) < (i : Int)) = false := by rw [decide_eq_false_iff_not]; omega
                      have hii2 : decide (0 < i) = false := by rw [decide_eq_false_iff_not]; omega
                      clear hi0
                      go_wp2_with fail
                      go_quiet (fail)
                      go_wp2_with fail
                      clear hcv1 hcv2 p1 p2 p3 p4 p5 p6 p7 p8 p9 s1
                      go_roundw
                      case rel => exact ⟨fr + E.length, k, i + 1, by go_num, by go_num, by go_num, by omega, by omega, HTL2.out, bel_drewN hbz4 _⟩
                      case measure => simp [intOf]; omega
                    · obtain ⟨m, hm⟩ : ∃ m, i = m + 1 := ⟨i - 1, by omega⟩
                      obtain ⟨f0, hf0, hlt0⟩ := HST2.out m hm
                      have y0 := cell_keep (HRI.out.cells.at (frs_get hf0).1) hbz4 (Nat.le_refl _)
                      have hii : decide ((0 : Int) < (i : Int)) = true := by rw [decide_eq_true_iff]; omega
                      have hii2 : decide (0 < i) = true := by rw [decide_eq_true_iff]; omega
                      have q1 : IntKind.i64.wrap ((i : Int) - 1) = (i : Int) - 1 := IntWalk.i64_in _ (by omega)
                      have q2 : ((i : Int) - 1).toNat = m := by omega
                      have q3 : (0 : Int) ≤ (i : Int) - 1 := by omega
                      have q4 : (i : Int) - 1 < fs.length := by omega
                      have q5 : decide (f.st ≤ f0.st) = false := by rw [decide_eq_false_iff_not]; omega
                      clear hi0 hm hf0 hlt0
                      go_wp2_with fail
                      go_quiet (fail)
                      go_wp2_with fail
                      clear hcv1 hcv2 p1 p2 p3 p4 p5 p6 p7 p8 p9 s1 y0 q1 q2 q3 q4 q5 hii hii2
                      go_roundw
                      case rel => exact ⟨fr + E.length, k, i + 1, by go_num, by go_num, by go_num, by omega, by omega, HTL2.out, bel_drewN hbz4 _⟩
                      case measure => simp [intOf]; omega
              · have k1 : ¬ (k : Int) < lost.length := by omega
                have k4 : ¬ k < lost.length := by omega
                by_cases hend : i = fs.length
                · have hdr0 : (fs.map frm).drop i = [] := List.drop_eq_nil_of_le (by simp; omega)
                  rw [hdr0] at htc
                  obtain ⟨hke, hFe⟩ := htc
                  have hk2 : k = lost.length := by
                    have := congrArg List.length hke
                    rw [List.length_drop, List.length_nil] at this; omega
                  have hkb : (((k : Int)) == (lost.length : Int)) = true := by rw [beq_iff_eq]; omega
                  have hFb : (((fr : Nat) : Int) == (P.length : Int)) = true := by rw [beq_iff_eq]; have := HPL.out; omega
                  have hie : (i : Int) = fs.length := by omega
                  clear hdr0 hke hFe hk2 hhd
                  go_wp2_with fail
                  refine (works_any _).mono ?_
                  rintro e w9 ⟨rfl, hb9⟩
                  have hfin := HBE4.out.trans ((hb.trans (hb9.mono hb.size)).mono HBE4.out.size)
                  go_wp2
                  go_ret
                  exact ⟨rfl, hfin⟩
                · obtain ⟨f, hf⟩ := get_of_lt (show i < fs.length by omega)
                  have hmem := List.mem_of_getElem? hf
                  have hdri : (fs.map frm).drop i = frm f :: (fs.map frm).drop (i + 1) := by
                    have hli : i < (fs.map frm).length := by simp; omega
                    rw [List.drop_eq_getElem_cons hli]
                    congr 1
                    have := (List.getElem?_eq_some_iff.1 (show (fs.map frm)[i]? = some (frm f) by simp [hf])).2
                    exact this
                  rw [hdri] at htc
                  obtain ⟨hcode, hcl, htl2⟩ := htc.next
                  have hfe : frmErr bs f.st f.xss = 0 := by
                    have h9 := HFOK.out (frm f) (List.mem_map.2 ⟨f, hmem, rfl⟩)
                    simp only [frm] at h9
                    simp [frmErr, HBK.out, h9]
                  obtain ⟨hfl, vs, hcs, hrv⟩ := HRI.out.rows f hmem
                  obtain ⟨fb, fo, hfa⟩ := HRI.out.cells.addr (frs_ne (by omega))
                  have c0 := cell_keep (show w4.cell? ⟨fb, fo + i * 2, none⟩ = some (.int .i64 f.st) from by have h8 := HRI.out.cells; rw [hfa] at h8; exact h8.at (frs_get hf).1) hb (Nat.le_refl _)
                  have c1 := cell_keep (show w4.cell? ⟨fb, fo + (i * 2 + 1), none⟩ = some (.slice f.a f.xss.length f.c) from by have h8 := HRI.out.cells; rw [hfa] at h8; exact h8.at (frs_get hf).2) hb (Nat.le_refl _)
                  rw [← Nat.add_assoc] at c1
                  subst hfa
                  have hbw := HBE4.out.trans (hb.mono HBE4.out.size)
                  have hen := Encode_any ao bs cap f.st f.a vs f.xss f.c wr.drew (HB.out.below hbw.drew (Nat.le_refl _)) (hcs.below hb.drew (Nat.le_refl _)) (hrv.below hb.drew (Nat.le_refl _)) hfl
                  rw [hfe, show encRes bs f.st f.xss = encF (frm f) from by rw [encRes, if_pos hfe]; rfl] at hen
                  have hE256 : ∀ d ∈ encF (frm f), d < 256 := encB_lt f.st f.xss
                  have hEp := encF_pos (frm f)
                  have hsub : Cells w4 (some ⟨g, fr, none⟩) (bys (encF (frm f))) := by
                    refine .inr ⟨g, fr, rfl, fun j u hu => ?_⟩
                    have h8 := HBY4.out.cells.at (j := fr + j) (u := u) (by
                      rw [← hu, ← hcode, bys, bys, List.map_take, List.map_drop, List.getElem?_take, if_pos (by have := (List.getElem?_eq_some_iff.1 hu).1; rw [bys_length] at this; exact this), List.getElem?_drop])
                    rw [Nat.zero_add] at h8; exact h8
                  have hst2 : ∀ m, i = m + 1 → ∃ f0, fs[m]? = some f0 ∧ f0.st < f.st := by
                    intro m hm
                    subst hm
                    obtain ⟨f0, hf0⟩ := get_of_lt (show m < fs.length by omega)
                    refine ⟨f0, hf0, ?_⟩
                    have h8 := HINC.out ((fs.map frm).take (m + 1)) ((fs.map frm).drop (m + 2)) (frm f) (by rw [← hdri, List.take_append_drop])
                    rw [take_get (show (fs.map frm)[m]? = some (frm f0) by simp [hf0]), lastR_snoc] at h8
                    exact h8
                  have HEN := Lib.hid hen; have HSUB := Lib.hid hsub; have HE256 := Lib.hid hE256; have HST2 := Lib.hid hst2; have HTL2 := Lib.hid htl2; have HF := Lib.hid hf; have HCODE := Lib.hid hcode
                  have HFI := Lib.hid (HRI.out.rows f hmem)
                  have j1 : (i : Int) < fs.length := by omega
                  have j2 : (0 : Int) ≤ i := by omega
                  have j3 : ((i : Int) == fs.length) = false := by rw [beq_eq_false_iff_ne]; omega
                  have j4 : ¬ (i : Int) = fs.length := by omega
                  have hzr := hb.size
                  clear hen hsub hE256 hst2 htl2 hf hcode hfe hcs hrv hmem hdri htc hhd
                  generalize encF (frm f) = E at *
                  go_wp2_with fail
                  go_region_held3 (fun w' => w'.cell? ⟨w.heap.size, 0, none⟩ = some (.slice ao bs.length cap) ∧ w'.cell? ⟨fb, fo + i * 2, none⟩ = some (.int .i64 f.st) ∧ w'.cell? ⟨fb, fo + i * 2 + 1, none⟩ = some (.slice f.a f.xss.length f.c))
                    (first | exact ⟨r0, c0, c1⟩ | exact ⟨cell_keep r0 hbz (Nat.le_refl _), cell_keep c0 hbz (Nat.le_refl _), cell_keep c1 hbz (Nat.le_refl _)⟩ | go_keep)
                    (first | (go_at_call 30; refine HEN.out.mono ?_; rintro e w5 ⟨⟨v5, rfl, ho5⟩, hb5⟩; have hbz : Below wr.heap.size wr w5 := ((Below.refl wr.heap.size wr).drew).trans hb5; clear hb5; have HO5 := Lib.hid ho5; clear ho5))
                  all_goals
                    obtain ⟨ga, gc, rfl, -, -, -⟩ := own_cap HO5.out
                    have hbz4 := hb.trans (hbz.mono hzr)
                    have hcv2 := fun (n : Nat) => conv_own (w := w5.drewN n) E (own_drewN HO5.out n) HE256.out
                    have hcv1 := fun (n : Nat) => conv_cells (w := w5.drewN n) E (ec - fr) (HSUB.out.below (bel_drewN hbz4 n) (Nat.le_refl _)) HE256.out
                    generalize bstr E = sE at hcv1 hcv2
                    have s1 := cell_keep c0 hbz (Nat.le_refl _)
                    have p1 : IntKind.i64.wrap ((fr : Int) + E.length) = (fr : Int) + E.length := IntWalk.i64_in _ (by omega)
                    have p2 : decide ((P.length : Int) < (fr : Int) + E.length) = false := by rw [decide_eq_false_iff_not]; have := HPL.out; omega
                    have p10 : (sE.toList == sE.toList) = true := by simp
                    have p3 : (fr : Int) ≤ (fr : Int) + E.length := by omega
                    have p4 : (fr : Int) + E.length ≤ ec := by have := HPL.out; have := HBY4.out.lecap; omega
                    have p5 : (0 : Int) ≤ fr := by omega
                    have p6 : ((fr : Int) + E.length).toNat = fr + E.length := by omega
                    have p7 : fr + E.length - fr = E.length := by omega
                    have p8 : ¬ ec = fr := by have := HPL.out; have := HBY4.out.lecap; omega
                    have p9 : ¬ ec - fr = 0 := by have := HPL.out; have := HBY4.out.lecap; omega
                    clear c0 c1 r0
                    rcases Nat.eq_zero_or_pos i with hi0 | hi0
                    · have hii : decide ((0 : Int) < (i : Int)) = false := by rw [decide_eq_false_iff_not]; omega
                      have hii2 : decide (0 < i) = false := by rw [decide_eq_false_iff_not]; omega
                      clear hi0
                      go_wp2_with fail
                      go_quiet (fail)
                      go_wp2_with fail
                      clear hcv1 hcv2 p1 p2 p3 p4 p5 p6 p7 p8 p9 s1
                      go_roundw
                      case rel => exact ⟨fr + E.length, k, i + 1, by go_num, by go_num, by go_num, by omega, by omega, HTL2.out, bel_drewN hbz4 _⟩
                      case measure => simp [intOf]; omega
                    · obtain ⟨m, hm⟩ : ∃ m, i = m + 1 := ⟨i - 1, by omega⟩
                      obtain ⟨f0, hf0, hlt0⟩ := HST2.out m hm
                      have y0 := cell_keep (HRI.out.cells.at (frs_get hf0).1) hbz4 (Nat.le_refl _)
                      have hii : decide ((0 : Int) < (i : Int)) = true := by rw [decide_eq_true_iff]; omega
                      have hii2 : decide (0 < i) = true := by rw [decide_eq_true_iff]; omega
                      have q1 : IntKind.i64.wrap ((i : Int) - 1) = (i : Int) - 1 := IntWalk.i64_in _ (by omega)
                      have q2 : ((i : Int) - 1).toNat = m := by omega
                      have q3 : (0 : Int) ≤ (i : Int) - 1 := by omega
                      have q4 : (i : Int) - 1 < fs.length := by omega
                      have q5 : decide (f.st ≤ f0.st) = false := by rw [decide_eq_false_iff_not]; omega
                      clear hi0 hm hf0 hlt0
                      go_wp2_with fail
                      go_quiet (fail)
                      go_wp2_with fail
                      clear hcv1 hcv2 p1 p2 p3 p4 p5 p6 p7 p8 p9 s1 y0 q1 q2 q3 q4 q5 hii hii2
                      go_roundw
                      case rel => exact ⟨fr + E.length, k, i + 1, by go_num, by go_num, by go_num, by omega, by omega, HTL2.out, bel_drewN hbz4 _⟩
                      case measure => simp [intOf]; omega
  · have hp : packRes bs l = [] := by rw [packRes, if_neg h1]
    obtain ⟨ea, ec, rfl, -, -, -⟩ := own_cap ho1
    have h3 : (recErr bs l != 0) = true := by simpa using h1
    have h4 : (recErr bs l == 0) = false := by simpa using h1
    rw [hp]
    clear hp ho1
    go_wp2_with fail
    refine (works_any _).mono ?_
    rintro e w6 ⟨rfl, hb6⟩
    have hfin := n1.trans (hb6.mono hz1)
    go_wp2
    go_ret
    exact ⟨rfl, hfin⟩
end Go.Proofs.YtoochleabcjljaaGreatDoor

/- RecordChanged: the walk, both ways. -/
namespace Go.Proofs.YtoochleabcjljaaGreatDoor
open Go.RowKit

theorem changed_any (ao : Option Addr) (bs : List Chan) (cap : Nat) (al : Option Addr) (l : List Frm) (cl : Nat) (at_ by_ : Int) (w : World) (hb : BookIn w ao bs cap) (hr : RecIn w al l) :
    Calls Tryz.prog 7 #[.agg #[.slice ao bs.length cap, .slice al l.length cl], .int .i64 at_, .int .i64 by_] w fun e w' => e = .returned (.bool true) ∧ Below w.heap.size w w' := by
  by_cases hq : l.length = 1
  · exact changed_a ao bs cap al l cl at_ by_ w hb hr hq
  · exact changed_b ao bs cap al l cl at_ by_ w hb hr hq
end Go.Proofs.YtoochleabcjljaaGreatDoor

/- Arguments read as data, over this program: what their cells hold; and that they read the same behind a call that writes nothing old. -/
namespace Go.Proofs.YtoochleabcjljaaGreatDoor
open Go.RowKit Go.WideShapes Go.ChangeShapes Go.Deep Go.Joins

section
variable {H : Type} {enc : TypeId × Value → H} {P : Program}
theorem sameAt_below {W W' : World} (hb : Below W.heap.size W W') {p : MemPlace} (hp : p.block < W.heap.size) : W.sameAt W' p := by
  cases p with
  | cell b off => exact hb.cell (p := ⟨b, off, none⟩) hp
  | map b => exact hb.block b hp
theorem trodAll_carry {W W' : World} {base : Nat} {sp : Nat → Bool} {held : Bool} : ∀ {ts : List TypeId} {vs : List Value} {ds : List (DataW H)} {ps : List MemPlace}, DataW.TrodAll enc P W base sp held ts vs ds ps → (∀ p ∈ ps, W.sameAt W' p) → DataW.TrodAll enc P W' base sp held ts vs ds ps
  | [], [], [], _, h, _ => h
  | _ :: _, _ :: _, _ :: _, _, ⟨p, q, ⟨n, h1⟩, h2, e⟩, hs => ⟨p, q, ⟨n, DataW.trod_carry n _ _ _ h1 fun x hx => hs x (by rw [e]; exact List.mem_append_left _ hx)⟩, trodAll_carry h2 fun x hx => hs x (by rw [e]; exact List.mem_append_right _ hx), e⟩

/-- behind a call that leaves all old blocks alone and answers true, of a law whose data read again as they did -/
theorem law_post {f : Func} {s : ChangeSpec} {W W' : World} {args : Array Value} {ds : List (DataW H)} {before : List MemPlace} (K : Kids P (· < P.types.size))
    (full : ∀ t e, t < P.types.size → P.underlying t = some (.slice e) → 0 < P.cellsOf e) (hT : ∀ t ∈ f.params.toList, t < P.types.size) (hv : s.vars = [])
    (hW : DataW.Whole enc P f.params.toList s.vars false W args.toList ds [] before) (hA : DataW.TrodAll enc P W 0 (fun _ => true) true f.params.toList args.toList ds before)
    (hfn : s.fn H (ds ++ []) = { results := [.lit (.bool true)], args := ds }) (hr : f.resultTypes = #[4]) (hu : P.underlying 4 = some .bool) (hb : Below W.heap.size W W') :
    s.post enc P f false true false false W args (.bool true) W' := by
  have hlt : ∀ p ∈ before, p.block < W.heap.size := fun p hp => hW.lt p hp
  have hold : ∀ p ∈ before, (fun b => decide (b < W.heap.size)) p.block = true := fun p hp => by simpa using hlt p hp
  have hargs : ∀ sp : Nat → Bool, (∀ p ∈ before, sp p.block = true) → DataW.TrodAll enc P W' 0 sp true f.params.toList args.toList (s.fn H (ds ++ [])).args before := by
    intro sp hsp
    rw [hfn]
    exact trodAll_carry (DataW.TrodAll.respare K full hT hA hsp) fun p hp => sameAt_below hb (hlt p hp)
  have hres : ∀ (b : Nat) (sp : Nat → Bool) (hd : Bool), DataW.TrodAll enc P W' b sp hd f.resultTypes.toList ((Value.bool true).resultList f.resultTypes.size) (s.fn H (ds ++ [])).results [] := by
    intro b sp hd
    rw [hfn, hr]
    exact trodAll_cons_mk (shut_bool hu _) trodAll_mk0
  have hvars : ∀ sp : Nat → Bool, DataW.TrodVars enc P W' sp s.vars (s.fn H (ds ++ [])).vars [] := by
    intro sp
    rw [hfn, hv]
    rfl
  refine ⟨ds, [], before, [], before, [], hW, hres _ _ _, hargs _ hold, hvars _, World.keptBut_mono (fun p hp => ⟨hp, Or.inr (Or.inl hp)⟩) (hb.frame (· ∈ before)), fun _ => ?_⟩
  obtain ⟨_, _, _, _, _, hz, hn⟩ := hW
  refine ⟨?_, _, _, ([] ++ before) ++ [], ⟨[] ++ before, [], trodAll_append (hargs _ (fun _ _ => rfl)) (hres _ _ _), hvars _, rfl, ?_, ?_⟩, ?_⟩
  · exact ok_one hr rfl (okWide_bool_mk hu _)
  · intro b off hp
    have hin : MemPlace.cell b off ∈ before := by simpa using hp
    rw [hb.frozen (hlt _ hin)]
    exact hz b off hin
  · intro ha
    have := hn ha
    simpa using this
  · intro p hp _
    simpa using hp

/-- a slice of numbers, as read -/
theorem rd_ints {W : World} {base : Nat} {sp : Nat → Bool} {held : Bool} {t e : TypeId} {fuel : Nat} {cs : List Value} {x : DataW H × List MemPlace} (ht : P.underlying t = some (.slice e)) (he : P.underlying e = some (.int .i64)) (hc : P.cellsOf e = 1)
    (h : DataW.trod enc P W base sp held fuel t cs = some x) :
    ∃ (ao : Option Addr) (xs : List Int) (cap : Nat), cs = [.slice ao xs.length cap] ∧ Cells W ao (xs.map (Value.int .i64)) ∧ xs.length ≤ cap ∧ cap ≤ 9223372036854775807 ∧ ∀ x ∈ xs, (Lit.int .i64 x).wf = true := by
  rcases open_ints ht he hc h with ⟨rfl, _⟩ | ⟨a, len, cap, zs, rfl, _, hl, hm, hz, _, hcell, hwf⟩
  · exact ⟨none, [], 0, rfl, .inl rfl, Nat.le_refl _, by decide, by simp⟩
  · have hzl : len ≤ zs.length := by rw [hz]; split <;> omega
    have htl : (zs.take len).length = len := by simp; omega
    refine ⟨some a, zs.take len, cap, by rw [htl], ?_, by omega, by unfold maxLen at hm; omega, fun x hx => hwf x (List.mem_of_mem_take hx)⟩
    rcases Nat.eq_zero_or_pos len with h0 | h0
    · subst h0; exact .inl (by simp)
    · have hsp := World.cell?_spot (hcell 0 (by omega))
      simp only [Addr.add] at hsp
      obtain ⟨b, off, spot⟩ := a
      simp at hsp
      subst hsp
      refine .inr ⟨b, off, rfl, fun j u hu => ?_⟩
      rw [List.getElem?_map] at hu
      obtain ⟨y, hy, rfl⟩ := Option.map_eq_some_iff.1 hu
      have hj : j < len := by have := (List.getElem?_eq_some_iff.1 hy).1; omega
      have := hcell j (by omega)
      rw [Addr.add_lit] at this
      rw [this]
      have hg : zs.getD j 0 = y := by
        rw [List.getElem?_take] at hy
        rw [if_pos hj] at hy
        rw [List.getD_eq_getElem?_getD, hy]; rfl
      rw [hg]

/-- a slice of pairs of numbers, as read -/
theorem rd_pairs {W : World} {base : Nat} {sp : Nat → Bool} {held : Bool} {t e : TypeId} {f0 f1 : Field} {fuel : Nat} {cs : List Value} {x : DataW H × List MemPlace} (ht : P.underlying t = some (.slice e)) (he : P.underlying e = some (.struct #[f0, f1]))
    (ce : P.cellsOf e = 2) (o0 : f0.offset = 0) (o1 : f1.offset = 1) (c0 : P.cellsOf f0.type = 1) (c1 : P.cellsOf f1.type = 1) (k0 : P.underlying f0.type = some (.int .i64)) (k1 : P.underlying f1.type = some (.int .i64))
    (h : DataW.trod enc P W base sp held fuel t cs = some x) :
    ∃ (ao : Option Addr) (xs : List (Int × Int)) (cap : Nat), cs = [.slice ao xs.length cap] ∧ Cells W ao (prs xs) ∧ xs.length ≤ cap ∧ cap ≤ 9223372036854775807 ∧ ∀ t ∈ xs, (Lit.int .i64 t.1).wf = true ∧ (Lit.int .i64 t.2).wf = true := by
  rcases open_slice_pairs ht he ce o0 o1 c0 c1 h with ⟨rfl, _⟩ | ⟨a, len, cap, m, n, V0, V1, D0, D1, P0, P1, rfl, _, hl, hm, hmm, _, hcell⟩
  · exact ⟨none, [], 0, rfl, .inl rfl, Nat.le_refl _, by decide, by simp⟩
  · have hlm : len ≤ m := by rw [hmm]; split <;> omega
    have each : ∀ i, i < len → ∃ q : Int × Int, W.cell? (a.add (i * 2)) = some (.int .i64 q.1) ∧ W.cell? (a.add (i * 2 + 1)) = some (.int .i64 q.2) ∧ (Lit.int .i64 q.1).wf = true ∧ (Lit.int .i64 q.2).wf = true := by
      intro i hi
      obtain ⟨h1, h2, h3, h4⟩ := hcell i (by omega)
      obtain ⟨z0, e0, _, w0⟩ := DataW.trod_int k0 h3
      obtain ⟨z1, e1, _, w1⟩ := DataW.trod_int k1 h4
      simp only [List.cons.injEq, and_true] at e0 e1
      rw [e0] at h1; rw [e1] at h2
      exact ⟨(z0, z1), h1, h2, w0, w1⟩
    let F : Nat → Int × Int := fun i => if hi : i < len then (each i hi).choose else (0, 0)
    have hF : ∀ i, i < len → W.cell? (a.add (i * 2)) = some (.int .i64 (F i).1) ∧ W.cell? (a.add (i * 2 + 1)) = some (.int .i64 (F i).2) ∧ (Lit.int .i64 (F i).1).wf = true ∧ (Lit.int .i64 (F i).2).wf = true := by
      intro i hi
      have := (each i hi).choose_spec
      simp only [F, dif_pos hi]
      exact this
    have htl : ((List.range len).map F).length = len := by simp
    refine ⟨some a, (List.range len).map F, cap, by rw [htl], ?_, by omega, by unfold maxLen at hm; omega, ?_⟩
    · rcases Nat.eq_zero_or_pos len with h0 | h0
      · subst h0; exact .inl (by simp [prs])
      · have hsp := World.cell?_spot (hF 0 h0).1
        simp only [Addr.add] at hsp
        obtain ⟨b, off, spot⟩ := a
        simp at hsp
        subst hsp
        refine .inr ⟨b, off, rfl, fun j u hu => ?_⟩
        have hj : j < len * 2 := by
          have := (List.getElem?_eq_some_iff.1 hu).1
          rw [prs_length, htl] at this; exact this
        have hg : ((List.range len).map F)[j / 2]? = some (F (j / 2)) := by
          rw [List.getElem?_map, List.getElem?_range (by omega)]; rfl
        have h1 := prs_fst hg
        have h2 := prs_snd hg
        obtain ⟨g1, g2, _⟩ := hF (j / 2) (by omega)
        rw [Addr.add_lit] at g1 g2
        rcases Nat.mod_two_eq_zero_or_one j with hm | hm
        · have e : j / 2 * 2 = j := by omega
          rw [e] at h1 g1
          rw [h1] at hu; rw [g1]; exact hu
        · have e : j / 2 * 2 + 1 = j := by omega
          rw [e] at h2 g2
          rw [h2] at hu; rw [g2]; exact hu
    · intro t ht2
      obtain ⟨i, hi, rfl⟩ := List.mem_map.1 ht2
      have := hF i (List.mem_range.1 hi)
      exact ⟨this.2.2.1, this.2.2.2⟩
end
end Go.Proofs.YtoochleabcjljaaGreatDoor

/- Arguments read as data: channels, rows of numbers, frames. -/
namespace Go.Proofs.YtoochleabcjljaaGreatDoor
open Go.RowKit Go.WideShapes Go.ChangeShapes Go.Deep Go.Joins

theorem flatMap_at {α : Type} (f : α → List Value) (C : Nat) (hC : ∀ x, (f x).length = C) (l : List α) (j : Nat) (u : Value) (h : (l.flatMap f)[j]? = some u) : ∃ x, l[j / C]? = some x ∧ (f x)[j % C]? = some u := by
  induction l generalizing j with
  | nil => simp at h
  | cons a l ih =>
    rw [List.flatMap_cons] at h
    by_cases hj : j < C
    · rw [List.getElem?_append_left (by rw [hC]; exact hj)] at h
      exact ⟨a, by rw [Nat.div_eq_of_lt hj]; rfl, by rw [Nat.mod_eq_of_lt hj]; exact h⟩
    · rw [List.getElem?_append_right (by rw [hC]; omega), hC] at h
      obtain ⟨x, h1, h2⟩ := ih _ h
      rcases Nat.eq_zero_or_pos C with h0 | h0
      · have := hC x
        rw [h0] at this
        rw [List.length_eq_zero_iff.1 this] at h2
        simp at h2
      · have e1 : j / C = (j - C) / C + 1 := by rw [← Nat.sub_add_cancel (show C ≤ j by omega), Nat.add_div_right _ h0, Nat.add_sub_cancel]
        have e2 : j % C = (j - C) % C := (Nat.mod_eq_sub_mod (by omega))
        exact ⟨x, by rw [e1, List.getElem?_cons_succ]; exact h1, by rw [e2]; exact h2⟩

/-- elements of C cells each, one behind the other -/
theorem rd_list {α : Type} {W : World} (f : α → List Value) (C : Nat) (hC : ∀ x, (f x).length = C) (hC0 : 0 < C) (Q : α → Prop) (a : Addr) (len : Nat)
    (each : ∀ i, i < len → ∃ x, (∀ j u, (f x)[j]? = some u → W.cell? (a.add (i * C + j)) = some u) ∧ Q x) : ∃ xs : List α, xs.length = len ∧ Cells W (some a) (xs.flatMap f) ∧ ∀ x ∈ xs, Q x := by
  have key : ∃ xs : List α, xs.length = len ∧ ∀ i x, xs[i]? = some x → (∀ j u, (f x)[j]? = some u → W.cell? (a.add (i * C + j)) = some u) ∧ Q x := by
    induction len with
    | zero => exact ⟨[], rfl, by simp⟩
    | succ n ih =>
      obtain ⟨xs, h1, h2⟩ := ih fun i hi => each i (by omega)
      obtain ⟨y, hy⟩ := each n (by omega)
      refine ⟨xs ++ [y], by simp [h1], fun i x hx => ?_⟩
      rcases Nat.lt_or_ge i n with hi | hi
      · rw [List.getElem?_append_left (by omega)] at hx
        exact h2 i x hx
      · by_cases hin : i = n
        · subst hin
          rw [List.getElem?_append_right (by omega), h1, Nat.sub_self] at hx
          simp at hx
          subst hx
          exact hy
        · rw [List.getElem?_eq_none (by simp; omega)] at hx
          simp at hx
  obtain ⟨xs, h1, h2⟩ := key
  refine ⟨xs, h1, ?_, fun x hx => ?_⟩
  · rcases xs with _ | ⟨x0, r⟩
    · exact .inl rfl
    · have h3 := (h2 0 x0 rfl).1 0 ((f x0)[0]'(by rw [hC]; exact hC0)) (by simp [hC, hC0])
      rw [Nat.zero_mul, Nat.zero_add] at h3
      have hsp := World.cell?_spot h3
      simp only [Addr.add] at hsp
      obtain ⟨b, off, spot⟩ := a
      simp at hsp
      subst hsp
      refine .inr ⟨b, off, rfl, fun j u hu => ?_⟩
      obtain ⟨x, g1, g2⟩ := flatMap_at f C hC _ _ _ hu
      have := (h2 _ x g1).1 _ u g2
      rw [Addr.add_lit, Nat.mul_comm, Nat.div_add_mod] at this
      exact this
  · obtain ⟨i, hi, rfl⟩ := List.mem_iff_getElem.1 hx
    exact (h2 i _ (List.getElem?_eq_getElem hi)).2

section
variable {H : Type} {enc : TypeId × Value → H}
theorem wf_bd {x : Int} (h : (Lit.int .i64 x).wf = true) : -9223372036854775808 ≤ x ∧ x ≤ 9223372036854775807 := by
  simp only [Lit.wf, Bool.and_eq_true, decide_eq_true_eq] at h
  exact h

set_option maxRecDepth 100000 in
theorem rd_chans {W : World} {base : Nat} {sp : Nat → Bool} {held : Bool} {fuel : Nat} {cs : List Value} {x : DataW H × List MemPlace} (h : DataW.trod enc Tryz.prog W base sp held fuel 37 cs = some x) :
    ∃ (ao : Option Addr) (bs : List Chan) (cap : Nat), cs = [.slice ao bs.length cap] ∧ BookIn W ao bs cap := by
  rcases open_slice Tryz.underlying37 h with ⟨rfl, _⟩ | ⟨a, len, cap, m, n, D, Pl, rfl, _, hl, hm, hmm, _, hx⟩
  · exact ⟨none, [], 0, rfl, .inl rfl, by decide, Nat.le_refl _, by decide, by simp, by simp⟩
  · have hlm : len ≤ m := by rw [hmm]; split <;> omega
    have hce : Tryz.prog.cellsOf 106 = 3 := by kernel_rfl
    obtain ⟨bs, h1, h2, h3⟩ := rd_list (W := W) (fun c : Chan => [.string c.name, .int .i64 c.rate, .int .i64 c.bits]) 3 (fun _ => rfl) (by decide) (fun c => c.name.size ≤ 9223372036854775807 ∧ -9223372036854775808 ≤ c.rate) a len (fun i hi => by
      obtain ⟨cs', g1, g2⟩ := hx i (by omega)
      rw [hce] at g1
      obtain ⟨_, hlen, hat⟩ := World.cells?_some g1
      obtain ⟨y0, y1, y2, k, _, _, t0, t1, t2⟩ := trod_struct3 Tryz.underlying106 g2
      match cs', hlen with
      | [c0, c1, c2], _ =>
        have e1 : Tryz.prog.cellsOf 3 = 1 := by kernel_rfl
        have e2 : Tryz.prog.cellsOf 9 = 1 := by kernel_rfl
        simp only [e1, e2, List.drop_zero, List.take_succ_cons, List.take_zero, List.drop_succ_cons] at t0 t1 t2
        obtain ⟨s, q0, _, ws⟩ := DataW.trod_string Tryz.underlying9 t0
        obtain ⟨r, q1, _, wr⟩ := DataW.trod_int Tryz.underlying3 t1
        obtain ⟨b, q2, _, wb⟩ := DataW.trod_int Tryz.underlying3 t2
        simp only [List.cons.injEq, and_true] at q0 q1 q2
        subst q0 q1 q2
        refine ⟨⟨s, r, b⟩, fun j u hu => ?_, by unfold maxLen at ws; exact ws, (wf_bd wr).1⟩
        have hj : j < 3 := (List.getElem?_eq_some_iff.1 hu).1
        have := hat j hj
        rw [← Deep.add_add, this]; exact hu)
    refine ⟨some a, bs, cap, by rw [h1], h2, by unfold maxLen at hm; omega, by omega, by unfold maxLen at hm; omega, fun c hc => (h3 c hc).1, fun c hc => (h3 c hc).2⟩

theorem rd_rows {W : World} {base : Nat} {sp : Nat → Bool} {held : Bool} {fuel : Nat} {cs : List Value} {x : DataW H × List MemPlace} (h : DataW.trod enc Tryz.prog W base sp held fuel 41 cs = some x) :
    ∃ (ao : Option Addr) (xss : List (List Int)) (cap : Nat), cs = [.slice ao xss.length cap] ∧ xss.length ≤ 9223372036854775807 ∧ ∃ vs, Cells W ao vs ∧ RowsV W vs xss := by
  rcases open_slice1 Tryz.underlying41 (by kernel_rfl) h with ⟨rfl, _⟩ | ⟨a, len, cap, m, n, V, D, Pl, rfl, _, hl, hm, hmm, _, hx⟩
  · exact ⟨none, [], 0, rfl, by decide, [], .inl rfl, rfl, by simp⟩
  · have hlm : len ≤ m := by rw [hmm]; split <;> omega
    obtain ⟨ps, h1, h2, h3⟩ := rd_list (W := W) (fun p : Value × List Int => [p.1]) 1 (fun _ => rfl) (by decide) (fun p => RowV W p.1 p.2) a len (fun i hi => by
      obtain ⟨g1, g2⟩ := hx i (by omega)
      obtain ⟨ax, xs, cx, e, hc, hl1, hl2, _⟩ := rd_ints Tryz.underlying22 Tryz.underlying3 (by kernel_rfl) g2
      simp only [List.cons.injEq, and_true] at e
      refine ⟨(V i, xs), fun j u hu => ?_, ax, cx, e, hc, by show xs.length ≤ _; omega⟩
      have hj : j = 0 := by have : j < 1 := (List.getElem?_eq_some_iff.1 hu).1; omega
      subst hj
      simp at hu
      rw [Nat.mul_one, Nat.add_zero, g1, hu])
    have hfm : ps.flatMap (fun p : Value × List Int => [p.1]) = ps.map (·.1) := by
      clear h1 h2 h3; induction ps with
      | nil => rfl
      | cons p ps ih => simp only [List.flatMap_cons, List.map_cons, ih]; rfl
    rw [hfm] at h2
    refine ⟨some a, ps.map (·.2), cap, by rw [List.length_map, h1], by rw [List.length_map, h1]; unfold maxLen at hm; omega, ps.map (·.1), h2, by simp, fun i v xs hv hxs => ?_⟩
    rw [List.getElem?_map] at hv hxs
    obtain ⟨p, hp, rfl⟩ := Option.map_eq_some_iff.1 hv
    rw [hp] at hxs
    simp at hxs
    subst hxs
    exact h3 p (List.mem_of_getElem? hp)

set_option maxRecDepth 100000 in
theorem rd_frames {W : World} {base : Nat} {sp : Nat → Bool} {held : Bool} {fuel : Nat} {cs : List Value} {x : DataW H × List MemPlace} (h : DataW.trod enc Tryz.prog W base sp held fuel 38 cs = some x) :
    ∃ (al : Option Addr) (l : List Frm) (cap : Nat), cs = [.slice al l.length cap] ∧ RecIn W al l := by
  rcases open_slice Tryz.underlying38 h with ⟨rfl, _⟩ | ⟨a, len, cap, m, n, D, Pl, rfl, _, hl, hm, hmm, _, hx⟩
  · exact ⟨none, [], 0, rfl, .inl rfl, by decide, by simp⟩
  · have hlm : len ≤ m := by rw [hmm]; split <;> omega
    have hce : Tryz.prog.cellsOf 43 = 2 := by kernel_rfl
    obtain ⟨l, h1, h2, h3⟩ := rd_list (W := W) (fun f : Frm => [.int .i64 f.st, .slice f.a f.xss.length f.c]) 2 (fun _ => rfl) (by decide) (fun f => FrmIn W f) a len (fun i hi => by
      obtain ⟨cs', g1, g2⟩ := hx i (by omega)
      rw [hce] at g1
      obtain ⟨_, hlen, hat⟩ := World.cells?_some g1
      obtain ⟨y0, y1, k, _, _, t0, t1⟩ := trod_struct2 Tryz.underlying43 g2
      match cs', hlen with
      | [c0, c1], _ =>
        have e1 : Tryz.prog.cellsOf 3 = 1 := by kernel_rfl
        have e2 : Tryz.prog.cellsOf 41 = 1 := by kernel_rfl
        simp only [e1, e2, List.drop_zero, List.take_succ_cons, List.take_zero, List.drop_succ_cons] at t0 t1
        obtain ⟨r, q0, _, wr⟩ := DataW.trod_int Tryz.underlying3 t0
        obtain ⟨as', xss, cs2, q1, hl1, hv⟩ := rd_rows t1
        simp only [List.cons.injEq, and_true] at q0 q1
        subst q0 q1
        refine ⟨⟨r, as', cs2, xss⟩, fun j u hu => ?_, hl1, hv⟩
        have hj : j < 2 := (List.getElem?_eq_some_iff.1 hu).1
        have := hat j hj
        rw [← Deep.add_add, this]; exact hu)
    exact ⟨some a, l, cap, by rw [h1], h2, by unfold maxLen at hm; omega, h3⟩
end
end Go.Proofs.YtoochleabcjljaaGreatDoor
