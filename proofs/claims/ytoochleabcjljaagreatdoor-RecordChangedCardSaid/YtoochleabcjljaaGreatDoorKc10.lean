/- Parts of a proof, in build order: Dh, Dc, Dj, Dm, Dn, Dp. -/
import Derived.Test.YtoochleabcjljaaGreatDoorKc9

/- RecordBack: the walk. -/
namespace Go.Proofs.YtoochleabcjljaaGreatDoor
open Go.RowKit

theorem packRes_flat {bs : List Chan} {l : List Frm} (h : recErr bs l = 0) : packRes bs l = (l.map frm).flatMap encF := by
  rw [packRes, if_pos h, List.flatMap_map]; rfl
theorem rec_frm {bs : List Chan} {l : List Frm} (h : recErr bs l = 0) {f : Frm} (hf : f ∈ l) : frmErr bs f.st f.xss = 0 := by
  obtain ⟨h1, -, h3, -⟩ := recErr_zero h
  simp [frmErr, h1, h3 f hf]
theorem pack_len {bs : List Chan} {l : List Frm} (h : recErr bs l = 0) : (packRes bs l).length ≤ 435200 := by
  have h64 := (recErr_zero h).2.1
  have key : ∀ m : List Frm, (∀ f ∈ m, f ∈ l) → (m.flatMap fun f => encB f.st f.xss).length ≤ 6800 * m.length := by
    intro m
    induction m with
    | nil => intro _; simp
    | cons f m ih =>
      intro hm
      have hz := frmErr_zero (rec_frm h (hm f (by simp)))
      have h2 := encB_length f.st f.xss (by omega) hz.2.2.2.2.2.1
      have h3 := ih (fun g hg => hm g (by simp [hg]))
      simp only [List.flatMap_cons, List.length_append, List.length_cons]
      omega
  have := key l (fun f hf => hf)
  rw [packRes, if_pos h]; omega
theorem dec_enc {bs : List Chan} {f : Frm} (h : frmErr bs f.st f.xss = 0) : decR bs (encB f.st f.xss) = some (f.st, f.xss) ∧ decErr bs (encB f.st f.xss) = 0 := by
  have hz := frmErr_zero h
  have hb : bookErr bs = 0 := by simp [bookErr, hz.1]
  have hf : frOK bs f.st f.xss = true := by
    unfold frmErr at h
    rw [if_neg (by simpa using hb)] at h
    split at h
    · assumption
    · contradiction
  have h1 := firstR_enc hz.1 hf []
  rw [List.append_nil] at h1
  have h2 : decR bs (encB f.st f.xss) = some (f.st, f.xss) := by rw [decR, if_pos hb, h1]; simp
  exact ⟨h2, by rw [decErr, if_neg (by simpa using hb), h2]; rfl⟩

set_option maxRecDepth 100000 in
set_option maxHeartbeats 4000000 in
theorem back_any (ao : Option Addr) (bs : List Chan) (cap : Nat) (al : Option Addr) (l : List Frm) (cl : Nat) (w : World) (hb : BookIn w ao bs cap) (hr : RecIn w al l) :
    Calls Tryz.prog 8 #[.agg #[.slice ao bs.length cap, .slice al l.length cl]] w fun e w' => e = .returned (.bool true) ∧ Below w.heap.size w w' := by
  have HB := Lib.hid hb; have HR := Lib.hid hr
  have hlen := hb.len
  have hll := hr.len
  clear hb hr
  have hb0 := (Below.refl w.heap.size w).alloc (Nat.le_refl _) (.cells #[.slice ao bs.length cap, .slice al l.length cl] 40)
  go_enter Tryz.func8, Tryz.ntmps8
  go_wp2_with fail
  refine (pack_any ao bs cap al l cl _ (HB.out.below hb0 (Nat.le_refl _)) (HR.out.below hb0 (Nat.le_refl _))).mono ?_
  rintro e w1 ⟨⟨v1, rfl, ho1⟩, hb1⟩
  have hbx := Blk.below (Blk.new w 40 #[.slice ao bs.length cap, .slice al l.length cl]) hb1 (by simp)
  have n1 := hb0.trans (hb1.mono (by simp))
  have hz1 := n1.size
  clear hb0 hb1
  obtain ⟨ea, ec, rfl, hce, hcn, hcm⟩ := own_cap ho1
  have hmx : maxLen = 9223372036854775807 := rfl
  rw [hmx] at hcm
  clear ho1 hmx
  by_cases h1 : recErr bs l = 0
  · have hpl := pack_len h1
    have hpf := packRes_flat h1
    have hbook := (recErr_zero h1).1
    have hl64 := (recErr_zero h1).2.1
    obtain ⟨hu, hs1, hs2⟩ := pack_back h1 (packRes bs l).length (by
      have h5 : ∀ m : List Fr, m.length ≤ (m.flatMap encF).length := by
        intro m
        induction m with
        | nil => simp
        | cons f m ih => have := encF_pos f; simp only [List.flatMap_cons, List.length_append, List.length_cons]; omega
      have := h5 (l.map frm)
      rw [List.length_map] at this
      rw [hpf]; exact this)
    rw [← hpf] at hu hs1 hs2
    have hby : ByIn w1 ea (packRes bs l) ec := ⟨hce, packRes_lt bs l, by omega, hcn, hcm⟩
    have hus : unpS bs (packRes bs l) = some (l.map frm) := by rw [unpS, if_pos hbook, hu]
    have hue : unpErr bs (packRes bs l) = 0 := by rw [unpErr, if_neg (by simpa using hbook), hus]; rfl
    have hse : salErr bs (packRes bs l) = 0 := by unfold salErr; rw [if_neg (by simpa using hbook), if_neg (by omega)]
    have HBY := Lib.hid hby
    have HUN := Lib.hid (unpack_any ao bs cap ea (packRes bs l) ec w1 (HB.out.below n1 (Nat.le_refl _)) hby)
    rw [hus, hue] at HUN
    have HSA := Lib.hid (fun (wx : World) (h : Below w1.heap.size w1 wx) => salvage_any ao bs cap ea (packRes bs l) ec wx ((HB.out.below n1 (Nat.le_refl _)).below h (Nat.le_refl _)) (hby.below h (Nat.le_refl _)))
    have HSE := Lib.hid hse; have HS1 := Lib.hid hs1; have HS2 := Lib.hid hs2; have H1 := Lib.hid h1
    have q0 := hbx.c0
    have q1 := hbx.c1
    have HBX := Lib.hid hbx
    have hbxl := hbx.lt
    clear hbx hby hus hue hse hu hs1 hs2 hpf hce hbook
    rw [h1]
    clear h1
    generalize packRes bs l = P at *
    go_wp2_with fail
    refine HUN.out.mono ?_
    rintro e w2 ⟨⟨v2, fs2, hfm2, rfl, hfs2⟩, hb2⟩
    obtain ⟨a2, c2, rfl, hri2⟩ := hfs2.recIn
    have hbx2 := HBX.out.below hb2 hbxl
    have q0 := hbx2.c0
    have q1 := hbx2.c1
    have HRI2 := Lib.hid hri2; have HFM2 := Lib.hid hfm2; have HB2 := Lib.hid hb2
    clear hbx2 hri2 hfm2 hfs2 HUN
    go_wp2_with fail
    refine (HSA.out w2 HB2.out).mono ?_
    rintro e w3 ⟨hres, hb3⟩
    unfold SalRes at hres
    rw [if_pos HSE.out] at hres
    obtain ⟨v3, vl, fs3, rfl, hfm3, hfs3, hol⟩ := hres
    rw [HS1.out] at hfm3
    rw [HS2.out] at hol
    obtain ⟨a3, c3, rfl, hri3⟩ := hfs3.recIn
    obtain ⟨la, lc, rfl, -⟩ := own_cells hol
    have hb13 := HB2.out.trans (hb3.mono HB2.out.size)
    have hbx3 := HBX.out.below hb13 hbxl
    have q0 := hbx3.c0
    have q1 := hbx3.c1
    have HRI3 := Lib.hid hri3; have HFM3 := Lib.hid hfm3; have HB3 := Lib.hid hb3; have HB13 := Lib.hid hb13
    clear hbx3 hri3 hfm3 hfs3 hol hb3 hb13 HSA
    have n3 := n1.trans (HB13.out.mono hz1)
    have hz3 := n3.size
    go_wp2_with fail
    refine (sameFrames_any a2 al fs2 l c2 cl w3 (HRI2.out.below HB3.out (Nat.le_refl _)) (HR.out.below n3 (Nat.le_refl _))).mono ?_
    rintro e w4 ⟨rfl, hb4⟩
    have hd2 : decide (fs2.map frm = l.map frm) = true := by rw [decide_eq_true_iff]; exact HFM2.out
    rw [hd2]
    have hb14 := HB13.out.trans (hb4.mono HB13.out.size)
    have hbx4 := HBX.out.below hb14 hbxl
    have q0 := hbx4.c0
    have q1 := hbx4.c1
    have HB4 := Lib.hid hb4; have HB14 := Lib.hid hb14
    have n4 := n1.trans (hb14.mono hz1)
    have hz4 := n4.size
    clear hd2 hbx4 hb4 hb14
    go_wp2_with fail
    refine (sameFrames_any a3 al fs3 l c3 cl w4 (HRI3.out.below HB4.out (Nat.le_refl _)) (HR.out.below n4 (Nat.le_refl _))).mono ?_
    rintro e w5 ⟨rfl, hb5⟩
    have hd3 : decide (fs3.map frm = l.map frm) = true := by rw [decide_eq_true_iff]; exact HFM3.out
    rw [hd3]
    have hb15 := HB14.out.trans (hb5.mono HB14.out.size)
    have n5 := n1.trans (hb15.mono hz1)
    have HB15 := Lib.hid hb15
    clear hd3 hb5 hb15 HRI2 HRI3 HFM2 HFM3 HB3 HB13 HB4 HB14 HS1 HS2 HBY n3 n4 q0 q1
    have hbx5 := HBX.out.below HB15.out hbxl
    have q0 := hbx5.c0
    have q1 := hbx5.c1
    have N5 := Lib.hid n5
    clear hbx5
    have HBX5 := Lib.hid (HBX.out.below HB15.out hbxl)
    clear q0 q1 HBX HB15 n5
    go_wp2_with fail
    go_loopw [9] (fun i wr => ∃ k : Nat, k ≤ l.length ∧ i = .int .i64 k ∧ Blk wr w.heap.size 40 #[.slice ao bs.length cap, .slice al l.length cl] ∧ Below w.heap.size w wr) (fun i _ => l.length - (intOf i).toNat)
    case atStart => exact ⟨0, Nat.zero_le _, rfl, HBX5.out, N5.out⟩
    case round =>
      clear HBX5 N5
      obtain ⟨k, hk, rfl, hbx, hbe⟩ := hrel
      have q0 := hbx.c0
      have q1 := hbx.c1
      have hbl := hbx.lt
      have hz := hbe.size
      by_cases hlt : k < l.length
      · obtain ⟨f, hf⟩ := get_of_lt hlt
        have hmem := List.mem_of_getElem? hf
        obtain ⟨hfl, vs, hcs, hrv⟩ := HR.out.rows f hmem
        obtain ⟨b, off, rfl⟩ := HR.out.cells.addr (frs_ne (by omega))
        have c0 := cell_keep (HR.out.cells.at (frs_get hf).1) hbe (Nat.le_refl _)
        have c1 := cell_keep (HR.out.cells.at (frs_get hf).2) hbe (Nat.le_refl _)
        rw [← Nat.add_assoc] at c1
        have hfe := rec_frm H1.out hmem
        obtain ⟨hdr, hde⟩ := dec_enc hfe
        have hen := Encode_any ao bs cap f.st f.a vs f.xss f.c wr.drew (HB.out.below hbe.drew (Nat.le_refl _)) (hcs.below hbe.drew (Nat.le_refl _)) (hrv.below hbe.drew (Nat.le_refl _)) hfl
        rw [hfe, show encRes bs f.st f.xss = encB f.st f.xss from by rw [encRes, if_pos hfe]] at hen
        have hel : (encB f.st f.xss).length ≤ 6800 := by
          have hz := frmErr_zero hfe
          exact encB_length f.st f.xss (by omega) hz.2.2.2.2.2.1
        have HEN := Lib.hid hen; have HDR := Lib.hid hdr; have HDE := Lib.hid hde; have HBX := Lib.hid hbx; have HBE := Lib.hid hbe
        have HFI := Lib.hid (HR.out.rows f hmem)
        have i1 : (k : Int) < l.length := by omega
        have i3 : (0 : Int) ≤ k := by omega
        clear hen hdr hde hfe hcs hrv hf hmem hbx hbe
        go_wp2_with fail
        go_region_held3 (fun w' => w'.cell? ⟨w.heap.size, 0, none⟩ = some (.slice ao bs.length cap) ∧ w'.cell? ⟨w.heap.size, 1, none⟩ = some (.slice (some ⟨b, off, none⟩) l.length cl) ∧ w'.cell? ⟨b, off + k * 2, none⟩ = some (.int .i64 f.st) ∧ w'.cell? ⟨b, off + k * 2 + 1, none⟩ = some (.slice f.a f.xss.length f.c))
          (first | exact ⟨q0, q1, c0, c1⟩ | exact ⟨cell_keep q0 hbz (Nat.le_refl _), cell_keep q1 hbz (Nat.le_refl _), cell_keep c0 hbz (Nat.le_refl _), cell_keep c1 hbz (Nat.le_refl _)⟩ | go_keep)
          (first | (go_at_call 30; refine HEN.out.mono ?_; rintro e w2 ⟨⟨v2, rfl, ho2⟩, hb2⟩; have hbz : Below wr.heap.size wr w2 := ((Below.refl wr.heap.size wr).drew).trans hb2; clear hb2; have HO2 := Lib.hid ho2; clear ho2))
        obtain ⟨ga, gc, rfl, hgc, hgn, hgm⟩ := own_cap HO2.out
        have hmx : maxLen = 9223372036854775807 := rfl
        rw [hmx] at hgm
        have hbe2 := HBE.out.trans (hbz.mono hz)
        have hz2 := hbz.size
        have hby : ByIn w2 ga (encB f.st f.xss) gc := ⟨hgc, encB_lt f.st f.xss, by omega, hgn, hgm⟩
        have hde := decode_any ao bs cap ga (encB f.st f.xss) gc w2 (HB.out.below hbe2 (Nat.le_refl _)) hby
        rw [HDR.out, HDE.out] at hde
        have q0 := (HBX.out.below hbz hbl).c0
        have q1 := (HBX.out.below hbz hbl).c1
        have HDD := Lib.hid hde; have HBZ := Lib.hid hbz; have HBE2 := Lib.hid hbe2
        clear hde hby hgc hbz hbe2 hmx HO2
        generalize encB f.st f.xss = E at *
        go_wp2_with fail
        refine HDD.out.mono ?_
        rintro e w3 ⟨⟨vd, rfl, hfo⟩, hb3⟩
        obtain ⟨da, dc, dvs, rfl, hdc, hdr, hdl⟩ := hfo.cells
        have hb13 := HBZ.out.trans (hb3.mono hz2)
        have hba := hb13.alloc hb13.size (.cells #[.int .i64 f.st, .slice da f.xss.length dc] 43)
        have hba3 := (Below.refl w3.heap.size w3).alloc (Nat.le_refl _) (.cells #[.int .i64 f.st, .slice da f.xss.length dc] 43)
        have hxb := Blk.new w3 43 #[.int .i64 f.st, .slice da f.xss.length dc]
        have z0 := hxb.c0
        have z1 := hxb.c1
        have r0 := (HBX.out.below hba hbl).c0
        have r1 := (HBX.out.below hba hbl).c1
        have s0 := cell_keep c0 hba (Nat.le_refl _)
        have s1 := cell_keep c1 hba (Nat.le_refl _)
        have hbf := HBE.out.trans (hba.mono hz)
        have HSF := Lib.hid (sameFrame_any ⟨f.st, da, dc, f.xss⟩ f (w3.alloc (.cells #[.int .i64 f.st, .slice da f.xss.length dc] 43)).drew ⟨hdl, dvs, hdc.below hba3.drew (Nat.le_refl _), hdr.below hba3.drew (Nat.le_refl _)⟩ (HFI.out.below hbf.drew (Nat.le_refl _)))
        have hdec : decide (frm ⟨f.st, da, dc, f.xss⟩ = frm f) = true := by rw [decide_eq_true_iff]; rfl
        rw [hdec] at HSF
        have hz4 := hbf.size
        have HBF := Lib.hid hbf; have HBA := Lib.hid hba
        clear hdec hdc hdr hdl hfo hb3 hb13 hba3 hxb c0 c1 q0 q1 hbf hba
        go_wp2_with fail
        go_region_held3 (fun w' => w'.cell? ⟨w.heap.size, 0, none⟩ = some (.slice ao bs.length cap) ∧ w'.cell? ⟨w.heap.size, 1, none⟩ = some (.slice (some ⟨b, off, none⟩) l.length cl) ∧ w'.cell? ⟨b, off + k * 2, none⟩ = some (.int .i64 f.st) ∧ w'.cell? ⟨b, off + k * 2 + 1, none⟩ = some (.slice f.a f.xss.length f.c) ∧ w'.cell? ⟨w3.heap.size, 0, none⟩ = some (.int .i64 f.st) ∧ w'.cell? ⟨w3.heap.size, 1, none⟩ = some (.slice da f.xss.length dc))
          (first | exact ⟨r0, r1, s0, s1, z0, z1⟩ | exact ⟨cell_keep r0 hby (Nat.le_refl _), cell_keep r1 hby (Nat.le_refl _), cell_keep s0 hby (Nat.le_refl _), cell_keep s1 hby (Nat.le_refl _), cell_keep z0 hby (Nat.le_refl _), cell_keep z1 hby (Nat.le_refl _)⟩ | go_keep)
          (first | (go_at_call 41; refine HSF.out.mono ?_; rintro e w4 ⟨rfl, hb4⟩; have hby : Below (w3.alloc (.cells #[.int .i64 f.st, .slice da f.xss.length dc] 43)).heap.size (w3.alloc (.cells #[.int .i64 f.st, .slice da f.xss.length dc] 43)) w4 := ((Below.refl _ (w3.alloc (.cells #[.int .i64 f.st, .slice da f.xss.length dc] 43))).drew).trans hb4; clear hb4))
        all_goals
          have hbx9 := (HBX.out.below HBA.out hbl).below hby (by have := HBA.out.size; omega)
          have hbe9 := HBF.out.trans (hby.mono hz4)
          have HBX9 := Lib.hid hbx9; have HBE9 := Lib.hid hbe9
          clear r0 r1 s0 s1 z0 z1 hby hbx9 hbe9
          go_wp2
          go_roundw
          case rel => exact ⟨k + 1, by omega, by go_num, HBX9.out, HBE9.out⟩
          case measure => simp [intOf]; omega
      · obtain rfl : k = l.length := by omega
        have HBE := Lib.hid hbe
        clear hbx hbe
        go_wp2_with fail
        refine (works_any _).mono ?_
        rintro e w6 ⟨rfl, hb6⟩
        have hfin := HBE.out.trans (hb6.mono hz)
        go_wp2
        go_ret
        exact ⟨rfl, hfin⟩
  · have hp : packRes bs l = [] := by rw [packRes, if_neg h1]
    rw [hp] at hce hcn
    have h3 : (recErr bs l != 0) = true := by simpa using h1
    have h4 : (recErr bs l == 0) = false := by simpa using h1
    rw [hp]
    clear hp
    go_wp2_with fail
    refine (works_any _).mono ?_
    rintro e w6 ⟨rfl, hb6⟩
    have hfin := n1.trans (hb6.mono hz1)
    go_wp2
    go_ret
    exact ⟨rfl, hfin⟩
end Go.Proofs.YtoochleabcjljaaGreatDoor

/- Codes: one changed byte, in plain words. -/
namespace Go.Proofs.YtoochleabcjljaaGreatDoor
open Go.RowKit

theorem chk_step_inj {n m b : Nat} (hn : n < 16777213) (hm : m < 16777213) (h : (n * 257 + b + 1) % 16777213 = (m * 257 + b + 1) % 16777213) : n = m := by omega
theorem chk_byte_inj {n b c : Nat} (hb : b < 256) (hc : c < 256) (h : (n * 257 + b + 1) % 16777213 = (n * 257 + c + 1) % 16777213) : b = c := by omega
theorem chk_tail (l : List Nat) {n m : Nat} (hn : n < 16777213) (hm : m < 16777213) (h : l.foldl (fun n b => (n * 257 + b + 1) % 16777213) n = l.foldl (fun n b => (n * 257 + b + 1) % 16777213) m) : n = m := by
  induction l generalizing n m with
  | nil => exact h
  | cons b l ih =>
    rw [List.foldl_cons, List.foldl_cons] at h
    exact chk_step_inj hn hm (ih (Nat.mod_lt _ (by decide)) (Nat.mod_lt _ (by decide)) h)
/-- bytes that differ in one place have another check -/
theorem chk_one (a r : List Nat) {x y : Nat} (hx : x < 256) (hy : y < 256) (h : chkL (a ++ x :: r) = chkL (a ++ y :: r)) : x = y := by
  unfold chkL at h
  rw [List.foldl_append, List.foldl_append, List.foldl_cons, List.foldl_cons] at h
  exact chk_byte_inj hx hy (chk_tail r (Nat.mod_lt _ (by decide)) (Nat.mod_lt _ (by decide)) h)
theorem octs24_inj {n m : Nat} (hn : n < 16777216) (hm : m < 16777216) (h : octs (binL (n : Int) 24) = octs (binL (m : Int) 24)) : n = m := by
  have key : ∀ k : Nat, unB (octs (binL (k : Int) 24)) = binL (k : Int) 24 := by
    intro k
    obtain ⟨p, hp⟩ := unB_octs 24 (binL (k : Int) 24) (by rw [binL_length]; omega) (binL_bits _ _)
    have hl := congrArg List.length hp
    rw [unB_length, octs_len, List.length_append, binL_length] at hl
    have : p = [] := List.length_eq_zero_iff.1 (by omega)
    rw [hp, this, List.append_nil]
  have h1 := congrArg unB h
  rw [key, key] at h1
  have h2 := congrArg valB h1
  rw [valB_bin, valB_bin, Nat.mod_eq_of_lt (by omega), Nat.mod_eq_of_lt (by omega)] at h2
  exact h2
/-- no code is another one with one byte changed -/
theorem enc_one {f g : Fr} {i x : Nat} (hx : x < 256) (hf : ∀ d ∈ encF f, d < 256) (h : encF g = (encF f).set i x) : x = (encF f).getD i 0 ∨ (encF f).length ≤ i := by
  by_cases hi : i < (encF f).length
  · refine .inl ?_
    have hF : encF f = hdB (octs (frBits f.1 f.2)) ++ octs (binL (chkL (hdB (octs (frBits f.1 f.2))) : Nat) 24) := rfl
    have hG : encF g = hdB (octs (frBits g.1 g.2)) ++ octs (binL (chkL (hdB (octs (frBits g.1 g.2))) : Nat) 24) := rfl
    generalize hdB (octs (frBits f.1 f.2)) = a at *
    generalize hdB (octs (frBits g.1 g.2)) = b at *
    have la := octs_len (binL (chkL a : Nat) 24)
    have lb := octs_len (binL (chkL b : Nat) 24)
    rw [binL_length] at la lb
    have ca := chkL_lt a
    have cb := chkL_lt b
    rw [hF] at hi hf h ⊢
    rw [hG] at h
    have hlen : b.length = a.length := by
      have := congrArg List.length h
      rw [List.length_set, List.length_append, List.length_append] at this; omega
    rw [List.length_append] at hi
    by_cases hia : i < a.length
    · rw [List.set_append_left _ _ hia] at h
      obtain ⟨h1, h2⟩ := List.append_inj h (by rw [List.length_set, hlen])
      have h3 := octs24_inj (by omega) (by omega) h2
      have hd : a = a.take i ++ a[i] :: a.drop (i + 1) := by rw [← List.drop_eq_getElem_cons hia, List.take_append_drop]
      have hs : a.set i x = a.take i ++ x :: a.drop (i + 1) := List.set_eq_take_append_cons_drop .. |>.trans (by rw [if_pos hia])
      rw [h1, hs] at h3
      conv at h3 => rhs; rw [hd]
      have h4 := chk_one _ _ hx (hf _ (by simp [List.getElem_mem hia])) h3
      rw [List.getD_eq_getElem?_getD, List.getElem?_append_left hia, List.getElem?_eq_getElem hia]
      exact h4
    · rw [List.set_append_right _ _ (by omega)] at h
      obtain ⟨h1, h2⟩ := List.append_inj h hlen
      rw [h1] at h2
      have hi3 : i - a.length < (octs (binL (chkL a : Nat) 24)).length := by omega
      have h3 : (octs (binL (chkL a : Nat) 24))[i - a.length]? = some x := by rw [h2]; rw [List.getElem?_set_self hi3]
      rw [List.getD_eq_getElem?_getD, List.getElem?_append_right (by omega), h3]; rfl
  · exact .inr (by omega)
end Go.Proofs.YtoochleabcjljaaGreatDoor

/- Codes: what Salvage finds and what is lost lie one after the other; plain. -/
namespace Go.Proofs.YtoochleabcjljaaGreatDoor
open Go.RowKit

/-- codes and spans, one after the other, from the front: 'b': a span lies right ahead -/
inductive Til (L : List Nat) : Bool → Nat → List Fr → List (Int × Int) → Prop
  | nil : Til L false 0 [] []
  | code {b : Bool} {e : Nat} {fs : List Fr} {lost : List (Int × Int)} {x : Fr} : Til L b e fs lost → (L.drop e).take (encF x).length = encF x → e + (encF x).length ≤ L.length → Til L false (e + (encF x).length) (fs ++ [x]) lost
  | span {e z : Nat} {fs : List Fr} {lost : List (Int × Int)} : Til L false e fs lost → e < z → Til L true z fs (lost ++ [((e : Int), (z : Int))])
theorem joinS_snoc' (ss : List (Int × Int)) (p : Int × Int) (i : Nat) : joinS (ss ++ [p]) i = if p.2 = (i : Int) then ss ++ [(p.1, (i : Int) + 1)] else ss ++ [p] ++ [((i : Int), (i : Int) + 1)] := by
  unfold joinS; simp
theorem Til.ends {L : List Nat} {b : Bool} {e : Nat} {fs : List Fr} {lost : List (Int × Int)} (h : Til L b e fs lost) : (∀ p ∈ lost, p.2 ≤ (e : Int)) ∧ (b = false → ∀ p ∈ lost, p.2 < (e : Int)) := by
  induction h with
  | nil => exact ⟨fun p hp => by simp at hp, fun _ p hp => by simp at hp⟩
  | code h hc hl ih =>
    rename_i x
    have hp0 := encF_pos x
    exact ⟨fun p hp => by have := ih.1 p hp; omega, fun _ p hp => by have := ih.1 p hp; omega⟩
  | span h hl ih =>
    refine ⟨fun p hp => ?_, fun e => by cases e⟩
    rcases List.mem_append.1 hp with h1 | h1
    · have := ih.1 p h1; omega
    · rw [List.mem_singleton.1 h1]; exact Int.le_refl _
theorem Til.inv {L : List Nat} {b : Bool} {e : Nat} {fs : List Fr} {lost : List (Int × Int)} (h : Til L b e fs lost) (hb : b = true) : ∃ (e0 : Nat) (lost' : List (Int × Int)), lost = lost' ++ [((e0 : Int), (e : Int))] ∧ Til L false e0 fs lost' ∧ e0 < e := by
  cases h with
  | nil => cases hb
  | code => cases hb
  | span h hl => exact ⟨_, _, rfl, h, hl⟩
/-- the same from a place on -/
def TlC (L : List Nat) : Nat → List Fr → List (Int × Int) → Prop
  | e, [], lost => lost = [] ∧ e = L.length
  | e, x :: fs, lost => (L.drop e).take (encF x).length = encF x ∧ e + (encF x).length ≤ L.length ∧
      ((∃ (z : Nat) (rest : List (Int × Int)), lost = (((e + (encF x).length : Nat) : Int), (z : Int)) :: rest ∧ e + (encF x).length < z ∧ TlC L z fs rest ∧ ∀ p ∈ rest, (z : Int) < p.1) ∨ (TlC L (e + (encF x).length) fs lost ∧ ∀ p ∈ lost, ((e + (encF x).length : Nat) : Int) < p.1))
def Tl (L : List Nat) (e : Nat) (fs : List Fr) (lost : List (Int × Int)) : Prop :=
  (∃ (z : Nat) (rest : List (Int × Int)), lost = ((e : Int), (z : Int)) :: rest ∧ e < z ∧ TlC L z fs rest ∧ ∀ p ∈ rest, (z : Int) < p.1) ∨ (TlC L e fs lost ∧ ∀ p ∈ lost, (e : Int) < p.1)
theorem Tl.heads {L : List Nat} {e : Nat} {fs : List Fr} {lost : List (Int × Int)} (h : Tl L e fs lost) : ∀ p ∈ lost, (e : Int) ≤ p.1 := by
  intro p hp
  rcases h with ⟨z, rest, rfl, h1, _, h3⟩ | ⟨_, h2⟩
  · rcases List.mem_cons.1 hp with h | h
    · rw [h]; exact Int.le_refl _
    · have := h3 p h; omega
  · have := h2 p hp; omega
theorem TlC.cons {L : List Nat} {e : Nat} {x : Fr} {fs : List Fr} {lost : List (Int × Int)} (h1 : (L.drop e).take (encF x).length = encF x) (h2 : e + (encF x).length ≤ L.length) (h3 : Tl L (e + (encF x).length) fs lost) : TlC L e (x :: fs) lost := ⟨h1, h2, h3⟩
theorem TlC.next {L : List Nat} {e : Nat} {x : Fr} {fs : List Fr} {lost : List (Int × Int)} (h : TlC L e (x :: fs) lost) : (L.drop e).take (encF x).length = encF x ∧ e + (encF x).length ≤ L.length ∧ Tl L (e + (encF x).length) fs lost := h
theorem Til.front {L : List Nat} {b : Bool} {e : Nat} {fs : List Fr} {lost : List (Int × Int)} (h : Til L b e fs lost) : ∀ (fs2 : List Fr) (lost2 : List (Int × Int)), (b = true → TlC L e fs2 lost2 ∧ ∀ p ∈ lost2, (e : Int) < p.1) → (b = false → Tl L e fs2 lost2) → Tl L 0 (fs ++ fs2) (lost ++ lost2) := by
  induction h with
  | nil => intro fs2 lost2 _ h2; exact h2 rfl
  | code h hc hl ih =>
    rename_i b e fs lost x
    intro fs2 lost2 _ h2
    have ht := h2 rfl
    have hh := ht.heads
    have hp0 := encF_pos x
    have hk := TlC.cons hc hl ht
    have hlt : ∀ p ∈ lost2, (e : Int) < p.1 := fun p hp => by have := hh p hp; omega
    have := ih (x :: fs2) lost2 (fun _ => ⟨hk, hlt⟩) (fun _ => .inr ⟨hk, hlt⟩)
    simpa using this
  | span h hl ih =>
    rename_i e z fs lost
    intro fs2 lost2 h1 _
    obtain ⟨ht, hh⟩ := h1 rfl
    have := ih fs2 (((e : Int), (z : Int)) :: lost2) (fun e => by cases e) (fun _ => .inl ⟨z, lost2, rfl, hl, ht, hh⟩)
    simpa using this

/-- what Salvage has found before place i -/
theorem sal_til (bs : List Chan) (L : List Nat) (i : Nat) (hi : i ≤ L.length) :
    ((i ≤ (salTo bs L i).2 ∧ Til L false (salTo bs L i).2 (salTo bs L i).1 (lostTo bs L i)) ∨ ((salTo bs L i).2 < i ∧ Til L true i (salTo bs L i).1 (lostTo bs L i))) ∧
    (∀ (a b : List Fr) (x : Fr), (salTo bs L i).1 = a ++ x :: b → lastR a < x.1) ∧ ∀ x ∈ (salTo bs L i).1, frOK bs x.1 x.2 = true := by
  induction i with
  | zero => exact ⟨.inl ⟨Nat.le_refl _, Til.nil⟩, fun a b x h => by simp [salTo] at h, fun x hx => by simp [salTo] at hx⟩
  | succ i ih =>
    obtain ⟨h1, h2, h3⟩ := ih (by omega)
    rw [salTo, lostTo]
    generalize salTo bs L i = S at *
    obtain ⟨out, beh⟩ := S
    simp only at h1 h2 h3
    generalize lostTo bs L i = lost at *
    have hlost : ¬ i < beh → Til L true (i + 1) out (joinS lost i) := by
      intro hn
      rcases h1 with ⟨ha, hb⟩ | ⟨ha, hb⟩
      · obtain rfl : beh = i := by omega
        have hends := hb.ends.2 rfl
        have hj : joinS lost beh = lost ++ [((beh : Int), ((beh + 1 : Nat) : Int))] := by
          unfold joinS
          split
          · rename_i p hp
            have := hends p (List.mem_of_getLast? hp)
            rw [if_neg (by omega)]; simp
          · simp
        rw [hj]
        exact Til.span hb (Nat.lt_succ_self _)
      · obtain ⟨e, lost', rfl, hb, hl⟩ := hb.inv rfl
        rw [joinS_snoc', if_pos rfl]
        have := Til.span (z := i + 1) hb (by omega)
        simpa using this
    by_cases hin : i < beh
    · rw [salP_in (s := (out, beh)) hin]
      refine ⟨.inl ⟨hin, ?_⟩, h2, h3⟩
      rcases h1 with ⟨_, hb⟩ | ⟨ha, _⟩
      · simpa using hb
      · omega
    · by_cases h64 : out.length < 64
      · cases hf : firstR bs (L.drop i) with
        | none =>
          rw [salP_none (s := (out, beh)) hin h64 hf]
          refine ⟨.inr ⟨by simp only; omega, by simpa using hlost hin⟩, h2, h3⟩
        | some p =>
          obtain ⟨x, n⟩ := p
          by_cases hnew : lastR out < x.1
          · rw [salP_new (s := (out, beh)) hin h64 hf hnew]
            obtain ⟨k1, k2, k3, k4, -⟩ := firstR_sound (st := x.1) (xss := x.2) hf
            have he : encB x.1 x.2 = encF x := rfl
            rw [he] at k2 k4
            rw [List.length_drop] at k3
            rw [← k4] at k2 ⊢
            have hcode : ∀ b, Til L b i out lost → Til L false (i + (encF x).length) (out ++ [x]) lost := fun b hb => Til.code hb k2.symm (by omega)
            have hp0 := encF_pos x
            refine ⟨.inl ⟨by simp only; omega, ?_⟩, ?_, ?_⟩
            · rcases h1 with ⟨ha, hb⟩ | ⟨ha, hb⟩
              · obtain rfl : beh = i := by omega
                simpa using hcode _ hb
              · simpa using hcode _ hb
            · intro a b y hy
              simp only at hy
              rcases List.eq_nil_or_concat b with rfl | ⟨b', z, rfl⟩
              · have := List.append_inj' hy rfl
                obtain ⟨rfl, hz⟩ := this
                simp at hz; rw [← hz]; exact hnew
              · rw [List.concat_eq_append, ← List.cons_append, ← List.append_assoc] at hy
                have := List.append_inj' hy rfl
                exact h2 a b' y this.1
            · intro y hy
              rcases List.mem_append.1 hy with h | h
              · exact h3 y h
              · rw [List.mem_singleton.1 h]; exact k1
          · rw [salP_old (s := (out, beh)) hin h64 hf hnew]
            refine ⟨.inr ⟨by simp only; omega, by simpa using hlost hin⟩, h2, h3⟩
      · rw [salP_full (s := (out, beh)) hin h64]
        refine ⟨.inr ⟨by simp only; omega, by simpa using hlost hin⟩, h2, h3⟩
theorem sal_tiles (bs : List Chan) (L : List Nat) : Tl L 0 (salTo bs L L.length).1 (lostTo bs L L.length) ∧ (∀ (a b : List Fr) (x : Fr), (salTo bs L L.length).1 = a ++ x :: b → lastR a < x.1) ∧ ∀ x ∈ (salTo bs L L.length).1, frOK bs x.1 x.2 = true := by
  obtain ⟨h1, h2, h3⟩ := sal_til bs L L.length (Nat.le_refl _)
  refine ⟨?_, h2, h3⟩
  have hbd := (salTo_bd bs L L.length (Nat.le_refl _)).1
  have hC : TlC L L.length [] [] := ⟨rfl, rfl⟩
  have hT : Tl L L.length [] [] := .inr ⟨hC, fun p hp => by simp at hp⟩
  rcases h1 with ⟨ha, hb⟩ | ⟨ha, hb⟩
  · have e : (salTo bs L L.length).2 = L.length := by omega
    rw [e] at hb
    have := hb.front [] [] (fun e => by cases e) (fun _ => hT)
    simpa using this
  · have := hb.front [] [] (fun _ => ⟨hC, fun p hp => by simp at hp⟩) (fun e => by cases e)
    simpa using this

/-- a code with one byte changed is none -/
theorem dec_changed {bs : List Chan} {f : Fr} {i x : Nat} (hx : x < 256) (hi : i < (encF f).length) (hne : x ≠ (encF f).getD i 0) (hf : ∀ d ∈ encF f, d < 256) : decR bs ((encF f).set i x) = none := by
  unfold decR
  split
  · cases h : firstR bs ((encF f).set i x) with
    | none => rfl
    | some p =>
      simp only
      split
      · rename_i hn
        exfalso
        obtain ⟨-, h2, -, -, -⟩ := firstR_sound (st := p.1.1) (xss := p.1.2) (n := p.2) h
        rw [hn, List.take_length] at h2
        rcases enc_one (g := p.1) hx hf h2 with h3 | h3
        · exact hne h3
        · omega
      · rfl
  · rfl
end Go.Proofs.YtoochleabcjljaaGreatDoor

/- Mod, with the law's own walk (for a seat without Down). -/
namespace Go.Proofs.YtoochleabcjljaaGreatDoor
open Go.RowKit

theorem tdivz_floor {a b : Int} (hb : 0 < b) : (a.tmod b < 0 → a.tdiv b - 1 = a / b) ∧ (¬ a.tmod b < 0 → a.tdiv b = a / b) := by
  have h1 := Int.mul_tdiv_add_tmod a b
  have h2 := Int.mul_ediv_add_emod a b
  have h3 := Int.emod_nonneg a (by omega : b ≠ 0)
  have h4 := Int.emod_lt_of_pos a hb
  have h5 : a.tmod b < b := Int.tmod_lt_of_pos a hb
  have h6 : -b < a.tmod b := by have := Int.lt_tmod_of_pos a hb; omega
  refine ⟨fun h => ?_, fun h => ?_⟩
  · have e : b * (a.tdiv b - 1 - a / b) = a % b - b - a.tmod b := by rw [Int.mul_sub, Int.mul_sub]; omega
    have : a.tdiv b - 1 - a / b = 0 := by
      rcases Int.lt_trichotomy (a.tdiv b - 1 - a / b) 0 with hl | hl | hl
      · have := Int.mul_le_mul_of_nonneg_left (show a.tdiv b - 1 - a / b ≤ -1 by omega) (Int.le_of_lt hb); omega
      · exact hl
      · have := Int.mul_le_mul_of_nonneg_left (show 1 ≤ a.tdiv b - 1 - a / b by omega) (Int.le_of_lt hb); omega
    omega
  · have e : b * (a.tdiv b - a / b) = a % b - a.tmod b := by rw [Int.mul_sub]; omega
    have : a.tdiv b - a / b = 0 := by
      rcases Int.lt_trichotomy (a.tdiv b - a / b) 0 with hl | hl | hl
      · have := Int.mul_le_mul_of_nonneg_left (show a.tdiv b - a / b ≤ -1 by omega) (Int.le_of_lt hb); omega
      · exact hl
      · have := Int.mul_le_mul_of_nonneg_left (show 1 ≤ a.tdiv b - a / b by omega) (Int.le_of_lt hb); omega
    omega

theorem tmodz_floor {a b : Int} (hb : 0 < b) : (a.tmod b < 0 → a.tmod b + b = a % b) ∧ (¬ a.tmod b < 0 → a.tmod b = a % b) := by
  obtain ⟨f1, f2⟩ := tdivz_floor (a := a) hb
  have h1 := Int.mul_tdiv_add_tmod a b
  have h2 := Int.mul_ediv_add_emod a b
  refine ⟨fun h => ?_, fun h => ?_⟩
  · have := f1 h
    rw [← this, Int.mul_sub] at h2
    omega
  · have := f2 h
    rw [← this] at h2
    omega

theorem modz_any (a b : Int) (w : World) (hb : 1 ≤ b) (hb2 : b ≤ 4611686018427387904) :
    Calls Tryz.prog 47 #[.int .i64 a, .int .i64 b] w fun e w' => e = .returned (.int .i64 (a % b)) ∧ w = w' := by
  have hf := tmodz_floor (a := a) (b := b) (by omega)
  have h0 : (b == 0) = false := by simp; omega
  have hr : -9223372036854775807 ≤ a.tmod b ∧ a.tmod b ≤ 9223372036854775807 := by
    have h1 : a.tmod b < b := Int.tmod_lt_of_pos a (by omega)
    have h2 : -b < a.tmod b := by have := Int.lt_tmod_of_pos a (show 0 < b by omega); omega
    omega
  obtain ⟨r1, r2⟩ := hr
  have H1 := Lib.hid hf; clear hf
  by_cases hm : a.tmod b < 0
  · go_enter Tryz.func47, Tryz.ntmps47
    go_wp2
    go_ret
    exact ⟨ret_int (H1.out.1 hm), rfl⟩
  · go_enter Tryz.func47, Tryz.ntmps47
    go_wp2
    go_ret
    exact ⟨ret_int (H1.out.2 hm), rfl⟩

end Go.Proofs.YtoochleabcjljaaGreatDoor

/- RecordChanged: strings of bytes. -/
namespace Go.Proofs.YtoochleabcjljaaGreatDoor
open Go.RowKit

theorem conv_cells {w : World} {b off : Nat} (l : List Nat) (cap : Nat) (hc : Cells w (some ⟨b, off, none⟩) (bys l)) (hl : ∀ d ∈ l, d < 256) :
    (convert 48 9 (.slice (some ⟨b, off, none⟩) l.length cap)).run Tryz.prog w = .ok (.string (bstr l)) w := by
  have hn2 : l.length = (l.map UInt8.ofNat).length := by rw [List.length_map]
  rw [hn2]
  exact run_convert_bytes_back w _ _ 5 ⟨b, off, none⟩ cap (l.map UInt8.ofNat) Tryz.underlying48 Tryz.underlying5 Tryz.underlying9 (fun j hj => by
    rw [List.length_map] at hj
    have h2 := hl l[j] (List.getElem_mem _)
    have := hc.at (j := j) (u := .int .u8 (l[j] : Nat)) (by simp [bys, hj])
    rw [Addr.add_lit, this, List.getElem_map]
    congr 2
    simp [Nat.mod_eq_of_lt h2])
theorem changed_byte {d m : Nat} (_hd : d < 256) (hm : m ≤ 254) : ∃ x, x < 256 ∧ x ≠ d ∧ IntKind.u8.wrap ((d : Int) + (1 + (m : Int))) = (x : Int) := by
  refine ⟨(d + (1 + m)) % 256, Nat.mod_lt _ (by decide), by omega, ?_⟩
  simp only [IntKind.wrap_u8]
  omega
theorem TlC.le {L : List Nat} {e : Nat} {fs : List Fr} {lost : List (Int × Int)} (h : TlC L e fs lost) : e ≤ L.length := by
  cases fs with
  | nil => have := h.2; omega
  | cons x fs => have := h.next.2.1; omega
theorem set_bys (l : List Nat) (i x : Nat) : (bys l).set i (.int .u8 (x : Nat)) = bys (l.set i x) := by
  simp [bys, List.map_set]

end Go.Proofs.YtoochleabcjljaaGreatDoor

/- RecordChanged: the walk, one frame. -/
namespace Go.Proofs.YtoochleabcjljaaGreatDoor
open Go.RowKit

set_option maxRecDepth 100000 in
set_option maxHeartbeats 100000000 in
theorem changed_a (ao : Option Addr) (bs : List Chan) (cap : Nat) (al : Option Addr) (l : List Frm) (cl : Nat) (at_ by_ : Int) (w : World) (hb : BookIn w ao bs cap) (hr : RecIn w al l) (hq : l.length = 1) :
    Calls Tryz.prog 7 #[.agg #[.slice ao bs.length cap, .slice al l.length cl], .int .i64 at_, .int .i64 by_] w fun e w' => e = .returned (.bool true) ∧ Below w.heap.size w w' := by
  have HQ := Lib.hid hq
  clear hq
  have HB := Lib.hid hb; have HR := Lib.hid hr
  have hlen := hb.len
  have hll := hr.len
  clear hb hr
  have hb0 := (Below.refl w.heap.size w).alloc (Nat.le_refl _) (.cells #[.slice ao bs.length cap, .slice al l.length cl] 40)
  go_enter Tryz.func7, Tryz.ntmps7
  go_wp2_with fail
  refine (pack_any ao bs cap al l cl _ (HB.out.below hb0 (Nat.le_refl _)) (HR.out.below hb0 (Nat.le_refl _))).mono ?_
  rintro e w1 ⟨⟨v1, rfl, ho1⟩, hb1⟩
  have hbx := Blk.below (Blk.new w 40 #[.slice ao bs.length cap, .slice al l.length cl]) hb1 (by simp)
  have n1 := hb0.trans (hb1.mono (by simp))
  have hz1 := n1.size
  have q0 := hbx.c0
  have q1 := hbx.c1
  clear hb0 hb1
  by_cases h1 : recErr bs l = 0
  · have hpl := pack_len h1
    have hpf := packRes_flat h1
    have hbook := (recErr_zero h1).1
    have H1 := Lib.hid h1
    by_cases h0 : (packRes bs l).length = 0
    · have hl0 : l.length = 0 := by
        cases l with
        | nil => rfl
        | cons f m =>
          have := encF_pos (frm f)
          rw [hpf] at h0
          simp only [List.map_cons, List.flatMap_cons, List.length_append] at h0
          omega
      obtain ⟨ea, ec, rfl, -, -, -⟩ := own_cap ho1
      rw [h1, h0]
      clear ho1 hpl hpf h0
      go_wp2_with fail
      refine (works_any _).mono ?_
      rintro e w6 ⟨rfl, hb6⟩
      have hfin := n1.trans (hb6.mono hz1)
      go_wp2
      go_ret
      exact ⟨rfl, hfin⟩
    · obtain ⟨g, ec, rfl, hgb, -⟩ := ho1.form (by omega)
      have hone : l.length = 1 → ∃ f, l = [f] ∧ packRes bs l = encF (frm f) := by
        intro hl1
        obtain ⟨f, rfl⟩ := List.length_eq_one_iff.1 hl1
        exact ⟨f, rfl, by rw [hpf]; simp⟩
      have hP256 := packRes_lt bs l
      have HONE := Lib.hid hone; have HP256 := Lib.hid hP256
      rw [h1]
      clear h1 hpf hP256 hone
      generalize packRes bs l = P at *
      obtain ⟨pn, hpn⟩ := Int.eq_ofNat_of_zero_le (Int.emod_nonneg at_ (show (P.length : Int) ≠ 0 by omega))
      have hplt : pn < P.length := by have := Int.emod_lt_of_pos at_ (show (0 : Int) < P.length by omega); omega
      obtain ⟨mm, hmm⟩ := Int.eq_ofNat_of_zero_le (Int.emod_nonneg by_ (show (255 : Int) ≠ 0 by decide))
      have hmm254 : mm ≤ 254 := by have := Int.emod_lt_of_pos by_ (show (0 : Int) < 255 by decide); omega
      obtain ⟨d, hd⟩ := get_of_lt hplt
      have hd256 := HP256.out d (List.mem_of_getElem? hd)
      obtain ⟨x, hx, hxd, hxw⟩ := changed_byte hd256 hmm254
      have hm1 := modz_any at_ P.length w1 (by omega) (by omega)
      rw [hpn] at hm1
      have hm2 := fun (wx : World) => modz_any by_ 255 wx (by decide) (by decide)
      rw [hmm] at hm2
      have hcd : w1.cell? ⟨g, pn, none⟩ = some (.int .u8 (d : Nat)) := by
        rw [ho1.cellAt pn (by omega), bys_get hd]
      have hcf := ho1.frozenAt pn
      have hsto := ho1.stored pn (.int .u8 (x : Nat))
      rw [set_bys] at hsto
      have hglt := ho1.lt g rfl
      simp only [World.size_alloc] at hglt
      have i1 : (pn : Int) < P.length := by omega
      have i2 : (0 : Int) ≤ pn := by omega
      have q9 : IntKind.i64.wrap (1 + (mm : Int)) = 1 + (mm : Int) := IntWalk.i64_in _ (by omega)
      have q8 : IntKind.u8.wrap (1 + (mm : Int)) = 1 + (mm : Int) := IntWalk.u8_in _ (by omega)
      have h0i : ¬ (P.length : Int) = 0 := by omega
      have hgne : w.heap.size ≠ g := by omega
      have hPl : (P.set pn x).length = P.length := List.length_set
      have hbxW : Blk (w1.setCell ⟨g, pn, none⟩ (.int .u8 (x : Nat))).drew w.heap.size 40 #[.slice ao bs.length cap, .slice al l.length cl] := hbx.other hgne _ _
      have hbW : Below w.heap.size w (w1.setCell ⟨g, pn, none⟩ (.int .u8 (x : Nat))).drew := (n1.setCell (p := ⟨g, pn, none⟩) (by simp; omega) _).drew
      have hoW : (w1.setCell ⟨g, pn, none⟩ (.int .u8 (x : Nat))).drew.ownsRow (w.heap.size + 1) 5 1 (.slice (some ⟨g, 0, none⟩) P.length ec) P.length (bys (P.set pn x)) := by
        have := hsto.1
        simp only [World.size_alloc] at this
        exact this
      obtain ⟨_, _, hv, hcW, hnc, hcm⟩ := own_cap hoW
      simp only [Value.slice.injEq, true_and] at hv
      obtain ⟨rfl, rfl⟩ := hv
      have hmx : maxLen = 9223372036854775807 := rfl
      rw [hmx] at hcm
      have hbyW : ByIn (w1.setCell ⟨g, pn, none⟩ (.int .u8 (x : Nat))).drew (some ⟨g, 0, none⟩) (P.set pn x) ec := ⟨hcW, fun e he => by
        rcases List.mem_or_eq_of_mem_set he with h | h
        · exact HP256.out e h
        · rw [h]; exact hx, by omega, by omega, hcm⟩
      have hdn : l.length = 1 → decR bs (P.set pn x) = none ∧ decErr bs (P.set pn x) = 5 := by
        intro hl1
        obtain ⟨f, rfl, hf⟩ := HONE.out hl1
        subst hf
        have h2 := dec_changed (bs := bs) (f := frm f) (i := pn) hx hplt (by rw [getD_of hd]; exact hxd) HP256.out
        exact ⟨h2, by rw [decErr, if_neg (by simpa using hbook), h2]; rfl⟩
      have hse : salErr bs (P.set pn x) = 0 := by unfold salErr; rw [if_neg (by simpa using hbook), if_neg (by omega)]
      have HM1 := Lib.hid hm1; have HM2 := Lib.hid hm2; have HBXW := Lib.hid hbxW; have HBW := Lib.hid hbW; have HBYW := Lib.hid hbyW; have HDN := Lib.hid hdn; have HSE := Lib.hid hse; have HPL := Lib.hid hPl; have HBK := Lib.hid hbook
      clear hm1 hm2 hsto hd hbx hpn hmm ho1 hbxW hbW hoW hcW hbyW hdn hse hPl hmx hbook HONE HP256
      by_cases hl1 : l.length = 1
      · have hl1i : (l.length : Int) = 1 := by omega
        obtain ⟨hdr, hde⟩ := HDN.out hl1
        have HDR := Lib.hid hdr; have HDE := Lib.hid hde
        have HL1I := Lib.hid hl1i
        clear hdr hde hl1 hl1i
        go_wp2_with fail
        refine HM1.out.mono ?_
        rintro e w2 ⟨rfl, rfl⟩
        go_wp2_with fail
        go_region_with (go_at_call 47; refine (HM2.out _).mono ?_; rintro e w2 ⟨rfl, rfl⟩)
        all_goals
          generalize (w1.setCell ⟨g, pn, none⟩ (.int .u8 (x : Nat))).drew = W at *
          have r0 := HBXW.out.c0
          have r1 := HBXW.out.c1
          have hWl := HBXW.out.lt
          clear q0 q1 hcd hcf
          have hl1i := HL1I.out
          go_wp2_with fail
          have hdc := decode_any ao bs cap (some ⟨g, 0, none⟩) (P.set pn x) ec W (HB.out.below HBW.out (Nat.le_refl _)) HBYW.out
          rw [HDR.out, HDE.out, HPL.out] at hdc
          refine hdc.mono ?_
          rintro e w3 ⟨hres, hb3⟩
          obtain rfl : e = .returned (.tuple #[.agg #[.int .i64 0, .slice none 0 0], .int .i64 5]) := hres
          have hbf := hb3.alloc hb3.size (.cells #[.int .i64 0, .slice none 0 0] 43)
          have hbxf := HBXW.out.below hbf hWl
          have hbyf := HBYW.out.below hbf (Nat.le_refl _)
          have hbef := HBW.out.trans (hbf.mono HBW.out.size)
          clear r0 r1
          have r0 := hbxf.c0
          have HBXZ := Lib.hid hbxf; have HBYZ := Lib.hid hbyf; have HBZ := Lib.hid hbef
          clear hdc hb3 hbf hbxf hbyf hbef HBXW HBYW HBW HDR HDE hWl HDN HM1 HM2
          go_wp2_with fail
          generalize w3.alloc (.cells #[.int .i64 0, .slice none 0 0] 43) = Wz at *
          clear hl1i q8 q9 h0i i1 i2 hx hxd hxw hglt hgne hnc hcm hmm254 hd256
          have hsa := salvage_any ao bs cap (some ⟨g, 0, none⟩) (P.set pn x) ec Wz (HB.out.below HBZ.out (Nat.le_refl _)) HBYZ.out
          rw [HPL.out] at hsa
          refine hsa.mono ?_
          rintro e w4 ⟨hres, hb4⟩
          unfold SalRes at hres
          rw [if_pos HSE.out] at hres
          obtain ⟨v3, vl, fs, rfl, hfm, hfs, hol⟩ := hres
          obtain ⟨a3, c3, rfl, hri⟩ := hfs.recIn
          obtain ⟨la, lc, rfl, hlc⟩ := own_cells hol
          obtain ⟨ht, hinc, hfok⟩ := sal_tiles bs (P.set pn x)
          have hlost := lostTo_length bs (P.set pn x) (P.set pn x).length
          have hfsl := (salTo_bd bs (P.set pn x) (P.set pn x).length (Nat.le_refl _)).2
          rw [← hfm] at ht hinc hfok hfsl
          rw [List.length_map] at hfsl
          have hpc := HPL.out
          have hbx4 := HBXZ.out.below hb4 HBXZ.out.lt
          have hbe4 := HBZ.out.trans (hb4.mono HBZ.out.size)
          have r0 := hbx4.c0
          have HT := Lib.hid ht; have HINC := Lib.hid hinc; have HFOK := Lib.hid hfok; have HRI := Lib.hid hri; have HLC := Lib.hid hlc; have HBE4 := Lib.hid hbe4; have HBY4 := Lib.hid (HBYZ.out.below hb4 (Nat.le_refl _))
          have HR4 := Lib.hid r0
          clear hsa hb4 hfm hfs hol ht hinc hfok hri hlc hbx4 hbe4 r0 HBXZ HBYZ HBZ
          generalize lostTo bs (P.set pn x) (P.set pn x).length = lost at *
          generalize P.set pn x = Pc at *
          go_wp2_with fail
          go_loopw [13, 14, 15] (fun fv kv iv wr => ∃ (fr k i : Nat), fv = .int .i64 fr ∧ kv = .int .i64 k ∧ iv = .int .i64 i ∧ i ≤ fs.length ∧ k ≤ lost.length ∧ Tl Pc fr ((fs.map frm).drop i) (lost.drop k) ∧ Below w4.heap.size w4 wr) (fun _ _ iv _ => fs.length + 1 - (intOf iv).toNat)
          case atStart => exact ⟨0, 0, 0, rfl, rfl, rfl, Nat.zero_le _, Nat.zero_le _, by simpa using HT.out, Below.refl _ _⟩
          case round =>
            obtain ⟨fr, k, i, rfl, rfl, rfl, hi, hk, htl, hb⟩ := hrel
            have r0 := cell_keep HR4.out hb (Nat.le_refl _)
            have hil : (i : Int) ≤ fs.length := by omega
            rcases htl with ⟨z, rest, hlk, hz, htc, hhd⟩ | ⟨htc, hhd⟩
            · have hkl : k < lost.length := by
                rcases Nat.lt_or_ge k lost.length with h9 | h9
                · exact h9
                · rw [List.drop_eq_nil_of_le h9] at hlk; cases hlk
              have hlg : lost[k]? = some ((fr : Int), (z : Int)) := by
                have h9 : (lost.drop k)[0]? = some ((fr : Int), (z : Int)) := by rw [hlk]; rfl
                rwa [List.getElem?_drop, Nat.add_zero] at h9
              have hrest : rest = lost.drop (k + 1) := by
                have h9 := congrArg (List.drop 1) hlk
                rw [List.drop_drop] at h9; simpa using h9.symm
              rw [hrest] at htc hhd
              obtain ⟨lb, lo, rfl⟩ := HLC.out.addr (prs_ne (by omega))
              have s0 := cell_keep (HLC.out.at (prs_fst hlg)) hb (Nat.le_refl _)
              have s9 := cell_keep (HLC.out.at (prs_snd hlg)) hb (Nat.le_refl _)
              rw [← Nat.add_assoc] at s9
              have k1 : (k : Int) < lost.length := by omega
              have k2 : (0 : Int) ≤ k := by omega
              have k3 : ¬ (z : Int) ≤ fr := by omega
              have k4 : k < lost.length := hkl
              have hzl := htc.le
              clear hlk hrest hlg
              by_cases hend : i = fs.length
              · have hdr0 : (fs.map frm).drop i = [] := List.drop_eq_nil_of_le (by simp; omega)
                rw [hdr0] at htc
                obtain ⟨hke, hFe⟩ := htc
                have hk2 : k + 1 = lost.length := by
                  have := congrArg List.length hke
                  rw [List.length_drop, List.length_nil] at this; omega
                have hkb : (((k : Int) + 1) == (lost.length : Int)) = true := by rw [beq_iff_eq]; omega
                have hFb : (((z : Nat) : Int) == (P.length : Int)) = true := by rw [beq_iff_eq]; have := HPL.out; omega
                have hie : (i : Int) = fs.length := by omega
                clear hdr0 hke hFe hk2 hhd
                go_wp2_with fail
                refine (works_any _).mono ?_
                rintro e w9 ⟨rfl, hb9⟩
                have hfin := HBE4.out.trans ((hb.trans (hb9.mono hb.size)).mono HBE4.out.size)
                go_wp2
                go_ret
                exact ⟨rfl, hfin⟩
              · obtain ⟨f, hf⟩ := get_of_lt (show i < fs.length by omega)
                have hmem := List.mem_of_getElem? hf
                have hdri : (fs.map frm).drop i = frm f :: (fs.map frm).drop (i + 1) := by
                  have hli : i < (fs.map frm).length := by simp; omega
                  rw [List.drop_eq_getElem_cons hli]
                  congr 1
                  have := (List.getElem?_eq_some_iff.1 (show (fs.map frm)[i]? = some (frm f) by simp [hf])).2
                  exact this
                rw [hdri] at htc
                obtain ⟨hcode, hcl, htl2⟩ := htc.next
                have hfe : frmErr bs f.st f.xss = 0 := by
                  have h9 := HFOK.out (frm f) (List.mem_map.2 ⟨f, hmem, rfl⟩)
                  simp only [frm] at h9
                  simp [frmErr, HBK.out, h9]
                obtain ⟨hfl, vs, hcs, hrv⟩ := HRI.out.rows f hmem
                obtain ⟨fb, fo, hfa⟩ := HRI.out.cells.addr (frs_ne (by omega))
                have c0 := cell_keep (show w4.cell? ⟨fb, fo + i * 2, none⟩ = some (.int .i64 f.st) from by have h8 := HRI.out.cells; rw [hfa] at h8; exact h8.at (frs_get hf).1) hb (Nat.le_refl _)
                have c1 := cell_keep (show w4.cell? ⟨fb, fo + (i * 2 + 1), none⟩ = some (.slice f.a f.xss.length f.c) from by have h8 := HRI.out.cells; rw [hfa] at h8; exact h8.at (frs_get hf).2) hb (Nat.le_refl _)
                rw [← Nat.add_assoc] at c1
                subst hfa
                have hbw := HBE4.out.trans (hb.mono HBE4.out.size)
                have hen := Encode_any ao bs cap f.st f.a vs f.xss f.c wr.drew (HB.out.below hbw.drew (Nat.le_refl _)) (hcs.below hb.drew (Nat.le_refl _)) (hrv.below hb.drew (Nat.le_refl _)) hfl
                rw [hfe, show encRes bs f.st f.xss = encF (frm f) from by rw [encRes, if_pos hfe]; rfl] at hen
                have hE256 : ∀ d ∈ encF (frm f), d < 256 := encB_lt f.st f.xss
                have hEp := encF_pos (frm f)
                have hsub : Cells w4 (some ⟨g, z, none⟩) (bys (encF (frm f))) := by
                  refine .inr ⟨g, z, rfl, fun j u hu => ?_⟩
                  have h8 := HBY4.out.cells.at (j := z + j) (u := u) (by
                    rw [← hu, ← hcode, bys, bys, List.map_take, List.map_drop, List.getElem?_take, if_pos (by have := (List.getElem?_eq_some_iff.1 hu).1; rw [bys_length] at this; exact this), List.getElem?_drop])
                  rw [Nat.zero_add] at h8; exact h8
                have hst2 : ∀ m, i = m + 1 → ∃ f0, fs[m]? = some f0 ∧ f0.st < f.st := by
                  intro m hm
                  subst hm
                  obtain ⟨f0, hf0⟩ := get_of_lt (show m < fs.length by omega)
                  refine ⟨f0, hf0, ?_⟩
                  have h8 := HINC.out ((fs.map frm).take (m + 1)) ((fs.map frm).drop (m + 2)) (frm f) (by rw [← hdri, List.take_append_drop])
                  rw [take_get (show (fs.map frm)[m]? = some (frm f0) by simp [hf0]), lastR_snoc] at h8
                  exact h8
                have HEN := Lib.hid hen; have HSUB := Lib.hid hsub; have HE256 := Lib.hid hE256; have HST2 := Lib.hid hst2; have HTL2 := Lib.hid htl2; have HF := Lib.hid hf; have HCODE := Lib.hid hcode
                have HFI := Lib.hid (HRI.out.rows f hmem)
                have j1 : (i : Int) < fs.length := by omega
                have j2 : (0 : Int) ≤ i := by omega
                have j3 : ((i : Int) == fs.length) = false := by rw [beq_eq_false_iff_ne]; omega
                have j4 : ¬ (i : Int) = fs.length := by omega
                have hzr := hb.size
                clear hen hsub hE256 hst2 htl2 hf hcode hfe hcs hrv hmem hdri htc hhd
                generalize encF (frm f) = E at *
                go_wp2_with fail
                go_region_held3 (fun w' => w'.cell? ⟨w.heap.size, 0, none⟩ = some (.slice ao bs.length cap) ∧ w'.cell? ⟨fb, fo + i * 2, none⟩ = some (.int .i64 f.st) ∧ w'.cell? ⟨fb, fo + i * 2 + 1, none⟩ = some (.slice f.a f.xss.length f.c))
                  (first | exact ⟨r0, c0, c1⟩ | exact ⟨cell_keep r0 hbz (Nat.le_refl _), cell_keep c0 hbz (Nat.le_refl _), cell_keep c1 hbz (Nat.le_refl _)⟩ | go_keep)
                  (first | (go_at_call 30; refine HEN.out.mono ?_; rintro e w5 ⟨⟨v5, rfl, ho5⟩, hb5⟩; have hbz : Below wr.heap.size wr w5 := ((Below.refl wr.heap.size wr).drew).trans hb5; clear hb5; have HO5 := Lib.hid ho5; clear ho5))
                all_goals
                  obtain ⟨ga, gc, rfl, -, -, -⟩ := own_cap HO5.out
                  have hbz4 := hb.trans (hbz.mono hzr)
                  have hcv2 := fun (n : Nat) => conv_own (w := w5.drewN n) E (own_drewN HO5.out n) HE256.out
                  have hcv1 := fun (n : Nat) => conv_cells (w := w5.drewN n) E (ec - z) (HSUB.out.below (bel_drewN hbz4 n) (Nat.le_refl _)) HE256.out
                  generalize bstr E = sE at hcv1 hcv2
                  have s1 := cell_keep c0 hbz (Nat.le_refl _)
                  have p1 : IntKind.i64.wrap ((z : Int) + E.length) = (z : Int) + E.length := IntWalk.i64_in _ (by omega)
                  have p2 : decide ((P.length : Int) < (z : Int) + E.length) = false := by rw [decide_eq_false_iff_not]; have := HPL.out; omega
                  have p10 : (sE.toList == sE.toList) = true := by simp
                  have p3 : (z : Int) ≤ (z : Int) + E.length := by omega
                  have p4 : (z : Int) + E.length ≤ ec := by have := HPL.out; have := HBY4.out.lecap; omega
                  have p5 : (0 : Int) ≤ z := by omega
                  have p6 : ((z : Int) + E.length).toNat = z + E.length := by omega
                  have p7 : z + E.length - z = E.length := by omega
                  have p8 : ¬ ec = z := by have := HPL.out; have := HBY4.out.lecap; omega
                  have p9 : ¬ ec - z = 0 := by have := HPL.out; have := HBY4.out.lecap; omega
                  clear c0 c1 r0
                  rcases Nat.eq_zero_or_pos i with hi0 | hi0
                  · have hii : decide ((0 : Int) < (i : Int)) = false := by rw [decide_eq_false_iff_not]; omega
                    have hii2 : decide (0 < i) = false := by rw [decide_eq_false_iff_not]; omega
                    clear hi0
                    go_wp2_with fail
                    go_quiet (fail)
                    go_wp2_with fail
                    clear hcv1 hcv2 p1 p2 p3 p4 p5 p6 p7 p8 p9 s1
                    go_roundw
                    case rel => exact ⟨z + E.length, k + 1, i + 1, by go_num, by go_num, by go_num, by omega, by omega, HTL2.out, bel_drewN hbz4 _⟩
                    case measure => simp [intOf]; omega
                  · obtain ⟨m, hm⟩ : ∃ m, i = m + 1 := ⟨i - 1, by omega⟩
                    obtain ⟨f0, hf0, hlt0⟩ := HST2.out m hm
                    have y0 := cell_keep (HRI.out.cells.at (frs_get hf0).1) hbz4 (Nat.le_refl _)
                    have hii : decide ((0 : Int) < (i : Int)) = true := by rw [decide_eq_true_iff]; omega
                    have hii2 : decide (0 < i) = true := by rw [decide_eq_true_iff]; omega
                    have q1 : IntKind.i64.wrap ((i : Int) - 1) = (i : Int) - 1 := IntWalk.i64_in _ (by omega)
                    have q2 : ((i : Int) - 1).toNat = m := by omega
                    have q3 : (0 : Int) ≤ (i : Int) - 1 := by omega
                    have q4 : (i : Int) - 1 < fs.length := by omega
                    have q5 : decide (f.st ≤ f0.st) = false := by rw [decide_eq_false_iff_not]; omega
                    clear hi0 hm hf0 hlt0
                    go_wp2_with fail
                    go_quiet (fail)
                    go_wp2_with fail
                    clear hcv1 hcv2 p1 p2 p3 p4 p5 p6 p7 p8 p9 s1 y0 q1 q2 q3 q4 q5 hii hii2
                    go_roundw
                    case rel => exact ⟨z + E.length, k + 1, i + 1, by go_num, by go_num, by go_num, by omega, by omega, HTL2.out, bel_drewN hbz4 _⟩
                    case measure => simp [intOf]; omega
            · have hzl := htc.le
              rcases Nat.lt_or_ge k lost.length with hkl | hkl
              · obtain ⟨p, hlg⟩ := get_of_lt hkl
                have hpf := hhd p (by
                  have h9 : (lost.drop k)[0]? = some p := by rw [List.getElem?_drop, Nat.add_zero]; exact hlg
                  exact List.mem_of_getElem? h9)
                obtain ⟨lb, lo, rfl⟩ := HLC.out.addr (prs_ne (by omega))
                have s0 := cell_keep (HLC.out.at (prs_fst hlg)) hb (Nat.le_refl _)
                have k1 : (k : Int) < lost.length := by omega
                have k2 : (0 : Int) ≤ k := by omega
                have k3 : (p.1 == (fr : Int)) = false := by rw [beq_eq_false_iff_ne]; omega
                clear hlg
                by_cases hend : i = fs.length
                · have hdr0 : (fs.map frm).drop i = [] := List.drop_eq_nil_of_le (by simp; omega)
                  rw [hdr0] at htc
                  obtain ⟨hke, hFe⟩ := htc
                  have hk2 : k = lost.length := by
                    have := congrArg List.length hke
                    rw [List.length_drop, List.length_nil] at this; omega
                  have hkb : (((k : Int)) == (lost.length : Int)) = true := by rw [beq_iff_eq]; omega
                  have hFb : (((fr : Nat) : Int) == (P.length : Int)) = true := by rw [beq_iff_eq]; have := HPL.out; omega
                  have hie : (i : Int) = fs.length := by omega
                  clear hdr0 hke hFe hk2 hhd
                  go_wp2_with fail
                  refine (works_any _).mono ?_
                  rintro e w9 ⟨rfl, hb9⟩
                  have hfin := HBE4.out.trans ((hb.trans (hb9.mono hb.size)).mono HBE4.out.size)
                  go_wp2
                  go_ret
                  exact ⟨rfl, hfin⟩
                · obtain ⟨f, hf⟩ := get_of_lt (show i < fs.length by omega)
                  have hmem := List.mem_of_getElem? hf
                  have hdri : (fs.map frm).drop i = frm f :: (fs.map frm).drop (i + 1) := by
                    have hli : i < (fs.map frm).length := by simp; omega
                    rw [List.drop_eq_getElem_cons hli]
                    congr 1
                    have := (List.getElem?_eq_some_iff.1 (show (fs.map frm)[i]? = some (frm f) by simp [hf])).2
                    exact this
                  rw [hdri] at htc
                  obtain ⟨hcode, hcl, htl2⟩ := htc.next
                  have hfe : frmErr bs f.st f.xss = 0 := by
                    have h9 := HFOK.out (frm f) (List.mem_map.2 ⟨f, hmem, rfl⟩)
                    simp only [frm] at h9
                    simp [frmErr, HBK.out, h9]
                  obtain ⟨hfl, vs, hcs, hrv⟩ := HRI.out.rows f hmem
                  obtain ⟨fb, fo, hfa⟩ := HRI.out.cells.addr (frs_ne (by omega))
                  have c0 := cell_keep (show w4.cell? ⟨fb, fo + i * 2, none⟩ = some (.int .i64 f.st) from by have h8 := HRI.out.cells; rw [hfa] at h8; exact h8.at (frs_get hf).1) hb (Nat.le_refl _)
                  have c1 := cell_keep (show w4.cell? ⟨fb, fo + (i * 2 + 1), none⟩ = some (.slice f.a f.xss.length f.c) from by have h8 := HRI.out.cells; rw [hfa] at h8; exact h8.at (frs_get hf).2) hb (Nat.le_refl _)
                  rw [← Nat.add_assoc] at c1
                  subst hfa
                  have hbw := HBE4.out.trans (hb.mono HBE4.out.size)
                  have hen := Encode_any ao bs cap f.st f.a vs f.xss f.c wr.drew (HB.out.below hbw.drew (Nat.le_refl _)) (hcs.below hb.drew (Nat.le_refl _)) (hrv.below hb.drew (Nat.le_refl _)) hfl
                  rw [hfe, show encRes bs f.st f.xss = encF (frm f) from by rw [encRes, if_pos hfe]; rfl] at hen
                  have hE256 : ∀ d ∈ encF (frm f), d < 256 := encB_lt f.st f.xss
                  have hEp := encF_pos (frm f)
                  have hsub : Cells w4 (some ⟨g, fr, none⟩) (bys (encF (frm f))) := by
                    refine .inr ⟨g, fr, rfl, fun j u hu => ?_⟩
                    have h8 := HBY4.out.cells.at (j := fr + j) (u := u) (by
                      rw [← hu, ← hcode, bys, bys, List.map_take, List.map_drop, List.getElem?_take, if_pos (by have := (List.getElem?_eq_some_iff.1 hu).1; rw [bys_length] at this; exact this), List.getElem?_drop])
                    rw [Nat.zero_add] at h8; exact h8
                  have hst2 : ∀ m, i = m + 1 → ∃ f0, fs[m]? = some f0 ∧ f0.st < f.st := by
                    intro m hm
                    subst hm
                    obtain ⟨f0, hf0⟩ := get_of_lt (show m < fs.length by omega)
                    refine ⟨f0, hf0, ?_⟩
                    have h8 := HINC.out ((fs.map frm).take (m + 1)) ((fs.map frm).drop (m + 2)) (frm f) (by rw [← hdri, List.take_append_drop])
                    rw [take_get (show (fs.map frm)[m]? = some (frm f0) by simp [hf0]), lastR_snoc] at h8
                    exact h8
                  have HEN := Lib.hid hen; have HSUB := Lib.hid hsub; have HE256 := Lib.hid hE256; have HST2 := Lib.hid hst2; have HTL2 := Lib.hid htl2; have HF := Lib.hid hf; have HCODE := Lib.hid hcode
                  have HFI := Lib.hid (HRI.out.rows f hmem)
                  have j1 : (i : Int) < fs.length := by omega
                  have j2 : (0 : Int) ≤ i := by omega
                  have j3 : ((i : Int) == fs.length) = false := by rw [beq_eq_false_iff_ne]; omega
                  have j4 : ¬ (i : Int) = fs.length := by omega
                  have hzr := hb.size
                  clear hen hsub hE256 hst2 htl2 hf hcode hfe hcs hrv hmem hdri htc hhd
                  generalize encF (frm f) = E at *
                  go_wp2_with fail
                  go_region_held3 (fun w' => w'.cell? ⟨w.heap.size, 0, none⟩ = some (.slice ao bs.length cap) ∧ w'.cell? ⟨fb, fo + i * 2, none⟩ = some (.int .i64 f.st) ∧ w'.cell? ⟨fb, fo + i * 2 + 1, none⟩ = some (.slice f.a f.xss.length f.c))
                    (first | exact ⟨r0, c0, c1⟩ | exact ⟨cell_keep r0 hbz (Nat.le_refl _), cell_keep c0 hbz (Nat.le_refl _), cell_keep c1 hbz (Nat.le_refl _)⟩ | go_keep)
                    (first | (go_at_call 30; refine HEN.out.mono ?_; rintro e w5 ⟨⟨v5, rfl, ho5⟩, hb5⟩; have hbz : Below wr.heap.size wr w5 := ((Below.refl wr.heap.size wr).drew).trans hb5; clear hb5; have HO5 := Lib.hid ho5; clear ho5))
                  all_goals
                    obtain ⟨ga, gc, rfl, -, -, -⟩ := own_cap HO5.out
                    have hbz4 := hb.trans (hbz.mono hzr)
                    have hcv2 := fun (n : Nat) => conv_own (w := w5.drewN n) E (own_drewN HO5.out n) HE256.out
                    have hcv1 := fun (n : Nat) => conv_cells (w := w5.drewN n) E (ec - fr) (HSUB.out.below (bel_drewN hbz4 n) (Nat.le_refl _)) HE256.out
                    generalize bstr E = sE at hcv1 hcv2
                    have s1 := cell_keep c0 hbz (Nat.le_refl _)
                    have p1 : IntKind.i64.wrap ((fr : Int) + E.length) = (fr : Int) + E.length := IntWalk.i64_in _ (by omega)
                    have p2 : decide ((P.length : Int) < (fr : Int) + E.length) = false := by rw [decide_eq_false_iff_not]; have := HPL.out; omega
                    have p10 : (sE.toList == sE.toList) = true := by simp
                    have p3 : (fr : Int) ≤ (fr : Int) + E.length := by omega
                    have p4 : (fr : Int) + E.length ≤ ec := by have := HPL.out; have := HBY4.out.lecap; omega
                    have p5 : (0 : Int) ≤ fr := by omega
                    have p6 : ((fr : Int) + E.length).toNat = fr + E.length := by omega
                    have p7 : fr + E.length - fr = E.length := by omega
                    have p8 : ¬ ec = fr := by have := HPL.out; have := HBY4.out.lecap; omega
                    have p9 : ¬ ec - fr = 0 := by have := HPL.out; have := HBY4.out.lecap; omega
                    clear c0 c1 r0
                    rcases Nat.eq_zero_or_pos i with hi0 | hi0
                    · have hii : decide ((0 : Int) < (i : Int)) = false := by rw [decide_eq_false_iff_not]; omega
                      have hii2 : decide (0 < i) = false := by rw [decide_eq_false_iff_not]; omega
                      clear hi0
                      go_wp2_with fail
                      go_quiet (fail)
                      go_wp2_with fail
                      clear hcv1 hcv2 p1 p2 p3 p4 p5 p6 p7 p8 p9 s1
                      go_roundw
                      case rel => exact ⟨fr + E.length, k, i + 1, by go_num, by go_num, by go_num, by omega, by omega, HTL2.out, bel_drewN hbz4 _⟩
                      case measure => simp [intOf]; omega
                    · obtain ⟨m, hm⟩ : ∃ m, i = m + 1 := ⟨i - 1, by omega⟩
                      obtain ⟨f0, hf0, hlt0⟩ := HST2.out m hm
                      have y0 := cell_keep (HRI.out.cells.at (frs_get hf0).1) hbz4 (Nat.le_refl _)
                      have hii : decide ((0 : Int) < (i : Int)) = true := by rw [decide_eq_true_iff]; omega
                      have hii2 : decide (0 < i) = true := by rw [decide_eq_true_iff]; omega
                      have q1 : IntKind.i64.wrap ((i : Int) - 1) = (i : Int) - 1 := IntWalk.i64_in _ (by omega)
                      have q2 : ((i : Int) - 1).toNat = m := by omega
                      have q3 : (0 : Int) ≤ (i : Int) - 1 := by omega
                      have q4 : (i : Int) - 1 < fs.length := by omega
                      have q5 : decide (f.st ≤ f0.st) = false := by rw [decide_eq_false_iff_not]; omega
                      clear hi0 hm hf0 hlt0
                      go_wp2_with fail
                      go_quiet (fail)
                      go_wp2_with fail
                      clear hcv1 hcv2 p1 p2 p3 p4 p5 p6 p7 p8 p9 s1 y0 q1 q2 q3 q4 q5 hii hii2
                      go_roundw
                      case rel => exact ⟨fr + E.length, k, i + 1, by go_num, by go_num, by go_num, by omega, by omega, HTL2.out, bel_drewN hbz4 _⟩
                      case measure => simp [intOf]; omega
              · have k1 : ¬ (k : Int) < lost.length := by omega
                have k4 : ¬ k < lost.length := by omega
                by_cases hend : i = fs.length
                · have hdr0 : (fs.map frm).drop i = [] := List.drop_eq_nil_of_le (by simp; omega)
                  rw [hdr0] at htc
                  obtain ⟨hke, hFe⟩ := htc
                  have hk2 : k = lost.length := by
                    have := congrArg List.length hke
                    rw [List.length_drop, List.length_nil] at this; omega
                  have hkb : (((k : Int)) == (lost.length : Int)) = true := by rw [beq_iff_eq]; omega
                  have hFb : (((fr : Nat) : Int) == (P.length : Int)) = true := by rw [beq_iff_eq]; have := HPL.out; omega
                  have hie : (i : Int) = fs.length := by omega
                  clear hdr0 hke hFe hk2 hhd
                  go_wp2_with fail
                  refine (works_any _).mono ?_
                  rintro e w9 ⟨rfl, hb9⟩
                  have hfin := HBE4.out.trans ((hb.trans (hb9.mono hb.size)).mono HBE4.out.size)
                  go_wp2
                  go_ret
                  exact ⟨rfl, hfin⟩
                · obtain ⟨f, hf⟩ := get_of_lt (show i < fs.length by omega)
                  have hmem := List.mem_of_getElem? hf
                  have hdri : (fs.map frm).drop i = frm f :: (fs.map frm).drop (i + 1) := by
                    have hli : i < (fs.map frm).length := by simp; omega
                    rw [List.drop_eq_getElem_cons hli]
                    congr 1
                    have := (List.getElem?_eq_some_iff.1 (show (fs.map frm)[i]? = some (frm f) by simp [hf])).2
                    exact this
                  rw [hdri] at htc
                  obtain ⟨hcode, hcl, htl2⟩ := htc.next
                  have hfe : frmErr bs f.st f.xss = 0 := by
                    have h9 := HFOK.out (frm f) (List.mem_map.2 ⟨f, hmem, rfl⟩)
                    simp only [frm] at h9
                    simp [frmErr, HBK.out, h9]
                  obtain ⟨hfl, vs, hcs, hrv⟩ := HRI.out.rows f hmem
                  obtain ⟨fb, fo, hfa⟩ := HRI.out.cells.addr (frs_ne (by omega))
                  have c0 := cell_keep (show w4.cell? ⟨fb, fo + i * 2, none⟩ = some (.int .i64 f.st) from by have h8 := HRI.out.cells; rw [hfa] at h8; exact h8.at (frs_get hf).1) hb (Nat.le_refl _)
                  have c1 := cell_keep (show w4.cell? ⟨fb, fo + (i * 2 + 1), none⟩ = some (.slice f.a f.xss.length f.c) from by have h8 := HRI.out.cells; rw [hfa] at h8; exact h8.at (frs_get hf).2) hb (Nat.le_refl _)
                  rw [← Nat.add_assoc] at c1
                  subst hfa
                  have hbw := HBE4.out.trans (hb.mono HBE4.out.size)
                  have hen := Encode_any ao bs cap f.st f.a vs f.xss f.c wr.drew (HB.out.below hbw.drew (Nat.le_refl _)) (hcs.below hb.drew (Nat.le_refl _)) (hrv.below hb.drew (Nat.le_refl _)) hfl
                  rw [hfe, show encRes bs f.st f.xss = encF (frm f) from by rw [encRes, if_pos hfe]; rfl] at hen
                  have hE256 : ∀ d ∈ encF (frm f), d < 256 := encB_lt f.st f.xss
                  have hEp := encF_pos (frm f)
                  have hsub : Cells w4 (some ⟨g, fr, none⟩) (bys (encF (frm f))) := by
                    refine .inr ⟨g, fr, rfl, fun j u hu => ?_⟩
                    have h8 := HBY4.out.cells.at (j := fr + j) (u := u) (by
                      rw [← hu, ← hcode, bys, bys, List.map_take, List.map_drop, List.getElem?_take, if_pos (by have := (List.getElem?_eq_some_iff.1 hu).1; rw [bys_length] at this; exact this), List.getElem?_drop])
                    rw [Nat.zero_add] at h8; exact h8
                  have hst2 : ∀ m, i = m + 1 → ∃ f0, fs[m]? = some f0 ∧ f0.st < f.st := by
                    intro m hm
                    subst hm
                    obtain ⟨f0, hf0⟩ := get_of_lt (show m < fs.length by omega)
                    refine ⟨f0, hf0, ?_⟩
                    have h8 := HINC.out ((fs.map frm).take (m + 1)) ((fs.map frm).drop (m + 2)) (frm f) (by rw [← hdri, List.take_append_drop])
                    rw [take_get (show (fs.map frm)[m]? = some (frm f0) by simp [hf0]), lastR_snoc] at h8
                    exact h8
                  have HEN := Lib.hid hen; have HSUB := Lib.hid hsub; have HE256 := Lib.hid hE256; have HST2 := Lib.hid hst2; have HTL2 := Lib.hid htl2; have HF := Lib.hid hf; have HCODE := Lib.hid hcode
                  have HFI := Lib.hid (HRI.out.rows f hmem)
                  have j1 : (i : Int) < fs.length := by omega
                  have j2 : (0 : Int) ≤ i := by omega
                  have j3 : ((i : Int) == fs.length) = false := by rw [beq_eq_false_iff_ne]; omega
                  have j4 : ¬ (i : Int) = fs.length := by omega
                  have hzr := hb.size
                  clear hen hsub hE256 hst2 htl2 hf hcode hfe hcs hrv hmem hdri htc hhd
                  generalize encF (frm f) = E at *
                  go_wp2_with fail
                  go_region_held3 (fun w' => w'.cell? ⟨w.heap.size, 0, none⟩ = some (.slice ao bs.length cap) ∧ w'.cell? ⟨fb, fo + i * 2, none⟩ = some (.int .i64 f.st) ∧ w'.cell? ⟨fb, fo + i * 2 + 1, none⟩ = some (.slice f.a f.xss.length f.c))
                    (first | exact ⟨r0, c0, c1⟩ | exact ⟨cell_keep r0 hbz (Nat.le_refl _), cell_keep c0 hbz (Nat.le_refl _), cell_keep c1 hbz (Nat.le_refl _)⟩ | go_keep)
                    (first | (go_at_call 30; refine HEN.out.mono ?_; rintro e w5 ⟨⟨v5, rfl, ho5⟩, hb5⟩; have hbz : Below wr.heap.size wr w5 := ((Below.refl wr.heap.size wr).drew).trans hb5; clear hb5; have HO5 := Lib.hid ho5; clear ho5))
                  all_goals
                    obtain ⟨ga, gc, rfl, -, -, -⟩ := own_cap HO5.out
                    have hbz4 := hb.trans (hbz.mono hzr)
                    have hcv2 := fun (n : Nat) => conv_own (w := w5.drewN n) E (own_drewN HO5.out n) HE256.out
                    have hcv1 := fun (n : Nat) => conv_cells (w := w5.drewN n) E (ec - fr) (HSUB.out.below (bel_drewN hbz4 n) (Nat.le_refl _)) HE256.out
                    generalize bstr E = sE at hcv1 hcv2
                    have s1 := cell_keep c0 hbz (Nat.le_refl _)
                    have p1 : IntKind.i64.wrap ((fr : Int) + E.length) = (fr : Int) + E.length := IntWalk.i64_in _ (by omega)
                    have p2 : decide ((P.length : Int) < (fr : Int) + E.length) = false := by rw [decide_eq_false_iff_not]; have := HPL.out; omega
                    have p10 : (sE.toList == sE.toList) = true := by simp
                    have p3 : (fr : Int) ≤ (fr : Int) + E.length := by omega
                    have p4 : (fr : Int) + E.length ≤ ec := by have := HPL.out; have := HBY4.out.lecap; omega
                    have p5 : (0 : Int) ≤ fr := by omega
                    have p6 : ((fr : Int) + E.length).toNat = fr + E.length := by omega
                    have p7 : fr + E.length - fr = E.length := by omega
                    have p8 : ¬ ec = fr := by have := HPL.out; have := HBY4.out.lecap; omega
                    have p9 : ¬ ec - fr = 0 := by have := HPL.out; have := HBY4.out.lecap; omega
                    clear c0 c1 r0
                    rcases Nat.eq_zero_or_pos i with hi0 | hi0
                    · have hii : decide ((0 : Int) < (i : Int)) = false := by rw [decide_eq_false_iff_not]; omega
                      have hii2 : decide (0 < i) = false := by rw [decide_eq_false_iff_not]; omega
                      clear hi0
                      go_wp2_with fail
                      go_quiet (fail)
                      go_wp2_with fail
                      clear hcv1 hcv2 p1 p2 p3 p4 p5 p6 p7 p8 p9 s1
                      go_roundw
                      case rel => exact ⟨fr + E.length, k, i + 1, by go_num, by go_num, by go_num, by omega, by omega, HTL2.out, bel_drewN hbz4 _⟩
                      case measure => simp [intOf]; omega
                    · obtain ⟨m, hm⟩ : ∃ m, i = m + 1 := ⟨i - 1, by omega⟩
                      obtain ⟨f0, hf0, hlt0⟩ := HST2.out m hm
                      have y0 := cell_keep (HRI.out.cells.at (frs_get hf0).1) hbz4 (Nat.le_refl _)
                      have hii : decide ((0 : Int) < (i : Int)) = true := by rw [decide_eq_true_iff]; omega
                      have hii2 : decide (0 < i) = true := by rw [decide_eq_true_iff]; omega
                      have q1 : IntKind.i64.wrap ((i : Int) - 1) = (i : Int) - 1 := IntWalk.i64_in _ (by omega)
                      have q2 : ((i : Int) - 1).toNat = m := by omega
                      have q3 : (0 : Int) ≤ (i : Int) - 1 := by omega
                      have q4 : (i : Int) - 1 < fs.length := by omega
                      have q5 : decide (f.st ≤ f0.st) = false := by rw [decide_eq_false_iff_not]; omega
                      clear hi0 hm hf0 hlt0
                      go_wp2_with fail
                      go_quiet (fail)
                      go_wp2_with fail
                      clear hcv1 hcv2 p1 p2 p3 p4 p5 p6 p7 p8 p9 s1 y0 q1 q2 q3 q4 q5 hii hii2
                      go_roundw
                      case rel => exact ⟨fr + E.length, k, i + 1, by go_num, by go_num, by go_num, by omega, by omega, HTL2.out, bel_drewN hbz4 _⟩
                      case measure => simp [intOf]; omega
      · exact absurd HQ.out hl1
  · have hp : packRes bs l = [] := by rw [packRes, if_neg h1]
    obtain ⟨ea, ec, rfl, -, -, -⟩ := own_cap ho1
    have h3 : (recErr bs l != 0) = true := by simpa using h1
    have h4 : (recErr bs l == 0) = false := by simpa using h1
    rw [hp]
    clear hp ho1
    go_wp2_with fail
    refine (works_any _).mono ?_
    rintro e w6 ⟨rfl, hb6⟩
    have hfin := n1.trans (hb6.mono hz1)
    go_wp2
    go_ret
    exact ⟨rfl, hfin⟩
end Go.Proofs.YtoochleabcjljaaGreatDoor
