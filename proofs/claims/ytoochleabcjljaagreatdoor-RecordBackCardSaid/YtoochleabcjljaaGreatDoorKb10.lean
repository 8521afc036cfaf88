/- RecordBack holds: for every input the law answers true and leaves its arguments as they were. Conditions: those of the given row (the listed tables hold what the program's text lays in them). -/
import Derived.Test.YtoochleabcjljaaGreatDoorKb9
import Derived.ProofKit
import Derived.OpenShut
import Derived.ReadAgain
import Derived.Deep.Slices
import Derived.Deep.SlicePairs
import Derived.Lib.SmallJoins
import Derived.Below
import Derived.ChangeSame
import Derived.Deep.Strs
import Derived.Test.YtoochleabcjljaaGreatDoorCards
import Derived.Test.YtoochleabcjljaaGreatDoorTie
import Derived.WalkKit
import Derived.Deep.DeepHandedRow
import Derived.Lib.LaidTab
import Derived.LaidMore
import Derived.Stop.Joined

/- RecordBack: the walk. -/
namespace Go.Proofs.YtoochleabcjljaaGreatDoor
open Go.RowKit

theorem packRes_flat {bs : List Chan} {l : List Frm} (h : recErr bs l = 0) : packRes bs l = (l.map frm).flatMap encF := by
  rw [packRes, if_pos h, List.flatMap_map]; rfl
theorem rec_frm {bs : List Chan} {l : List Frm} (h : recErr bs l = 0) {f : Frm} (hf : f ∈ l) : frmErr bs f.st f.xss = 0 := by
  obtain ⟨h1, -, h3, -⟩ := recErr_zero h
  simp [frmErr, h1, h3 f hf]
theorem pack_len {bs : List Chan} {l : List Frm} (h : recErr bs l = 0) : (packRes bs l).length ≤ 435200 := by
  have h64 := (recErr_zero h).2.1
  have key : ∀ m : List Frm, (∀ f ∈ m, f ∈ l) → (m.flatMap fun f => encB f.st f.xss).length ≤ 6800 * m.length := by
    intro m
    induction m with
    | nil => intro _; simp
    | cons f m ih =>
      intro hm
      have hz := frmErr_zero (rec_frm h (hm f (by simp)))
      have h2 := encB_length f.st f.xss (by omega) hz.2.2.2.2.2.1
      have h3 := ih (fun g hg => hm g (by simp [hg]))
      simp only [List.flatMap_cons, List.length_append, List.length_cons]
      omega
  have := key l (fun f hf => hf)
  rw [packRes, if_pos h]; omega
theorem dec_enc {bs : List Chan} {f : Frm} (h : frmErr bs f.st f.xss = 0) : decR bs (encB f.st f.xss) = some (f.st, f.xss) ∧ decErr bs (encB f.st f.xss) = 0 := by
  have hz := frmErr_zero h
  have hb : bookErr bs = 0 := by simp [bookErr, hz.1]
  have hf : frOK bs f.st f.xss = true := by
    unfold frmErr at h
    rw [if_neg (by simpa using hb)] at h
    split at h
    · assumption
    · contradiction
  have h1 := firstR_enc hz.1 hf []
  rw [List.append_nil] at h1
  have h2 : decR bs (encB f.st f.xss) = some (f.st, f.xss) := by rw [decR, if_pos hb, h1]; simp
  exact ⟨h2, by rw [decErr, if_neg (by simpa using hb), h2]; rfl⟩

set_option maxRecDepth 100000 in
set_option maxHeartbeats 4000000 in
theorem back_any (ao : Option Addr) (bs : List Chan) (cap : Nat) (al : Option Addr) (l : List Frm) (cl : Nat) (w : World) (hb : BookIn w ao bs cap) (hr : RecIn w al l) :
    Calls Tryz.prog 8 #[.agg #[.slice ao bs.length cap, .slice al l.length cl]] w fun e w' => e = .returned (.bool true) ∧ Below w.heap.size w w' := by
  have HB := Lib.hid hb; have HR := Lib.hid hr
  have hlen := hb.len
  have hll := hr.len
  clear hb hr
  have hb0 := (Below.refl w.heap.size w).alloc (Nat.le_refl _) (.cells #[.slice ao bs.length cap, .slice al l.length cl] 40)
  go_enter Tryz.func8, Tryz.ntmps8
  go_wp2_with fail
  refine (pack_any ao bs cap al l cl _ (HB.out.below hb0 (Nat.le_refl _)) (HR.out.below hb0 (Nat.le_refl _))).mono ?_
  rintro e w1 ⟨⟨v1, rfl, ho1⟩, hb1⟩
  have hbx := Blk.below (Blk.new w 40 #[.slice ao bs.length cap, .slice al l.length cl]) hb1 (by simp)
  have n1 := hb0.trans (hb1.mono (by simp))
  have hz1 := n1.size
  clear hb0 hb1
  obtain ⟨ea, ec, rfl, hce, hcn, hcm⟩ := own_cap ho1
  have hmx : maxLen = 9223372036854775807 := rfl
  rw [hmx] at hcm
  clear ho1 hmx
  by_cases h1 : recErr bs l = 0
  · have hpl := pack_len h1
    have hpf := packRes_flat h1
    have hbook := (recErr_zero h1).1
    have hl64 := (recErr_zero h1).2.1
    obtain ⟨hu, hs1, hs2⟩ := pack_back h1 (packRes bs l).length (by
      have h5 : ∀ m : List Fr, m.length ≤ (m.flatMap encF).length := by
        intro m
        induction m with
        | nil => simp
        | cons f m ih => have := encF_pos f; simp only [List.flatMap_cons, List.length_append, List.length_cons]; omega
      have := h5 (l.map frm)
      rw [List.length_map] at this
      rw [hpf]; exact this)
    rw [← hpf] at hu hs1 hs2
    have hby : ByIn w1 ea (packRes bs l) ec := ⟨hce, packRes_lt bs l, by omega, hcn, hcm⟩
    have hus : unpS bs (packRes bs l) = some (l.map frm) := by rw [unpS, if_pos hbook, hu]
    have hue : unpErr bs (packRes bs l) = 0 := by rw [unpErr, if_neg (by simpa using hbook), hus]; rfl
    have hse : salErr bs (packRes bs l) = 0 := by unfold salErr; rw [if_neg (by simpa using hbook), if_neg (by omega)]
    have HBY := Lib.hid hby
    have HUN := Lib.hid (unpack_any ao bs cap ea (packRes bs l) ec w1 (HB.out.below n1 (Nat.le_refl _)) hby)
    rw [hus, hue] at HUN
    have HSA := Lib.hid (fun (wx : World) (h : Below w1.heap.size w1 wx) => salvage_any ao bs cap ea (packRes bs l) ec wx ((HB.out.below n1 (Nat.le_refl _)).below h (Nat.le_refl _)) (hby.below h (Nat.le_refl _)))
    have HSE := Lib.hid hse; have HS1 := Lib.hid hs1; have HS2 := Lib.hid hs2; have H1 := Lib.hid h1
    have q0 := hbx.c0
    have q1 := hbx.c1
    have HBX := Lib.hid hbx
    have hbxl := hbx.lt
    clear hbx hby hus hue hse hu hs1 hs2 hpf hce hbook
    rw [h1]
    clear h1
    generalize packRes bs l = P at *
    go_wp2_with fail
    refine HUN.out.mono ?_
    rintro e w2 ⟨⟨v2, fs2, hfm2, rfl, hfs2⟩, hb2⟩
    obtain ⟨a2, c2, rfl, hri2⟩ := hfs2.recIn
    have hbx2 := HBX.out.below hb2 hbxl
    have q0 := hbx2.c0
    have q1 := hbx2.c1
    have HRI2 := Lib.hid hri2; have HFM2 := Lib.hid hfm2; have HB2 := Lib.hid hb2
    clear hbx2 hri2 hfm2 hfs2 HUN
    go_wp2_with fail
    refine (HSA.out w2 HB2.out).mono ?_
    rintro e w3 ⟨hres, hb3⟩
    unfold SalRes at hres
    rw [if_pos HSE.out] at hres
    obtain ⟨v3, vl, fs3, rfl, hfm3, hfs3, hol⟩ := hres
    rw [HS1.out] at hfm3
    rw [HS2.out] at hol
    obtain ⟨a3, c3, rfl, hri3⟩ := hfs3.recIn
    obtain ⟨la, lc, rfl, -⟩ := own_cells hol
    have hb13 := HB2.out.trans (hb3.mono HB2.out.size)
    have hbx3 := HBX.out.below hb13 hbxl
    have q0 := hbx3.c0
    have q1 := hbx3.c1
    have HRI3 := Lib.hid hri3; have HFM3 := Lib.hid hfm3; have HB3 := Lib.hid hb3; have HB13 := Lib.hid hb13
    clear hbx3 hri3 hfm3 hfs3 hol hb3 hb13 HSA
    have n3 := n1.trans (HB13.out.mono hz1)
    have hz3 := n3.size
    go_wp2_with fail
    refine (sameFrames_any a2 al fs2 l c2 cl w3 (HRI2.out.below HB3.out (Nat.le_refl _)) (HR.out.below n3 (Nat.le_refl _))).mono ?_
    rintro e w4 ⟨rfl, hb4⟩
    have hd2 : decide (fs2.map frm = l.map frm) = true := by rw [decide_eq_true_iff]; exact HFM2.out
    rw [hd2]
    have hb14 := HB13.out.trans (hb4.mono HB13.out.size)
    have hbx4 := HBX.out.below hb14 hbxl
    have q0 := hbx4.c0
    have q1 := hbx4.c1
    have HB4 := Lib.hid hb4; have HB14 := Lib.hid hb14
    have n4 := n1.trans (hb14.mono hz1)
    have hz4 := n4.size
    clear hd2 hbx4 hb4 hb14
    go_wp2_with fail
    refine (sameFrames_any a3 al fs3 l c3 cl w4 (HRI3.out.below HB4.out (Nat.le_refl _)) (HR.out.below n4 (Nat.le_refl _))).mono ?_
    rintro e w5 ⟨rfl, hb5⟩
    have hd3 : decide (fs3.map frm = l.map frm) = true := by rw [decide_eq_true_iff]; exact HFM3.out
    rw [hd3]
    have hb15 := HB14.out.trans (hb5.mono HB14.out.size)
    have n5 := n1.trans (hb15.mono hz1)
    have HB15 := Lib.hid hb15
    clear hd3 hb5 hb15 HRI2 HRI3 HFM2 HFM3 HB3 HB13 HB4 HB14 HS1 HS2 HBY n3 n4 q0 q1
    have hbx5 := HBX.out.below HB15.out hbxl
    have q0 := hbx5.c0
    have q1 := hbx5.c1
    have N5 := Lib.hid n5
    clear hbx5
    have HBX5 := Lib.hid (HBX.out.below HB15.out hbxl)
    clear q0 q1 HBX HB15 n5
    go_wp2_with fail
    go_loopw [9] (fun i wr => ∃ k : Nat, k ≤ l.length ∧ i = .int .i64 k ∧ Blk wr w.heap.size 40 #[.slice ao bs.length cap, .slice al l.length cl] ∧ Below w.heap.size w wr) (fun i _ => l.length - (intOf i).toNat)
    case atStart => exact ⟨0, Nat.zero_le _, rfl, HBX5.out, N5.out⟩
    case round =>
      clear HBX5 N5
      obtain ⟨k, hk, rfl, hbx, hbe⟩ := hrel
      have q0 := hbx.c0
      have q1 := hbx.c1
      have hbl := hbx.lt
      have hz := hbe.size
      by_cases hlt : k < l.length
      · obtain ⟨f, hf⟩ := get_of_lt hlt
        have hmem := List.mem_of_getElem? hf
        obtain ⟨hfl, vs, hcs, hrv⟩ := HR.out.rows f hmem
        obtain ⟨b, off, rfl⟩ := HR.out.cells.addr (frs_ne (by omega))
        have c0 := cell_keep (HR.out.cells.at (frs_get hf).1) hbe (Nat.le_refl _)
        have c1 := cell_keep (HR.out.cells.at (frs_get hf).2) hbe (Nat.le_refl _)
        rw [← Nat.add_assoc] at c1
        have hfe := rec_frm H1.out hmem
        obtain ⟨hdr, hde⟩ := dec_enc hfe
        have hen := Encode_any ao bs cap f.st f.a vs f.xss f.c wr.drew (HB.out.below hbe.drew (Nat.le_refl _)) (hcs.below hbe.drew (Nat.le_refl _)) (hrv.below hbe.drew (Nat.le_refl _)) hfl
        rw [hfe, show encRes bs f.st f.xss = encB f.st f.xss from by rw [encRes, if_pos hfe]] at hen
        have hel : (encB f.st f.xss).length ≤ 6800 := by
          have hz := frmErr_zero hfe
          exact encB_length f.st f.xss (by omega) hz.2.2.2.2.2.1
        have HEN := Lib.hid hen; have HDR := Lib.hid hdr; have HDE := Lib.hid hde; have HBX := Lib.hid hbx; have HBE := Lib.hid hbe
        have HFI := Lib.hid (HR.out.rows f hmem)
        have i1 : (k : Int) < l.length := by omega
        have i3 : (0 : Int) ≤ k := by omega
        clear hen hdr hde hfe hcs hrv hf hmem hbx hbe
        go_wp2_with fail
        go_region_held3 (fun w' => w'.cell? ⟨w.heap.size, 0, none⟩ = some (.slice ao bs.length cap) ∧ w'.cell? ⟨w.heap.size, 1, none⟩ = some (.slice (some ⟨b, off, none⟩) l.length cl) ∧ w'.cell? ⟨b, off + k * 2, none⟩ = some (.int .i64 f.st) ∧ w'.cell? ⟨b, off + k * 2 + 1, none⟩ = some (.slice f.a f.xss.length f.c))
          (first | exact ⟨q0, q1, c0, c1⟩ | exact ⟨cell_keep q0 hbz (Nat.le_refl _), cell_keep q1 hbz (Nat.le_refl _), cell_keep c0 hbz (Nat.le_refl _), cell_keep c1 hbz (Nat.le_refl _)⟩ | go_keep)
          (first | (go_at_call 30; refine HEN.out.mono ?_; rintro e w2 ⟨⟨v2, rfl, ho2⟩, hb2⟩; have hbz : Below wr.heap.size wr w2 := ((Below.refl wr.heap.size wr).drew).trans hb2; clear hb2; have HO2 := Lib.hid ho2; clear ho2))
        obtain ⟨ga, gc, rfl, hgc, hgn, hgm⟩ := own_cap HO2.out
        have hmx : maxLen = 9223372036854775807 := rfl
        rw [hmx] at hgm
        have hbe2 := HBE.out.trans (hbz.mono hz)
        have hz2 := hbz.size
        have hby : ByIn w2 ga (encB f.st f.xss) gc := ⟨hgc, encB_lt f.st f.xss, by omega, hgn, hgm⟩
        have hde := decode_any ao bs cap ga (encB f.st f.xss) gc w2 (HB.out.below hbe2 (Nat.le_refl _)) hby
        rw [HDR.out, HDE.out] at hde
        have q0 := (HBX.out.below hbz hbl).c0
        have q1 := (HBX.out.below hbz hbl).c1
        have HDD := Lib.hid hde; have HBZ := Lib.hid hbz; have HBE2 := Lib.hid hbe2
        clear hde hby hgc hbz hbe2 hmx HO2
        generalize encB f.st f.xss = E at *
        go_wp2_with fail
        refine HDD.out.mono ?_
        rintro e w3 ⟨⟨vd, rfl, hfo⟩, hb3⟩
        obtain ⟨da, dc, dvs, rfl, hdc, hdr, hdl⟩ := hfo.cells
        have hb13 := HBZ.out.trans (hb3.mono hz2)
        have hba := hb13.alloc hb13.size (.cells #[.int .i64 f.st, .slice da f.xss.length dc] 43)
        have hba3 := (Below.refl w3.heap.size w3).alloc (Nat.le_refl _) (.cells #[.int .i64 f.st, .slice da f.xss.length dc] 43)
        have hxb := Blk.new w3 43 #[.int .i64 f.st, .slice da f.xss.length dc]
        have z0 := hxb.c0
        have z1 := hxb.c1
        have r0 := (HBX.out.below hba hbl).c0
        have r1 := (HBX.out.below hba hbl).c1
        have s0 := cell_keep c0 hba (Nat.le_refl _)
        have s1 := cell_keep c1 hba (Nat.le_refl _)
        have hbf := HBE.out.trans (hba.mono hz)
        have HSF := Lib.hid (sameFrame_any ⟨f.st, da, dc, f.xss⟩ f (w3.alloc (.cells #[.int .i64 f.st, .slice da f.xss.length dc] 43)).drew ⟨hdl, dvs, hdc.below hba3.drew (Nat.le_refl _), hdr.below hba3.drew (Nat.le_refl _)⟩ (HFI.out.below hbf.drew (Nat.le_refl _)))
        have hdec : decide (frm ⟨f.st, da, dc, f.xss⟩ = frm f) = true := by rw [decide_eq_true_iff]; rfl
        rw [hdec] at HSF
        have hz4 := hbf.size
        have HBF := Lib.hid hbf; have HBA := Lib.hid hba
        clear hdec hdc hdr hdl hfo hb3 hb13 hba3 hxb c0 c1 q0 q1 hbf hba
        go_wp2_with fail
        go_region_held3 (fun w' => w'.cell? ⟨w.heap.size, 0, none⟩ = some (.slice ao bs.length cap) ∧ w'.cell? ⟨w.heap.size, 1, none⟩ = some (.slice (some ⟨b, off, none⟩) l.length cl) ∧ w'.cell? ⟨b, off + k * 2, none⟩ = some (.int .i64 f.st) ∧ w'.cell? ⟨b, off + k * 2 + 1, none⟩ = some (.slice f.a f.xss.length f.c) ∧ w'.cell? ⟨w3.heap.size, 0, none⟩ = some (.int .i64 f.st) ∧ w'.cell? ⟨w3.heap.size, 1, none⟩ = some (.slice da f.xss.length dc))
          (first | exact ⟨r0, r1, s0, s1, z0, z1⟩ | exact ⟨cell_keep r0 hby (Nat.le_refl _), cell_keep r1 hby (Nat.le_refl _), cell_keep s0 hby (Nat.le_refl _), cell_keep s1 hby (Nat.le_refl _), cell_keep z0 hby (Nat.le_refl _), cell_keep z1 hby (Nat.le_refl _)⟩ | go_keep)
          (first | (go_at_call 41; refine HSF.out.mono ?_; rintro e w4 ⟨rfl, hb4⟩; have hby : Below (w3.alloc (.cells #[.int .i64 f.st, .slice da f.xss.length dc] 43)).heap.size (w3.alloc (.cells #[.int .i64 f.st, .slice da f.xss.length dc] 43)) w4 := ((Below.refl _ (w3.alloc (.cells #[.int .i64 f.st, .slice da f.xss.length dc] 43))).drew).trans hb4; clear hb4))
        all_goals
          have hbx9 := (HBX.out.below HBA.out hbl).below hby (by have := HBA.out.size; omega)
          have hbe9 := HBF.out.trans (hby.mono hz4)
          have HBX9 := Lib.hid hbx9; have HBE9 := Lib.hid hbe9
          clear r0 r1 s0 s1 z0 z1 hby hbx9 hbe9
          go_wp2
          go_roundw
          case rel => exact ⟨k + 1, by omega, by go_num, HBX9.out, HBE9.out⟩
          case measure => simp [intOf]; omega
      · obtain rfl : k = l.length := by omega
        have HBE := Lib.hid hbe
        clear hbx hbe
        go_wp2_with fail
        refine (works_any _).mono ?_
        rintro e w6 ⟨rfl, hb6⟩
        have hfin := HBE.out.trans (hb6.mono hz)
        go_wp2
        go_ret
        exact ⟨rfl, hfin⟩
  · have hp : packRes bs l = [] := by rw [packRes, if_neg h1]
    rw [hp] at hce hcn
    have h3 : (recErr bs l != 0) = true := by simpa using h1
    have h4 : (recErr bs l == 0) = false := by simpa using h1
    rw [hp]
    clear hp
    go_wp2_with fail
    refine (works_any _).mono ?_
    rintro e w6 ⟨rfl, hb6⟩
    have hfin := n1.trans (hb6.mono hz1)
    go_wp2
    go_ret
    exact ⟨rfl, hfin⟩
end Go.Proofs.YtoochleabcjljaaGreatDoor

/- Arguments read as data, over this program: what their cells hold; and that they read the same behind a call that writes nothing old. -/
namespace Go.Proofs.YtoochleabcjljaaGreatDoor
open Go.RowKit Go.WideShapes Go.ChangeShapes Go.Deep Go.Joins

section
variable {H : Type} {enc : TypeId × Value → H} {P : Program}
theorem sameAt_below {W W' : World} (hb : Below W.heap.size W W') {p : MemPlace} (hp : p.block < W.heap.size) : W.sameAt W' p := by
  cases p with
  | cell b off => exact hb.cell (p := ⟨b, off, none⟩) hp
  | map b => exact hb.block b hp
theorem trodAll_carry {W W' : World} {base : Nat} {sp : Nat → Bool} {held : Bool} : ∀ {ts : List TypeId} {vs : List Value} {ds : List (DataW H)} {ps : List MemPlace}, DataW.TrodAll enc P W base sp held ts vs ds ps → (∀ p ∈ ps, W.sameAt W' p) → DataW.TrodAll enc P W' base sp held ts vs ds ps
  | [], [], [], _, h, _ => h
  | _ :: _, _ :: _, _ :: _, _, ⟨p, q, ⟨n, h1⟩, h2, e⟩, hs => ⟨p, q, ⟨n, DataW.trod_carry n _ _ _ h1 fun x hx => hs x (by rw [e]; exact List.mem_append_left _ hx)⟩, trodAll_carry h2 fun x hx => hs x (by rw [e]; exact List.mem_append_right _ hx), e⟩

/-- behind a call that leaves all old blocks alone and answers true, of a law whose data read again as they did -/
theorem law_post {f : Func} {s : ChangeSpec} {W W' : World} {args : Array Value} {ds : List (DataW H)} {before : List MemPlace} (K : Kids P (· < P.types.size))
    (full : ∀ t e, t < P.types.size → P.underlying t = some (.slice e) → 0 < P.cellsOf e) (hT : ∀ t ∈ f.params.toList, t < P.types.size) (hv : s.vars = [])
    (hW : DataW.Whole enc P f.params.toList s.vars false W args.toList ds [] before) (hA : DataW.TrodAll enc P W 0 (fun _ => true) true f.params.toList args.toList ds before)
    (hfn : s.fn H (ds ++ []) = { results := [.lit (.bool true)], args := ds }) (hr : f.resultTypes = #[4]) (hu : P.underlying 4 = some .bool) (hb : Below W.heap.size W W') :
    s.post enc P f false true false false W args (.bool true) W' := by
  have hlt : ∀ p ∈ before, p.block < W.heap.size := fun p hp => hW.lt p hp
  have hold : ∀ p ∈ before, (fun b => decide (b < W.heap.size)) p.block = true := fun p hp => by simpa using hlt p hp
  have hargs : ∀ sp : Nat → Bool, (∀ p ∈ before, sp p.block = true) → DataW.TrodAll enc P W' 0 sp true f.params.toList args.toList (s.fn H (ds ++ [])).args before := by
    intro sp hsp
    rw [hfn]
    exact trodAll_carry (DataW.TrodAll.respare K full hT hA hsp) fun p hp => sameAt_below hb (hlt p hp)
  have hres : ∀ (b : Nat) (sp : Nat → Bool) (hd : Bool), DataW.TrodAll enc P W' b sp hd f.resultTypes.toList ((Value.bool true).resultList f.resultTypes.size) (s.fn H (ds ++ [])).results [] := by
    intro b sp hd
    rw [hfn, hr]
    exact trodAll_cons_mk (shut_bool hu _) trodAll_mk0
  have hvars : ∀ sp : Nat → Bool, DataW.TrodVars enc P W' sp s.vars (s.fn H (ds ++ [])).vars [] := by
    intro sp
    rw [hfn, hv]
    rfl
  refine ⟨ds, [], before, [], before, [], hW, hres _ _ _, hargs _ hold, hvars _, World.keptBut_mono (fun p hp => ⟨hp, Or.inr (Or.inl hp)⟩) (hb.frame (· ∈ before)), fun _ => ?_⟩
  obtain ⟨_, _, _, _, _, hz, hn⟩ := hW
  refine ⟨?_, _, _, ([] ++ before) ++ [], ⟨[] ++ before, [], trodAll_append (hargs _ (fun _ _ => rfl)) (hres _ _ _), hvars _, rfl, ?_, ?_⟩, ?_⟩
  · exact ok_one hr rfl (okWide_bool_mk hu _)
  · intro b off hp
    have hin : MemPlace.cell b off ∈ before := by simpa using hp
    rw [hb.frozen (hlt _ hin)]
    exact hz b off hin
  · intro ha
    have := hn ha
    simpa using this
  · intro p hp _
    simpa using hp

/-- a slice of numbers, as read -/
theorem rd_ints {W : World} {base : Nat} {sp : Nat → Bool} {held : Bool} {t e : TypeId} {fuel : Nat} {cs : List Value} {x : DataW H × List MemPlace} (ht : P.underlying t = some (.slice e)) (he : P.underlying e = some (.int .i64)) (hc : P.cellsOf e = 1)
    (h : DataW.trod enc P W base sp held fuel t cs = some x) :
    ∃ (ao : Option Addr) (xs : List Int) (cap : Nat), cs = [.slice ao xs.length cap] ∧ Cells W ao (xs.map (Value.int .i64)) ∧ xs.length ≤ cap ∧ cap ≤ 9223372036854775807 ∧ ∀ x ∈ xs, (Lit.int .i64 x).wf = true := by
  rcases open_ints ht he hc h with ⟨rfl, _⟩ | ⟨a, len, cap, zs, rfl, _, hl, hm, hz, _, hcell, hwf⟩
  · exact ⟨none, [], 0, rfl, .inl rfl, Nat.le_refl _, by decide, by simp⟩
  · have hzl : len ≤ zs.length := by rw [hz]; split <;> omega
    have htl : (zs.take len).length = len := by simp; omega
    refine ⟨some a, zs.take len, cap, by rw [htl], ?_, by omega, by unfold maxLen at hm; omega, fun x hx => hwf x (List.mem_of_mem_take hx)⟩
    rcases Nat.eq_zero_or_pos len with h0 | h0
    · subst h0; exact .inl (by simp)
    · have hsp := World.cell?_spot (hcell 0 (by omega))
      simp only [Addr.add] at hsp
      obtain ⟨b, off, spot⟩ := a
      simp at hsp
      subst hsp
      refine .inr ⟨b, off, rfl, fun j u hu => ?_⟩
      rw [List.getElem?_map] at hu
      obtain ⟨y, hy, rfl⟩ := Option.map_eq_some_iff.1 hu
      have hj : j < len := by have := (List.getElem?_eq_some_iff.1 hy).1; omega
      have := hcell j (by omega)
      rw [Addr.add_lit] at this
      rw [this]
      have hg : zs.getD j 0 = y := by
        rw [List.getElem?_take] at hy
        rw [if_pos hj] at hy
        rw [List.getD_eq_getElem?_getD, hy]; rfl
      rw [hg]

/-- a slice of pairs of numbers, as read -/
theorem rd_pairs {W : World} {base : Nat} {sp : Nat → Bool} {held : Bool} {t e : TypeId} {f0 f1 : Field} {fuel : Nat} {cs : List Value} {x : DataW H × List MemPlace} (ht : P.underlying t = some (.slice e)) (he : P.underlying e = some (.struct #[f0, f1]))
    (ce : P.cellsOf e = 2) (o0 : f0.offset = 0) (o1 : f1.offset = 1) (c0 : P.cellsOf f0.type = 1) (c1 : P.cellsOf f1.type = 1) (k0 : P.underlying f0.type = some (.int .i64)) (k1 : P.underlying f1.type = some (.int .i64))
    (h : DataW.trod enc P W base sp held fuel t cs = some x) :
    ∃ (ao : Option Addr) (xs : List (Int × Int)) (cap : Nat), cs = [.slice ao xs.length cap] ∧ Cells W ao (prs xs) ∧ xs.length ≤ cap ∧ cap ≤ 9223372036854775807 ∧ ∀ t ∈ xs, (Lit.int .i64 t.1).wf = true ∧ (Lit.int .i64 t.2).wf = true := by
  rcases open_slice_pairs ht he ce o0 o1 c0 c1 h with ⟨rfl, _⟩ | ⟨a, len, cap, m, n, V0, V1, D0, D1, P0, P1, rfl, _, hl, hm, hmm, _, hcell⟩
  · exact ⟨none, [], 0, rfl, .inl rfl, Nat.le_refl _, by decide, by simp⟩
  · have hlm : len ≤ m := by rw [hmm]; split <;> omega
    have each : ∀ i, i < len → ∃ q : Int × Int, W.cell? (a.add (i * 2)) = some (.int .i64 q.1) ∧ W.cell? (a.add (i * 2 + 1)) = some (.int .i64 q.2) ∧ (Lit.int .i64 q.1).wf = true ∧ (Lit.int .i64 q.2).wf = true := by
      intro i hi
      obtain ⟨h1, h2, h3, h4⟩ := hcell i (by omega)
      obtain ⟨z0, e0, _, w0⟩ := DataW.trod_int k0 h3
      obtain ⟨z1, e1, _, w1⟩ := DataW.trod_int k1 h4
      simp only [List.cons.injEq, and_true] at e0 e1
      rw [e0] at h1; rw [e1] at h2
      exact ⟨(z0, z1), h1, h2, w0, w1⟩
    let F : Nat → Int × Int := fun i => if hi : i < len then (each i hi).choose else (0, 0)
    have hF : ∀ i, i < len → W.cell? (a.add (i * 2)) = some (.int .i64 (F i).1) ∧ W.cell? (a.add (i * 2 + 1)) = some (.int .i64 (F i).2) ∧ (Lit.int .i64 (F i).1).wf = true ∧ (Lit.int .i64 (F i).2).wf = true := by
      intro i hi
      have := (each i hi).choose_spec
      simp only [F, dif_pos hi]
      exact this
    have htl : ((List.range len).map F).length = len := by simp
    refine ⟨some a, (List.range len).map F, cap, by rw [htl], ?_, by omega, by unfold maxLen at hm; omega, ?_⟩
    · rcases Nat.eq_zero_or_pos len with h0 | h0
      · subst h0; exact .inl (by simp [prs])
      · have hsp := World.cell?_spot (hF 0 h0).1
        simp only [Addr.add] at hsp
        obtain ⟨b, off, spot⟩ := a
        simp at hsp
        subst hsp
        refine .inr ⟨b, off, rfl, fun j u hu => ?_⟩
        have hj : j < len * 2 := by
          have := (List.getElem?_eq_some_iff.1 hu).1
          rw [prs_length, htl] at this; exact this
        have hg : ((List.range len).map F)[j / 2]? = some (F (j / 2)) := by
          rw [List.getElem?_map, List.getElem?_range (by omega)]; rfl
        have h1 := prs_fst hg
        have h2 := prs_snd hg
        obtain ⟨g1, g2, _⟩ := hF (j / 2) (by omega)
        rw [Addr.add_lit] at g1 g2
        rcases Nat.mod_two_eq_zero_or_one j with hm | hm
        · have e : j / 2 * 2 = j := by omega
          rw [e] at h1 g1
          rw [h1] at hu; rw [g1]; exact hu
        · have e : j / 2 * 2 + 1 = j := by omega
          rw [e] at h2 g2
          rw [h2] at hu; rw [g2]; exact hu
    · intro t ht2
      obtain ⟨i, hi, rfl⟩ := List.mem_map.1 ht2
      have := hF i (List.mem_range.1 hi)
      exact ⟨this.2.2.1, this.2.2.2⟩
end
end Go.Proofs.YtoochleabcjljaaGreatDoor

/- Arguments read as data: channels, rows of numbers, frames. -/
namespace Go.Proofs.YtoochleabcjljaaGreatDoor
open Go.RowKit Go.WideShapes Go.ChangeShapes Go.Deep Go.Joins

theorem flatMap_at {α : Type} (f : α → List Value) (C : Nat) (hC : ∀ x, (f x).length = C) (l : List α) (j : Nat) (u : Value) (h : (l.flatMap f)[j]? = some u) : ∃ x, l[j / C]? = some x ∧ (f x)[j % C]? = some u := by
  induction l generalizing j with
  | nil => simp at h
  | cons a l ih =>
    rw [List.flatMap_cons] at h
    by_cases hj : j < C
    · rw [List.getElem?_append_left (by rw [hC]; exact hj)] at h
      exact ⟨a, by rw [Nat.div_eq_of_lt hj]; rfl, by rw [Nat.mod_eq_of_lt hj]; exact h⟩
    · rw [List.getElem?_append_right (by rw [hC]; omega), hC] at h
      obtain ⟨x, h1, h2⟩ := ih _ h
      rcases Nat.eq_zero_or_pos C with h0 | h0
      · have := hC x
        rw [h0] at this
        rw [List.length_eq_zero_iff.1 this] at h2
        simp at h2
      · have e1 : j / C = (j - C) / C + 1 := by rw [← Nat.sub_add_cancel (show C ≤ j by omega), Nat.add_div_right _ h0, Nat.add_sub_cancel]
        have e2 : j % C = (j - C) % C := (Nat.mod_eq_sub_mod (by omega))
        exact ⟨x, by rw [e1, List.getElem?_cons_succ]; exact h1, by rw [e2]; exact h2⟩

/-- elements of C cells each, one behind the other -/
theorem rd_list {α : Type} {W : World} (f : α → List Value) (C : Nat) (hC : ∀ x, (f x).length = C) (hC0 : 0 < C) (Q : α → Prop) (a : Addr) (len : Nat)
    (each : ∀ i, i < len → ∃ x, (∀ j u, (f x)[j]? = some u → W.cell? (a.add (i * C + j)) = some u) ∧ Q x) : ∃ xs : List α, xs.length = len ∧ Cells W (some a) (xs.flatMap f) ∧ ∀ x ∈ xs, Q x := by
  have key : ∃ xs : List α, xs.length = len ∧ ∀ i x, xs[i]? = some x → (∀ j u, (f x)[j]? = some u → W.cell? (a.add (i * C + j)) = some u) ∧ Q x := by
    induction len with
    | zero => exact ⟨[], rfl, by simp⟩
    | succ n ih =>
      obtain ⟨xs, h1, h2⟩ := ih fun i hi => each i (by omega)
      obtain ⟨y, hy⟩ := each n (by omega)
      refine ⟨xs ++ [y], by simp [h1], fun i x hx => ?_⟩
      rcases Nat.lt_or_ge i n with hi | hi
      · rw [List.getElem?_append_left (by omega)] at hx
        exact h2 i x hx
      · by_cases hin : i = n
        · subst hin
          rw [List.getElem?_append_right (by omega), h1, Nat.sub_self] at hx
          simp at hx
          subst hx
          exact hy
        · rw [List.getElem?_eq_none (by simp; omega)] at hx
          simp at hx
  obtain ⟨xs, h1, h2⟩ := key
  refine ⟨xs, h1, ?_, fun x hx => ?_⟩
  · rcases xs with _ | ⟨x0, r⟩
    · exact .inl rfl
    · have h3 := (h2 0 x0 rfl).1 0 ((f x0)[0]'(by rw [hC]; exact hC0)) (by simp [hC, hC0])
      rw [Nat.zero_mul, Nat.zero_add] at h3
      have hsp := World.cell?_spot h3
      simp only [Addr.add] at hsp
      obtain ⟨b, off, spot⟩ := a
      simp at hsp
      subst hsp
      refine .inr ⟨b, off, rfl, fun j u hu => ?_⟩
      obtain ⟨x, g1, g2⟩ := flatMap_at f C hC _ _ _ hu
      have := (h2 _ x g1).1 _ u g2
      rw [Addr.add_lit, Nat.mul_comm, Nat.div_add_mod] at this
      exact this
  · obtain ⟨i, hi, rfl⟩ := List.mem_iff_getElem.1 hx
    exact (h2 i _ (List.getElem?_eq_getElem hi)).2

section
variable {H : Type} {enc : TypeId × Value → H}
theorem wf_bd {x : Int} (h : (Lit.int .i64 x).wf = true) : -9223372036854775808 ≤ x ∧ x ≤ 9223372036854775807 := by
  simp only [Lit.wf, Bool.and_eq_true, decide_eq_true_eq] at h
  exact h

set_option maxRecDepth 100000 in
theorem rd_chans {W : World} {base : Nat} {sp : Nat → Bool} {held : Bool} {fuel : Nat} {cs : List Value} {x : DataW H × List MemPlace} (h : DataW.trod enc Tryz.prog W base sp held fuel 37 cs = some x) :
    ∃ (ao : Option Addr) (bs : List Chan) (cap : Nat), cs = [.slice ao bs.length cap] ∧ BookIn W ao bs cap := by
  rcases open_slice Tryz.underlying37 h with ⟨rfl, _⟩ | ⟨a, len, cap, m, n, D, Pl, rfl, _, hl, hm, hmm, _, hx⟩
  · exact ⟨none, [], 0, rfl, .inl rfl, by decide, Nat.le_refl _, by decide, by simp, by simp⟩
  · have hlm : len ≤ m := by rw [hmm]; split <;> omega
    have hce : Tryz.prog.cellsOf 106 = 3 := by kernel_rfl
    obtain ⟨bs, h1, h2, h3⟩ := rd_list (W := W) (fun c : Chan => [.string c.name, .int .i64 c.rate, .int .i64 c.bits]) 3 (fun _ => rfl) (by decide) (fun c => c.name.size ≤ 9223372036854775807 ∧ -9223372036854775808 ≤ c.rate) a len (fun i hi => by
      obtain ⟨cs', g1, g2⟩ := hx i (by omega)
      rw [hce] at g1
      obtain ⟨_, hlen, hat⟩ := World.cells?_some g1
      obtain ⟨y0, y1, y2, k, _, _, t0, t1, t2⟩ := trod_struct3 Tryz.underlying106 g2
      match cs', hlen with
      | [c0, c1, c2], _ =>
        have e1 : Tryz.prog.cellsOf 3 = 1 := by kernel_rfl
        have e2 : Tryz.prog.cellsOf 9 = 1 := by kernel_rfl
        simp only [e1, e2, List.drop_zero, List.take_succ_cons, List.take_zero, List.drop_succ_cons] at t0 t1 t2
        obtain ⟨s, q0, _, ws⟩ := DataW.trod_string Tryz.underlying9 t0
        obtain ⟨r, q1, _, wr⟩ := DataW.trod_int Tryz.underlying3 t1
        obtain ⟨b, q2, _, wb⟩ := DataW.trod_int Tryz.underlying3 t2
        simp only [List.cons.injEq, and_true] at q0 q1 q2
        subst q0 q1 q2
        refine ⟨⟨s, r, b⟩, fun j u hu => ?_, by unfold maxLen at ws; exact ws, (wf_bd wr).1⟩
        have hj : j < 3 := (List.getElem?_eq_some_iff.1 hu).1
        have := hat j hj
        rw [← Deep.add_add, this]; exact hu)
    refine ⟨some a, bs, cap, by rw [h1], h2, by unfold maxLen at hm; omega, by omega, by unfold maxLen at hm; omega, fun c hc => (h3 c hc).1, fun c hc => (h3 c hc).2⟩

theorem rd_rows {W : World} {base : Nat} {sp : Nat → Bool} {held : Bool} {fuel : Nat} {cs : List Value} {x : DataW H × List MemPlace} (h : DataW.trod enc Tryz.prog W base sp held fuel 41 cs = some x) :
    ∃ (ao : Option Addr) (xss : List (List Int)) (cap : Nat), cs = [.slice ao xss.length cap] ∧ xss.length ≤ 9223372036854775807 ∧ ∃ vs, Cells W ao vs ∧ RowsV W vs xss := by
  rcases open_slice1 Tryz.underlying41 (by kernel_rfl) h with ⟨rfl, _⟩ | ⟨a, len, cap, m, n, V, D, Pl, rfl, _, hl, hm, hmm, _, hx⟩
  · exact ⟨none, [], 0, rfl, by decide, [], .inl rfl, rfl, by simp⟩
  · have hlm : len ≤ m := by rw [hmm]; split <;> omega
    obtain ⟨ps, h1, h2, h3⟩ := rd_list (W := W) (fun p : Value × List Int => [p.1]) 1 (fun _ => rfl) (by decide) (fun p => RowV W p.1 p.2) a len (fun i hi => by
      obtain ⟨g1, g2⟩ := hx i (by omega)
      obtain ⟨ax, xs, cx, e, hc, hl1, hl2, _⟩ := rd_ints Tryz.underlying22 Tryz.underlying3 (by kernel_rfl) g2
      simp only [List.cons.injEq, and_true] at e
      refine ⟨(V i, xs), fun j u hu => ?_, ax, cx, e, hc, by show xs.length ≤ _; omega⟩
      have hj : j = 0 := by have : j < 1 := (List.getElem?_eq_some_iff.1 hu).1; omega
      subst hj
      simp at hu
      rw [Nat.mul_one, Nat.add_zero, g1, hu])
    have hfm : ps.flatMap (fun p : Value × List Int => [p.1]) = ps.map (·.1) := by
      clear h1 h2 h3; induction ps with
      | nil => rfl
      | cons p ps ih => simp only [List.flatMap_cons, List.map_cons, ih]; rfl
    rw [hfm] at h2
    refine ⟨some a, ps.map (·.2), cap, by rw [List.length_map, h1], by rw [List.length_map, h1]; unfold maxLen at hm; omega, ps.map (·.1), h2, by simp, fun i v xs hv hxs => ?_⟩
    rw [List.getElem?_map] at hv hxs
    obtain ⟨p, hp, rfl⟩ := Option.map_eq_some_iff.1 hv
    rw [hp] at hxs
    simp at hxs
    subst hxs
    exact h3 p (List.mem_of_getElem? hp)

set_option maxRecDepth 100000 in
theorem rd_frames {W : World} {base : Nat} {sp : Nat → Bool} {held : Bool} {fuel : Nat} {cs : List Value} {x : DataW H × List MemPlace} (h : DataW.trod enc Tryz.prog W base sp held fuel 38 cs = some x) :
    ∃ (al : Option Addr) (l : List Frm) (cap : Nat), cs = [.slice al l.length cap] ∧ RecIn W al l := by
  rcases open_slice Tryz.underlying38 h with ⟨rfl, _⟩ | ⟨a, len, cap, m, n, D, Pl, rfl, _, hl, hm, hmm, _, hx⟩
  · exact ⟨none, [], 0, rfl, .inl rfl, by decide, by simp⟩
  · have hlm : len ≤ m := by rw [hmm]; split <;> omega
    have hce : Tryz.prog.cellsOf 43 = 2 := by kernel_rfl
    obtain ⟨l, h1, h2, h3⟩ := rd_list (W := W) (fun f : Frm => [.int .i64 f.st, .slice f.a f.xss.length f.c]) 2 (fun _ => rfl) (by decide) (fun f => FrmIn W f) a len (fun i hi => by
      obtain ⟨cs', g1, g2⟩ := hx i (by omega)
      rw [hce] at g1
      obtain ⟨_, hlen, hat⟩ := World.cells?_some g1
      obtain ⟨y0, y1, k, _, _, t0, t1⟩ := trod_struct2 Tryz.underlying43 g2
      match cs', hlen with
      | [c0, c1], _ =>
        have e1 : Tryz.prog.cellsOf 3 = 1 := by kernel_rfl
        have e2 : Tryz.prog.cellsOf 41 = 1 := by kernel_rfl
        simp only [e1, e2, List.drop_zero, List.take_succ_cons, List.take_zero, List.drop_succ_cons] at t0 t1
        obtain ⟨r, q0, _, wr⟩ := DataW.trod_int Tryz.underlying3 t0
        obtain ⟨as', xss, cs2, q1, hl1, hv⟩ := rd_rows t1
        simp only [List.cons.injEq, and_true] at q0 q1
        subst q0 q1
        refine ⟨⟨r, as', cs2, xss⟩, fun j u hu => ?_, hl1, hv⟩
        have hj : j < 2 := (List.getElem?_eq_some_iff.1 hu).1
        have := hat j hj
        rw [← Deep.add_add, this]; exact hu)
    exact ⟨some a, l, cap, by rw [h1], h2, by unfold maxLen at hm; omega, h3⟩
end
end Go.Proofs.YtoochleabcjljaaGreatDoor

namespace Go.Proofs.YtoochleabcjljaaGreatDoor
open Go.ChangeShapes Go.WideShapes Go.ChangeAt Go.RowKit Go.Joins Go.Deep

theorem own : ownKnob Tryz.prog.godebug = none := by kernel_rfl
theorem kids : Kids Tryz.prog (· < Tryz.prog.types.size) := kids_rows (by kernel_rfl) (by kernel_rfl)
theorem full : ∀ t e, t < Tryz.prog.types.size → Tryz.prog.underlying t = some (.slice e) → 0 < Tryz.prog.cellsOf e := slices_full_of Tryz.prog (by kernel_rfl)

set_option maxRecDepth 100000 in
theorem law_contract (H : Type) (enc : TypeId × Value → H) (W : World) (base : Nat) (args : Array Value) (ds gs : List (DataW H)) (before : List MemPlace)
    (hval : ∀ (j : Nat) t v, Tryz.f8.params[j]? = some t → args[j]? = some v → Value.okWide Tryz.prog W .any base t v)
    (hW : DataW.Whole enc Tryz.prog Tryz.f8.params.toList Rows.recordBackSpec.vars false W args.toList ds gs before) :
    Calls Tryz.prog 8 args W fun e W' => ∃ v, e = .returned v ∧ Rows.recordBackSpec.post enc Tryz.prog Tryz.f8 false true false false W args v W' := by
  have hW' := hW
  obtain ⟨p, q, hA0, hV, rfl, hfz, hnd⟩ := hW
  have hA : DataW.TrodAll enc Tryz.prog W 0 (fun _ => true) true Tryz.f8.params.toList args.toList ds p := hA0
  have hAk := hA
  rw [Tryz.params8] at hA hval
  obtain ⟨v0, d0, rfl, rfl, h0⟩ := trodAll_one hA
  obtain ⟨rfl, rfl⟩ := trodVars_none hV
  obtain ⟨u0a, u0b, y0a, y0b, n0, rfl, _, _, g0a, g0b⟩ := open_agg2 Tryz.underlying40 (by kernel_rfl) (by kernel_rfl) (hval 0 40 v0 rfl rfl) h0
  obtain ⟨ao, bs, cap, e0a, hbs⟩ := rd_chans g0a
  obtain ⟨al, l, cl, e0b, hl⟩ := rd_frames g0b
  simp only [List.cons.injEq, and_true] at e0a e0b
  rw [e0a, e0b] at hW' hAk ⊢
  simp only [List.append_nil] at hW' hAk
  refine (back_any ao bs cap al l cl W hbs hl).mono fun e W' ⟨he, hb⟩ => ?_
  subst he
  exact ⟨_, rfl, law_post kids full (by rw [Tryz.params8]; decide) rfl hW' hAk rfl rfl Tryz.underlying4 hb⟩

theorem law_met (os : Os) (args : Array Value) : laidMet Tryz.prog Rows.recordBackRow.laid ((World.doorLaid Tryz.prog 400 os).forCall (fun _ _ => 0) ⟨#[], args, []⟩).memory :=
  laidMet_of_run' 40 (by kernel_rfl) (by kernel_rfl)
theorem law_reads (os : Os) {H : Type} (enc : TypeId × Value → H) : ∃ places, DataW.whole enc Tryz.prog ((World.doorLaid Tryz.prog 400 os).forCall (fun _ _ => 0) ⟨#[], #[.agg #[.slice none 0 0, .slice none 0 0]], []⟩).memory Tryz.f8.params.toList Rows.recordBackSpec.vars false #[Value.agg #[.slice none 0 0, .slice none 0 0]].toList 8 = some ([.agg [.nil, .nil]], [], places) :=
  ⟨[], by kernel_rfl⟩

set_option maxRecDepth 100000 in
theorem law_lifted (os : Os) (started : os.Started) (H : Type) (enc : TypeId × Value → H) (F : Stop.Interp) :
    ReturnsInHanded {} Tryz.checked os 8 .any ((OpenSpec.ofChange Rows.recordBackSpec).preRow enc Tryz.prog Tryz.f8 Rows.recordBackRow.domain false Rows.recordBackRow.laid) (((OpenSpec.ofChange Rows.recordBackSpec).at F).post enc Tryz.prog Tryz.f8 false true false false) := by
  obtain ⟨places, hx⟩ := law_reads os enc
  refine returnsInHanded_of_row (C := Tryz.checked) (s := OpenSpec.ofChange Rows.recordBackSpec) own started (by kernel_rfl) Tryz.func8
    (witness_row_at (enc := enc) (C := Tryz.checked) false (World.doorLaid Tryz.prog 400 os) #[.agg #[.slice none 0 0, .slice none 0 0]] rfl (by kernel_rfl) (by kernel_rfl) (by kernel_rfl)
      (OpenSpec.preRow_of_cond 8 hx (by kernel_rfl) (fun k hk => by cases hk) (by kernel_rfl) (law_met os _))) ?_
  intro W base args ds gs before hval hW _ _ _ hL _ _
  exact law_contract H enc W base args ds gs before hval hW

theorem law_said : Rows.RecordBackSaid :=
  OpenClaim.holds_of_cond 8 Tryz.f8 rfl rfl rfl rfl rfl rfl rfl ⟨rfl, rfl, rfl, rfl, rfl⟩ rfl rfl rfl rfl rfl (by kernel_rfl) Tryz.func8 (by kernel_rfl)
    (of_decide_eq_true (by kernel_rfl)) (by unfold Func.isWrapper; first | (rw [if_pos (by decide +kernel)]; kernel_rfl) | (rw [if_neg (by decide +kernel)]; exact ⟨rfl, rfl⟩))
    (fun os started H enc _ F => by rw [OpenClaim.pre_eq_preRow]; exact law_lifted os started H enc F)

theorem law_plain (f : FuncId) (fn : Func) (hf : Tryz.pinned.checked.prog.funcNamed "ringdown/ringdownlaw05.RecordBack" = some f) (hfn : Tryz.pinned.checked.prog.funcs[f]? = some fn) :
    false = Tryz.pinned.checked.prog.looks [] ∧ ∀ (j : Nat) t, fn.params[j]? = some t → Tryz.pinned.checked.prog.wantsStandIn t = false := by
  obtain rfl : f = 8 := Option.some.inj ((show Tryz.prog.funcNamed "ringdown/ringdownlaw05.RecordBack" = some 8 by kernel_rfl).symm.trans hf) |>.symm
  obtain rfl : fn = Tryz.f8 := (Option.some.inj (Tryz.func8.symm.trans hfn)).symm
  refine ⟨by kernel_rfl, fun j t ht => ?_⟩
  rw [Tryz.params8] at ht
  obtain rfl : t = 40 := by simpa using Array.mem_of_getElem? ht
  exact (show Tryz.prog.wantsStandIn 40 = false by kernel_rfl)

/-- RecordBack holds. -/
theorem recordBack_holds : Rows.RecordBackCardSaid :=
  Claim7.holds_tied_plain_at .later [] _ _ _ _ law_said (fun _ h => by cases h) (by kernel_rfl) (fun _ h => by cases h) recordBack_row_tie rfl ⟨rfl, rfl⟩ (by kernel_rfl) rfl law_plain (by kernel_rfl)
end Go.Proofs.YtoochleabcjljaaGreatDoor
