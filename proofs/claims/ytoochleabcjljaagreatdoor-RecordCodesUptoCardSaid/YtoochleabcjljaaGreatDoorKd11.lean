/- Parts of a proof, in build order: De, Df, QC, Dg, R4. -/
import Derived.Test.YtoochleabcjljaaGreatDoorKd10
import Derived.Deep.RegionHeld3

/- Codes: Salvage. -/
namespace Go.Proofs.YtoochleabcjljaaGreatDoor
open Go.RowKit

/-- what Salvage's variables hold before place i -/
structure SalJ (w0 : World) (ao : Option Addr) (bs : List Chan) (cap : Nat) (ac : Option Addr) (l : List Nat) (cc : Nat) (N M : Nat) (i : Nat) (wr : World) : Prop where
  below : Below w0.heap.size w0 wr
  bk : Blk wr N 37 #[.slice ao bs.length cap]
  cd : Blk wr (N + 1) 48 #[.slice ac l.length cc]
  bh : Blk wr M 3 #[.int .i64 ((salTo bs l i).2 : Nat)]
  bt : Blk wr (M + 1) 3 #[.int .i64 (lastR (salTo bs l i).1)]
  fr : ∃ v fs, fs.map frm = (salTo bs l i).1 ∧ Blk wr (N + 2) 38 #[v] ∧ FrsO (M + 2) wr v fs
theorem SalJ.keep {w0 : World} {ao : Option Addr} {bs : List Chan} {cap : Nat} {ac : Option Addr} {l : List Nat} {cc N M i : Nat} {wx wy : World} (h : SalJ w0 ao bs cap ac l cc N M i wx) (hb : Below w0.heap.size wx wy) (hk : TKeep NSpT wx wy) : SalJ w0 ao bs cap ac l cc N M i wy := by
  obtain ⟨v, fs, e1, e2, e3⟩ := h.fr
  exact ⟨h.below.trans hb, hk.2 _ _ _ (by simp [NSpT, SpT]) h.bk, hk.2 _ _ _ (by simp [NSpT, SpT]) h.cd, hk.2 _ _ _ (by simp [NSpT, SpT]) h.bh, hk.2 _ _ _ (by simp [NSpT, SpT]) h.bt,
    v, fs, e1, hk.2 _ _ _ (by simp [NSpT, SpT]) e2, hk.frsO (by simp [NSpT, SpT]) (by simp [NSpT, SpT]) (by simp [NSpT, SpT]) e3⟩
theorem SalJ.next {w0 : World} {ao : Option Addr} {bs : List Chan} {cap : Nat} {ac : Option Addr} {l : List Nat} {cc N M i : Nat} {wx : World} (h : SalJ w0 ao bs cap ac l cc N M i wx) (he : salTo bs l (i + 1) = salTo bs l i) : SalJ w0 ao bs cap ac l cc N M (i + 1) wx := by
  obtain ⟨h1, h2, h3, h4, h5, h6⟩ := h
  exact ⟨h1, h2, h3, by rw [he]; exact h4, by rw [he]; exact h5, by rw [he]; exact h6⟩

theorem SalJ.bel {w0 : World} {ao : Option Addr} {bs : List Chan} {cap : Nat} {ac : Option Addr} {l : List Nat} {cc N M i : Nat} {wx wy : World} (h : SalJ w0 ao bs cap ac l cc N M i wx) (hb : Below wx.heap.size wx wy) : SalJ w0 ao bs cap ac l cc N M i wy := by
  obtain ⟨v, fs, e1, e2, e3⟩ := h.fr
  exact ⟨h.below.trans (hb.mono h.below.size), h.bk.below hb h.bk.lt, h.cd.below hb h.cd.lt, h.bh.below hb h.bh.lt, h.bt.below hb h.bt.lt, v, fs, e1, e2.below hb e2.lt, e3.below hb⟩

theorem FrsO.kept_lt {base k : Nat} {w w' : World} {v : Value} {l : List Frm} (h : FrsO base w v l) (hg : w.grownBy w' (some k)) (hk : k < base) : FrsO base w' v l :=
  ⟨h.1.kept hg (.inr fun e => by have := (h.1.lt k e).1; omega), fun f hf => (h.2 f hf).kept hg (fun j e hj => by simp at e; omega)⟩
theorem TKeep.set {P : TypeId → Prop} {w : World} {b : Nat} {T : TypeId} {cs : Array Value} (h : Blk w b T cs) (i : Nat) (u : Value) (hn : ¬ P T) : TKeep P w (w.setCell ⟨b, i, none⟩ u) :=
  .of_grown (grown_set w ⟨b, i, none⟩ u) (fun k e => by
    obtain rfl : b = k := by simpa using e
    exact ⟨T, cs, h, hn⟩)
theorem SalJ.done {w0 : World} {ao : Option Addr} {bs : List Chan} {cap : Nat} {ac : Option Addr} {l : List Nat} {cc N M i : Nat} {W : World} {u3 u4 v : Value} {fs : List Frm} {x y : Int} (hN : w0.heap.size ≤ N) (hNM : N + 2 < M) (hb : Below w0.heap.size w0 W) (h0 : Blk W N 37 #[.slice ao bs.length cap]) (h1 : Blk W (N + 1) 48 #[.slice ac l.length cc]) (h3 : Blk W M 3 #[u3]) (h4 : Blk W (M + 1) 3 #[u4])
    (h2 : Blk W (N + 2) 38 #[v]) (hf : FrsO (M + 2) W v fs) (hfm : fs.map frm = (salTo bs l i).1) (hx : x = ((salTo bs l i).2 : Nat)) (hy : y = lastR (salTo bs l i).1) :
    (SalJ w0 ao bs cap ac l cc N M i ((W.setCell ⟨M, 0, none⟩ (.int .i64 x)).setCell ⟨M + 1, 0, none⟩ (.int .i64 y)) ∧ TKeep SpT W ((W.setCell ⟨M, 0, none⟩ (.int .i64 x)).setCell ⟨M + 1, 0, none⟩ (.int .i64 y))) ∧
    (SalJ w0 ao bs cap ac l cc N M i ((W.setCell ⟨M + 1, 0, none⟩ (.int .i64 y)).setCell ⟨M, 0, none⟩ (.int .i64 x)) ∧ TKeep SpT W ((W.setCell ⟨M + 1, 0, none⟩ (.int .i64 y)).setCell ⟨M, 0, none⟩ (.int .i64 x))) := by
  subst hx; subst hy
  have g3 := fun (w : World) (u : Value) => grown_set w ⟨M, 0, none⟩ u
  have g4 := fun (w : World) (u : Value) => grown_set w ⟨M + 1, 0, none⟩ u
  refine ⟨⟨⟨(hb.setCell (p := ⟨M, 0, none⟩) (by simp; omega) _).setCell (p := ⟨M + 1, 0, none⟩) (by simp; omega) _, (h0.other (by omega) _ _).other (by omega) _ _, (h1.other (by omega) _ _).other (by omega) _ _, (h3.set0 _).other (by omega) _ _, (h4.other (by omega) _ _).set0 _, v, fs, hfm, (h2.other (by omega) _ _).other (by omega) _ _, (hf.kept_lt (k := M) (g3 _ _) (by omega)).kept_lt (k := M + 1) (g4 _ _) (by omega)⟩, ?_⟩,
    ⟨⟨(hb.setCell (p := ⟨M + 1, 0, none⟩) (by simp; omega) _).setCell (p := ⟨M, 0, none⟩) (by simp; omega) _, (h0.other (by omega) _ _).other (by omega) _ _, (h1.other (by omega) _ _).other (by omega) _ _, (h3.other (by omega) _ _).set0 _, (h4.set0 _).other (by omega) _ _, v, fs, hfm, (h2.other (by omega) _ _).other (by omega) _ _, (hf.kept_lt (k := M + 1) (g4 _ _) (by omega)).kept_lt (k := M) (g3 _ _) (by omega)⟩, ?_⟩⟩
  · exact (TKeep.set h3 _ _ (by simp [SpT])).trans (TKeep.set (h4.other (by omega) _ _) _ _ (by simp [SpT]))
  · exact (TKeep.set h4 _ _ (by simp [SpT])).trans (TKeep.set (h3.other (by omega) _ _) _ _ (by simp [SpT]))
theorem held2_next {w wx : World} {b c : Nat} {u v : Value} (h : w.cell? ⟨b, 0, none⟩ = some u ∧ w.cell? ⟨c, 0, none⟩ = some v) (hb : Below w.heap.size w wx) : wx.cell? ⟨b, 0, none⟩ = some u ∧ wx.cell? ⟨c, 0, none⟩ = some v :=
  ⟨cell_keep h.1 hb (Nat.le_refl _), cell_keep h.2 hb (Nat.le_refl _)⟩

set_option maxRecDepth 100000 in
set_option maxHeartbeats 4000000 in
theorem salvage1_any (w0 : World) (ao : Option Addr) (bs : List Chan) (cap : Nat) (b off : Nat) (l : List Nat) (cc N M i : Nat) (w : World) (hN : w0.heap.size ≤ N) (hNM : N + 2 < M) (hok : bookOK bs = true) (hb : BookIn w0 ao bs cap) (hc : ByIn w0 (some ⟨b, off, none⟩) l cc) (hi : i < l.length) (h : SalJ w0 ao bs cap (some ⟨b, off, none⟩) l cc N M i w) :
    Calls Tryz.prog 86 #[.int .i64 (i : Nat), .pointer (some ⟨M, 0, none⟩), .pointer (some ⟨N + 2, 0, none⟩), .pointer (some ⟨N, 0, none⟩), .pointer (some ⟨N + 1, 0, none⟩), .pointer (some ⟨M + 1, 0, none⟩)] w fun e w' => e = .returned (.bool (salP bs l (salTo bs l i) i).2) ∧ SalJ w0 ao bs cap (some ⟨b, off, none⟩) l cc N M (i + 1) w' ∧ TKeep SpT w w' := by
  have HJ := Lib.hid h
  have hlc := hc.len
  have hcp := hc.lecap
  have hcp2 := hc.cap2
  have hst : salTo bs l (i + 1) = (salP bs l (salTo bs l i) i).1 := rfl
  have hbd := salTo_bd bs l i (by omega)
  obtain ⟨hbe, hbk, hcd, hbh, hbt, v, fs, hfm, hbl, hfs⟩ := h
  obtain ⟨fa, fc, rfl, -⟩ := hfs.recIn
  have HST := Lib.hid hst
  have hfl : fs.length = (salTo bs l i).1.length := by rw [← hfm]; simp
  have c1 := hbh.c0
  have c2 := hbl.c0
  have c3 := hbk.c0
  have c4 := hcd.c0
  have c5 := hbt.c0
  have HFM := Lib.hid hfm; have HFL := Lib.hid hfl
  clear hst hfl
  generalize hsto : salTo bs l i = S at *
  obtain ⟨out, beh⟩ := S
  simp only at hbh hbt hfm c1 c5 hbd HFM HFL
  have HSTO := Lib.hid hsto
  clear hsto hfm
  by_cases hin : i < beh
  · have hs := salP_in (bs := bs) (l := l) (s := (out, beh)) (i := i) hin
    have hj := HJ.out.next (by rw [HST.out, HSTO.out, hs])
    have HS := Lib.hid hs; have HJ2 := Lib.hid hj
    clear hs hj hbk hcd hbh hbt hbl hfs hbe
    go_enter Tryz.func86, Tryz.ntmps86
    go_wp2
    go_ret
    exact ⟨ret_bool (by rw [HS.out]), HJ2.out, TKeep.refl _ _⟩
  · by_cases h64 : out.length < 64
    · have h64i : fs.length < 64 := by have := HFL.out; omega
      have hbw := hb.below hbe (Nat.le_refl _)
      have hcd2 : ByIn w0 (some ⟨b, off + i, none⟩) (l.drop i) (cc - i) := by
        refine ⟨.inr ⟨b, off + i, rfl, fun j u hu => ?_⟩, fun d hd => hc.byte d (List.mem_of_mem_drop hd), by rw [List.length_drop]; omega, by rw [List.length_drop]; omega, by omega⟩
        rw [Nat.add_assoc]
        refine hc.cells.at ?_
        rw [← hu, bys, bys, List.map_drop, List.getElem?_drop]
      have hfc := fun (wx : World) (hx : Below w0.heap.size w0 wx) => first_code ao bs cap (some ⟨b, off + i, none⟩) (l.drop i) (cc - i) wx (hb.below hx (Nat.le_refl _)) hok (hcd2.below hx (Nat.le_refl _)).cells hcd2.byte hcd2.len hcd2.lecap hcd2.cap2
      rw [List.length_drop] at hfc
      have HFC := Lib.hid hfc
      have hbd0 : Below w0.heap.size w0 w.drew := hbe.drew
      have hbd1 : Below w0.heap.size w0 (w.alloc (.cells #[.int .i64 0, .slice none 0 0] 43)).drew := (hbe.alloc hbe.size _).drew
      have HD0 := Lib.hid hbd0; have HD1 := Lib.hid hbd1
      have hb0 := (Below.refl w.heap.size w).alloc (Nat.le_refl _) (.cells #[.int .i64 0, .slice none 0 0] 43)
      have c3a := cell_keep c3 hb0 (Nat.le_refl _)
      have c4a := cell_keep c4 hb0 (Nat.le_refl _)
      have hz0 := hbe.size
      have hNl := hbt.lt
      have k1 : (i : Int) ≤ l.length := by omega
      have k2 : (l.length : Int) ≤ cc := by omega
      have k3 : ¬ cc = i := by omega
      have k4 : ¬ (cc - i = 0) := by omega
      have k5 : ¬ cc ≤ i := by omega
      have k6 : i ≤ l.length := by omega
      have k7 : l.length ≤ cc := by omega
      have HBE := Lib.hid hbe
      clear hfc hcd2 hbe hbd0 hbd1 hb0
      cases hfi : firstR bs (l.drop i) with
      | none =>
        have hs := salP_none (bs := bs) (l := l) (s := (out, beh)) (i := i) hin h64 hfi
        have hj := HJ.out.next (by rw [HST.out, HSTO.out, hs])
        have HS := Lib.hid hs; have HJ2 := Lib.hid hj
        rw [hfi] at HFC
        clear hs hj hbk hcd hbh hbt hbl hfs hfi
        go_enter Tryz.func86, Tryz.ntmps86
        go_wp2_with fail
        go_region_held3 (fun w' => w'.cell? ⟨N, 0, none⟩ = some (.slice ao bs.length cap) ∧ w'.cell? ⟨N + 1, 0, none⟩ = some (.slice (some ⟨b, off, none⟩) l.length cc))
          (first
            | exact held2_next ⟨c3, c4⟩ ((Below.refl w.heap.size w).drew)
            | exact held2_next ⟨c3, c4⟩ hbz
            | exact held2_next ⟨c3, c4⟩ (hbz.alloc hbz.size _)
            | exact held2_next ⟨c3, c4⟩ (((Below.refl w.heap.size w).drew).alloc (Nat.le_refl _) _)
            | exact held2_next ⟨c3, c4⟩ ((hbz.setCell (p := ⟨w.heap.size, 0, none⟩) (Nat.le_refl _) _).setCell (p := ⟨w.heap.size, 1, none⟩) (Nat.le_refl _) _)
            | go_keep)
          (first
          | (go_at_call 82; refine (HFC.out w.drew HD0.out).mono ?_; rintro e w2 ⟨hres, hb2⟩; obtain rfl : e = .returned (.tuple #[.agg #[.int .i64 0, .slice none 0 0], .slice none 0 0, .bool false]) := hres; have hbz : Below w.heap.size w w2 := ((Below.refl w.heap.size w).drew).trans hb2; clear hb2)
          | (go_at_call 82; refine (HFC.out (w.alloc (.cells #[.int .i64 0, .slice none 0 0] 43)).drew HD1.out).mono ?_; rintro e w2 ⟨hres, hb2⟩; obtain rfl : e = .returned (.tuple #[.agg #[.int .i64 0, .slice none 0 0], .slice none 0 0, .bool false]) := hres; have hbx := Blk.below (Blk.new w 43 #[.int .i64 0, .slice none 0 0]) (W' := w2) ⟨hb2.os, hb2.tape, hb2.output, hb2.size, hb2.block⟩ (by simp); have x0 := hbx.c0; have x1 := hbx.c1; have y0 := hbx.free 0; have y1 := hbx.free 1; have hbz : Below w.heap.size w w2 := (((Below.refl w.heap.size w).alloc (Nat.le_refl _) (.cells #[.int .i64 0, .slice none 0 0] 43)).drew).trans (hb2.mono (by simp)); have HBX := Lib.hid hbx; clear hb2 hbx))
        · have hbz2 := hbz.alloc hbz.size (.cells #[.int .i64 0, .slice none 0 0] 43)
          go_wp2
          go_ret
          exact ⟨ret_bool (by rw [HS.out]), HJ2.out.bel hbz2, TKeep.of_below hbz2⟩
        · have hbz2 := (hbz.setCell (p := ⟨w.heap.size, 0, none⟩) (Nat.le_refl _) (.int .i64 0)).setCell (p := ⟨w.heap.size, 1, none⟩) (Nat.le_refl _) (.slice none 0 0)
          go_wp2
          go_ret
          exact ⟨ret_bool (by rw [HS.out]), HJ2.out.bel hbz2, TKeep.of_below hbz2⟩
      | some p =>
        obtain ⟨⟨st, xss⟩, n⟩ := p
        rw [hfi] at HFC
        have hbo : ∀ k, (Value.slice fa fs.length fc).ownBlock = some k → k < w.heap.size := fun k e => (hfs.1.lt k e).2
        have HBO := Lib.hid hbo
        have HALL := Lib.hid (And.intro hbk (And.intro hcd (And.intro hbh (And.intro hbt (And.intro hbl hfs)))))
        obtain ⟨i0, hi0, hy0, hy1, hy2⟩ := info_parts Tryz.infoFrame
        clear hbk hcd hbh hbt hbl hfs hbo
        go_enter Tryz.func86, Tryz.ntmps86
        go_wp2_with fail
        go_region_held3 (fun w' => w'.cell? ⟨N, 0, none⟩ = some (.slice ao bs.length cap) ∧ w'.cell? ⟨N + 1, 0, none⟩ = some (.slice (some ⟨b, off, none⟩) l.length cc))
          (first
            | exact held2_next ⟨c3, c4⟩ ((Below.refl w.heap.size w).drew)
            | exact held2_next ⟨c3, c4⟩ hbz
            | exact held2_next ⟨c3, c4⟩ (hbz.alloc hbz.size _)
            | exact held2_next ⟨c3, c4⟩ (((Below.refl w.heap.size w).drew).alloc (Nat.le_refl _) _)
            | exact held2_next ⟨c3, c4⟩ ((hbz.setCell (p := ⟨w.heap.size, 0, none⟩) (Nat.le_refl _) _).setCell (p := ⟨w.heap.size, 1, none⟩) (Nat.le_refl _) _)
            | go_keep)
          (first
          | (go_at_call 82; refine (HFC.out w.drew HD0.out).mono ?_; rintro e w2 ⟨hres, hb2⟩; obtain ⟨vv, c6, rfl, hfo⟩ := hres; obtain ⟨a, c, vs, rfl, -, -, -⟩ := hfo.cells; have HFO := Lib.hid hfo; clear hfo; have hbz : Below w.heap.size w w2 := ((Below.refl w.heap.size w).drew).trans hb2; clear hb2)
          | (go_at_call 82; refine (HFC.out (w.alloc (.cells #[.int .i64 0, .slice none 0 0] 43)).drew HD1.out).mono ?_; rintro e w2 ⟨hres, hb2⟩; obtain ⟨vv, c6, rfl, hfo⟩ := hres; obtain ⟨a, c, vs, rfl, -, -, -⟩ := hfo.cells; have HFO := Lib.hid hfo; clear hfo; have hbx := Blk.below (Blk.new w 43 #[.int .i64 0, .slice none 0 0]) (W' := w2) ⟨hb2.os, hb2.tape, hb2.output, hb2.size, hb2.block⟩ (by simp); have x0 := hbx.c0; have x1 := hbx.c1; have y0 := hbx.free 0; have y1 := hbx.free 1; have hbz : Below w.heap.size w w2 := (((Below.refl w.heap.size w).alloc (Nat.le_refl _) (.cells #[.int .i64 0, .slice none 0 0] 43)).drew).trans (hb2.mono (by simp)); have HBX := Lib.hid hbx; clear hb2 hbx))
        · have hq1 := Blk.new w2 43 #[.int .i64 st, .slice a xss.length c]
          have hq2 := hbz.alloc hbz.size (.cells #[.int .i64 st, .slice a xss.length c] 43)
          have hq3 := hbz.size
          have hq4 := (HFO.out.base (show M + 2 ≤ w.drew.heap.size by simp; omega)).kept (World.grownBy_alloc w2 (.cells #[.int .i64 st, .slice a xss.length c] 43) none) (fun k e => by simp at e)
          have HQ4 := Lib.hid hq4; have HQ1 := Lib.hid hq1; have HQ2 := Lib.hid hq2
          clear hq4 HFO hbz hq1 hq2
          generalize w2.alloc (.cells #[.int .i64 st, .slice a xss.length c] 43) = W3 at *
          generalize w2.heap.size = q at *
          obtain ⟨a0, a1, a3, a4, a2, af⟩ := HALL.out
          have b0 := a0.below HQ2.out a0.lt
          have b1 := a1.below HQ2.out a1.lt
          have b2 := a2.below HQ2.out a2.lt
          have b3 := a3.below HQ2.out a3.lt
          have b4 := a4.below HQ2.out a4.lt
          have bf := af.below HQ2.out
          have z0 := HQ1.out.c0
          have z1 := HQ1.out.c1
          have y3 := b2.c0
          have y4 := b2.free 0
          have y5 := b4.c0
          have hz3 := HQ2.out.size
          have hfl : fs.length = out.length := HFL.out
          have HFL2 := Lib.hid hfl
          have hfl64 : fs.length < 64 := h64i
          have HB0 := Lib.hid b0; have HB1 := Lib.hid b1; have HB2 := Lib.hid b2; have HB3 := Lib.hid b3; have HB4 := Lib.hid b4; have HBF := Lib.hid bf
          clear a0 a1 a2 a3 a4 af b0 b1 b2 b3 b4 bf hfl
          by_cases hnew : lastR out < st
          · have hs := salP_new (bs := bs) (l := l) (s := (out, beh)) (i := i) (x := (st, xss)) (n := n) hin h64 hfi hnew
            have he : salTo bs l (i + 1) = (out ++ [(st, xss)], i + n) := by rw [HST.out, hs]
            obtain ⟨-, -, hnl, -, -⟩ := firstR_sound hfi
            rw [List.length_drop] at hnl
            have HE := Lib.hid he; have HS := Lib.hid hs
            have q5 : IntKind.i64.wrap ((i : Int) + n) = (i : Int) + n := IntWalk.i64_in _ (by omega)
            clear hs he
            go_wp2_with (at_builtin; refine wpList_append_lies _ rfl _ _ _ rfl (M + 2) 43 i0 (.agg #[.int .i64 0, .slice none 0 0]) 2 32 Tryz.underlying38 hi0 hy0 hy1 hy2 rfl (by decide) (.slice fa fs.length fc) fs.length (frs fs) rfl (HBF.out.1.alloc _) ⟨W3.heap.size, 0, none⟩ 1 1 [.int .i64 st, .slice a xss.length c] rfl rfl (World.news_of_block (cs := #[.int .i64 st, .slice a xss.length c]) (t := 43) (fr := (0, 0)) (heap_alloc_new W3 _)) (by simp [Value.oneCell']) (by omega) (by unfold maxLen; omega) (by omega) (by simp; omega) (W3.heap.size + 1) (by simp) ?_)
            intro gg cp w5 hown1 hgrow hat hlt1
            have d0 := (HB0.out.alloc (.cells #[.int .i64 st, .slice a xss.length c] 43)).kept hgrow (fun e => blk_own_ne HB0.out HBF.out.1 (by decide) e.symm)
            have d1 := (HB1.out.alloc (.cells #[.int .i64 st, .slice a xss.length c] 43)).kept hgrow (fun e => blk_own_ne HB1.out HBF.out.1 (by decide) e.symm)
            have d2 := (HB2.out.alloc (.cells #[.int .i64 st, .slice a xss.length c] 43)).kept hgrow (fun e => blk_own_ne HB2.out HBF.out.1 (by decide) e.symm)
            have d3 := (HB3.out.alloc (.cells #[.int .i64 st, .slice a xss.length c] 43)).kept hgrow (fun e => blk_own_ne HB3.out HBF.out.1 (by decide) e.symm)
            have d4 := (HB4.out.alloc (.cells #[.int .i64 st, .slice a xss.length c] 43)).kept hgrow (fun e => blk_own_ne HB4.out HBF.out.1 (by decide) e.symm)
            have dq := (HQ1.out.alloc (.cells #[.int .i64 st, .slice a xss.length c] 43)).kept hgrow (fun e => by have := HBO.out _ e.symm; omega)
            have df := FrsO.snoc (w := W3.alloc (.cells #[.int .i64 st, .slice a xss.length c] 43)) (w' := w5) (f := ⟨st, a, c, xss⟩) (HBF.out.alloc _) (HQ4.out.kept (World.grownBy_alloc W3 _ none) (fun k e => by simp at e)) hgrow hown1
            have hk5 : TKeep SpT w w5 := ((TKeep.of_below HQ2.out).trans (TKeep.of_grown (World.grownBy_alloc W3 (.cells #[.int .i64 st, .slice a xss.length c] 43) none) (fun k e => by simp at e))).trans (TKeep.of_own (HBF.out.1.alloc _) hgrow (by simp [SpT]))
            have hw5 : Below w0.heap.size w0 w5 := ((HJ.out.below.trans (HQ2.out.mono HJ.out.below.size)).alloc (by have := HJ.out.below.size; omega) (.cells #[.int .i64 st, .slice a xss.length c] 43)).grown hgrow (by have := HJ.out.below.size; simp; omega) (fun j e => by have := (HBF.out.1.lt j e).1; omega)
            have u2 := d2.c0
            have u3 := d2.free 0
            have hv2 : ∀ u, FrsO (M + 2) (w5.setCell ⟨N + 2, 0, none⟩ u) (.slice (some ⟨gg, 0, none⟩) (fs.length + 1) cp) (fs ++ [⟨st, a, c, xss⟩]) := fun u => by
              have := df.kept_lt (k := N + 2) (grown_set w5 ⟨N + 2, 0, none⟩ u) (by omega)
              simpa using this
            have hdn := SalJ.done (w0 := w0) (ao := ao) (bs := bs) (cap := cap) (ac := some ⟨b, off, none⟩) (l := l) (cc := cc) (N := N) (M := M) (i := i + 1) (W := (w5.setCell ⟨N + 2, 0, none⟩ (.slice (some ⟨gg, 0, none⟩) (fs.length + 1) cp)).drew) (x := (i : Int) + n) (y := st) hN hNM ((hw5.setCell (p := ⟨N + 2, 0, none⟩) (by simp; omega) _).drew) (d0.other (by omega) _ _) (d1.other (by omega) _ _) (d3.other (by omega) _ _) (d4.other (by omega) _ _) (d2.set0 _) (hv2 _) (by rw [HE.out]; simp [HFM.out, frm]) (by rw [HE.out]; simp) (by rw [HE.out, lastR_snoc])
            have hk6 : TKeep SpT w (w5.setCell ⟨N + 2, 0, none⟩ (.slice (some ⟨gg, 0, none⟩) (fs.length + 1) cp)).drew := hk5.trans (TKeep.set d2 0 _ (by simp [SpT]))
            have s0 := (dq.other (B' := N + 2) (by omega) 0 (.slice (some ⟨gg, 0, none⟩) (fs.length + 1) cp)).c0
            have s3 := (d3.other (B' := N + 2) (by omega) 0 (.slice (some ⟨gg, 0, none⟩) (fs.length + 1) cp)).c0
            have s4 := (d4.other (B' := N + 2) (by omega) 0 (.slice (some ⟨gg, 0, none⟩) (fs.length + 1) cp)).c0
            have t3 := (d3.other (B' := N + 2) (by omega) 0 (.slice (some ⟨gg, 0, none⟩) (fs.length + 1) cp)).free 0
            have t4 := (d4.other (B' := N + 2) (by omega) 0 (.slice (some ⟨gg, 0, none⟩) (fs.length + 1) cp)).free 0
            have HDN := Lib.hid hdn; have HK6 := Lib.hid hk6
            clear d0 d1 d2 d3 d4 dq df hk5 hw5 hv2 hdn hk6 hown1 hgrow hat hlt1 z0 z1 y3 y4 y5
            go_wp2
            go_region
            all_goals
              go_wp2
              go_ret
              first
                | exact ⟨ret_bool (by rw [HS.out]), HDN.out.1.1, HK6.out.trans HDN.out.1.2⟩
                | exact ⟨ret_bool (by rw [HS.out]), HDN.out.2.1, HK6.out.trans HDN.out.2.2⟩
          · have hs := salP_old (bs := bs) (l := l) (s := (out, beh)) (i := i) (x := (st, xss)) (n := n) hin h64 hfi hnew
            have hj := HJ.out.next (by rw [HST.out, HSTO.out, hs])
            have HS := Lib.hid hs; have HJ2 := Lib.hid hj
            clear hs hj
            go_wp2
            go_ret
            exact ⟨ret_bool (by rw [HS.out]), HJ2.out.bel HQ2.out, TKeep.of_below HQ2.out⟩
        · have hq1 := (HBX.out.set0 (.int .i64 st)).set1 (.slice a xss.length c)
          have hq2 := (hbz.setCell (p := ⟨w.heap.size, 0, none⟩) (Nat.le_refl _) (.int .i64 st)).setCell (p := ⟨w.heap.size, 1, none⟩) (Nat.le_refl _) (.slice a xss.length c)
          have hq3 := Nat.le_refl w.heap.size
          have hq4 := ((HFO.out.base (show M + 2 ≤ (w.alloc (.cells #[.int .i64 0, .slice none 0 0] 43)).drew.heap.size by simp; omega)).kept_blk (grown_set w2 ⟨w.heap.size, 0, none⟩ (.int .i64 st)) HBX.out (by decide) (by decide)).kept_blk (grown_set (w2.setCell ⟨w.heap.size, 0, none⟩ (.int .i64 st)) ⟨w.heap.size, 1, none⟩ (.slice a xss.length c)) (HBX.out.set0 _) (by decide) (by decide)
          have HQ4 := Lib.hid hq4; have HQ1 := Lib.hid hq1; have HQ2 := Lib.hid hq2
          clear hq4 HFO HBX hbz x0 x1 y0 y1 hq1 hq2
          generalize ((w2.setCell ⟨w.heap.size, 0, none⟩ (.int .i64 st)).setCell ⟨w.heap.size, 1, none⟩ (.slice a xss.length c)) = W3 at *
          obtain ⟨a0, a1, a3, a4, a2, af⟩ := HALL.out
          have b0 := a0.below HQ2.out a0.lt
          have b1 := a1.below HQ2.out a1.lt
          have b2 := a2.below HQ2.out a2.lt
          have b3 := a3.below HQ2.out a3.lt
          have b4 := a4.below HQ2.out a4.lt
          have bf := af.below HQ2.out
          have z0 := HQ1.out.c0
          have z1 := HQ1.out.c1
          have y3 := b2.c0
          have y4 := b2.free 0
          have y5 := b4.c0
          have hz3 := HQ2.out.size
          have hfl : fs.length = out.length := HFL.out
          have HFL2 := Lib.hid hfl
          have hfl64 : fs.length < 64 := h64i
          have HB0 := Lib.hid b0; have HB1 := Lib.hid b1; have HB2 := Lib.hid b2; have HB3 := Lib.hid b3; have HB4 := Lib.hid b4; have HBF := Lib.hid bf
          clear a0 a1 a2 a3 a4 af b0 b1 b2 b3 b4 bf hfl
          by_cases hnew : lastR out < st
          · have hs := salP_new (bs := bs) (l := l) (s := (out, beh)) (i := i) (x := (st, xss)) (n := n) hin h64 hfi hnew
            have he : salTo bs l (i + 1) = (out ++ [(st, xss)], i + n) := by rw [HST.out, hs]
            obtain ⟨-, -, hnl, -, -⟩ := firstR_sound hfi
            rw [List.length_drop] at hnl
            have HE := Lib.hid he; have HS := Lib.hid hs
            have q5 : IntKind.i64.wrap ((i : Int) + n) = (i : Int) + n := IntWalk.i64_in _ (by omega)
            clear hs he
            go_wp2_with (at_builtin; refine wpList_append_lies _ rfl _ _ _ rfl (M + 2) 43 i0 (.agg #[.int .i64 0, .slice none 0 0]) 2 32 Tryz.underlying38 hi0 hy0 hy1 hy2 rfl (by decide) (.slice fa fs.length fc) fs.length (frs fs) rfl (HBF.out.1.alloc _) ⟨W3.heap.size, 0, none⟩ 1 1 [.int .i64 st, .slice a xss.length c] rfl rfl (World.news_of_block (cs := #[.int .i64 st, .slice a xss.length c]) (t := 43) (fr := (0, 0)) (heap_alloc_new W3 _)) (by simp [Value.oneCell']) (by omega) (by unfold maxLen; omega) (by omega) (by simp; omega) (W3.heap.size + 1) (by simp) ?_)
            intro gg cp w5 hown1 hgrow hat hlt1
            have d0 := (HB0.out.alloc (.cells #[.int .i64 st, .slice a xss.length c] 43)).kept hgrow (fun e => blk_own_ne HB0.out HBF.out.1 (by decide) e.symm)
            have d1 := (HB1.out.alloc (.cells #[.int .i64 st, .slice a xss.length c] 43)).kept hgrow (fun e => blk_own_ne HB1.out HBF.out.1 (by decide) e.symm)
            have d2 := (HB2.out.alloc (.cells #[.int .i64 st, .slice a xss.length c] 43)).kept hgrow (fun e => blk_own_ne HB2.out HBF.out.1 (by decide) e.symm)
            have d3 := (HB3.out.alloc (.cells #[.int .i64 st, .slice a xss.length c] 43)).kept hgrow (fun e => blk_own_ne HB3.out HBF.out.1 (by decide) e.symm)
            have d4 := (HB4.out.alloc (.cells #[.int .i64 st, .slice a xss.length c] 43)).kept hgrow (fun e => blk_own_ne HB4.out HBF.out.1 (by decide) e.symm)
            have dq := (HQ1.out.alloc (.cells #[.int .i64 st, .slice a xss.length c] 43)).kept hgrow (fun e => by have := HBO.out _ e.symm; omega)
            have df := FrsO.snoc (w := W3.alloc (.cells #[.int .i64 st, .slice a xss.length c] 43)) (w' := w5) (f := ⟨st, a, c, xss⟩) (HBF.out.alloc _) (HQ4.out.kept (World.grownBy_alloc W3 _ none) (fun k e => by simp at e)) hgrow hown1
            have hk5 : TKeep SpT w w5 := ((TKeep.of_below HQ2.out).trans (TKeep.of_grown (World.grownBy_alloc W3 (.cells #[.int .i64 st, .slice a xss.length c] 43) none) (fun k e => by simp at e))).trans (TKeep.of_own (HBF.out.1.alloc _) hgrow (by simp [SpT]))
            have hw5 : Below w0.heap.size w0 w5 := ((HJ.out.below.trans (HQ2.out.mono HJ.out.below.size)).alloc (by have := HJ.out.below.size; omega) (.cells #[.int .i64 st, .slice a xss.length c] 43)).grown hgrow (by have := HJ.out.below.size; simp; omega) (fun j e => by have := (HBF.out.1.lt j e).1; omega)
            have u2 := d2.c0
            have u3 := d2.free 0
            have hv2 : ∀ u, FrsO (M + 2) (w5.setCell ⟨N + 2, 0, none⟩ u) (.slice (some ⟨gg, 0, none⟩) (fs.length + 1) cp) (fs ++ [⟨st, a, c, xss⟩]) := fun u => by
              have := df.kept_lt (k := N + 2) (grown_set w5 ⟨N + 2, 0, none⟩ u) (by omega)
              simpa using this
            have hdn := SalJ.done (w0 := w0) (ao := ao) (bs := bs) (cap := cap) (ac := some ⟨b, off, none⟩) (l := l) (cc := cc) (N := N) (M := M) (i := i + 1) (W := (w5.setCell ⟨N + 2, 0, none⟩ (.slice (some ⟨gg, 0, none⟩) (fs.length + 1) cp)).drew) (x := (i : Int) + n) (y := st) hN hNM ((hw5.setCell (p := ⟨N + 2, 0, none⟩) (by simp; omega) _).drew) (d0.other (by omega) _ _) (d1.other (by omega) _ _) (d3.other (by omega) _ _) (d4.other (by omega) _ _) (d2.set0 _) (hv2 _) (by rw [HE.out]; simp [HFM.out, frm]) (by rw [HE.out]; simp) (by rw [HE.out, lastR_snoc])
            have hk6 : TKeep SpT w (w5.setCell ⟨N + 2, 0, none⟩ (.slice (some ⟨gg, 0, none⟩) (fs.length + 1) cp)).drew := hk5.trans (TKeep.set d2 0 _ (by simp [SpT]))
            have s0 := (dq.other (B' := N + 2) (by omega) 0 (.slice (some ⟨gg, 0, none⟩) (fs.length + 1) cp)).c0
            have s3 := (d3.other (B' := N + 2) (by omega) 0 (.slice (some ⟨gg, 0, none⟩) (fs.length + 1) cp)).c0
            have s4 := (d4.other (B' := N + 2) (by omega) 0 (.slice (some ⟨gg, 0, none⟩) (fs.length + 1) cp)).c0
            have t3 := (d3.other (B' := N + 2) (by omega) 0 (.slice (some ⟨gg, 0, none⟩) (fs.length + 1) cp)).free 0
            have t4 := (d4.other (B' := N + 2) (by omega) 0 (.slice (some ⟨gg, 0, none⟩) (fs.length + 1) cp)).free 0
            have HDN := Lib.hid hdn; have HK6 := Lib.hid hk6
            clear d0 d1 d2 d3 d4 dq df hk5 hw5 hv2 hdn hk6 hown1 hgrow hat hlt1 z0 z1 y3 y4 y5
            go_wp2
            go_region
            all_goals
              go_wp2
              go_ret
              first
                | exact ⟨ret_bool (by rw [HS.out]), HDN.out.1.1, HK6.out.trans HDN.out.1.2⟩
                | exact ⟨ret_bool (by rw [HS.out]), HDN.out.2.1, HK6.out.trans HDN.out.2.2⟩
          · have hs := salP_old (bs := bs) (l := l) (s := (out, beh)) (i := i) (x := (st, xss)) (n := n) hin h64 hfi hnew
            have hj := HJ.out.next (by rw [HST.out, HSTO.out, hs])
            have HS := Lib.hid hs; have HJ2 := Lib.hid hj
            clear hs hj
            go_wp2
            go_ret
            exact ⟨ret_bool (by rw [HS.out]), HJ2.out.bel HQ2.out, TKeep.of_below HQ2.out⟩
    · have hs := salP_full (bs := bs) (l := l) (s := (out, beh)) (i := i) hin h64
      have hj := HJ.out.next (by rw [HST.out, HSTO.out, hs])
      have HS := Lib.hid hs; have HJ2 := Lib.hid hj
      have h64i : ¬ fs.length < 64 := by have := HFL.out; omega
      clear hs hj hbk hcd hbh hbt hbl hfs hbe
      go_enter Tryz.func86, Tryz.ntmps86
      go_wp2
      go_ret
      exact ⟨ret_bool (by rw [HS.out]), HJ2.out, TKeep.refl _ _⟩
end Go.Proofs.YtoochleabcjljaaGreatDoor

/- Codes: Salvage, the whole. -/
namespace Go.Proofs.YtoochleabcjljaaGreatDoor
open Go.RowKit

theorem lostP_to (bs : List Chan) (l : List Nat) (i : Nat) : lostP (fun i => (salP bs l (salTo bs l i) i).2) i = lostTo bs l i := by
  induction i with
  | zero => rfl
  | succ i ih => rw [lostP, lostTo, ih]
def salErr (bs : List Chan) (l : List Nat) : Int := if bookErr bs ≠ 0 then bookErr bs else if 1048576 < l.length then 3 else 0
/-- what Salvage returns -/
def SalRes (base : Nat) (bs : List Chan) (l : List Nat) (e : Ending) (w' : World) : Prop :=
  if salErr bs l = 0 then ∃ v vl fs, e = .returned (.tuple #[v, vl, .int .i64 0]) ∧ fs.map frm = (salTo bs l l.length).1 ∧ FrsO base w' v fs ∧ w'.ownsRow base 71 2 vl (lostTo bs l l.length).length (prs (lostTo bs l l.length))
  else e = .returned (.tuple #[.slice none 0 0, .slice none 0 0, .int .i64 (salErr bs l)])
theorem SalRes.ok {base : Nat} {bs : List Chan} {l : List Nat} {w' : World} {v vl : Value} {fs : List Frm} (h : salErr bs l = 0) (h1 : fs.map frm = (salTo bs l l.length).1) (h2 : FrsO base w' v fs) (h3 : w'.ownsRow base 71 2 vl (lostTo bs l l.length).length (prs (lostTo bs l l.length))) : SalRes base bs l (.returned (.tuple #[v, vl, .int .i64 0])) w' := by
  unfold SalRes; rw [if_pos h]; exact ⟨v, vl, fs, rfl, h1, h2, h3⟩
theorem SalRes.err {base : Nat} {bs : List Chan} {l : List Nat} {w' : World} {x : Int} (h : salErr bs l = x) (hx : x ≠ 0) : SalRes base bs l (.returned (.tuple #[.slice none 0 0, .slice none 0 0, .int .i64 x])) w' := by
  unfold SalRes; rw [if_neg (by rw [h]; exact hx), h]

set_option maxRecDepth 100000 in
set_option maxHeartbeats 4000000 in
theorem salvage_any (ao : Option Addr) (bs : List Chan) (cap : Nat) (ac : Option Addr) (l : List Nat) (cc : Nat) (w : World) (hb : BookIn w ao bs cap) (hc : ByIn w ac l cc) :
    Calls Tryz.prog 45 #[.slice ao bs.length cap, .slice ac l.length cc] w fun e w' => SalRes w.heap.size bs l e w' ∧ Below w.heap.size w w' := by
  have HB := Lib.hid hb; have HC := Lib.hid hc
  have hlen := hb.len
  have hcl := hc.len
  obtain ⟨W, hW⟩ : ∃ W, W = ((w.alloc (.cells #[.slice ao bs.length cap] 37)).alloc (.cells #[.slice ac l.length cc] 48)).alloc (.cells #[.slice none 0 0] 38) := ⟨_, rfl⟩
  have hbw : Below w.heap.size w W := by rw [hW]; exact (((Below.refl w.heap.size w).alloc (Nat.le_refl _) _).alloc (by simp) _).alloc (by simp <;> omega) _
  have hWs : W.heap.size = w.heap.size + 3 := by rw [hW]; simp
  have hk0 : Blk W w.heap.size 37 #[.slice ao bs.length cap] := by rw [hW]; exact ((Blk.new w 37 #[.slice ao bs.length cap]).alloc _).alloc _
  have hk1 : Blk W (w.heap.size + 1) 48 #[.slice ac l.length cc] := by
    have := Blk.new (w.alloc (.cells #[.slice ao bs.length cap] 37)) 48 #[.slice ac l.length cc]
    rw [World.size_alloc] at this
    rw [hW]; exact this.alloc _
  have hk2 : Blk W (w.heap.size + 1 + 1) 38 #[.slice none 0 0] := by
    have := Blk.new ((w.alloc (.cells #[.slice ao bs.length cap] 37)).alloc (.cells #[.slice ac l.length cc] 48)) 38 #[.slice none 0 0]
    rw [World.size_alloc, World.size_alloc] at this
    rw [hW]; exact this
  have hb1 := hb.below hbw (Nat.le_refl _)
  have hck := checkBook_any ao bs cap W hb1.cells (by omega) hb1.lecap hb1.cap2 hb1.names hb1.rates
  have HCK := Lib.hid hck
  have x0 := hk0.c0
  have x2 := hk2.c0
  have y2 := hk2.free 0
  have HK0 := Lib.hid hk0; have HK1 := Lib.hid hk1; have HK2 := Lib.hid hk2; have HBW := Lib.hid hbw
  have HW := Lib.hid hW
  clear hb hc hb1 hck hbw hk0 hk1 hk2
  by_cases h1 : bookErr bs = 0
  · have hok := bookErr_zero h1
    have H1 := Lib.hid h1; have HOK := Lib.hid hok
    clear h1 hok
    go_enter Tryz.func45, Tryz.ntmps45
    go_wp2_with fail
    rw [← HW.out]
    refine HCK.out.mono ?_
    rintro e w1 ⟨rfl, hb1⟩
    rw [H1.out]
    have hbe1 := HBW.out.trans (hb1.mono (by omega))
    have hz1 := hb1.size
    have p0 := HK0.out.below hb1 (by omega)
    have p1 := HK1.out.below hb1 (by omega)
    have p2 := HK2.out.below hb1 (by omega)
    have x1 := p1.c0
    have x2 := p2.c0
    have y2 := p2.free 0
    have P0 := Lib.hid p0; have P1 := Lib.hid p1; have P2 := Lib.hid p2
    clear p0 p1 p2 hb1
    by_cases hbig : 1048576 < l.length
    · have he : salErr bs l = 3 := by unfold salErr; rw [if_neg (by simpa using H1.out), if_pos hbig]
      have HE := Lib.hid he
      have hbi : (1048576 : Int) < l.length := by omega
      clear he
      go_wp2_with fail
      (try simp only [Exit.inBlock, Exit.then])
      refine bodyPost_ret (v := .tuple #[.slice none 0 0, .slice none 0 0, .int .i64 3]) (by rw [results_cell2 rfl]; go_simp) rfl ⟨SalRes.err HE.out (by decide), ?_⟩
      exact hbe1.setCell (p := ⟨w.heap.size + 1 + 1, 0, none⟩) (by simp; omega) _
    · have he : salErr bs l = 0 := by unfold salErr; rw [if_neg (by simpa using H1.out), if_neg hbig]
      have HE := Lib.hid he
      have hbi : ¬ (1048576 : Int) < l.length := by omega
      have hbb := ((Below.refl w1.heap.size w1).alloc (Nat.le_refl _) (.cells #[.int .i64 0] 3)).alloc (by simp) (.cells #[.int .i64 (-1)] 3)
      have hbe2 := (hbe1.alloc (by omega) (.cells #[.int .i64 0] 3)).alloc (by simp; omega) (.cells #[.int .i64 (-1)] 3)
      have b0 := P0.out.below hbb P0.out.lt
      have b1 := P1.out.below hbb P1.out.lt
      have b2 := P2.out.below hbb P2.out.lt
      have b3 : Blk ((w1.alloc (.cells #[.int .i64 0] 3)).alloc (.cells #[.int .i64 (-1)] 3)) w1.heap.size 3 #[.int .i64 0] := (Blk.new w1 3 #[.int .i64 0]).alloc _
      have b4 : Blk ((w1.alloc (.cells #[.int .i64 0] 3)).alloc (.cells #[.int .i64 (-1)] 3)) (w1.heap.size + 1) 3 #[.int .i64 (-1)] := by
        have := Blk.new (w1.alloc (.cells #[.int .i64 0] 3)) 3 #[.int .i64 (-1)]
        rwa [World.size_alloc] at this
      have v1 := b1.c0
      have hj0 : SalJ w ao bs cap ac l cc w.heap.size w1.heap.size 0 ((w1.alloc (.cells #[.int .i64 0] 3)).alloc (.cells #[.int .i64 (-1)] 3)) := ⟨hbe2, b0, b1, b3, b4, _, [], rfl, b2, FrsO.nil _ _⟩
      have hsz2 : ((w1.alloc (.cells #[.int .i64 0] 3)).alloc (.cells #[.int .i64 (-1)] 3)).heap.size = w1.heap.size + 2 := by simp
      have HJ0 := Lib.hid hj0; have HSZ := Lib.hid hsz2; have HB2 := Lib.hid hbe2
      clear he hbb b0 b1 b2 b3 b4 hj0 hsz2 hbe2
      go_wp2_with fail
      have hsp := spans_any 86 #[.pointer (some ⟨w1.heap.size, 0, none⟩), .pointer (some ⟨w.heap.size + 2, 0, none⟩), .pointer (some ⟨w.heap.size, 0, none⟩), .pointer (some ⟨w.heap.size + 1, 0, none⟩), .pointer (some ⟨w1.heap.size + 1, 0, none⟩)] (fun i => (salP bs l (salTo bs l i) i).2) (fun i wx => SalJ w ao bs cap ac l cc w.heap.size w1.heap.size i wx) l.length ((w1.alloc (.cells #[.int .i64 0] 3)).alloc (.cells #[.int .i64 (-1)] 3)) hcl
        (fun vs wx => by kernel_rfl) HJ0.out
        (fun i wx wy hj _ hbw hk => hj.keep (hbw.mono (by rw [HSZ.out]; omega)) hk)
        (fun i wx hi hj => by
          obtain ⟨b, off, rfl⟩ := HC.out.cells.addr (bys_ne (by omega))
          exact salvage1_any w ao bs cap b off l cc w.heap.size w1.heap.size i wx (Nat.le_refl _) (by omega) HOK.out HB.out HC.out hi hj)
      rw [lostP_to] at hsp
      refine hsp.mono ?_
      rintro e w2 ⟨⟨vl, rfl, hol⟩, hj, hzz⟩
      obtain ⟨hjb, -, -, -, -, v, fs, hfm, hbl, hfs⟩ := hj
      obtain ⟨fa, fc, rfl, -⟩ := hfs.recIn
      have t0 := hbl.c0
      have t1 := hbl.free 0
      have hbl2 := hbl.set0 (.slice fa fs.length fc)
      have hfs2 := hfs.kept_lt (k := w.heap.size + 2) (grown_set w2 ⟨w.heap.size + 2, 0, none⟩ (.slice fa fs.length fc)) (by omega)
      have hol2 := own_set_other (p := ⟨w.heap.size + 2, 0, none⟩) (u := .slice fa fs.length fc) hol (blk_own_ne hbl hol (by decide))
      rw [HSZ.out] at hol2
      have HFM := Lib.hid hfm; have HFS := Lib.hid (hfs2.base (show w.heap.size ≤ w1.heap.size + 2 by omega)); have HOL := Lib.hid (own_base hol2 (show w.heap.size ≤ w1.heap.size + 2 by omega))
      have u0 := hbl2.c0
      clear hol hfm hbl hfs hbl2 hfs2 hol2 hsp v1 x1 x2 y2
      go_wp2_with fail
      (try simp only [Exit.inBlock, Exit.then])
      refine bodyPost_ret (v := .tuple #[.slice fa fs.length fc, vl, .int .i64 0]) (by rw [results_cell2 rfl]; go_simp) rfl ⟨SalRes.ok HE.out HFM.out HFS.out HOL.out, ?_⟩
      exact hjb.setCell (p := ⟨w.heap.size + 1 + 1, 0, none⟩) (by simp; omega) _
  · have he : salErr bs l = bookErr bs := by unfold salErr; rw [if_pos h1]
    have HE := Lib.hid he
    have h3 : (bookErr bs != 0) = true := by simpa using h1
    have h4 : (bookErr bs == 0) = false := by simpa using h1
    clear he
    go_enter Tryz.func45, Tryz.ntmps45
    go_wp2_with fail
    rw [← HW.out]
    refine HCK.out.mono ?_
    rintro e w1 ⟨rfl, hb1⟩
    have hbe1 := HBW.out.trans (hb1.mono (by omega))
    have hz1 := hb1.size
    have p2 := HK2.out.below hb1 (by omega)
    have x2 := p2.c0
    have y2 := p2.free 0
    clear p2 hb1
    go_wp2_with fail
    (try simp only [Exit.inBlock, Exit.then])
    refine bodyPost_ret (v := .tuple #[.slice none 0 0, .slice none 0 0, .int .i64 (bookErr bs)]) (by rw [results_cell2 rfl]; go_simp) rfl ⟨SalRes.err HE.out h1, ?_⟩
    exact hbe1.setCell (p := ⟨w.heap.size + 1 + 1, 0, none⟩) (by simp; omega) _
end Go.Proofs.YtoochleabcjljaaGreatDoor

/- Codes: Salvage as the reference does it. -/
namespace Go.Proofs.YtoochleabcjljaaGreatDoor
open Go.RowKit

theorem FrsO.kept_own {base b' : Nat} {w w' : World} {v v' : Value} {l : List Frm} {T : TypeId} {s n : Nat} {xs : List Value} (h : FrsO base w v l) (ho : w.ownsRow b' T s v' n xs) (hg : w.grownBy w' v'.ownBlock) (h1 : T ≠ 3) (h2 : T ≠ 22) (h3 : T ≠ 43) : FrsO base w' v l :=
  ⟨h.1.kept hg (own_own_ne h.1 ho (fun e => h3 e.symm)), fun f hf => (h.2 f hf).kept_own ho hg h1 h2⟩
theorem sal_lost {bs : List Chan} {l : List Nat} {i e : Nat} {out : List Fr} (h0 : salTo bs l i = (out, e)) (h : salP bs l (out, e) i = ((out, e), true)) : salTo bs l (i + 1) = (out, e) ∧ lostTo bs l (i + 1) = joinS (lostTo bs l i) i := by
  refine ⟨by rw [salTo, h0, h], ?_⟩
  rw [lostTo, h0, h, if_pos rfl]
theorem sal_found {bs : List Chan} {l : List Nat} {i e n : Nat} {out : List Fr} {x : Fr} (h0 : salTo bs l i = (out, e)) (hn : 0 < n) (h : salP bs l (out, e) i = ((out ++ [x], i + n), false)) : salTo bs l (i + n) = (out ++ [x], i + n) ∧ lostTo bs l (i + n) = lostTo bs l i := by
  have h1 := sal_skip (bs := bs) (l := l) (i := i) (n := n) (out := out ++ [x]) (by rw [h0]; exact h) (n - 1) (by omega)
  rw [show n - 1 + 1 = n from by omega] at h1
  exact h1

set_option maxRecDepth 100000 in
set_option maxHeartbeats 4000000 in
theorem refSalvage_any (ao : Option Addr) (bs : List Chan) (cap : Nat) (ac : Option Addr) (l : List Nat) (cc : Nat) (w : World) (hb : BookIn w ao bs cap) (hc : ByIn w ac l cc) :
    Calls Tryz.prog 46 #[.slice ao bs.length cap, .slice ac l.length cc] w fun e w' => SalRes w.heap.size bs l e w' ∧ Below w.heap.size w w' := by
  have HB := Lib.hid hb; have HC := Lib.hid hc
  have hlen := hb.len
  have hcl := hc.len
  have hck := refCheckBook_any ao bs cap w hb.in0
  have HCK := Lib.hid hck
  clear hb hc hck
  by_cases h1 : bookErr bs = 0
  · have hok := bookErr_zero h1
    have H1 := Lib.hid h1
    by_cases hbig : 1048576 < l.length
    · have he : salErr bs l = 3 := by unfold salErr; rw [if_neg (by simpa using h1), if_pos hbig]
      have HE := Lib.hid he
      have hbi : (1048576 : Int) < l.length := by omega
      clear he h1 hok
      go_enter Tryz.func46, Tryz.ntmps46
      go_wp2_with fail
      refine HCK.out.mono ?_
      rintro e w1 ⟨rfl, hb1⟩
      rw [H1.out]
      go_wp2
      refine bodyPost_ret (v := .tuple #[.slice none 0 0, .slice none 0 0, .int .i64 3]) (by simp [results, Tryz.results46, go_sem]) rfl ⟨SalRes.err HE.out (by decide), hb1⟩
    · have he : salErr bs l = 0 := by unfold salErr; rw [if_neg (by simpa using h1), if_neg hbig]
      have HE := Lib.hid he
      have hbi : ¬ (1048576 : Int) < l.length := by omega
      have hfc := fun (W : World) (a' : Option Addr) (l' : List Nat) (c' : Nat) (h : BookIn W ao bs cap) (h2 : ByIn W a' l' c') => begins_any ao bs cap a' l' c' W h hok h2
      have HFC := Lib.hid hfc
      obtain ⟨i0, hi, hy0, hy1, hy2⟩ := info_parts Tryz.infoFrame
      clear h1 hok hfc he
      go_enter Tryz.func46, Tryz.ntmps46
      go_wp2_with fail
      refine HCK.out.mono ?_
      rintro e w1 ⟨rfl, hb1⟩
      rw [H1.out]
      have HB1 := Lib.hid hb1
      clear hb1
      go_wp2
      go_loopw [8, 9, 10] (fun v vl p wr => ∃ (i : Nat) (fs : List Frm) (e : Nat), i ≤ l.length ∧ p = .int .i64 i ∧ salTo bs l i = (fs.map frm, e) ∧ e ≤ i ∧ FrsO w.heap.size wr v fs ∧ wr.ownsRow w.heap.size 71 2 vl (lostTo bs l i).length (prs (lostTo bs l i)) ∧ Below w.heap.size w wr) (fun _ _ p _ => l.length - (intOf p).toNat)
      case atStart => exact ⟨0, [], 0, Nat.zero_le _, rfl, rfl, Nat.le_refl _, FrsO.nil _ _, World.ownsRow_nil _ _ _ _, HB1.out⟩
      case round =>
        obtain ⟨i, fs, en, hil, rfl, hsal, hen, hfs, hown, hbe⟩ := hrel
        have hz := hbe.size
        have hbd := salTo_bd bs l i hil
        rw [hsal] at hbd
        have h64 : fs.length ≤ 64 := by have := hbd.2; simpa using this
        have hll := lostTo_length bs l i
        have HSAL := Lib.hid hsal
        clear hsal hbd
        by_cases hlt : i < l.length
        · obtain ⟨b, off, rfl⟩ := HC.out.cells.addr (bys_ne (by omega))
          have hcc := HC.out.lecap
          have hby : ByIn w (some ⟨b, off + i, none⟩) (l.drop i) (cc - i) := by
            refine ⟨?_, fun d hd => HC.out.byte d (List.mem_of_mem_drop hd), by rw [List.length_drop]; omega, by rw [List.length_drop]; omega, by have := HC.out.cap2; omega⟩
            refine .inr ⟨b, off + i, rfl, fun j u hu => ?_⟩
            rw [Nat.add_assoc]
            refine HC.out.cells.at ?_
            rw [← hu, bys, bys, List.map_drop, List.getElem?_drop]
          have hdl : (l.drop i).length = l.length - i := List.length_drop
          have hfr := HFC.out wr (some ⟨b, off + i, none⟩) (l.drop i) (cc - i) (HB.out.below hbe (Nat.le_refl _)) (hby.below hbe (Nat.le_refl _))
          rw [hdl] at hfr
          have HFR := Lib.hid hfr; have HDL := Lib.hid hdl; have HFS := Lib.hid hfs; have HOW := Lib.hid hown
          have k0 : ¬ cc = i := by omega
          have k1 : (i : Int) ≤ l.length := by omega
          have k2 : (0 : Int) ≤ i := by omega
          have k3 : (l.length : Int) ≤ cc := by omega
          have hlti : (i : Int) < l.length := by omega
          clear hfr hby hfs hdl hown
          go_wp2_with fail
          refine HFR.out.mono ?_
          rintro e w2 ⟨hres, hb2⟩
          have hbe2 := hbe.trans (hb2.mono hz)
          have hz2 := hb2.size
          have hfs2 := HFS.out.below hb2
          have how2 := own_below HOW.out hb2 (Nat.le_refl _)
          obtain ⟨fa, fc, rfl, -⟩ := hfs2.recIn
          have HFS2 := Lib.hid hfs2; have HOW2 := Lib.hid how2
          clear hb2 hfs2 how2 HFS HOW HFR k0
          cases hfi : firstR bs (l.drop i) with
          | none =>
            rw [hfi] at hres
            obtain rfl : e = .returned (.tuple #[.agg #[.int .i64 0, .slice none 0 0], .int .i64 0, .bool false]) := hres
            have HFI := Lib.hid hfi
            clear hfi
            have hso := sal_lost HSAL.out (if h64' : fs.length < 64 then salP_none (show ¬ i < en by omega) (by simpa using h64') HFI.out else salP_full (show ¬ i < en by omega) (by simpa using h64'))
            have HSO1 := Lib.hid hso.1; have HSO2 := Lib.hid hso.2
            clear hso
            go_wp2_with fail
            go_quiet (fail)
            go_wp2_with fail
            have HD : Hid (FrsO w.heap.size ((w2.alloc (.cells #[.int .i64 0, .slice none 0 0] 43)).drewN nq) (.slice fa fs.length fc) fs) := Lib.hid (HFS2.out.alloc (.cells #[.int .i64 0, .slice none 0 0] 43))
            have HOD : Hid (((w2.alloc (.cells #[.int .i64 0, .slice none 0 0] 43)).drewN nq).ownsRow w.heap.size 71 2 u9 (lostTo bs l i).length (prs (lostTo bs l i))) := Lib.hid (HOW2.out.alloc (.cells #[.int .i64 0, .slice none 0 0] 43))
            have hbed := bel_drewN (hbe2.alloc hbe2.size (.cells #[.int .i64 0, .slice none 0 0] 43)) nq
            have hze := hbed.size
            generalize (w2.alloc (.cells #[.int .i64 0, .slice none 0 0] 43)).drewN nq = wd at *
            refine (longer_any w.heap.size i (lostTo bs l i) u9 wd (by omega) (by omega) hze HOD.out).mono ?_
            rintro e w4 ⟨⟨vl4, rfl, how4⟩, hg4⟩
            have hfs4 := HD.out.kept_own HOD.out hg4 (by decide) (by decide) (by decide)
            have hbe4 := hbed.grown hg4 hze (fun j e => (HOD.out.lt j e).1)
            have HF4 := Lib.hid hfs4; have HO4 := Lib.hid how4
            clear hfs4 how4 hg4
            go_wp2
            go_roundw
            case rel => exact ⟨i + 1, fs, en, by omega, by go_num, HSO1.out, by omega, HF4.out, by rw [HSO2.out]; exact HO4.out, hbe4⟩
            case measure => simp [intOf]; omega
          | some q =>
            obtain ⟨⟨st, xss⟩, n⟩ := q
            rw [hfi] at hres
            obtain ⟨v, rfl, hfo⟩ := hres
            obtain ⟨a, c, vs, rfl, -, -, -⟩ := hfo.cells
            obtain ⟨hfok, -, hnl, -, hn7⟩ := firstR_sound hfi
            rw [HDL.out] at hnl
            have hst0 : 0 ≤ st := by
              simp only [frOK, inB, Bool.and_eq_true, decide_eq_true_eq] at hfok
              omega
            have hxb := Blk.new w2 43 #[.int .i64 st, .slice a xss.length c]
            have z0 := hxb.c0
            have z1 := hxb.c1
            have hxs0 : (w2.alloc (.cells #[.int .i64 st, .slice a xss.length c] 43)).heap.size = w2.heap.size + 1 := by simp
            have HFI := Lib.hid hfi; have HFO := Lib.hid (hfo.base (show w.heap.size ≤ wr.heap.size from hz)); have HXS0 := Lib.hid hxs0
            clear hfi hfo hxb hfok hxs0
            by_cases hlt64 : fs.length < 64
            · have g64 : decide ((fs.length : Int) < 64) = true := by rw [decide_eq_true_iff]; omega
              have g64i : (fs.length : Int) < 64 := by omega
              rcases Nat.eq_zero_or_pos fs.length with hk0 | hk0
              · have hlast : lastR (fs.map frm) < st := by rw [List.length_eq_zero_iff.1 hk0]; simp [lastR]; omega
                have q5 : ((fs.length : Int) == 0) = true := by rw [beq_iff_eq]; omega
                clear hk0
                have hso := sal_found HSAL.out (show 0 < n by omega) (salP_new (x := (st, xss)) (n := n) (show ¬ i < en by omega) (by simpa using hlt64) HFI.out hlast)
                have HSO1 := Lib.hid hso.1; have HSO2 := Lib.hid hso.2
                clear hso
                go_wp2_with fail
                go_quiet (fail)
                have HD : Hid (FrsO w.heap.size ((w2.alloc (.cells #[.int .i64 st, .slice a xss.length c] 43)).drewN nq) (.slice fa fs.length fc) fs) := Lib.hid (HFS2.out.alloc (.cells #[.int .i64 st, .slice a xss.length c] 43))
                have HOD : Hid (((w2.alloc (.cells #[.int .i64 st, .slice a xss.length c] 43)).drewN nq).ownsRow w.heap.size 71 2 u9 (lostTo bs l i).length (prs (lostTo bs l i))) := Lib.hid (HOW2.out.alloc (.cells #[.int .i64 st, .slice a xss.length c] 43))
                have hfd0 : FrO w.heap.size (w2.alloc (.cells #[.int .i64 st, .slice a xss.length c] 43)) (.slice a xss.length c) xss := HFO.out.kept (World.grownBy_alloc w2 (.cells #[.int .i64 st, .slice a xss.length c] 43) none) (fun k e => by simp at e)
                have HFD : Hid (FrO w.heap.size ((w2.alloc (.cells #[.int .i64 st, .slice a xss.length c] 43)).drewN nq) (.slice a xss.length c) xss) := Lib.hid hfd0
                clear hfd0
                have z0d : ((w2.alloc (.cells #[.int .i64 st, .slice a xss.length c] 43)).drewN nq).cell? ⟨w2.heap.size, 0, none⟩ = some (.int .i64 st) := z0
                have z1d : ((w2.alloc (.cells #[.int .i64 st, .slice a xss.length c] 43)).drewN nq).cell? ⟨w2.heap.size, 1, none⟩ = some (.slice a xss.length c) := z1
                have hbed := bel_drewN (hbe2.alloc hbe2.size (.cells #[.int .i64 st, .slice a xss.length c] 43)) nq
                have hze := hbed.size
                have hxs : ((w2.alloc (.cells #[.int .i64 st, .slice a xss.length c] 43)).drewN nq).heap.size = w2.heap.size + 1 := by simp
                have HXS := Lib.hid hxs
                clear z0 z1 hxs
                generalize (w2.alloc (.cells #[.int .i64 st, .slice a xss.length c] 43)).drewN nq = wd at *
                go_wp2_with (at_builtin; refine wpList_append_lies _ rfl _ _ _ rfl w.heap.size 43 i0 _ 2 32 Tryz.underlying38 hi hy0 hy1 hy2 rfl (by decide) (.slice fa fs.length fc) fs.length (frs fs) rfl (HD.out.1.alloc _) ⟨wd.heap.size, 0, none⟩ 1 1 [.int .i64 st, .slice a xss.length c] rfl rfl (World.news_of_block (cs := #[.int .i64 st, .slice a xss.length c]) (t := 43) (fr := (0, 0)) (World.alloc_heap_new wd _)) (by simp [Value.oneCell']) (by omega) (by unfold maxLen; omega) (by omega) (by simp; omega) (wd.heap.size + 1) (by simp) ?_)
                intro gg cp wz hown1 hgrow hat hlt1
                have hfsz := HD.out.alloc (.cells #[.int .i64 st, .slice a xss.length c] 43)
                have hfoz := HFD.out.kept (World.grownBy_alloc wd (.cells #[.int .i64 st, .slice a xss.length c] 43) none) (fun k e => by simp at e)
                have hfs5 := FrsO.snoc (w' := wz) (f := ⟨st, a, c, xss⟩) hfsz hfoz ⟨hgrow.os, hgrow.tape, hgrow.output, hgrow.size, hgrow.block⟩ hown1
                have how5 := (HOD.out.alloc (.cells #[.int .i64 st, .slice a xss.length c] 43)).kept (w' := wz) ⟨hgrow.os, hgrow.tape, hgrow.output, hgrow.size, hgrow.block⟩ (own_own_ne (HOD.out.alloc (.cells #[.int .i64 st, .slice a xss.length c] 43)) hfsz.1 (by decide))
                have hbez := (hbed.alloc hze (.cells #[.int .i64 st, .slice a xss.length c] 43)).grown (w' := wz) ⟨hgrow.os, hgrow.tape, hgrow.output, hgrow.size, hgrow.block⟩ (by simp; omega) (fun j e => (HD.out.1.lt j e).1)
                have HF5 := Lib.hid hfs5; have HO5 := Lib.hid how5; have HBZ := Lib.hid hbez
                clear hfsz hfoz hfs5 how5 hown1 hgrow hat hlt1 hbez z0d z1d
                have hfm : (fs ++ [(⟨st, a, c, xss⟩ : Frm)]).map frm = fs.map frm ++ [(st, xss)] := by simp [frm]
                have HFM := Lib.hid hfm
                clear hfm
                go_wp2
                go_roundw
                case rel => exact ⟨i + n, fs ++ [⟨st, a, c, xss⟩], i + n, by omega, by go_num, by rw [HSO1.out, HFM.out], by omega, by simpa using HF5.out, by rw [HSO2.out]; exact HO5.out, HBZ.out⟩
                case measure => simp [intOf]; omega
              · obtain ⟨k, hk⟩ : ∃ k, fs.length = k + 1 := ⟨fs.length - 1, by omega⟩
                obtain ⟨lf, hlf, hla⟩ := frm_last fs k hk
                obtain ⟨fa', fc', he, hri⟩ := (HFS2.out.alloc (.cells #[.int .i64 st, .slice a xss.length c] 43)).recIn
                simp only [Value.slice.injEq, true_and] at he
                obtain ⟨rfl, rfl⟩ := he
                obtain ⟨fb, fo, rfl⟩ := hri.cells.addr (frs_ne (by omega))
                have y0 := hri.cells.at (frs_get hlf).1
                have q1 : IntKind.i64.wrap ((fs.length : Int) - 1) = (fs.length : Int) - 1 := IntWalk.i64_in _ (by omega)
                have q2 : ((fs.length : Int) - 1).toNat = k := by omega
                have q3 : (0 : Int) ≤ (fs.length : Int) - 1 := by omega
                have q4 : (fs.length : Int) - 1 < fs.length := by omega
                have q5 : ((fs.length : Int) == 0) = false := by rw [beq_eq_false_iff_ne]; omega
                have HK := Lib.hid hk
                clear hk hri hlf
                by_cases hls : lf.st < st
                · have g1 : decide (lf.st < st) = true := by rw [decide_eq_true_iff]; exact hls
                  have hlast : lastR (fs.map frm) < st := by rw [hla]; exact hls
                  have HLA := Lib.hid hla
                  clear hla
                  have hso := sal_found HSAL.out (show 0 < n by omega) (salP_new (x := (st, xss)) (n := n) (show ¬ i < en by omega) (by simpa using hlt64) HFI.out hlast)
                  have HSO1 := Lib.hid hso.1; have HSO2 := Lib.hid hso.2
                  clear hso
                  go_wp2_with fail
                  go_quiet (fail)
                  have HD : Hid (FrsO w.heap.size ((w2.alloc (.cells #[.int .i64 st, .slice a xss.length c] 43)).drewN nq) (.slice (some ⟨fb, fo, none⟩) fs.length fc) fs) := Lib.hid (HFS2.out.alloc (.cells #[.int .i64 st, .slice a xss.length c] 43))
                  have HOD : Hid (((w2.alloc (.cells #[.int .i64 st, .slice a xss.length c] 43)).drewN nq).ownsRow w.heap.size 71 2 u9 (lostTo bs l i).length (prs (lostTo bs l i))) := Lib.hid (HOW2.out.alloc (.cells #[.int .i64 st, .slice a xss.length c] 43))
                  have hfd0 : FrO w.heap.size (w2.alloc (.cells #[.int .i64 st, .slice a xss.length c] 43)) (.slice a xss.length c) xss := HFO.out.kept (World.grownBy_alloc w2 (.cells #[.int .i64 st, .slice a xss.length c] 43) none) (fun k e => by simp at e)
                  have HFD : Hid (FrO w.heap.size ((w2.alloc (.cells #[.int .i64 st, .slice a xss.length c] 43)).drewN nq) (.slice a xss.length c) xss) := Lib.hid hfd0
                  clear hfd0
                  have z0d : ((w2.alloc (.cells #[.int .i64 st, .slice a xss.length c] 43)).drewN nq).cell? ⟨w2.heap.size, 0, none⟩ = some (.int .i64 st) := z0
                  have z1d : ((w2.alloc (.cells #[.int .i64 st, .slice a xss.length c] 43)).drewN nq).cell? ⟨w2.heap.size, 1, none⟩ = some (.slice a xss.length c) := z1
                  have hbed := bel_drewN (hbe2.alloc hbe2.size (.cells #[.int .i64 st, .slice a xss.length c] 43)) nq
                  have hze := hbed.size
                  have hxs : ((w2.alloc (.cells #[.int .i64 st, .slice a xss.length c] 43)).drewN nq).heap.size = w2.heap.size + 1 := by simp
                  have HXS := Lib.hid hxs
                  clear z0 z1 hxs
                  generalize (w2.alloc (.cells #[.int .i64 st, .slice a xss.length c] 43)).drewN nq = wd at *
                  go_wp2_with (at_builtin; refine wpList_append_lies _ rfl _ _ _ rfl w.heap.size 43 i0 _ 2 32 Tryz.underlying38 hi hy0 hy1 hy2 rfl (by decide) (.slice (some ⟨fb, fo, none⟩) fs.length fc) fs.length (frs fs) rfl (HD.out.1.alloc _) ⟨wd.heap.size, 0, none⟩ 1 1 [.int .i64 st, .slice a xss.length c] rfl rfl (World.news_of_block (cs := #[.int .i64 st, .slice a xss.length c]) (t := 43) (fr := (0, 0)) (World.alloc_heap_new wd _)) (by simp [Value.oneCell']) (by omega) (by unfold maxLen; omega) (by omega) (by simp; omega) (wd.heap.size + 1) (by simp) ?_)
                  intro gg cp wz hown1 hgrow hat hlt1
                  have hfsz := HD.out.alloc (.cells #[.int .i64 st, .slice a xss.length c] 43)
                  have hfoz := HFD.out.kept (World.grownBy_alloc wd (.cells #[.int .i64 st, .slice a xss.length c] 43) none) (fun k e => by simp at e)
                  have hfs5 := FrsO.snoc (w' := wz) (f := ⟨st, a, c, xss⟩) hfsz hfoz ⟨hgrow.os, hgrow.tape, hgrow.output, hgrow.size, hgrow.block⟩ hown1
                  have how5 := (HOD.out.alloc (.cells #[.int .i64 st, .slice a xss.length c] 43)).kept (w' := wz) ⟨hgrow.os, hgrow.tape, hgrow.output, hgrow.size, hgrow.block⟩ (own_own_ne (HOD.out.alloc (.cells #[.int .i64 st, .slice a xss.length c] 43)) hfsz.1 (by decide))
                  have hbez := (hbed.alloc hze (.cells #[.int .i64 st, .slice a xss.length c] 43)).grown (w' := wz) ⟨hgrow.os, hgrow.tape, hgrow.output, hgrow.size, hgrow.block⟩ (by simp; omega) (fun j e => (HD.out.1.lt j e).1)
                  have HF5 := Lib.hid hfs5; have HO5 := Lib.hid how5; have HBZ := Lib.hid hbez
                  clear hfsz hfoz hfs5 how5 hown1 hgrow hat hlt1 hbez z0d z1d
                  have hfm : (fs ++ [(⟨st, a, c, xss⟩ : Frm)]).map frm = fs.map frm ++ [(st, xss)] := by simp [frm]
                  have HFM := Lib.hid hfm
                  clear hfm
                  go_wp2
                  go_roundw
                  case rel => exact ⟨i + n, fs ++ [⟨st, a, c, xss⟩], i + n, by omega, by go_num, by rw [HSO1.out, HFM.out], by omega, by simpa using HF5.out, by rw [HSO2.out]; exact HO5.out, HBZ.out⟩
                  case measure => simp [intOf]; omega
                · have g1 : decide (lf.st < st) = false := by rw [decide_eq_false_iff_not]; exact hls
                  have hlast : ¬ lastR (fs.map frm) < st := by rw [hla]; exact hls
                  have HLA := Lib.hid hla
                  clear hla
                  have hso := sal_lost HSAL.out (salP_old (x := (st, xss)) (n := n) (show ¬ i < en by omega) (by simpa using hlt64) HFI.out hlast)
                  have HSO1 := Lib.hid hso.1; have HSO2 := Lib.hid hso.2
                  clear hso
                  go_wp2_with fail
                  go_quiet (fail)
                  go_wp2_with fail
                  have HD : Hid (FrsO w.heap.size ((w2.alloc (.cells #[.int .i64 st, .slice a xss.length c] 43)).drewN nq) (.slice (some ⟨fb, fo, none⟩) fs.length fc) fs) := Lib.hid (HFS2.out.alloc (.cells #[.int .i64 st, .slice a xss.length c] 43))
                  have HOD : Hid (((w2.alloc (.cells #[.int .i64 st, .slice a xss.length c] 43)).drewN nq).ownsRow w.heap.size 71 2 u9 (lostTo bs l i).length (prs (lostTo bs l i))) := Lib.hid (HOW2.out.alloc (.cells #[.int .i64 st, .slice a xss.length c] 43))
                  have hbed := bel_drewN (hbe2.alloc hbe2.size (.cells #[.int .i64 st, .slice a xss.length c] 43)) nq
                  have hze := hbed.size
                  generalize (w2.alloc (.cells #[.int .i64 st, .slice a xss.length c] 43)).drewN nq = wd at *
                  refine (longer_any w.heap.size i (lostTo bs l i) u9 wd (by omega) (by omega) hze HOD.out).mono ?_
                  rintro e w4 ⟨⟨vl4, rfl, how4⟩, hg4⟩
                  have hfs4 := HD.out.kept_own HOD.out hg4 (by decide) (by decide) (by decide)
                  have hbe4 := hbed.grown hg4 hze (fun j e => (HOD.out.lt j e).1)
                  have HF4 := Lib.hid hfs4; have HO4 := Lib.hid how4
                  clear hfs4 how4 hg4
                  go_wp2
                  go_roundw
                  case rel => exact ⟨i + 1, fs, en, by omega, by go_num, HSO1.out, by omega, HF4.out, by rw [HSO2.out]; exact HO4.out, hbe4⟩
                  case measure => simp [intOf]; omega
            · have g64 : decide ((fs.length : Int) < 64) = false := by rw [decide_eq_false_iff_not]; omega
              have g64i : ¬ (fs.length : Int) < 64 := by omega
              have hso := sal_lost HSAL.out (salP_full (show ¬ i < en by omega) (by simpa using hlt64))
              have HSO1 := Lib.hid hso.1; have HSO2 := Lib.hid hso.2
              clear hso
              go_wp2_with fail
              go_quiet (fail)
              go_wp2_with fail
              have HD : Hid (FrsO w.heap.size ((w2.alloc (.cells #[.int .i64 st, .slice a xss.length c] 43)).drewN nq) (.slice fa fs.length fc) fs) := Lib.hid (HFS2.out.alloc (.cells #[.int .i64 st, .slice a xss.length c] 43))
              have HOD : Hid (((w2.alloc (.cells #[.int .i64 st, .slice a xss.length c] 43)).drewN nq).ownsRow w.heap.size 71 2 u9 (lostTo bs l i).length (prs (lostTo bs l i))) := Lib.hid (HOW2.out.alloc (.cells #[.int .i64 st, .slice a xss.length c] 43))
              have hbed := bel_drewN (hbe2.alloc hbe2.size (.cells #[.int .i64 st, .slice a xss.length c] 43)) nq
              have hze := hbed.size
              generalize (w2.alloc (.cells #[.int .i64 st, .slice a xss.length c] 43)).drewN nq = wd at *
              refine (longer_any w.heap.size i (lostTo bs l i) u9 wd (by omega) (by omega) hze HOD.out).mono ?_
              rintro e w4 ⟨⟨vl4, rfl, how4⟩, hg4⟩
              have hfs4 := HD.out.kept_own HOD.out hg4 (by decide) (by decide) (by decide)
              have hbe4 := hbed.grown hg4 hze (fun j e => (HOD.out.lt j e).1)
              have HF4 := Lib.hid hfs4; have HO4 := Lib.hid how4
              clear hfs4 how4 hg4
              go_wp2
              go_roundw
              case rel => exact ⟨i + 1, fs, en, by omega, by go_num, HSO1.out, by omega, HF4.out, by rw [HSO2.out]; exact HO4.out, hbe4⟩
              case measure => simp [intOf]; omega
        · obtain rfl : i = l.length := by omega
          have hfm : fs.map frm = (salTo bs l l.length).1 := by rw [HSAL.out]
          have HFM := Lib.hid hfm; have HFS := Lib.hid hfs; have HOW := Lib.hid hown
          clear hfm hfs hown
          go_wp2
          refine bodyPost_ret (v := .tuple #[_, _, .int .i64 0]) (by simp [results, Tryz.results46, go_sem]) rfl ⟨SalRes.ok HE.out HFM.out HFS.out HOW.out, hbe⟩
  · have he : salErr bs l = bookErr bs := by unfold salErr; rw [if_pos h1]
    have HE := Lib.hid he
    have h3 : (bookErr bs != 0) = true := by simpa using h1
    have h4 : (bookErr bs == 0) = false := by simpa using h1
    clear he
    go_enter Tryz.func46, Tryz.ntmps46
    go_wp2_with fail
    refine HCK.out.mono ?_
    rintro e w1 ⟨rfl, hb1⟩
    go_wp2
    refine bodyPost_ret (v := .tuple #[.slice none 0 0, .slice none 0 0, .int .i64 (bookErr bs)]) (by simp [results, Tryz.results46, go_sem]) rfl ⟨SalRes.err HE.out h1, hb1⟩
end Go.Proofs.YtoochleabcjljaaGreatDoor

/- Frames compared: SameTable, sameFrame, sameFrames. -/
namespace Go.Proofs.YtoochleabcjljaaGreatDoor
open Go.RowKit

set_option maxRecDepth 100000 in
set_option maxHeartbeats 1000000 in
theorem sameTable_any (aa ab : Option Addr) (va vb : List Value) (xss yss : List (List Int)) (ca cb : Nat) (w : World) (ha : Cells w aa va) (hra : RowsV w va xss) (hla : xss.length ≤ 9223372036854775807) (hb : Cells w ab vb) (hrb : RowsV w vb yss) (hlb : yss.length ≤ 9223372036854775807) :
    Calls Tryz.prog 84 #[.slice aa xss.length ca, .slice ab yss.length cb] w fun e w' => e = .returned (.bool (decide (xss = yss))) ∧ Below w.heap.size w w' := by
  by_cases hlen : xss.length = yss.length
  · have h1 : ((xss.length : Int) != yss.length) = false := by simp [hlen]
    have HL := Lib.hid hlen; clear hlen
    have HA := Lib.hid ha; have HB := Lib.hid hb; have HRA := Lib.hid hra; have HRB := Lib.hid hrb; clear ha hb hra hrb
    go_enter Tryz.func84, Tryz.ntmps84
    go_wp2
    go_loopw [5] (fun i wr => ∃ k : Nat, k ≤ xss.length ∧ i = .int .i64 k ∧ xss.take k = yss.take k ∧ Below w.heap.size w wr) (fun i _ => xss.length - (intOf i).toNat)
    case atStart => exact ⟨0, Nat.zero_le _, rfl, rfl, Below.refl _ _⟩
    case round =>
      obtain ⟨k, hk, rfl, heq, hbe⟩ := hrel
      have HQ := Lib.hid heq; clear heq
      by_cases hlt : k < xss.length
      · have hlt2 : k < yss.length := by have := HL.out; omega
        obtain ⟨xs, hxs⟩ := get_of_lt hlt
        obtain ⟨ys, hys⟩ := get_of_lt hlt2
        obtain ⟨x, hx⟩ := get_of_lt (show k < va.length by have := HRA.out.1; omega)
        obtain ⟨y, hy⟩ := get_of_lt (show k < vb.length by have := HRB.out.1; omega)
        obtain ⟨a1, k1, rfl, hc1, hl1⟩ := HRA.out.2 k x xs hx hxs
        obtain ⟨a2, k2, rfl, hc2, hl2⟩ := HRB.out.2 k y ys hy hys
        obtain ⟨b, off, rfl⟩ := HA.out.addr (List.ne_nil_of_length_pos (by have := HRA.out.1; omega))
        obtain ⟨b2, off2, rfl⟩ := HB.out.addr (List.ne_nil_of_length_pos (by have := HRB.out.1; omega))
        have c1 := cell_keep (HA.out.at hx) hbe (Nat.le_refl _)
        have c2 := cell_keep (HB.out.at hy) hbe (Nat.le_refl _)
        have i1 : (k : Int) < xss.length := by omega
        have i2 : (k : Int) < yss.length := by omega
        have i3 : (0 : Int) ≤ k := by omega
        have hsi := sameInts_any a1 a2 xs ys k1 k2 wr.drew (hc1.below hbe.drew (Nat.le_refl _)) (hc2.below hbe.drew (Nat.le_refl _)) hl1 hl2
        have HSI := Lib.hid hsi
        have hz := hbe.size
        have HXS := Lib.hid hxs; have HYS := Lib.hid hys
        have HBE := Lib.hid hbe
        clear hsi hx hy hc1 hc2 hl1 hl2 hxs hys hbe
        by_cases hxy : xs = ys
        · have ht : xss.take (k + 1) = yss.take (k + 1) := by rw [take_get HXS.out, take_get HYS.out, HQ.out, hxy]
          have HT := Lib.hid ht
          have hd : decide (xs = ys) = true := by rw [decide_eq_true_iff]; exact hxy
          rw [hd] at HSI
          clear ht hd hxy
          go_wp2_with fail
          go_region_held3 (fun w' => w'.cell? ⟨b, off + k, none⟩ = some (.slice a1 xs.length k1) ∧ w'.cell? ⟨b2, off2 + k, none⟩ = some (.slice a2 ys.length k2))
            (first | exact ⟨c1, c2⟩ | exact ⟨cell_keep c1 hbz (Nat.le_refl _), cell_keep c2 hbz (Nat.le_refl _)⟩ | go_keep)
            (first | (go_at_call 17; refine HSI.out.mono ?_; rintro e w2 ⟨rfl, hb2⟩; have hbz : Below wr.heap.size wr w2 := ((Below.refl wr.heap.size wr).drew).trans hb2; clear hb2))
          all_goals
            have hbf := HBE.out.trans (hbz.mono hz)
            clear hbz c1 c2
            go_wp2
            go_roundw
            case rel => exact ⟨k + 1, by omega, by go_num, HT.out, hbf⟩
            case measure => simp [intOf]; omega
        · have hne : decide (xss = yss) = false := by
            rw [decide_eq_false_iff_not]; rintro rfl
            have h1 := HXS.out; have h2 := HYS.out
            rw [h1] at h2; simp at h2; exact hxy h2
          have HNE := Lib.hid hne
          have hd : decide (xs = ys) = false := by rw [decide_eq_false_iff_not]; exact hxy
          rw [hd] at HSI
          clear hne hd hxy
          go_wp2_with fail
          go_region_held3 (fun w' => w'.cell? ⟨b, off + k, none⟩ = some (.slice a1 xs.length k1) ∧ w'.cell? ⟨b2, off2 + k, none⟩ = some (.slice a2 ys.length k2))
            (first | exact ⟨c1, c2⟩ | exact ⟨cell_keep c1 hbz (Nat.le_refl _), cell_keep c2 hbz (Nat.le_refl _)⟩ | go_keep)
            (first | (go_at_call 17; refine HSI.out.mono ?_; rintro e w2 ⟨rfl, hb2⟩; have hbz : Below wr.heap.size wr w2 := ((Below.refl wr.heap.size wr).drew).trans hb2; clear hb2))
          all_goals
            have hbf := HBE.out.trans (hbz.mono hz)
            clear hbz c1 c2
            go_wp2
            go_ret
            exact ⟨ret_bool HNE.out.symm, hbf⟩
      · obtain rfl : k = xss.length := by omega
        have he : decide (xss = yss) = true := by
          rw [decide_eq_true_iff]
          have := HQ.out
          rw [List.take_length, HL.out, List.take_length] at this; exact this
        have HE := Lib.hid he; clear he
        go_wp2
        go_ret
        exact ⟨ret_bool HE.out.symm, hbe⟩
  · have h1 : ((xss.length : Int) != yss.length) = true := by simp; omega
    have he : decide (xss = yss) = false := by
      rw [decide_eq_false_iff_not]; rintro rfl; exact hlen rfl
    have HE := Lib.hid he; clear he
    go_enter Tryz.func84, Tryz.ntmps84
    go_wp2
    go_ret
    exact ⟨ret_bool HE.out.symm, Below.refl _ _⟩

set_option maxRecDepth 100000 in
theorem sameFrame_any (f g : Frm) (w : World) (hf : FrmIn w f) (hg : FrmIn w g) :
    Calls Tryz.prog 41 #[.agg #[.int .i64 f.st, .slice f.a f.xss.length f.c], .agg #[.int .i64 g.st, .slice g.a g.xss.length g.c]] w fun e w' => e = .returned (.bool (decide (frm f = frm g))) ∧ Below w.heap.size w w' := by
  obtain ⟨fs, fa, fc, fx⟩ := f
  obtain ⟨gs, ga, gc, gx⟩ := g
  obtain ⟨l1, v1, c1, r1⟩ := hf
  obtain ⟨l2, v2, c2, r2⟩ := hg
  simp only at l1 c1 r1 l2 c2 r2
  have hb := ((Below.refl w.heap.size w).alloc (Nat.le_refl _) (.cells #[.int .i64 fs, .slice fa fx.length fc] 43)).alloc (by simp) (.cells #[.int .i64 gs, .slice ga gx.length gc] 43)
  have hst := sameTable_any fa ga v1 v2 fx gx fc gc _ (c1.below hb (Nat.le_refl _)) (r1.below hb (Nat.le_refl _)) l1 (c2.below hb (Nat.le_refl _)) (r2.below hb (Nat.le_refl _)) l2
  have HST := Lib.hid hst
  clear hst c1 r1 c2 r2
  simp only
  by_cases hs : fs = gs
  · subst hs
    have he : decide (frm ⟨fs, fa, fc, fx⟩ = frm ⟨fs, ga, gc, gx⟩) = decide (fx = gx) := by simp [frm]
    have HE := Lib.hid he; clear he
    go_enter Tryz.func41, Tryz.ntmps41
    go_wp2_with fail
    refine HST.out.mono ?_
    rintro e w1 ⟨rfl, hb1⟩
    have hbf := hb.trans (hb1.mono (by simp; omega))
    go_wp2
    go_ret
    exact ⟨ret_bool HE.out.symm, hbf⟩
  · have he : decide (frm ⟨fs, fa, fc, fx⟩ = frm ⟨gs, ga, gc, gx⟩) = false := by simp [frm, hs]
    have HE := Lib.hid he; clear he
    have hsb : (fs == gs) = false := by simpa using hs
    go_enter Tryz.func41, Tryz.ntmps41
    go_wp2_with fail
    go_ret
    exact ⟨ret_bool HE.out.symm, hb⟩

set_option maxRecDepth 100000 in
set_option maxHeartbeats 1000000 in
theorem sameFrames_any (aa ab : Option Addr) (xs ys : List Frm) (ca cb : Nat) (w : World) (ha : RecIn w aa xs) (hb : RecIn w ab ys) :
    Calls Tryz.prog 44 #[.slice aa xs.length ca, .slice ab ys.length cb] w fun e w' => e = .returned (.bool (decide (xs.map frm = ys.map frm))) ∧ Below w.heap.size w w' := by
  have hla := ha.len
  have hlb := hb.len
  by_cases hlen : xs.length = ys.length
  · have h1 : ((xs.length : Int) != ys.length) = false := by simp [hlen]
    have HL := Lib.hid hlen; clear hlen
    have HA := Lib.hid ha; have HB := Lib.hid hb; clear ha hb
    go_enter Tryz.func44, Tryz.ntmps44
    go_wp2
    go_loopw [5] (fun i wr => ∃ k : Nat, k ≤ xs.length ∧ i = .int .i64 k ∧ (xs.map frm).take k = (ys.map frm).take k ∧ Below w.heap.size w wr) (fun i _ => xs.length - (intOf i).toNat)
    case atStart => exact ⟨0, Nat.zero_le _, rfl, rfl, Below.refl _ _⟩
    case round =>
      obtain ⟨k, hk, rfl, heq, hbe⟩ := hrel
      have HQ := Lib.hid heq; clear heq
      by_cases hlt : k < xs.length
      · have hlt2 : k < ys.length := by have := HL.out; omega
        obtain ⟨x, hx⟩ := get_of_lt hlt
        obtain ⟨y, hy⟩ := get_of_lt hlt2
        obtain ⟨b, off, rfl⟩ := HA.out.cells.addr (frs_ne (by omega))
        obtain ⟨b2, off2, rfl⟩ := HB.out.cells.addr (frs_ne (by omega))
        have c1 := cell_keep (HA.out.cells.at (frs_get hx).1) hbe (Nat.le_refl _)
        have c2 := cell_keep (HA.out.cells.at (frs_get hx).2) hbe (Nat.le_refl _)
        have c3 := cell_keep (HB.out.cells.at (frs_get hy).1) hbe (Nat.le_refl _)
        have c4 := cell_keep (HB.out.cells.at (frs_get hy).2) hbe (Nat.le_refl _)
        rw [← Nat.add_assoc] at c2 c4
        have i1 : (k : Int) < xs.length := by omega
        have i2 : (k : Int) < ys.length := by omega
        have i3 : (0 : Int) ≤ k := by omega
        have hsi := sameFrame_any x y wr.drew ((HA.out.rows x (List.mem_of_getElem? hx)).below hbe.drew (Nat.le_refl _)) ((HB.out.rows y (List.mem_of_getElem? hy)).below hbe.drew (Nat.le_refl _))
        have HSI := Lib.hid hsi
        have hz := hbe.size
        have HXS := Lib.hid hx; have HYS := Lib.hid hy
        have HBE := Lib.hid hbe
        clear hsi hx hy hbe
        by_cases hxy : frm x = frm y
        · have ht : (xs.map frm).take (k + 1) = (ys.map frm).take (k + 1) := by
            rw [take_get (show (xs.map frm)[k]? = some (frm x) by simp [HXS.out]), take_get (show (ys.map frm)[k]? = some (frm y) by simp [HYS.out]), HQ.out, hxy]
          have HT := Lib.hid ht
          have hd : decide (frm x = frm y) = true := by rw [decide_eq_true_iff]; exact hxy
          rw [hd] at HSI
          clear ht hd hxy
          go_wp2_with fail
          go_region_held3 (fun w' => w'.cell? ⟨b, off + k * 2, none⟩ = some (.int .i64 x.st) ∧ w'.cell? ⟨b, off + k * 2 + 1, none⟩ = some (.slice x.a x.xss.length x.c) ∧ w'.cell? ⟨b2, off2 + k * 2, none⟩ = some (.int .i64 y.st) ∧ w'.cell? ⟨b2, off2 + k * 2 + 1, none⟩ = some (.slice y.a y.xss.length y.c))
            (first | exact ⟨c1, c2, c3, c4⟩ | exact ⟨cell_keep c1 hbz (Nat.le_refl _), cell_keep c2 hbz (Nat.le_refl _), cell_keep c3 hbz (Nat.le_refl _), cell_keep c4 hbz (Nat.le_refl _)⟩ | go_keep)
            (first | (go_at_call 41; refine HSI.out.mono ?_; rintro e w2 ⟨rfl, hb2⟩; have hbz : Below wr.heap.size wr w2 := ((Below.refl wr.heap.size wr).drew).trans hb2; clear hb2))
          all_goals
            have hbf := HBE.out.trans (hbz.mono hz)
            clear hbz c1 c2 c3 c4
            go_wp2
            go_roundw
            case rel => exact ⟨k + 1, by omega, by go_num, HT.out, hbf⟩
            case measure => simp [intOf]; omega
        · have hne : decide (xs.map frm = ys.map frm) = false := by
            rw [decide_eq_false_iff_not]; intro h
            have h1 : (xs.map frm)[k]? = some (frm x) := by simp [HXS.out]
            rw [h] at h1
            simp [HYS.out] at h1
            exact hxy h1.symm
          have HNE := Lib.hid hne
          have hd : decide (frm x = frm y) = false := by rw [decide_eq_false_iff_not]; exact hxy
          rw [hd] at HSI
          clear hne hd hxy
          go_wp2_with fail
          go_region_held3 (fun w' => w'.cell? ⟨b, off + k * 2, none⟩ = some (.int .i64 x.st) ∧ w'.cell? ⟨b, off + k * 2 + 1, none⟩ = some (.slice x.a x.xss.length x.c) ∧ w'.cell? ⟨b2, off2 + k * 2, none⟩ = some (.int .i64 y.st) ∧ w'.cell? ⟨b2, off2 + k * 2 + 1, none⟩ = some (.slice y.a y.xss.length y.c))
            (first | exact ⟨c1, c2, c3, c4⟩ | exact ⟨cell_keep c1 hbz (Nat.le_refl _), cell_keep c2 hbz (Nat.le_refl _), cell_keep c3 hbz (Nat.le_refl _), cell_keep c4 hbz (Nat.le_refl _)⟩ | go_keep)
            (first | (go_at_call 41; refine HSI.out.mono ?_; rintro e w2 ⟨rfl, hb2⟩; have hbz : Below wr.heap.size wr w2 := ((Below.refl wr.heap.size wr).drew).trans hb2; clear hb2))
          all_goals
            have hbf := HBE.out.trans (hbz.mono hz)
            clear hbz c1 c2 c3 c4
            go_wp2
            go_ret
            exact ⟨ret_bool HNE.out.symm, hbf⟩
      · obtain rfl : k = xs.length := by omega
        have he : decide (xs.map frm = ys.map frm) = true := by
          rw [decide_eq_true_iff]
          have := HQ.out
          rw [List.take_of_length_le (by simp), List.take_of_length_le (by simp; have := HL.out; omega)] at this; exact this
        have HE := Lib.hid he; clear he
        go_wp2
        go_ret
        exact ⟨ret_bool HE.out.symm, hbe⟩
  · have h1 : ((xs.length : Int) != ys.length) = true := by simp; omega
    have he : decide (xs.map frm = ys.map frm) = false := by
      rw [decide_eq_false_iff_not]; intro h
      have := congrArg List.length h
      simp at this; exact hlen this
    have HE := Lib.hid he; clear he
    go_enter Tryz.func44, Tryz.ntmps44
    go_wp2
    go_ret
    exact ⟨ret_bool HE.out.symm, Below.refl _ _⟩
end Go.Proofs.YtoochleabcjljaaGreatDoor

/- RecordSeconds: the plain law: gaps and frames make up all seconds. -/
namespace Go.Proofs.YtoochleabcjljaaGreatDoor
open Go.RowKit

/-- is a second in one of the spans? is it that of a frame? -/
def mis (ss : List (Int × Int)) (s : Int) : Bool := ss.any fun p => decide (p.1 ≤ s) && decide (s < p.2)
def occ (l : List Frm) (s : Int) : Bool := l.any fun f => decide (f.st = s)
theorem mis_snoc (ss : List (Int × Int)) (a b s : Int) : mis (ss ++ [(a, b)]) s = (mis ss s || (decide (a ≤ s) && decide (s < b))) := by simp [mis]
theorem occ_snoc (l : List Frm) (f : Frm) (s : Int) : occ (l ++ [f]) s = (occ l s || decide (f.st = s)) := by simp [occ]
def Inc (l : List Frm) : Prop := l.Pairwise fun a b => a.st < b.st
/-- where the last span ends -/
def lastOf (fr : Int) (ss : List (Int × Int)) (i : Nat) : Int := if i = 0 then fr - 1 else (ss.getD (i - 1) (0, 0)).2

structure GapI (fr tt at_ : Int) (ss : List (Int × Int)) (l : List Frm) : Prop where
  lo : fr ≤ at_
  hi : at_ ≤ tt
  from_ : at_ = fr ∨ ∃ g ∈ l, at_ = g.st + 1
  below : ∀ f ∈ l, fr ≤ f.st → f.st < tt → f.st < at_
  mis : ∀ s, mis ss s = true ↔ fr ≤ s ∧ s < at_ ∧ occ l s = false
  chain : ∀ i p, ss[i]? = some p → lastOf fr ss i < p.1 ∧ p.1 < p.2 ∧ p.2 < at_

theorem occ_true {l : List Frm} {s : Int} (h : occ l s = true) : ∃ f ∈ l, f.st = s := by
  obtain ⟨f, hf, h⟩ := List.any_eq_true.1 h
  exact ⟨f, hf, by simpa using h⟩
theorem occ_false {l : List Frm} {s : Int} (h : ∀ f ∈ l, f.st ≠ s) : occ l s = false := by
  rw [occ, List.any_eq_false]
  intro f hf; simpa using h f hf

theorem lastOf_lt {fr at_ : Int} {ss : List (Int × Int)} (h1 : fr ≤ at_) (h : ∀ i p, ss[i]? = some p → lastOf fr ss i < p.1 ∧ p.1 < p.2 ∧ p.2 < at_) : lastOf fr ss ss.length < at_ := by
  unfold lastOf
  split
  · omega
  · rename_i h0
    obtain ⟨p, hp⟩ := get_of_lt (show ss.length - 1 < ss.length by omega)
    rw [List.getD_eq_getElem?_getD, hp]
    exact (h _ p hp).2.2
theorem lastOf_snoc {fr : Int} {ss : List (Int × Int)} {q : Int × Int} {i : Nat} (hi : i ≤ ss.length) : lastOf fr (ss ++ [q]) i = lastOf fr ss i := by
  unfold lastOf
  split
  · rfl
  · rw [List.getD_eq_getElem?_getD, List.getD_eq_getElem?_getD, List.getElem?_append_left (by omega)]

/-- the chain and the spans after one more end -/
theorem chain_add {fr at_ e : Int} {ss : List (Int × Int)} (h1 : fr ≤ at_) (h : ∀ i p, ss[i]? = some p → lastOf fr ss i < p.1 ∧ p.1 < p.2 ∧ p.2 < at_) (he : at_ ≤ e) (hb : Int) (hbe : e < hb) :
    ∀ i p, (addS at_ ss e)[i]? = some p → lastOf fr (addS at_ ss e) i < p.1 ∧ p.1 < p.2 ∧ p.2 < hb := by
  intro i p hp
  unfold addS at hp ⊢
  split at hp
  · rename_i hlt
    rw [if_pos hlt]
    rcases Nat.lt_trichotomy i ss.length with hi | hi | hi
    · rw [List.getElem?_append_left hi] at hp
      have := h i p hp
      rw [lastOf_snoc (by omega)]
      omega
    · subst hi
      rw [List.getElem?_append_right (Nat.le_refl _), Nat.sub_self] at hp
      simp at hp
      subst hp
      have := lastOf_lt h1 h
      rw [lastOf_snoc (Nat.le_refl _)]
      simp only
      omega
    · rw [List.getElem?_eq_none (by simp; omega)] at hp
      simp at hp
  · rename_i hlt
    rw [if_neg hlt]
    have := h i p hp
    omega
theorem mis_add {at_ e : Int} {ss : List (Int × Int)} {s : Int} : mis (addS at_ ss e) s = true ↔ mis ss s = true ∨ (at_ ≤ s ∧ s < e) := by
  unfold addS
  split
  · rw [mis_snoc]; simp
  · constructor
    · exact .inl
    · rintro (h | h)
      · exact h
      · omega

theorem gapI {fr tt : Int} (hft : fr ≤ tt) (l : List Frm) (hl : Inc l) : GapI fr tt (gapsTo fr tt l).1 (gapsTo fr tt l).2 l := by
  suffices ∀ n (l : List Frm), l.length = n → Inc l → GapI fr tt (gapsTo fr tt l).1 (gapsTo fr tt l).2 l from this _ l rfl hl
  intro n
  induction n with
  | zero =>
    intro l h _
    rw [List.length_eq_zero_iff.1 h]
    refine ⟨Int.le_refl _, hft, .inl rfl, by simp, fun s => ?_, by simp [gapsTo]⟩
    simp [gapsTo, mis]; omega
  | succ n ih =>
    intro l hl hi
    obtain ⟨l', f, rfl⟩ : ∃ l' f, l = l' ++ [f] := by
      rcases List.eq_nil_or_concat l with rfl | ⟨l', b, rfl⟩
      · simp at hl
      · exact ⟨l', b, by simp⟩
    simp at hl
    obtain ⟨hi1, _, hi2⟩ := List.pairwise_append.1 hi
    have h := ih l' hl hi1
    have hlt : ∀ g ∈ l', g.st < f.st := fun g hg => hi2 g hg f (by simp)
    rw [gapsTo_snoc]
    generalize hat : (gapsTo fr tt l').1 = at_ at *
    generalize hss : (gapsTo fr tt l').2 = ss at *
    have hgs : gapStep fr tt (gapsTo fr tt l') f = if fr ≤ f.st ∧ f.st < tt then (f.st + 1, addS at_ ss f.st) else (at_, ss) := by
      rw [gapStep, hat, hss]
      split
      · rfl
      · rw [← hat, ← hss]
    rw [hgs]
    split
    · rename_i hin
      have hge : at_ ≤ f.st := by
        rcases h.from_ with h0 | ⟨g, hg, h0⟩
        · omega
        · have := hlt g hg; omega
      refine ⟨by simp only; omega, by simp only; omega, .inr ⟨f, by simp, rfl⟩, fun g hg h1 h2 => ?_, fun s => ?_, ?_⟩
      · rcases List.mem_append.1 hg with hg | hg
        · have := hlt g hg; simp only; omega
        · simp at hg; subst hg; simp only; omega
      · simp only
        rw [mis_add, h.mis, occ_snoc, Bool.or_eq_false_iff, decide_eq_false_iff_not]
        constructor
        · rintro (⟨a1, a2, a3⟩ | ⟨a1, a2⟩)
          · exact ⟨a1, by omega, a3, by omega⟩
          · refine ⟨by have := h.lo; omega, by omega, occ_false fun g hg hgs => ?_, by omega⟩
            have := h.below g hg (by have := h.lo; omega) (by omega)
            omega
        · rintro ⟨a1, a2, a3, a4⟩
          by_cases hs : s < at_
          · exact .inl ⟨a1, hs, a3⟩
          · exact .inr ⟨by omega, by omega⟩
      · exact chain_add h.lo h.chain hge (f.st + 1) (by omega)
    · rename_i hin
      refine ⟨h.lo, h.hi, ?_, fun g hg h1 h2 => ?_, fun s => ?_, h.chain⟩
      · rcases h.from_ with h0 | ⟨g, hg, h0⟩
        · exact .inl h0
        · exact .inr ⟨g, by simp [hg], h0⟩
      · rcases List.mem_append.1 hg with hg | hg
        · exact h.below g hg h1 h2
        · simp at hg; subst hg; omega
      · simp only
        rw [h.mis, occ_snoc, Bool.or_eq_false_iff, decide_eq_false_iff_not]
        constructor
        · rintro ⟨a1, a2, a3⟩; exact ⟨a1, a2, a3, by have := h.hi; omega⟩
        · rintro ⟨a1, a2, a3, _⟩; exact ⟨a1, a2, a3⟩

theorem upTo_inc {l : List Frm} (h : upTo l l.length = true) : Inc l := by
  have key : ∀ n, n ≤ l.length → upTo l n = true → Inc (l.take n) ∧ ∀ f ∈ l.take n, n = 0 ∨ f.st ≤ (l.getD (n - 1) ⟨0, none, 0, []⟩).st := by
    intro n
    induction n with
    | zero => intro _ _; exact ⟨by simp [Inc], by simp⟩
    | succ n ih =>
      intro hn hu
      simp only [upTo, Bool.and_eq_true, Bool.or_eq_true, decide_eq_true_eq] at hu
      obtain ⟨h1, h2⟩ := ih (by omega) hu.1
      obtain ⟨x, hx⟩ := get_of_lt (show n < l.length by omega)
      have hxd : l.getD n ⟨0, none, 0, []⟩ = x := by rw [List.getD_eq_getElem?_getD, hx]; rfl
      rw [take_get hx, Nat.add_sub_cancel, hxd]
      have hlt : ∀ g ∈ l.take n, g.st < x.st := by
        intro g hg
        rcases h2 g hg with h0 | h0
        · subst h0; simp at hg
        · rcases hu.2 with h3 | h3
          · subst h3; simp at hg
          · rw [hxd] at h3; omega
      refine ⟨List.pairwise_append.2 ⟨h1, by simp, fun a ha b hb => by simp at hb; subst hb; exact hlt a ha⟩, fun f hf => .inr ?_⟩
      rcases List.mem_append.1 hf with hf | hf
      · have := hlt f hf; omega
      · simp at hf; subst hf; exact Int.le_refl _
  have := (key l.length (Nat.le_refl _) h).1
  rwa [List.take_length] at this

/-- all gaps: what is missing, and their order -/
theorem gaps_all {fr tt : Int} (hft : fr ≤ tt) {l : List Frm} (hl : Inc l) :
    (∀ s, mis (gapsOf fr tt l) s = true ↔ fr ≤ s ∧ s < tt ∧ occ l s = false) ∧ ∀ i p, (gapsOf fr tt l)[i]? = some p → lastOf fr (gapsOf fr tt l) i < p.1 ∧ p.1 < p.2 ∧ p.2 ≤ tt ∧ fr ≤ p.1 := by
  have h := gapI hft l hl
  have hm : ∀ s, mis (gapsOf fr tt l) s = true ↔ fr ≤ s ∧ s < tt ∧ occ l s = false := by
    intro s
    rw [gapsOf, mis_add, h.mis]
    constructor
    · rintro (⟨a1, a2, a3⟩ | ⟨a1, a2⟩)
      · exact ⟨a1, by have := h.hi; omega, a3⟩
      · refine ⟨by have := h.lo; omega, a2, occ_false fun g hg hgs => ?_⟩
        have := h.below g hg (by have := h.lo; omega) (by omega)
        omega
    · rintro ⟨a1, a2, a3⟩
      by_cases hs : s < (gapsTo fr tt l).1
      · exact .inl ⟨a1, hs, a3⟩
      · exact .inr ⟨by omega, a2⟩
  refine ⟨hm, fun i p hp => ?_⟩
  have hc := chain_add h.lo h.chain h.hi (tt + 1) (by omega) i p hp
  refine ⟨hc.1, hc.2.1, by omega, ?_⟩
  have : mis (gapsOf fr tt l) p.1 = true := by
    rw [mis, List.any_eq_true]
    exact ⟨p, List.mem_of_getElem? hp, by simp; omega⟩
  exact ((hm p.1).1 this).1

/-- how many of the first n -/
def cntB (p : Nat → Bool) : Nat → Nat
  | 0 => 0
  | n + 1 => cntB p n + if p n then 1 else 0
theorem cntB_le (p : Nat → Bool) (n : Nat) : cntB p n ≤ n := by
  induction n with
  | zero => simp [cntB]
  | succ n ih => rw [cntB]; split <;> omega
theorem cntB_congr {p q : Nat → Bool} {n : Nat} (h : ∀ j, j < n → p j = q j) : cntB p n = cntB q n := by
  induction n with
  | zero => rfl
  | succ n ih => rw [cntB, cntB, ih fun j hj => h j (by omega), h n (by omega)]
theorem cntB_not (p : Nat → Bool) (n : Nat) : cntB p n + cntB (fun j => !p j) n = n := by
  induction n with
  | zero => rfl
  | succ n ih => rw [cntB, cntB]; cases p n <;> simp <;> omega
theorem cntB_or {p q : Nat → Bool} {n : Nat} (h : ∀ j, j < n → ¬ (p j = true ∧ q j = true)) : cntB (fun j => p j || q j) n = cntB p n + cntB q n := by
  induction n with
  | zero => rfl
  | succ n ih =>
    rw [cntB, cntB, cntB, ih fun j hj => h j (by omega)]
    have := h n (by omega)
    cases hp : p n <;> cases hq : q n <;> simp_all <;> omega
theorem cntB_one (fr st : Int) (n : Nat) : cntB (fun j => decide (st = fr + (j : Int))) n = if fr ≤ st ∧ st < fr + n then 1 else 0 := by
  induction n with
  | zero => rw [cntB, if_neg (by omega)]
  | succ n ih =>
    rw [cntB, ih]
    by_cases h1 : st = fr + n
    · rw [if_neg (by omega), if_pos (by simpa using h1), if_pos (by omega)]
    · by_cases h2 : fr ≤ st ∧ st < fr + n
      · rw [if_pos h2, if_neg (by simpa using h1), if_pos (by omega)]
      · rw [if_neg h2, if_neg (by simpa using h1), if_neg (by omega)]
theorem cntB_zero {p : Nat → Bool} {n : Nat} (h : cntB p n = 0) : ∀ j, j < n → p j = false := by
  induction n with
  | zero => intro j hj; omega
  | succ n ih =>
    intro j hj
    rw [cntB] at h
    by_cases hjn : j = n
    · subst hjn; cases hp : p j
      · rfl
      · rw [hp] at h; simp at h
    · exact ih (by omega) j (by omega)

theorem occ_count (fr : Int) (n : Nat) (l : List Frm) (hl : Inc l) : cntB (fun j => occ l (fr + (j : Int))) n = cntOf fr (fr + n) l := by
  suffices ∀ m (l : List Frm), l.length = m → Inc l → cntB (fun j => occ l (fr + (j : Int))) n = cntOf fr (fr + n) l from this _ l rfl hl
  intro m
  induction m with
  | zero =>
    intro l h _
    rw [List.length_eq_zero_iff.1 h]
    have : ∀ n, cntB (fun j => occ [] (fr + (j : Int))) n = 0 := by
      intro n; induction n with
      | zero => rfl
      | succ n ih => rw [cntB, ih]; simp [occ]
    rw [this]; simp [cntOf]
  | succ m ih =>
    intro l hl hi
    obtain ⟨l', f, rfl⟩ : ∃ l' f, l = l' ++ [f] := by
      rcases List.eq_nil_or_concat l with rfl | ⟨l', b, rfl⟩
      · simp at hl
      · exact ⟨l', b, by simp⟩
    simp at hl
    obtain ⟨hi1, _, hi2⟩ := List.pairwise_append.1 hi
    rw [cntOf_snoc, ← ih l' hl hi1]
    simp only [occ_snoc]
    rw [cntB_or fun j _ ⟨h1, h2⟩ => by
      obtain ⟨g, hg, hgs⟩ := occ_true h1
      have := hi2 g hg f (by simp)
      simp at h2; omega, cntB_one]
    simp [inF]

/-- gaps and frames make up all seconds -/
theorem seconds_count {fr tt : Int} (hft : fr ≤ tt) {l : List Frm} (hl : Inc l) : cntOf fr tt l + cntB (fun j => mis (gapsOf fr tt l) (fr + (j : Int))) (tt - fr).toNat = (tt - fr).toNat := by
  have h1 := occ_count fr (tt - fr).toNat l hl
  have e : fr + ((tt - fr).toNat : Int) = tt := by omega
  rw [e] at h1
  rw [← h1]
  have h2 := cntB_not (fun j => occ l (fr + (j : Int))) (tt - fr).toNat
  have h3 : cntB (fun j => mis (gapsOf fr tt l) (fr + (j : Int))) (tt - fr).toNat = cntB (fun j => !occ l (fr + (j : Int))) (tt - fr).toNat := by
    refine cntB_congr fun j hj => ?_
    rw [Bool.eq_iff_iff, (gaps_all hft hl).1]
    simp only [Bool.not_eq_true']
    exact ⟨fun h => h.2.2, fun h => ⟨by omega, by omega, h⟩⟩
  rw [h3]; exact h2
/-- nothing is missing just where there is no gap -/
theorem no_gap {fr tt : Int} (hft : fr ≤ tt) {l : List Frm} (hl : Inc l) : ((cntOf fr tt l : Int) = tt - fr) ↔ (gapsOf fr tt l).length = 0 := by
  have hs := seconds_count hft hl
  constructor
  · intro h
    have h0 : cntB (fun j => mis (gapsOf fr tt l) (fr + (j : Int))) (tt - fr).toNat = 0 := by omega
    rcases Nat.eq_zero_or_pos (gapsOf fr tt l).length with h1 | h1
    · exact h1
    · obtain ⟨p, hp⟩ := get_of_lt h1
      obtain ⟨_, c2, c3, c4⟩ := (gaps_all hft hl).2 0 p hp
      have := cntB_zero h0 (p.1 - fr).toNat (by omega)
      rw [show fr + ((p.1 - fr).toNat : Int) = p.1 by omega] at this
      rw [mis, List.any_eq_false] at this
      have := this p (List.mem_of_getElem? hp)
      simp at this; omega
  · intro h
    have h1 : gapsOf fr tt l = [] := List.length_eq_zero_iff.1 h
    rw [h1] at hs
    have : ∀ n, cntB (fun j => mis [] (fr + (j : Int))) n = 0 := by
      intro n; induction n with
      | zero => rfl
      | succ n ih => rw [cntB, ih]; simp [mis]
    rw [this] at hs
    omega
end Go.Proofs.YtoochleabcjljaaGreatDoor
