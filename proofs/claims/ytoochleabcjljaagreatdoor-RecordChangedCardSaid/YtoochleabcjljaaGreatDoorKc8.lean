/- Parts of a proof, in build order: N7, N8, B3, F3, F4, T4, T5, S0. -/
import Derived.Test.YtoochleabcjljaaGreatDoorKc7
import Derived.Laws.IdiomStrings

/- The texts of small numbers. -/
namespace Go.Proofs.YtoochleabcjljaaGreatDoor
open Go.RowKit

set_option maxRecDepth 100000 in
set_option maxHeartbeats 1000000 in
theorem natText_dig (v : Value) (n : Nat) (w : World) (hv : NatV w v n) (h : n < 10) :
    Calls Tryz.prog 223 #[v] w fun e w' => e = .returned (.string (digB n)) ∧ Below w.heap.size w w' := by
  by_cases h0 : n = 0
  · subst h0
    obtain ⟨a, c, rfl⟩ := hv.cases
    have hl0 : (dig 0).length = 0 := by rw [dig_zero]; rfl
    rw [hl0]
    clear hv hl0
    go_enter Tryz.func223, Tryz.ntmps223
    go_wp2
    go_ret
    exact ⟨rfl, Below.refl _ _⟩
  · obtain ⟨a, c, rfl, hc, _⟩ := hv
    rw [dig_one h0 (by simp only [B]; omega)] at hc ⊢
    obtain ⟨b, off, rfl⟩ := hc.addr (by simp [dgs])
    have c0 : w.cell? ⟨b, off, none⟩ = some (.int .u64 (n : Nat)) := hc.at (j := 0) rfl
    clear hc
    have hbu : Lib.IsBuilder 283 5 w.heap.size w.heap.size [] (w.alloc (.cells #[.pointer none, .slice none 0 0] 283)) :=
      .inl ⟨Nat.le_refl _, .slice none 0 0, heap_alloc_new w _, World.ownsRow_nil _ _ _ _, by simp [Value.ownBlock]⟩
    have HBU := Lib.hid hbu; clear hbu
    have c1 := cell_keep c0 ((Below.refl _ _).alloc (Nat.le_refl _) (.cells #[.pointer none, .slice none 0 0] 283)) (Nat.le_refl _)
    go_enter Tryz.func223, Tryz.ntmps223
    go_wp2_with fail
    refine (fmtU_dig n _ h).mono ?_
    rintro e w1 ⟨rfl, rfl⟩
    go_wp2_with fail
    refine (writeString_any w.heap.size w.heap.size [] (digB n) _ HBU.out (by show (0 : Nat) + 1 ≤ _; omega) (by simp)).mono ?_
    rintro e w1 ⟨rfl, h1, hb1⟩
    have H1 := Lib.hid h1; clear h1
    go_wp2
    refine wp_loop_rounds 1 ?_
    rw [rounds_succ]
    go_wp2_with fail
    refine (Tryz.Builder_String w.heap.size w.heap.size (digB n).data.toList _ (.inr H1.out) (by simp [digB])).mono ?_
    rintro e w2 ⟨rfl, hb2⟩
    go_wp2
    go_ret
    exact ⟨rfl, (((Below.refl _ _).alloc (Nat.le_refl _) _).trans hb1).trans hb2⟩

/-- the text of a small rational number -/
def ratB (s : Bool) (n d : Nat) : ByteArray := (if s then ⟨#[45]⟩ else ⟨#[]⟩) ++ digB n ++ (if d = 1 then ⟨#[]⟩ else ⟨#[47]⟩ ++ digB d)

set_option maxRecDepth 100000 in
set_option maxHeartbeats 1000000 in
theorem ratText_dig (v : Value) (n d : Nat) (w : World) (hv : RatV w v false n d) (h : n < 10) (h2 : d < 10) (h3 : 2 ≤ d) :
    Calls Tryz.prog 187 #[v] w fun e w' => e = .returned (.string (digB n ++ (⟨#[47]⟩ ++ digB d))) ∧ Below w.heap.size w w' := by
  obtain ⟨vn, vd, rfl, hn, hd⟩ := hv
  have HN := Lib.hid hn; have HD := Lib.hid hd
  obtain ⟨an, cn, rfl⟩ := hn.cases
  obtain ⟨ad, cd, rfl, hdc, _⟩ := hd
  have hd1 := dig_one (show d ≠ 0 by omega) (show d < B by simp only [B]; omega)
  rw [hd1] at hdc HD ⊢
  obtain ⟨b, off, rfl⟩ := hdc.addr (by simp [dgs])
  have HDC := Lib.hid hdc
  have h3' : (1 : Int) < (d : Nat) := by omega
  have hs1 : (digB n).size = 1 := rfl
  have hs2 : (digB d).size = 1 := rfl
  clear hn hdc hd1
  go_enter Tryz.func187, Tryz.ntmps187
  go_wp2_with fail
  refine (natText_dig _ n _ (HN.out.below ((Below.refl _ _).alloc (Nat.le_refl _) _) (Nat.le_refl _)) h).mono ?_
  rintro e w1 ⟨rfl, hb1⟩
  have q0 : w1.cell? ⟨w.heap.size, 0, none⟩ = some (.bool false) := box_keep hb1 (by simp) 0
  have q1 : w1.cell? ⟨w.heap.size, 1, none⟩ = some (.slice an (dig n).length cn) := box_keep hb1 (by simp) 1
  have q2 : w1.cell? ⟨w.heap.size, 2, none⟩ = some (.slice (some ⟨b, off, none⟩) 1 cd) := box_keep hb1 (by simp) 2
  have hbw : Below w.heap.size w w1 := ((Below.refl _ _).alloc (Nat.le_refl _) _).trans (hb1.mono (by simp))
  have c0 : w1.cell? ⟨b, off, none⟩ = some (.int .u64 (d : Nat)) := (HDC.out.below hbw (Nat.le_refl _)).at (j := 0) rfl
  go_wp2_with fail
  refine (natText_dig _ d _ (HD.out.below hbw (Nat.le_refl _)) h2).mono ?_
  rintro e w2 ⟨rfl, hb2⟩
  go_wp2
  go_ret
  exact ⟨rfl, hbw.trans (hb2.mono hbw.size)⟩

theorem zero_any (v : Value) (s : Bool) (n d : Nat) (w : World) (hv : RatV w v s n d) :
    Calls Tryz.prog 188 #[v] w fun e w' => e = .returned (.bool (decide (n = 0))) ∧ Below w.heap.size w w' := by
  obtain ⟨vn, vd, rfl, hn, hd⟩ := hv
  obtain ⟨an, cn, rfl⟩ := hn.cases
  obtain ⟨ad, cd, rfl⟩ := hd.cases
  have hl : decide (n = 0) = (((dig n).length : Int) == 0) := by
    rw [Bool.eq_iff_iff, decide_eq_true_iff, beq_iff_eq, ← dig_len_pos]; omega
  have HL := Lib.hid hl; clear hl hn hd
  go_enter Tryz.func188, Tryz.ntmps188
  go_wp2
  go_ret
  exact ⟨ret_bool HL.out.symm, (Below.refl _ _).alloc (Nat.le_refl _) _⟩
end Go.Proofs.YtoochleabcjljaaGreatDoor

/- num.Of of small positive numbers. -/
namespace Go.Proofs.YtoochleabcjljaaGreatDoor
open Go.RowKit

theorem isReal_any (v : Value) (s1 s2 : Bool) (n1 d1 n2 d2 : Nat) (w : World) (hv : ValV w v s1 n1 d1 s2 n2 d2) :
    Calls Tryz.prog 146 #[v] w fun e w' => e = .returned (.bool (decide (n2 = 0))) ∧ Below w.heap.size w w' := by
  obtain ⟨va, vb, vc, vd, rfl, ha, hb, hc, hd⟩ := hv
  obtain ⟨aa, ca, rfl⟩ := ha.cases
  obtain ⟨ab, cb, rfl⟩ := hb.cases
  have HC := Lib.hid hc; have HD := Lib.hid hd
  obtain ⟨ac, cc, rfl⟩ := hc.cases
  obtain ⟨ad, cd, rfl⟩ := hd.cases
  clear ha hb hc hd
  go_enter Tryz.func146, Tryz.ntmps146
  go_wp2_with fail
  refine (zero_any _ s2 n2 d2 _ ⟨_, _, rfl, HC.out.below ((Below.refl _ _).alloc (Nat.le_refl _) _) (Nat.le_refl _), HD.out.below ((Below.refl _ _).alloc (Nat.le_refl _) _) (Nat.le_refl _)⟩).mono ?_
  rintro e w1 ⟨rfl, hb1⟩
  go_wp2
  go_ret
  exact ⟨rfl, ((Below.refl _ _).alloc (Nat.le_refl _) _).trans (hb1.mono (by simp))⟩

set_option maxRecDepth 100000 in
theorem valText_dig (v : Value) (n d : Nat) (s2 : Bool) (d2 : Nat) (w : World) (hv : ValV w v false n d s2 0 d2) (h : n < 10) (h2 : d < 10) (h3 : 2 ≤ d) :
    Calls Tryz.prog 139 #[v] w fun e w' => e = .returned (.string (digB n ++ (⟨#[47]⟩ ++ digB d))) ∧ Below w.heap.size w w' := by
  have HV := Lib.hid hv
  obtain ⟨va, vb, vc, vd, rfl, ha, hb, hc, hd⟩ := hv
  have HA := Lib.hid ha; have HB := Lib.hid hb
  obtain ⟨aa, ca, rfl⟩ := ha.cases
  obtain ⟨ab, cb, rfl⟩ := hb.cases
  obtain ⟨ac, cc, rfl⟩ := hc.cases
  obtain ⟨ad, cd, rfl⟩ := hd.cases
  clear ha hb hc hd
  go_enter Tryz.func139, Tryz.ntmps139
  go_wp2_with fail
  refine (isReal_any _ false s2 n d 0 d2 _ (HV.out.below ((Below.refl _ _).alloc (Nat.le_refl _) _) (Nat.le_refl _))).mono ?_
  rintro e w1 ⟨rfl, hb1⟩
  have hbw : Below w.heap.size w w1 := ((Below.refl _ _).alloc (Nat.le_refl _) _).trans (hb1.mono (by simp))
  have q0 : w1.cell? ⟨w.heap.size, 0, none⟩ = some (.bool false) := box_keep hb1 (by simp) 0
  have q1 : w1.cell? ⟨w.heap.size, 1, none⟩ = some (.slice aa (dig n).length ca) := box_keep hb1 (by simp) 1
  have q2 : w1.cell? ⟨w.heap.size, 2, none⟩ = some (.slice ab (dig d).length cb) := box_keep hb1 (by simp) 2
  go_wp2_with fail
  refine (ratText_dig _ n d _ ⟨_, _, rfl, HA.out.below hbw (Nat.le_refl _), HB.out.below hbw (Nat.le_refl _)⟩ h h2 h3).mono ?_
  rintro e w2 ⟨rfl, hb2⟩
  go_wp2
  go_ret
  exact ⟨rfl, hbw.trans (hb2.mono hbw.size)⟩

set_option maxRecDepth 100000 in
theorem put_dig (v : Value) (n d : Nat) (s2 : Bool) (d2 : Nat) (w : World) (hv : ValV w v false n d s2 0 d2) (h : n < 10) (h2 : d < 10) (h3 : 2 ≤ d) (h4 : d2 < 10) :
    Calls Tryz.prog 89 #[v] w fun e w' => e = .returned (.tuple #[.string (digB n ++ (⟨#[47]⟩ ++ digB d)), .int .i64 0]) ∧ Below w.heap.size w w' := by
  have HV := Lib.hid hv
  obtain ⟨va, vb, vc, vd, rfl, ha, hb, hc, hd⟩ := hv
  have HA := Lib.hid ha; have HB := Lib.hid hb; have HC := Lib.hid hc; have HD := Lib.hid hd
  obtain ⟨aa, ca, rfl⟩ := ha.cases
  obtain ⟨ab, cb, rfl⟩ := hb.cases
  obtain ⟨ac, cc, rfl⟩ := hc.cases
  obtain ⟨ad, cd, rfl⟩ := hd.cases
  clear ha hb hc hd
  go_enter Tryz.func89, Tryz.ntmps89
  go_wp2_with fail
  refine (big_dig _ false n d _ ⟨_, _, rfl, HA.out.below ((Below.refl _ _).alloc (Nat.le_refl _) _) (Nat.le_refl _), HB.out.below ((Below.refl _ _).alloc (Nat.le_refl _) _) (Nat.le_refl _)⟩ h h2).mono ?_
  rintro e w1 ⟨rfl, hb1⟩
  have hbw : Below w.heap.size w w1 := ((Below.refl _ _).alloc (Nat.le_refl _) _).trans (hb1.mono (by simp))
  have q3 : w1.cell? ⟨w.heap.size, 3, none⟩ = some (.bool s2) := box_keep hb1 (by simp) 3
  have q4 : w1.cell? ⟨w.heap.size, 4, none⟩ = some (.slice ac (dig 0).length cc) := box_keep hb1 (by simp) 4
  have q5 : w1.cell? ⟨w.heap.size, 5, none⟩ = some (.slice ad (dig d2).length cd) := box_keep hb1 (by simp) 5
  go_wp2_with fail
  refine (big_dig _ s2 0 d2 _ ⟨_, _, rfl, HC.out.below hbw (Nat.le_refl _), HD.out.below hbw (Nat.le_refl _)⟩ (by omega) h4).mono ?_
  rintro e w2 ⟨rfl, hb2⟩
  have hbx := hb1.trans (hb2.mono hb1.size)
  have hbw2 : Below w.heap.size w w2 := hbw.trans (hb2.mono hbw.size)
  clear q3 q4 q5
  have q0 : w2.cell? ⟨w.heap.size, 0, none⟩ = some (.bool false) := box_keep hbx (by simp) 0
  have q1 : w2.cell? ⟨w.heap.size, 1, none⟩ = some (.slice aa (dig n).length ca) := box_keep hbx (by simp) 1
  have q2 : w2.cell? ⟨w.heap.size, 2, none⟩ = some (.slice ab (dig d).length cb) := box_keep hbx (by simp) 2
  have q3 : w2.cell? ⟨w.heap.size, 3, none⟩ = some (.bool s2) := box_keep hbx (by simp) 3
  have q4 : w2.cell? ⟨w.heap.size, 4, none⟩ = some (.slice ac (dig 0).length cc) := box_keep hbx (by simp) 4
  have q5 : w2.cell? ⟨w.heap.size, 5, none⟩ = some (.slice ad (dig d2).length cd) := box_keep hbx (by simp) 5
  go_wp2_with fail
  refine (valText_dig _ n d s2 d2 _ (HV.out.below hbw2 (Nat.le_refl _)) h h2 h3).mono ?_
  rintro e w3 ⟨rfl, hb3⟩
  go_wp2
  go_ret2
  exact ⟨rfl, hbw2.trans (hb3.mono hbw2.size)⟩

set_option maxRecDepth 100000 in
theorem whole_pos (n : Nat) (w : World) (h : n < 9223372036854775808) :
    Calls Tryz.prog 88 #[.int .i64 (n : Nat)] w fun e w' => (∃ v, e = .returned v ∧ RatV w' v false n 1) ∧ Below w.heap.size w w' := by
  have h0 : (0 : Int) ≤ n := by omega
  have hn := fun wx => natural_any n wx (by omega)
  have HN := Lib.hid hn; clear hn
  have hle : (n : Int) ≤ 9223372036854775807 := by omega
  go_enter Tryz.func88, Tryz.ntmps88
  go_wp2_with fail
  refine (HN.out _).mono ?_
  rintro e w1 ⟨⟨a, c, rfl, hc, hc1, hc2⟩, hb1⟩
  have H1 : Hid (NatV w1 (.slice a (dig n).length c) n) := ⟨a, c, rfl, hc, hc1, hc2⟩
  clear hc
  have hbw : Below w.heap.size w w1 := ((Below.refl _ _).alloc (Nat.le_refl _) _).trans (hb1.mono (by simp))
  go_wp2_with fail
  refine (one_any _).mono ?_
  rintro e w2 ⟨⟨v1, rfl, h1⟩, hb2⟩
  have hbx := hb1.trans (hb2.mono hb1.size)
  have hbw2 : Below w.heap.size w w2 := hbw.trans (hb2.mono hbw.size)
  have H2 := Lib.hid (H1.out.below hb2 (Nat.le_refl _))
  have H3 := Lib.hid h1
  obtain ⟨a1, c1, hv1⟩ := h1.cases
  rw [dig_1] at hv1
  subst hv1
  clear h1
  have q0 : w2.cell? ⟨w.heap.size, 0, none⟩ = some (.bool false) := box_keep hbx (by simp) 0
  have q1 : w2.cell? ⟨w.heap.size, 1, none⟩ = some (.slice none 0 0) := box_keep hbx (by simp) 1
  have q2 : w2.cell? ⟨w.heap.size, 2, none⟩ = some (.slice none 0 0) := box_keep hbx (by simp) 2
  have f0 := box_free hbx (by simp) 0
  have f1 := box_free hbx (by simp) 1
  have f2 := box_free hbx (by simp) 2
  go_wp2
  refine bodyPost_ret (v := .agg #[.bool false, .slice a (dig n).length c, .slice a1 1 c1]) (by simp [results, Tryz.results88, go_sem, q0, q1, q2]) rfl ?_
  exact ⟨⟨_, rfl, _, _, rfl, H2.out.box3 q0 q1 q2 trivial trivial trivial, H3.out.box3 q0 q1 q2 trivial trivial trivial⟩, ((hbw2.setCell (Nat.le_refl _) _).setCell (Nat.le_refl _) _).setCell (Nat.le_refl _) _⟩

set_option maxRecDepth 100000 in
set_option maxHeartbeats 1000000 in
theorem of_dig (n d : Nat) (w : World) (hn : 0 < n) (hd0 : 0 < d) (hd : d < 1000000000) (hnn : n < 1000000000) (h : n / Nat.gcd n d < 10) (h2 : d / Nat.gcd n d < 10) (h3 : 2 ≤ d / Nat.gcd n d) :
    Calls Tryz.prog 48 #[.int .i64 (n : Nat), .int .i64 (d : Nat)] w fun e w' => e = .returned (.tuple #[.string (digB (n / Nat.gcd n d) ++ (⟨#[47]⟩ ++ digB (d / Nat.gcd n d))), .int .i64 0]) ∧ Below w.heap.size w w' := by
  have hl1 : (dig n).length ≤ 17592186044415 := by rw [dig_one (by omega) (by simp only [B]; omega)]; simp
  have hl2 : (dig d).length ≤ 17592186044415 := by rw [dig_one (by omega) (by simp only [B]; omega)]; simp
  have hne : ((d : Int) == 0) = false := by rw [beq_eq_false_iff_ne]; omega
  have hs : (false && decide (n ≠ 0)) = false := rfl
  have hred := fun va vb wx ha hb => reduced_any B overOK_small false va vb n d wx ha hb hl1 hl2 (by simp only [B]; omega) (by omega)
  have HR := Lib.hid hred; clear hred hs
  go_enter Tryz.func48, Tryz.ntmps48
  go_wp2_with fail
  refine (whole_pos n _ (by omega)).mono ?_
  rintro e w1 ⟨⟨v1, rfl, h1⟩, hb1⟩
  obtain ⟨v11, v12, rfl, h11, h12⟩ := h1
  go_wp2_with fail
  refine (whole_pos d _ (by omega)).mono ?_
  rintro e w2 ⟨⟨v2, rfl, hv2⟩, hb2⟩
  obtain ⟨v21, v22, rfl, h21, h22⟩ := hv2
  have hbw : Below w.heap.size w w2 := hb1.trans (hb2.mono hb1.size)
  have H11 := Lib.hid (h11.below hb2 (Nat.le_refl _))
  have H21 := Lib.hid h21
  obtain ⟨a11, c11, rfl⟩ := h11.cases
  obtain ⟨a12, c12, rfl⟩ := h12.cases
  obtain ⟨a21, c21, rfl⟩ := h21.cases
  obtain ⟨a22, c22, rfl⟩ := h22.cases
  clear h11 h12 h21 h22
  go_wp2_with fail
  refine (HR.out _ _ _ (H11.out.below (((Below.refl w2.heap.size _).alloc (Nat.le_refl _) _).alloc (by simp) _) (Nat.le_refl _)) (H21.out.below (((Below.refl w2.heap.size _).alloc (Nat.le_refl _) _).alloc (by simp) _) (Nat.le_refl _))).mono ?_
  rintro e w3 ⟨⟨v3, rfl, h3'⟩, hb3⟩
  have hbw3 : Below w.heap.size w w3 := ((hbw.alloc hbw.size _).alloc (by have := hbw.size; simp; omega) _).trans (hb3.mono (by have := hbw.size; simp; omega))
  have H3 := Lib.hid h3'
  obtain ⟨v31, v32, rfl, h31, h32⟩ := h3'
  clear h31 h32
  go_wp2_with fail
  refine (plain_any _ _ _ _ _ H3.out).mono ?_
  rintro e w4 ⟨⟨v4, rfl, h4⟩, hb4⟩
  have hbw4 : Below w.heap.size w w4 := hbw3.trans (hb4.mono hbw3.size)
  have H4 := Lib.hid h4; clear h4
  go_wp2_with fail
  refine (put_dig _ _ _ _ _ _ H4.out h h2 h3 (by omega)).mono ?_
  rintro e w5 ⟨rfl, hb5⟩
  go_wp2
  go_ret2
  exact ⟨rfl, hbw4.trans (hb5.mono hbw4.size)⟩
end Go.Proofs.YtoochleabcjljaaGreatDoor

/- Lines: Track, where the amplitude is a small fraction. -/
namespace Go.Proofs.YtoochleabcjljaaGreatDoor
open Go.RowKit

set_option maxRecDepth 100000 in
theorem track_dig (n d : Nat) (ao : Option Addr) (sh : List Int) (cap : Nat) (ax : Option Addr) (xs : List Int) (cx : Nat) (w : World) (hc : Cells w ao (sh.map (Value.int .i64))) (hx : Cells w ax (xs.map (Value.int .i64))) (he : linedErr sh xs = 0)
    (hn : ampN sh xs (whole sh xs) = (n : Nat)) (hd : ampD sh (whole sh xs) = (d : Nat)) (hn0 : 0 < n) (hd0 : 0 < d) (hd9 : d < 1000000000) (hn9 : n < 1000000000) (h : n / Nat.gcd n d < 10) (h2 : d / Nat.gcd n d < 10) (h3 : 2 ≤ d / Nat.gcd n d) :
    Calls Tryz.prog 18 #[.slice ao sh.length cap, .slice ax xs.length cx] w fun e w' => e = .returned (.tuple #[.string (digB (n / Nat.gcd n d) ++ (⟨#[47]⟩ ++ digB (d / Nat.gcd n d))), .int .i64 0]) ∧ Below w.heap.size w w' := by
  obtain ⟨l1, l2⟩ := linedErr_zero he
  have hsl := (lineErr_zero l1).2.1
  have hxl := (serErr_zero l2).1
  have hlin := fun wx h1 h2 => lined_any ao sh cap ax xs cx wx h1 (by omega) h2 (by omega)
  rw [he] at hlin
  have hamp := fun wx h1 h2 => amplitude_any ao sh cap ax xs cx wx h1 h2 he
  rw [hn, hd] at hamp
  have hof := fun wx => of_dig n d wx hn0 hd0 hd9 hn9 h h2 h3
  have hne : ((d : Int) == 0) = false := by rw [beq_eq_false_iff_ne]; omega
  have HC := Lib.hid hc; have HX := Lib.hid hx; have HL := Lib.hid hlin; have HA := Lib.hid hamp; have HO := Lib.hid hof
  clear hc hx he hn hd h h2 h3 hlin hamp hof l1 l2
  go_enter Tryz.func18, Tryz.ntmps18
  go_wp2_with fail
  refine (HL.out _ HC.out HX.out).mono ?_
  rintro e w1 ⟨rfl, hb1⟩
  go_wp2_with fail
  refine (HA.out _ (HC.out.below hb1 (Nat.le_refl _)) (HX.out.below hb1 (Nat.le_refl _))).mono ?_
  rintro e w2 ⟨rfl, rfl⟩
  go_wp2_with fail
  refine (HO.out _).mono ?_
  rintro e w2 ⟨rfl, hb2⟩
  go_wp2
  go_ret2
  exact ⟨rfl, hb1.trans (hb2.mono hb1.size)⟩
end Go.Proofs.YtoochleabcjljaaGreatDoor

/- Examples: what works asks holds. -/
namespace Go.Proofs.YtoochleabcjljaaGreatDoor
open Go.RowKit

theorem exCode : encRes bookX 1 [[0, 1, 1, 2], [-1]] = [165, 90, 0, 7, 0, 0, 0, 1, 64, 204, 2, 89, 2, 199] ∧ frmErr bookX 1 [[0, 1, 1, 2], [-1]] = 0 := by decide +kernel
theorem exStrain : strain [(3, 4), (-1, 1)] 1 [2, 5] = [(3, 4), (6, 11)] ∧ strErr [(3, 4), (-1, 1)] 1 [2, 5] = 0 := by decide +kernel
theorem exInject : injRes [1, -1] 3 [5, 1, 4, 2, 9] = [8, -2, 7, -1, 12] ∧ injErr [1, -1] 3 [5, 1, 4, 2, 9] = 0 := by decide +kernel
theorem exTrack : linedErr [1, -1] [5, 1, 4, 2, 9] = 0 ∧ ampN [1, -1] [5, 1, 4, 2, 9] (whole [1, -1] [5, 1, 4, 2, 9]) = (6 : Nat) ∧ ampD [1, -1] (whole [1, -1] [5, 1, 4, 2, 9]) = (4 : Nat) := by decide +kernel
theorem new_cells (w : World) (cs : List Value) (T : TypeId) : Cells (w.alloc (.cells cs.toArray T)) (some ⟨w.heap.size, 0, none⟩) cs := .inr ⟨_, _, rfl, fun j u hu => by rw [Nat.zero_add]; simpa using hu⟩

theorem one_row {w : World} {a : Option Addr} {xs : List Int} {c : Nat} (h : Cells w a (xs.map (Value.int .i64))) (hl : xs.length ≤ 9223372036854775807) : RowV w (.slice a xs.length c) xs := ⟨a, c, rfl, h, hl⟩
theorem two_rows {w : World} {v1 v2 : Value} {x1 x2 : List Int} (h1 : RowV w v1 x1) (h2 : RowV w v2 x2) : RowsV w [v1, v2] [x1, x2] := by
  refine ⟨rfl, fun i v xs hv hx => ?_⟩
  match i, hv, hx with
  | 0, hv, hx => simp at hv hx; subst hv hx; exact h1
  | 1, hv, hx => simp at hv hx; subst hv hx; exact h2
theorem conv_bytes {w : World} {b : Nat} {cap : Nat} (l : List UInt8) (h : Cells w (some ⟨b, 0, none⟩) (l.map fun d => Value.int .u8 (d.toNat : Int))) :
    (convert 48 9 (.slice (some ⟨b, 0, none⟩) l.length cap)).run Tryz.prog w = .ok (.string ⟨l.toArray⟩) w :=
  run_convert_bytes_back w _ _ 5 ⟨b, 0, none⟩ cap l Tryz.underlying48 Tryz.underlying5 Tryz.underlying9 (fun j hj => by
    have := h.at (j := j) (u := .int .u8 (l[j].toNat : Int)) (by simp [hj])
    rw [Addr.add_lit]; exact this)


theorem two_new (w : World) (c1 c2 : List Value) (T1 T2 : TypeId) : Cells ((w.alloc (.cells c1.toArray T1)).alloc (.cells c2.toArray T2)) (some ⟨w.heap.size, 0, none⟩) c1 ∧ Cells ((w.alloc (.cells c1.toArray T1)).alloc (.cells c2.toArray T2)) (some ⟨w.heap.size + 1, 0, none⟩) c2 := by
  constructor
  · exact (new_cells w c1 T1).below ((Below.refl _ _).alloc (Nat.le_refl _) _) (Nat.le_refl _)
  · have := new_cells (w.alloc (.cells c1.toArray T1)) c2 T2
    rwa [World.size_alloc] at this
theorem two_below (w : World) (o1 o2 : Obj) : Below w.heap.size w ((w.alloc o1).alloc o2) := ((Below.refl _ _).alloc (Nat.le_refl _) _).alloc (by simp) _

theorem ex_encode (w : World) :
    Calls Tryz.prog 30 #[.slice (some ⟨w.heap.size, 0, none⟩) 2 2, .agg #[.int .i64 1, .slice (some ⟨w.heap.size + 1 + 1 + 1, 0, none⟩) 2 2]]
      ((((w.alloc (.cells #[.string ⟨#[101, 114, 114]⟩, .int .i64 4, .int .i64 8, .string ⟨#[97, 117, 120]⟩, .int .i64 1, .int .i64 4] 106)).alloc (.cells #[.int .i64 0, .int .i64 1, .int .i64 1, .int .i64 2] 3)).alloc (.cells #[.int .i64 (-1)] 3)).alloc (.cells #[.slice (some ⟨w.heap.size + 1, 0, none⟩) 4 4, .slice (some ⟨w.heap.size + 1 + 1, 0, none⟩) 1 1] 22))
      fun e w' => (∃ b c, e = .returned (.tuple #[.slice (some ⟨b, 0, none⟩) 14 c, .int .i64 0]) ∧ Cells w' (some ⟨b, 0, none⟩) (bys [165, 90, 0, 7, 0, 0, 0, 1, 64, 204, 2, 89, 2, 199])) ∧ Below w.heap.size w w' := by
  obtain ⟨x1, x2⟩ := exCode
  have hb2 := two_below w (.cells #[.string ⟨#[101, 114, 114]⟩, .int .i64 4, .int .i64 8, .string ⟨#[97, 117, 120]⟩, .int .i64 1, .int .i64 4] 106) (.cells #[.int .i64 0, .int .i64 1, .int .i64 1, .int .i64 2] 3)
  obtain ⟨k1, k2⟩ := two_new w (chs bookX) ([0, 1, 1, 2].map (Value.int .i64)) 106 3
  have hs2 : ((w.alloc (.cells (chs bookX).toArray 106)).alloc (.cells ([0, 1, 1, 2].map (Value.int .i64)).toArray 3)).heap.size = w.heap.size + 1 + 1 := by simp
  change Below w.heap.size w ((w.alloc (.cells (chs bookX).toArray 106)).alloc (.cells ([0, 1, 1, 2].map (Value.int .i64)).toArray 3)) at hb2
  change Calls _ _ _ ((((w.alloc (.cells (chs bookX).toArray 106)).alloc (.cells ([0, 1, 1, 2].map (Value.int .i64)).toArray 3)).alloc (.cells ([-1].map (Value.int .i64)).toArray 3)).alloc (.cells [.slice (some ⟨w.heap.size + 1, 0, none⟩) 4 4, .slice (some ⟨w.heap.size + 1 + 1, 0, none⟩) 1 1].toArray 22)) _
  generalize ((w.alloc (.cells (chs bookX).toArray 106)).alloc (.cells ([0, 1, 1, 2].map (Value.int .i64)).toArray 3)) = W at *
  obtain ⟨k3, k4⟩ := two_new W ([-1].map (Value.int .i64)) [.slice (some ⟨w.heap.size + 1, 0, none⟩) 4 4, .slice (some ⟨w.heap.size + 1 + 1, 0, none⟩) 1 1] 3 22
  have hb4 := two_below W (.cells ([-1].map (Value.int .i64)).toArray 3) (.cells [.slice (some ⟨w.heap.size + 1, 0, none⟩) 4 4, .slice (some ⟨w.heap.size + 1 + 1, 0, none⟩) 1 1].toArray 22)
  generalize ((W.alloc (.cells ([-1].map (Value.int .i64)).toArray 3)).alloc (.cells [.slice (some ⟨w.heap.size + 1, 0, none⟩) 4 4, .slice (some ⟨w.heap.size + 1 + 1, 0, none⟩) 1 1].toArray 22)) = W2 at *
  rw [hs2] at k3 k4
  have q1 := k1.below hb4 (Nat.le_refl _)
  have q2 := k2.below hb4 (Nat.le_refl _)
  have h := Encode_any (some ⟨w.heap.size, 0, none⟩) bookX 2 1 (some ⟨w.heap.size + 1 + 1 + 1, 0, none⟩) [.slice (some ⟨w.heap.size + 1, 0, none⟩) 4 4, .slice (some ⟨w.heap.size + 1 + 1, 0, none⟩) 1 1] [[0, 1, 1, 2], [-1]] 2 W2 ⟨q1, by decide, by decide, by decide, by decide, by decide⟩ k4 (two_rows (one_row (xs := [0, 1, 1, 2]) q2 (by decide)) (one_row (xs := [-1]) k3 (by decide))) (by decide)
  rw [x1, x2] at h
  refine Calls.mono h ?_
  rintro e w' ⟨⟨v, rfl, hown⟩, hb⟩
  obtain ⟨g, c, rfl, _, _⟩ := hown.form (by decide)
  obtain ⟨a, c', h1, h2⟩ := own_cells hown
  simp only [Value.slice.injEq] at h1
  exact ⟨⟨g, c, rfl, by rw [h1.1]; exact h2⟩, hb2.trans ((hb4.mono hb2.size).trans (hb.mono (Nat.le_trans hb2.size hb4.size)))⟩

theorem ex_strain (w : World) :
    Calls Tryz.prog 64 #[.agg #[.slice (some ⟨w.heap.size, 0, none⟩) 2 2, .int .i64 1], .slice (some ⟨w.heap.size + 1, 0, none⟩) 2 2]
      ((w.alloc (.cells #[.int .i64 3, .int .i64 4, .int .i64 (-1), .int .i64 1] 99)).alloc (.cells #[.int .i64 2, .int .i64 5] 3))
      fun e w' => (∃ a c, e = .returned (.tuple #[.slice a 2 c, .int .i64 0]) ∧ Cells w' a (prs [(3, 4), (6, 11)])) ∧ Below w.heap.size w w' := by
  obtain ⟨x1, x2⟩ := exStrain
  obtain ⟨k1, k2⟩ := two_new w (prs [(3, 4), (-1, 1)]) ([2, 5].map (Value.int .i64)) 99 3
  have hb2 := two_below w (.cells (prs [(3, 4), (-1, 1)]).toArray 99) (.cells ([2, 5].map (Value.int .i64)).toArray 3)
  have h := strain_any (some ⟨w.heap.size, 0, none⟩) [(3, 4), (-1, 1)] 2 1 (some ⟨w.heap.size + 1, 0, none⟩) [2, 5] 2 _ k1 (by decide) k2 (by decide)
  rw [x1, x2] at h
  exact Calls.mono h fun e w' ⟨⟨a, c, h1, h2⟩, h3⟩ => ⟨⟨a, c, h1, h2⟩, hb2.trans (h3.mono hb2.size)⟩

theorem ex_track (w : World) :
    Calls Tryz.prog 18 #[.slice (some ⟨w.heap.size, 0, none⟩) 2 2, .slice (some ⟨w.heap.size + 1, 0, none⟩) 5 5]
      ((w.alloc (.cells #[.int .i64 1, .int .i64 (-1)] 3)).alloc (.cells #[.int .i64 5, .int .i64 1, .int .i64 4, .int .i64 2, .int .i64 9] 3))
      fun e w' => e = .returned (.tuple #[.string ⟨#[51, 47, 50]⟩, .int .i64 0]) ∧ Below w.heap.size w w' := by
  obtain ⟨x7, x8, x9⟩ := exTrack
  obtain ⟨k1, k2⟩ := two_new w ([1, -1].map (Value.int .i64)) ([5, 1, 4, 2, 9].map (Value.int .i64)) 3 3
  have hb2 := two_below w (.cells ([1, -1].map (Value.int .i64)).toArray 3) (.cells ([5, 1, 4, 2, 9].map (Value.int .i64)).toArray 3)
  have h := track_dig 6 4 (some ⟨w.heap.size, 0, none⟩) [1, -1] 2 (some ⟨w.heap.size + 1, 0, none⟩) [5, 1, 4, 2, 9] 5 _ k1 k2 x7 x8 x9 (by decide) (by decide) (by decide) (by decide) (by decide) (by decide) (by decide)
  have e1 : digB (6 / Nat.gcd 6 4) ++ (⟨#[47]⟩ ++ digB (4 / Nat.gcd 6 4)) = ⟨#[51, 47, 50]⟩ := by decide +kernel
  rw [e1] at h
  exact Calls.mono h fun e w' ⟨h1, h3⟩ => ⟨h1, hb2.trans (h3.mono hb2.size)⟩

theorem ex_inject (w : World) :
    Calls Tryz.prog 15 #[.slice (some ⟨w.heap.size, 0, none⟩) 2 2, .int .i64 3, .slice (some ⟨w.heap.size + 1, 0, none⟩) 5 5]
      ((w.alloc (.cells #[.int .i64 1, .int .i64 (-1)] 3)).alloc (.cells #[.int .i64 5, .int .i64 1, .int .i64 4, .int .i64 2, .int .i64 9] 3))
      fun e w' => (∃ a c, e = .returned (.tuple #[.slice a 5 c, .int .i64 0]) ∧ Cells w' a ([8, -2, 7, -1, 12].map (Value.int .i64))) ∧ Below w.heap.size w w' := by
  obtain ⟨x1, x2⟩ := exInject
  obtain ⟨k1, k2⟩ := two_new w ([1, -1].map (Value.int .i64)) ([5, 1, 4, 2, 9].map (Value.int .i64)) 3 3
  have hb2 := two_below w (.cells ([1, -1].map (Value.int .i64)).toArray 3) (.cells ([5, 1, 4, 2, 9].map (Value.int .i64)).toArray 3)
  have h := inject_any (some ⟨w.heap.size, 0, none⟩) [1, -1] 2 3 (some ⟨w.heap.size + 1, 0, none⟩) [5, 1, 4, 2, 9] 5 _ k1 (by decide) k2 (by decide)
  rw [x1, x2] at h
  exact Calls.mono h fun e w' ⟨⟨a, c, h1, h2⟩, h3⟩ => ⟨⟨a, c, h1, h2⟩, hb2.trans (h3.mono hb2.size)⟩
end Go.Proofs.YtoochleabcjljaaGreatDoor

/- Examples: works. -/
namespace Go.Proofs.YtoochleabcjljaaGreatDoor
open Go.RowKit

theorem same_bands_eq (aa ab : Option Addr) (ca cb : Nat) (w : World) (xs : List (Int × Int)) (n : Nat) (hn : n = xs.length) (hl : xs.length ≤ 9223372036854775807) (ha : Cells w aa (prs xs)) (hb : Cells w ab (prs xs)) :
    Calls Tryz.prog 65 #[.slice aa n ca, .slice ab n cb] w fun e w' => e = .returned (.bool true) ∧ Below w.heap.size w w' := by
  subst hn
  have h := sameBands_any aa ab xs xs ca cb w ha hb hl hl
  simpa using h
theorem same_ints_eq (aa ab : Option Addr) (ca cb : Nat) (w : World) (xs : List Int) (n : Nat) (hn : n = xs.length) (hl : xs.length ≤ 9223372036854775807) (ha : Cells w aa (xs.map (Value.int .i64))) (hb : Cells w ab (xs.map (Value.int .i64))) :
    Calls Tryz.prog 17 #[.slice aa n ca, .slice ab n cb] w fun e w' => e = .returned (.bool true) ∧ Below w.heap.size w w' := by
  subst hn
  have h := sameInts_any aa ab xs xs ca cb w ha hb hl hl
  simpa using h
theorem one_new (w : World) (c1 : List Value) (T1 : TypeId) : Cells (w.alloc (.cells c1.toArray T1)) (some ⟨w.heap.size, 0, none⟩) c1 := new_cells w c1 T1

set_option maxRecDepth 100000 in
set_option maxHeartbeats 2000000 in
theorem works_any (w : World) : Calls Tryz.prog 22 #[] w fun e w' => e = .returned (.bool true) ∧ Below w.heap.size w w' := by
  go_enter Tryz.func22, Tryz.ntmps22
  go_wp2_with (go_at_call 52; refine (book_any _).mono ?_; rintro e w1 ⟨rfl, rfl⟩)
  refine (ex_encode _).mono ?_
  rintro e w1 ⟨⟨b1, c1, rfl, hc1⟩, hb1⟩
  have HC1 := Lib.hid hc1; clear hc1
  go_wp2_with fail
  refine (ex_strain _).mono ?_
  rintro e w2 ⟨⟨a2, c2, rfl, hc2⟩, hb2⟩
  have HC2 := Lib.hid hc2; clear hc2
  go_wp2_with fail
  refine (ex_track _).mono ?_
  rintro e w3 ⟨rfl, hb3⟩
  go_wp2_with fail
  refine (ex_inject _).mono ?_
  rintro e w4 ⟨⟨a4, c4, rfl, hc4⟩, hb4⟩
  have HC4 := Lib.hid hc4; clear hc4
  have n2 := hb1.trans (hb2.mono hb1.size)
  have n3 := n2.trans (hb3.mono n2.size)
  have n4 := n3.trans (hb4.mono n3.size)
  have k24 := (hb3.trans (hb4.mono hb3.size))
  have k14 := hb2.trans (k24.mono hb2.size)
  have q1 := HC1.out.below k14 (Nat.le_refl _)
  have q2 := HC2.out.below k24 (Nat.le_refl _)
  have hcv : (convert 48 9 (.slice (some ⟨b1, 0, none⟩) 14 c1)).run Tryz.prog w4 = .ok (.string ⟨#[165, 90, 0, 7, 0, 0, 0, 1, 64, 204, 2, 89, 2, 199]⟩) w4 := conv_bytes (w := w4) (cap := c1) [165, 90, 0, 7, 0, 0, 0, 1, 64, 204, 2, 89, 2, 199] q1
  have HQ2 := Lib.hid q2
  clear q1 q2 k14 k24 hb1 hb2 hb3 hb4 n2 n3
  go_wp2_with fail
  have hb5 := (Below.refl w4.heap.size w4).alloc (Nat.le_refl _) (.cells #[.int .i64 3, .int .i64 4, .int .i64 6, .int .i64 11] 104)
  refine (same_bands_eq _ _ _ _ _ [(3, 4), (6, 11)] 2 rfl (by decide) (HQ2.out.below hb5 (Nat.le_refl _)) (new_cells w4 (prs [(3, 4), (6, 11)]) 104)).mono ?_
  rintro e w5 ⟨rfl, hb6⟩
  have hb7 := hb5.trans (hb6.mono hb5.size)
  have n5 := n4.trans (hb7.mono n4.size)
  have q4 := HC4.out.below hb7 (Nat.le_refl _)
  have HQ4 := Lib.hid q4
  clear q4 hb5 hb6 hb7 n4 hcv
  go_wp2_with fail
  have hb5 := (Below.refl w5.heap.size w5).alloc (Nat.le_refl _) (.cells #[.int .i64 8, .int .i64 (-2), .int .i64 7, .int .i64 (-1), .int .i64 12] 3)
  refine (same_ints_eq _ _ _ _ _ [8, -2, 7, -1, 12] 5 rfl (by decide) (HQ4.out.below hb5 (Nat.le_refl _)) (new_cells w5 ([8, -2, 7, -1, 12].map (Value.int .i64)) 3)).mono ?_
  rintro e w6 ⟨rfl, hb6⟩
  have n6 := n5.trans ((hb5.trans (hb6.mono hb5.size)).mono n5.size)
  clear hb5 hb6 n5
  go_wp2
  go_ret
  exact ⟨rfl, n6⟩
end Go.Proofs.YtoochleabcjljaaGreatDoor

/- Codes of the chapter: bytes. -/
namespace Go.Proofs.YtoochleabcjljaaGreatDoor
open Go.RowKit

theorem bys_one (l : List Nat) : ∀ u ∈ bys l, u.oneCell' = true := by
  intro u hu; obtain ⟨d, _, rfl⟩ := List.mem_map.1 hu; rfl

set_option maxRecDepth 100000 in
set_option maxHeartbeats 1000000 in
theorem refOctets_any (ao : Option Addr) (l : List Nat) (cap : Nat) (w : World) (hc : Cells w ao (bts l)) (hb : ∀ b ∈ l, b ≤ 1) (hl : l.length ≤ 1099511627776) :
    Calls Tryz.prog 128 #[.slice ao l.length cap] w fun e w' => (∃ v, e = .returned v ∧ w'.ownsRow w.heap.size 5 1 v (octs l).length (bys (octs l))) ∧ Below w.heap.size w w' := by
  obtain ⟨i0, hi, hz0, hz1, hz2⟩ := info_parts Tryz.infoByte
  have HC := Lib.hid hc; have HB := Lib.hid hb
  clear hc hb
  go_enter Tryz.func128, Tryz.ntmps128
  go_wp2
  go_loopw [3, 4] (fun v i wr => ∃ m : Nat, m ≤ l.length + 7 ∧ i = .int .i64 m ∧ m % 8 = 0 ∧ wr.ownsRow w.heap.size 5 1 v (octs (l.take m)).length (bys (octs (l.take m))) ∧ Below w.heap.size w wr) (fun _ i _ => l.length + 8 - (intOf i).toNat)
  case atStart => exact ⟨0, Nat.zero_le _, rfl, rfl, World.ownsRow_nil _ _ _ _, Below.refl _ _⟩
  case round =>
    obtain ⟨m, hm, rfl, hm8, hown, hbr⟩ := hrel
    have HO := Lib.hid hown; clear hown
    have hz := hbr.size
    have hol := octs_len (l.take m)
    rw [List.length_take] at hol
    have hol2 : (octs (l.take m)).length ≤ 1099511627783 := by omega
    have HOL := Lib.hid hol
    clear hol
    by_cases hlt : m < l.length
    · have hst := octs_take hlt hm8
      have hp8 := padP_lt (b := l.drop m) (fun x hx => HB.out x (List.mem_of_mem_drop hx)) 8
      have HST := Lib.hid hst; have HP8 := Lib.hid hp8
      have i1 : (m : Int) < l.length := by omega
      clear hst hp8
      go_wp2
      go_loop [5, 6] (fun nv kv => ∃ j : Nat, j ≤ 8 ∧ kv = .int .i64 ((m + j : Nat) : Int) ∧ nv = .int .i64 (padP (l.drop m) j : Nat)) (fun _ kv => m + 8 - (intOf kv).toNat)
      case atStart => exact ⟨0, Nat.zero_le _, rfl, rfl⟩
      case round =>
        obtain ⟨j, hj, rfl, rfl⟩ := hrel
        have hpj := padP_lt (b := l.drop m) (fun x hx => HB.out x (List.mem_of_mem_drop hx)) j
        have hp2 : (2 : Nat) ^ j ≤ 2 ^ 8 := Nat.pow_le_pow_right (by decide) hj
        have hps : padP (l.drop m) (j + 1) = 2 * padP (l.drop m) j + (l.drop m).getD j 0 := rfl
        have h28 : (2 : Nat) ^ 8 = 256 := by decide
        have hpb : padP (l.drop m) j < 256 := by omega
        have HPS := Lib.hid hps
        have em : ((m + j : Nat) : Int) = (m : Int) + j := by omega
        rw [em]
        clear hpj hp2 hps h28 em
        by_cases hj8 : j < 8
        · have j1 : (m : Int) + j < (m : Int) + 8 := by omega
          by_cases hin : m + j < l.length
          · obtain ⟨b, hb⟩ := get_of_lt hin
            have hb1 := HB.out b (List.mem_of_getElem? hb)
            obtain ⟨bb, ob, rfl⟩ := HC.out.addr (bts_ne (by omega))
            have c1 := cell_keep (HC.out.at (bts_get hb)) hbr (Nat.le_refl _)
            have hg : (l.drop m).getD j 0 = b := by rw [List.getD_eq_getElem?_getD, List.getElem?_drop, hb]; rfl
            rw [hg] at HPS
            have j2 : (m : Int) + j < l.length := by omega
            have j3 : (0 : Int) ≤ (m : Int) + j := by omega
            have j4 : ((m : Int) + j).toNat = m + j := by omega
            clear hb hg
            generalize padP (l.drop m) j = p at *
            go_wp2
            go_round
            case rel => exact ⟨j + 1, by omega, by go_num, by rw [HPS.out]; go_num⟩
            case measure => simp [intOf]; omega
          · have hg : (l.drop m).getD j 0 = 0 := by rw [List.getD_eq_getElem?_getD, List.getElem?_drop, List.getElem?_eq_none (by omega)]; rfl
            rw [hg] at HPS
            have j2 : ¬ (m : Int) + j < l.length := by omega
            clear hg
            generalize padP (l.drop m) j = p at *
            go_wp2
            go_round
            case rel => exact ⟨j + 1, by omega, by go_num, by rw [HPS.out]; go_num⟩
            case measure => simp [intOf]; omega
        · obtain rfl : j = 8 := by omega
          clear HPS
          generalize hp : padP (l.drop m) 8 = p at *
          have hcv : IntKind.u8.wrap (p : Int) = (p : Int) := IntWalk.u8_in _ (by omega)
          clear hp HP8
          have j1 : ¬ (m : Int) + 8 < (m : Int) + 8 := by omega
          go_wp2_with (at_builtin; refine wpList_append_own _ rfl _ _ 48 rfl w.heap.size 5 i0 (.int .u8 0) 1 1 Tryz.underlying48 hi hz0 hz1 hz2 rfl (by decide) _ _ _ rfl (HO.out.alloc _) ⟨wr.heap.size, 0, none⟩ 1 1 [.int .u8 (p : Nat)] rfl rfl (news1 _ _ _) (by simp [Value.oneCell']) (by unfold maxLen; omega) (by omega) (by simp; omega) ?_; intro v1 wz hown1 hgrow _)
          have hbz := (hbr.alloc hz (.cells #[.int .u8 (p : Nat)] 5)).grown hgrow (by simp; omega) (fun j e => (HO.out.lt j e).1)
          have hfin : wz.ownsRow w.heap.size 5 1 v1 (octs (l.take (m + 8))).length (bys (octs (l.take (m + 8)))) := by
            rw [HST.out, List.length_append, bys_append]; exact hown1
          have HF := Lib.hid hfin
          clear hown1 hgrow hfin hcv
          go_wp2
          go_roundw
          case rel => exact ⟨m + 8, by omega, by go_num, by omega, HF.out, hbz⟩
          case measure => simp [intOf]; omega
    · have ho := HO.out
      rw [List.take_of_length_le (by omega)] at ho
      have HF := Lib.hid ho
      have i1 : ¬ (m : Int) < l.length := by omega
      clear ho
      go_wp2
      go_ret
      exact ⟨⟨_, rfl, HF.out⟩, hbr⟩

set_option maxRecDepth 100000 in
theorem refLarge_any (n : Int) (k : Nat) (w : World) (hn0 : 0 ≤ n) (hn1 : n ≤ 4294967295) (hk : k ≤ 4) :
    Calls Tryz.prog 127 #[.int .i64 n, .int .i64 (k : Nat)] w fun e w' => (∃ v, e = .returned v ∧ w'.ownsRow w.heap.size 5 1 v (octs (binL n (8 * k))).length (bys (octs (binL n (8 * k))))) ∧ Below w.heap.size w w' := by
  have h8 : ((8 * k : Nat) : Int) = 8 * (k : Int) := by omega
  have hbn := fun W => refBinary_any n (8 * k) W hn0 hn1 (by omega)
  rw [h8] at hbn
  have HBN := Lib.hid hbn
  have hlen : (binL n (8 * k)).length = 8 * k := binL_length _ _
  have HLEN := Lib.hid hlen
  have hbits := binL_bits n (8 * k)
  have HBT := Lib.hid hbits
  clear hbn hlen hbits h8
  go_enter Tryz.func127, Tryz.ntmps127
  go_wp2_with fail
  refine (HBN.out _).mono ?_
  rintro e w1 ⟨⟨v1, rfl, ho1⟩, hb1⟩
  obtain ⟨a1, c1, rfl, hc1⟩ := own_cells ho1
  have hoc := refOctets_any a1 (binL n (8 * k)) c1 w1 hc1 HBT.out (by rw [HLEN.out]; omega)
  rw [HLEN.out] at hoc
  have HOC := Lib.hid hoc
  have hz := hb1.size
  clear ho1 hc1 hoc
  go_wp2_with fail
  refine HOC.out.mono ?_
  rintro e w2 ⟨⟨v2, rfl, ho2⟩, hb2⟩
  have HO2 := Lib.hid (own_base ho2 hz)
  have hbf := hb1.trans (hb2.mono hz)
  clear ho2
  go_wp2
  go_ret
  exact ⟨⟨_, rfl, HO2.out⟩, hbf⟩

theorem refCheckSum_any (ao : Option Addr) (l : List Nat) (cap : Nat) (w : World) (hc : Cells w ao (bys l)) (hb : ∀ d ∈ l, d < 256) (hl : l.length ≤ 9223372036854775807) :
    Calls Tryz.prog 129 #[.slice ao l.length cap] w fun e w' => e = .returned (.int .i64 (chkL l : Nat)) ∧ w = w' := by
  have HC := Lib.hid hc; have HB := Lib.hid hb
  clear hc hb
  go_enter Tryz.func129, Tryz.ntmps129
  go_wp2
  go_loop [3, 4] (fun c i => ∃ k : Nat, k ≤ l.length ∧ i = .int .i64 k ∧ c = .int .i64 (chkL (l.take k) : Nat)) (fun _ i => l.length - (intOf i).toNat)
  case atStart => exact ⟨0, Nat.zero_le _, rfl, rfl⟩
  case round =>
    obtain ⟨k, hk, rfl, rfl⟩ := hrel
    by_cases hlt : k < l.length
    · obtain ⟨d, hd⟩ := get_of_lt hlt
      obtain ⟨b, off, rfl⟩ := HC.out.addr (bys_ne (by omega))
      have c1 := HC.out.at (bys_get hd)
      have hd1 := HB.out d (List.mem_of_getElem? hd)
      have hcl := chkL_lt (l.take k)
      have hst : chkL (l.take (k + 1)) = (chkL (l.take k) * 257 + d + 1) % 16777213 := by rw [take_get hd, chkL_snoc]
      have HST := Lib.hid hst
      clear hst hd
      generalize chkL (l.take k) = c at *
      have e1 : ((c : Int) * 257 + d + 1) % 16777213 = (((c * 257 + d + 1) % 16777213 : Nat) : Int) := by simp
      have E1 := Lib.hid e1
      clear e1
      go_wp2
      go_round
      case rel => exact ⟨k + 1, by omega, by go_num, by rw [HST.out, E1.out]⟩
      case measure => simp [intOf]; omega
    · obtain rfl : k = l.length := by omega
      rw [List.take_length]
      go_wp2
      go_ret
      exact ⟨rfl, rfl⟩
end Go.Proofs.YtoochleabcjljaaGreatDoor

/- Codes of the chapter: the code of a frame. -/
namespace Go.Proofs.YtoochleabcjljaaGreatDoor
open Go.RowKit

theorem own_lit (w : World) (cs : List Value) (T : TypeId) (b : Nat) (hb : b ≤ w.heap.size) (hl : cs.length ≤ 1000000) : (w.alloc (.cells cs.toArray T)).ownsRow b T 1 (.slice (some ⟨w.heap.size, 0, none⟩) cs.length cs.length) cs.length cs :=
  ⟨by omega, .inr ⟨w.heap.size, cs.length, cs.toArray, rfl, hb, World.alloc_heap_new w _, Nat.le_refl _, by unfold maxLen; omega, by simp, by simp⟩⟩
theorem encB_eq (st : Int) (xss : List (List Int)) : octs (binL st 32) ++ octs (xss.flatMap encC) = octs (frBits st xss) := by
  rw [frBits, octs_append _ (by rw [binL_length])]
theorem octs_bd (l : List Nat) : (octs l).length ≤ l.length + 7 := by rw [octs_len]; omega
theorem flat_bits (xss : List (List Int)) : ∀ b ∈ xss.flatMap encC, b ≤ 1 := fun b hb => frBits_bits 0 xss b (List.mem_append_right _ hb)

set_option maxRecDepth 100000 in
set_option maxHeartbeats 2000000 in
theorem refCode_any (st : Int) (asm : Option Addr) (vs : List Value) (xss : List (List Int)) (cs : Nat) (w : World) (hs : Cells w asm vs) (hr : RowsV w vs xss) (hl : xss.length ≤ 16) (h0 : 0 ≤ st) (h1 : st ≤ 1073741824) (hxl : ∀ xs ∈ xss, xs.length ≤ 64) (hxb : ∀ xs ∈ xss, ∀ x ∈ xs, -8388608 ≤ x ∧ x ≤ 8388608) :
    Calls Tryz.prog 76 #[.agg #[.int .i64 st, .slice asm xss.length cs]] w fun e w' => (∃ v, e = .returned v ∧ w'.ownsRow w.heap.size 5 1 v (encB st xss).length (bys (encB st xss))) ∧ Below w.heap.size w w' := by
  obtain ⟨i0, hi, hz0, hz1, hz2⟩ := info_parts Tryz.infoInt
  obtain ⟨j0, hj, hy0, hy1, hy2⟩ := info_parts Tryz.infoByte
  have hb0 := (Below.refl w.heap.size w).alloc (Nat.le_refl _) (.cells #[.int .i64 st, .slice asm xss.length cs] 43)
  have HS := Lib.hid (hs.below hb0 (Nat.le_refl _)); have HR := Lib.hid (hr.below hb0 (Nat.le_refl _)); have HXL := Lib.hid hxl; have HXB := Lib.hid hxb
  have q0 : (w.alloc (.cells #[.int .i64 st, .slice asm xss.length cs] 43)).cell? ⟨w.heap.size, 0, none⟩ = some (.int .i64 st) := by simp
  have q1 : (w.alloc (.cells #[.int .i64 st, .slice asm xss.length cs] 43)).cell? ⟨w.heap.size, 1, none⟩ = some (.slice asm xss.length cs) := by simp
  have hvl := hr.1
  have HB0 := Lib.hid hb0; have HQ0 := Lib.hid q0; have HQ1 := Lib.hid q1
  clear hs hr hxl hxb hb0 q0 q1
  obtain ⟨eb, heb⟩ : ∃ eb, eb = encB st xss := ⟨_, rfl⟩
  have hen : eb = hdB (octs (frBits st xss)) ++ octs (binL (chkL (hdB (octs (frBits st xss))) : Nat) 24) := heb
  rw [← heb]
  have HEN := Lib.hid hen
  clear heb hen
  go_enter Tryz.func76, Tryz.ntmps76
  go_wp2_with fail
  generalize (w.alloc (.cells #[.int .i64 st, .slice asm xss.length cs] 43)) = W at *
  have hWz := HB0.out.size
  go_loopw [3, 4] (fun v i wr => ∃ k : Nat, k ≤ xss.length ∧ i = .int .i64 k ∧ wr.ownsRow W.heap.size 3 1 v ((xss.take k).flatMap encC).length (bts ((xss.take k).flatMap encC)) ∧ Below W.heap.size W wr) (fun _ i _ => xss.length - (intOf i).toNat)
  case atStart => exact ⟨0, Nat.zero_le _, rfl, World.ownsRow_nil _ _ _ _, Below.refl _ _⟩
  case round =>
    obtain ⟨k, hk, rfl, hown, hbr⟩ := hrel
    have HO := Lib.hid hown; clear hown
    have hz := hbr.size
    have hfl := flat_encC (xss.take k) 64 (fun xs hx => HXL.out xs (List.mem_of_mem_take hx))
    have hfl2 : ((xss.take k).flatMap encC).length ≤ 53360 := by
      have : (xss.take k).length ≤ 16 := by rw [List.length_take]; omega
      omega
    clear hfl
    have c1 := cell_keep HQ1.out hbr (Nat.le_refl _)
    have c0 := cell_keep HQ0.out hbr (Nat.le_refl _)
    by_cases hlt : k < xss.length
    · obtain ⟨xs, hx⟩ := get_of_lt hlt
      obtain ⟨v, hv⟩ := get_of_lt (show k < vs.length by omega)
      obtain ⟨ax, cx, rfl, hax, _⟩ := HR.out.2 k v xs hv hx
      obtain ⟨ba, oa, rfl⟩ := HS.out.addr (List.ne_nil_of_length_pos (by omega))
      have c2 := cell_keep (HS.out.at hv) hbr (Nat.le_refl _)
      have hm := List.mem_of_getElem? hx
      have hx64 := HXL.out xs hm
      have hch := fun wx h => refChannel_any ax xs cx wx h (by omega) (HXB.out xs hm)
      have HCH := Lib.hid hch
      have HAX := Lib.hid (hax.below hbr (Nat.le_refl _))
      have hst : (xss.take (k + 1)).flatMap encC = (xss.take k).flatMap encC ++ encC xs := by rw [take_get hx, List.flatMap_append]; simp
      have hcl := encC_length xs
      have HST := Lib.hid hst
      have i1 : (k : Int) < xss.length := by omega
      have i2 : (0 : Int) ≤ k := by omega
      clear hch hax hst hv hx hm
      generalize (xss.take k).flatMap encC = cs' at *
      go_wp2_with fail
      refine (HCH.out wr HAX.out).mono ?_
      rintro e w1 ⟨⟨v1, rfl, ho1⟩, hb1⟩
      have HO1 := Lib.hid ho1
      have HOL := Lib.hid (own_below HO.out hb1 (Nat.le_refl _))
      have hbb := hbr.trans (hb1.mono hz)
      have hzz := hbb.size
      clear ho1 hb1
      go_wp2_with (at_builtin; refine wpList_append_two rfl _ _ 22 rfl W.heap.size 3 i0 (.int .i64 0) 1 8 Tryz.underlying22 hi hz0 hz1 hz2 rfl (by decide) _ _ _ rfl HOL.out _ _ _ _ rfl HO1.out (bts_one _) (by unfold maxLen; omega) (by omega) (by omega) ?_; intro v2 wz hown2 hgrow _)
      have hbz := hbb.grown hgrow (by omega) (fun j e => (HOL.out.lt j e).1)
      have hfin : wz.ownsRow W.heap.size 3 1 v2 ((xss.take (k + 1)).flatMap encC).length (bts ((xss.take (k + 1)).flatMap encC)) := by
        rw [HST.out, List.length_append, bts_append]; exact hown2
      have HF := Lib.hid hfin
      clear hown2 hgrow hfin
      go_wp2
      go_roundw
      case rel => exact ⟨k + 1, by omega, by go_num, HF.out, hbz⟩
      case measure => simp [intOf]; omega
    · obtain rfl : k = xss.length := by omega
      rw [List.take_length] at HO hfl2
      have i1 : ¬ (xss.length : Int) < xss.length := by omega
      have hbody : (octs (frBits st xss)).length ≤ 6700 := by
        rw [octs_len, frBits, List.length_append, binL_length]; omega
      have hfb := encB_eq st xss
      have hfbb := flat_bits xss
      have hbok := (octs_ok (frBits st xss) (frBits_bits st xss)).1
      have hHd : hdB (octs (frBits st xss)) = [165, 90] ++ octs (binL ((octs (frBits st xss)).length : Nat) 16) ++ octs (frBits st xss) := rfl
      have HFB := Lib.hid hfb; have HFBB := Lib.hid hfbb; have HBOK := Lib.hid hbok; have HHD := Lib.hid hHd
      have hl32 : (octs (binL st 32)).length = 4 := by rw [octs_len, binL_length]
      have HL32 := Lib.hid hl32
      clear hfb hfbb hbok hHd hl32 HR
      generalize hbd : octs (frBits st xss) = body at *
      generalize hfm : xss.flatMap encC = fm at *
      clear hbd hfm
      go_wp2_with fail
      refine (refLarge_any st 4 wr h0 (by omega) (by omega)).mono ?_
      rintro e w1 ⟨⟨v1, rfl, ho1⟩, hb1⟩
      rw [show 8 * 4 = 32 from rfl, HL32.out] at ho1
      have HO1 := Lib.hid ho1
      have HOL := Lib.hid (own_below HO.out hb1 (Nat.le_refl _))
      have hbb1 := hbr.trans (hb1.mono hz)
      have hz1' := hbb1.size
      clear ho1 hb1 c0 c1
      obtain ⟨ab, cb, hub, hcb⟩ := own_cells HOL.out
      subst hub
      go_wp2_with fail
      refine (refOctets_any ab fm cb w1 hcb HFBB.out (by omega)).mono ?_
      rintro e w2 ⟨⟨v2, rfl, ho2⟩, hb2⟩
      have HO2 := Lib.hid ho2
      have HO3 := Lib.hid (own_below HO1.out hb2 (Nat.le_refl _))
      have hbb2 := hbb1.trans (hb2.mono hz1')
      have hz2' := hbb2.size
      have hzr := hb2.size
      have hol2 := octs_bd fm
      have hol1 := HL32.out
      clear ho2 hb2 hcb HOL
      have HO4 := Lib.hid (own_base HO3.out hz)
      have hbl : 4 + (octs fm).length = body.length := by
        have h := congrArg List.length HFB.out
        rw [List.length_append, hol1] at h; exact h
      go_wp2_with (at_builtin; refine wpList_append_two rfl _ _ 48 rfl W.heap.size 5 j0 (.int .u8 0) 1 1 Tryz.underlying48 hj hy0 hy1 hy2 rfl (by decide) _ _ _ rfl HO4.out _ _ _ _ rfl HO2.out (bys_one _) (by unfold maxLen; omega) (by omega) (by omega) ?_; intro v3 w3 hown3 hgrow3 _)
      have hbb3 := hbb2.grown hgrow3 (by omega) (fun j e => (HO4.out.lt j e).1)
      rw [← bys_append, HFB.out, hbl] at hown3
      have hz3 := hbb3.size
      have HO5 := Lib.hid hown3
      obtain ⟨g3, c3, hv3, hg3, hg3l⟩ := hown3.form (by omega)
      subst hv3
      have HBL := Lib.hid hbl
      have hbpos : 4 ≤ body.length := by omega
      clear hown3 hgrow3 hbl hol1 hvl
      have hlit : (w3.alloc (.cells #[.int .u8 165, .int .u8 90] 5)).ownsRow W.heap.size 5 1 (.slice (some ⟨w3.heap.size, 0, none⟩) 2 2) 2 [.int .u8 165, .int .u8 90] := own_lit w3 [.int .u8 165, .int .u8 90] 5 W.heap.size hz3 (by decide)
      have HLIT := Lib.hid hlit
      clear hlit
      have hbb4 := hbb3.alloc hz3 (.cells #[.int .u8 165, .int .u8 90] 5)
      have hz4 := hbb4.size
      go_wp2_with fail
      simp only [go_sem, Tryz.underlying48]
      go_wp2_with fail
      refine (refLarge_any (body.length : Nat) 2 _ (by omega) (by omega) (by omega)).mono ?_
      rintro e w5 ⟨⟨v5, rfl, ho5⟩, hb5⟩
      have HO6 := Lib.hid ho5
      have HLIT2 := Lib.hid (own_below HLIT.out hb5 (Nat.le_refl _))
      have HIN := Lib.hid (own_below (HO5.out.alloc (.cells #[.int .u8 165, .int .u8 90] 5)) hb5 (Nat.le_refl _))
      have hbb5 := hbb4.trans (hb5.mono hz4)
      have hz5 := hbb5.size
      have h16 : (octs (binL (body.length : Nat) (8 * 2))).length = 2 := by rw [octs_len, binL_length]
      have H16 := Lib.hid h16
      have hne36 : (Value.slice (some ⟨g3, 0, none⟩) body.length c3).ownBlock ≠ (Value.slice (some ⟨w3.heap.size, 0, none⟩) 2 2).ownBlock := by
        intro h
        have h2 : g3 = w3.heap.size := Option.some.inj h
        omega
      have HNE36 := Lib.hid hne36
      clear ho5 hb5 h16 hne36
      go_wp2_with (first
        | (at_builtin
           refine wpList_append_two rfl _ _ 48 rfl W.heap.size 5 j0 (.int .u8 0) 1 1 Tryz.underlying48 hj hy0 hy1 hy2 rfl (by decide) _ _ _ rfl HLIT2.out _ _ _ _ rfl HO6.out (bys_one _) (by rw [H16.out]; unfold maxLen; decide) (by rw [H16.out]; decide) (by omega) ?_
           intro v6 w6 hown6 hgrow6 _
           have hbb6 := hbb5.grown hgrow6 (by omega) (fun j e => (HLIT2.out.lt j e).1)
           have hz6 := hbb6.size
           have hin6 := HIN.out.kept hgrow6 (.inr HNE36.out)
           rw [H16.out] at hown6
           have HO7 := Lib.hid hown6
           have HIN6 := Lib.hid hin6
           clear hown6 hgrow6 hin6)
        | (at_builtin
           refine wpList_append_two rfl _ _ 48 rfl W.heap.size 5 j0 (.int .u8 0) 1 1 Tryz.underlying48 hj hy0 hy1 hy2 rfl (by decide) _ _ _ rfl HO7.out _ _ _ _ rfl HIN6.out (bys_one _) (by unfold maxLen; omega) (by omega) (by omega) ?_
           intro v7 w7 hown7 hgrow7 _))
      have hbb7 := hbb6.grown hgrow7 (by omega) (fun j e => (HO7.out.lt j e).1)
      have hz7 := hbb7.size
      rw [show [Value.int .u8 165, Value.int .u8 90] = bys [165, 90] from rfl, ← bys_append, ← bys_append, ← HHD.out] at hown7
      have hhl : 2 + 2 + body.length = (hdB body).length := by
        have h := congrArg List.length HHD.out
        rw [List.length_append, List.length_append] at h
        have h2 : (octs (binL (body.length : Nat) 16)).length = 2 := H16.out
        simp only [List.length_cons, List.length_nil] at h h2 ⊢
        omega
      rw [hhl] at hown7
      have hhok : ∀ d ∈ hdB body, d < 256 := by
        intro d hd
        rw [HHD.out] at hd
        rcases List.mem_append.1 hd with h | h
        · rcases List.mem_append.1 h with h | h
          · simp at h; omega
          · exact (octs_ok _ (binL_bits _ _)).1 d h
        · exact HBOK.out d h
      have hhl2 : (hdB body).length ≤ 6710 := by
        rw [← hhl]; omega
      obtain ⟨g7, c7, hv7, hg7, hg7l⟩ := hown7.form (by omega)
      obtain ⟨a7', c7', hv7', hc7⟩ := own_cells hown7
      rw [hv7] at hv7'
      simp only [Value.slice.injEq, true_and] at hv7'
      obtain ⟨rfl, rfl⟩ := hv7'
      have HO8 := Lib.hid hown7
      have hck := refCheckSum_any _ (hdB body) c7 w7 hc7 hhok (by omega)
      have HCK := Lib.hid hck
      have hchk := chkL_lt (hdB body)
      subst hv7
      clear hown7 hgrow7 hhl hhok hc7 hck
      go_wp2_with fail
      refine HCK.out.mono ?_
      rintro e w' ⟨rfl, rfl⟩
      go_wp2_with fail
      refine (refLarge_any (chkL (hdB body) : Nat) 3 w7 (by omega) (by omega) (by omega)).mono ?_
      rintro e w8 ⟨⟨v8, rfl, ho8⟩, hb8⟩
      have HO9 := Lib.hid ho8
      have HO10 := Lib.hid (own_below HO8.out hb8 (Nat.le_refl _))
      have hbb8 := hbb7.trans (hb8.mono hz7)
      have hz8 := hbb8.size
      have h24 : (octs (binL (chkL (hdB body) : Nat) (8 * 3))).length = 3 := by rw [octs_len, binL_length]
      have H24 := Lib.hid h24
      clear ho8 hb8 h24
      go_wp2_with (at_builtin; refine wpList_append_two rfl _ _ 48 rfl W.heap.size 5 j0 (.int .u8 0) 1 1 Tryz.underlying48 hj hy0 hy1 hy2 rfl (by decide) _ _ _ rfl HO10.out _ _ _ _ rfl HO9.out (bys_one _) (by rw [H24.out]; unfold maxLen; omega) (by rw [H24.out]; omega) (by omega) ?_; intro v9 w9 hown9 hgrow9 _)
      have hbb9 := hbb8.grown hgrow9 (by omega) (fun j e => (HO10.out.lt j e).1)
      rw [← bys_append, show hdB body ++ octs (binL (chkL (hdB body) : Nat) (8 * 3)) = eb from HEN.out.symm, ← List.length_append, show hdB body ++ octs (binL (chkL (hdB body) : Nat) (8 * 3)) = eb from HEN.out.symm] at hown9
      have hfin := HB0.out.trans (hbb9.mono hWz)
      have HF := Lib.hid (own_base hown9 hWz)
      clear hown9 hgrow9
      go_wp2
      go_ret
      exact ⟨⟨_, rfl, HF.out⟩, hfin⟩
end Go.Proofs.YtoochleabcjljaaGreatDoor

/- The chapter's own checks: IsName, Find. -/
namespace Go.Proofs.YtoochleabcjljaaGreatDoor
open Go.RowKit

theorem nameOK_of {s : ByteArray} (h : nameTo s s.size = true) (h1 : 1 ≤ s.size) (h2 : s.size ≤ 16) : nameOK s = true := by simp [nameOK, h, h1, h2]

set_option maxRecDepth 100000 in
set_option maxHeartbeats 1000000 in
theorem refIsName_any (s : ByteArray) (w : World) (hs : s.size ≤ 9223372036854775807) :
    Calls Tryz.prog 69 #[.string s] w fun e w' => e = .returned (.bool (nameOK s)) ∧ w = w' := by
  by_cases h0 : s.size < 1
  · have hn : nameOK s = false := by
      have : decide (1 ≤ s.size) = false := decide_eq_false (by omega)
      simp [nameOK, this]
    have HN := Lib.hid hn; clear hn
    have h0' : (s.size : Int) < 1 := by omega
    go_enter Tryz.func69, Tryz.ntmps69
    go_wp2
    go_ret
    exact ⟨ret_bool HN.out.symm, rfl⟩
  · by_cases h1 : 16 < s.size
    · have hn : nameOK s = false := by
        have : decide (s.size ≤ 16) = false := decide_eq_false (by omega)
        simp [nameOK, this]
      have HN := Lib.hid hn; clear hn
      go_enter Tryz.func69, Tryz.ntmps69
      go_wp2
      go_ret
      exact ⟨ret_bool HN.out.symm, rfl⟩
    · have hp : 0 < s.size := by omega
      by_cases hc : 97 ≤ s[0].toNat ∧ s[0].toNat ≤ 122
      · obtain ⟨hc1, hc2⟩ := hc
        have g1 : ¬ ((s[0].toNat : Int) < 97) := by omega
        have g2 : ¬ ((122 : Int) < s[0].toNat) := by omega
        go_enter Tryz.func69, Tryz.ntmps69
        go_wp2
        go_loop [3] (fun i => ∃ k : Nat, k ≤ s.size ∧ i = .int .i64 k ∧ nameTo s k = true) (fun i => s.size - (intOf i).toNat)
        case atStart => exact ⟨0, Nat.zero_le _, rfl, rfl⟩
        case round =>
          obtain ⟨k, hk, rfl, hn⟩ := hrel
          by_cases hlt : k < s.size
          · have hsu := nameTo_succ s k
            rw [hn, Bool.true_and] at hsu
            have hfa := fun h => nameTo_false (s := s) (k := k) h hlt
            have hk0 : k = 0 → 97 ≤ s[k].toNat ∧ s[k].toNat ≤ 122 := fun h => by subst h; exact ⟨hc1, hc2⟩
            rw [chAt_eq hlt] at hsu hfa
            have HSU := Lib.hid hsu; have HFA := Lib.hid hfa; have HK0 := Lib.hid hk0
            clear hsu hfa hn hk0 g1 g2 hc1 hc2
            have hb : ((97 ≤ s[k].toNat ∧ s[k].toNat ≤ 122) ∨ (s[k].toNat = 95 ∨ 48 ≤ s[k].toNat ∧ s[k].toNat ≤ 57)) ∨ ¬ ((97 ≤ s[k].toNat ∧ s[k].toNat ≤ 122) ∨ (s[k].toNat = 95 ∨ 48 ≤ s[k].toNat ∧ s[k].toNat ≤ 57)) := Decidable.em _
            generalize hbk : s[k].toNat = c at *
            rcases hb with (⟨h2, h3⟩ | (h2 | ⟨h2, h3⟩)) | hb
            · have HSU2 : Hid (nameTo s (k + 1) = true) := by show _ = _; rw [HSU.out]; simp [chOK]; omega
              have d1 : ¬ ((c : Int) < 97) := by omega
              have d2 : ¬ ((122 : Int) < c) := by omega
              go_wp2
              go_round
              case rel => exact ⟨k + 1, by omega, by go_num, HSU2.out⟩
              case measure => simp [intOf]; omega
            · have hk1 : k ≠ 0 := fun h => by have := HK0.out h; omega
              have HSU2 : Hid (nameTo s (k + 1) = true) := by show _ = _; rw [HSU.out]; simp [chOK]; omega
              subst h2
              go_wp2
              go_round
              case rel => exact ⟨k + 1, by omega, by go_num, HSU2.out⟩
              case measure => simp [intOf]; omega
            · have hk1 : k ≠ 0 := fun h => by have := HK0.out h; omega
              have HSU2 : Hid (nameTo s (k + 1) = true) := by show _ = _; rw [HSU.out]; simp [chOK]; omega
              have d1 : (c : Int) < 97 := by omega
              have d2 : ¬ ((c : Int) < 48) := by omega
              have d3 : ¬ ((57 : Int) < c) := by omega
              go_wp2
              go_round
              case rel => exact ⟨k + 1, by omega, by go_num, HSU2.out⟩
              case measure => simp [intOf]; omega
            · have HN : Hid (nameOK s = false) := HFA.out (by simp [chOK]; omega)
              have e0 : ((c : Int) != 95) = true := by rw [bne_iff_ne]; omega
              have hj : (c < 97 ∧ c < 48) ∨ (48 ≤ c ∧ c < 97 ∧ 57 < c) ∨ (122 < c) := by omega
              clear hb
              rcases hj with ⟨h2, h3⟩ | ⟨h2, h3, h4⟩ | h2
              · have d1 : (c : Int) < 97 := by omega
                have d2 : (c : Int) < 48 := by omega
                go_wp2
                go_ret
                exact ⟨ret_bool HN.out.symm, rfl⟩
              · have d1 : (c : Int) < 97 := by omega
                have d2 : ¬ ((c : Int) < 48) := by omega
                have d3 : (57 : Int) < c := by omega
                go_wp2
                go_ret
                exact ⟨ret_bool HN.out.symm, rfl⟩
              · have d1 : ¬ ((c : Int) < 97) := by omega
                have d2 : (122 : Int) < c := by omega
                have d3 : ¬ ((c : Int) < 48) := by omega
                have d4 : (57 : Int) < c := by omega
                go_wp2
                go_ret
                exact ⟨ret_bool HN.out.symm, rfl⟩
          · obtain rfl : k = s.size := by omega
            have HN : Hid (nameOK s = true) := nameOK_of hn (by omega) (by omega)
            go_wp2
            go_ret
            exact ⟨ret_bool HN.out.symm, rfl⟩
      · have HN : Hid (nameOK s = false) := nameTo_false (k := 0) (by rw [chAt_eq hp]; simp [chOK]; omega) hp
        have hj : s[0].toNat < 97 ∨ (97 ≤ s[0].toNat ∧ 122 < s[0].toNat) := by omega
        clear hc
        rcases hj with h2 | ⟨h2, h3⟩
        · have d1 : (s[0].toNat : Int) < 97 := by omega
          go_enter Tryz.func69, Tryz.ntmps69
          go_wp2
          go_ret
          exact ⟨ret_bool HN.out.symm, rfl⟩
        · have d1 : ¬ ((s[0].toNat : Int) < 97) := by omega
          have d2 : (122 : Int) < s[0].toNat := by omega
          go_enter Tryz.func69, Tryz.ntmps69
          go_wp2
          go_ret
          exact ⟨ret_bool HN.out.symm, rfl⟩

/-- Find: is a number in a list? -/
theorem refFind_any (ao : Option Addr) (xs : List Int) (cap : Nat) (n : Int) (w : World) (hc : Cells w ao (xs.map (Value.int .i64))) (hl : xs.length ≤ 9223372036854775807) :
    Calls Tryz.prog 70 #[.slice ao xs.length cap, .int .i64 n] w fun e w' => (∃ r : Int, e = .returned (.int .i64 r) ∧ (0 ≤ r ↔ n ∈ xs)) ∧ w = w' := by
  have HC := Lib.hid hc; clear hc
  go_enter Tryz.func70, Tryz.ntmps70
  go_wp2
  go_loop [5] (fun i => ∃ k : Nat, k ≤ xs.length ∧ i = .int .i64 k ∧ n ∉ xs.take k) (fun i => xs.length - (intOf i).toNat)
  case atStart => exact ⟨0, Nat.zero_le _, rfl, by simp⟩
  case round =>
    obtain ⟨k, hk, rfl, hn⟩ := hrel
    have HN := Lib.hid hn; clear hn
    by_cases hlt : k < xs.length
    · obtain ⟨x, hx⟩ := get_of_lt hlt
      obtain ⟨b, off, rfl⟩ := HC.out.addr (by simpa using List.ne_nil_of_length_pos (by omega))
      have c0 := HC.out.int hx
      have HX := Lib.hid hx; clear hx
      by_cases hxn : x = n
      · have h1 : (x == n) = true := by simp [hxn]
        have HXN := Lib.hid hxn; clear hxn
        go_wp2
        go_ret
        refine ⟨⟨_, rfl, ?_⟩, rfl⟩
        simp only [Int.natCast_nonneg, true_iff]
        rw [← HXN.out]; exact List.mem_of_getElem? HX.out
      · have h1 : (x == n) = false := by simp [hxn]
        have HXN := Lib.hid hxn; clear hxn
        go_wp2
        go_round
        case rel =>
          refine ⟨k + 1, by omega, by go_num, ?_⟩
          have h2 := HN.out
          have h3 := HXN.out
          rw [take_get HX.out, List.mem_append, List.mem_singleton]
          rintro (h | h)
          · exact h2 h
          · exact h3 h.symm
        case measure => simp [intOf]; omega
    · obtain rfl : k = xs.length := by omega
      rw [List.take_length] at HN
      go_wp2
      go_ret
      exact ⟨⟨_, rfl, ⟨fun h => absurd h (by decide), fun h => absurd h HN.out⟩⟩, rfl⟩
end Go.Proofs.YtoochleabcjljaaGreatDoor
