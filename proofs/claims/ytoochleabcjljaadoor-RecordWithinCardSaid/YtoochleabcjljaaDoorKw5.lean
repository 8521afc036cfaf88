/- Parts of a proof, in build order: N6, N7, N8, B3, F3, F4, W2, W7. -/
import Derived.Test.YtoochleabcjljaaDoorKw4
import Derived.Laws.IdiomStrings
import Derived.Deep.DeepCutAuto

/- strconv.FormatUint at one digit; size, big, text of small numbers. -/
namespace Go.Proofs.YtoochleabcjljaaDoor
open Go.RowKit

/-- the text of a digit -/
def digB (n : Nat) : ByteArray := ⟨#[(48 + n).toUInt8]⟩
theorem digs_ext (n : Nat) (h : n < 10) : (⟨#[48, 49, 50, 51, 52, 53, 54, 55, 56, 57, 97, 98, 99, 100, 101, 102, 103, 104, 105, 106, 107, 108, 109, 110, 111, 112, 113, 114, 115, 116, 117, 118, 119, 120, 121, 122]⟩ : ByteArray).extract n (n + 1) = digB n := by
  match n, h with
  | 0, _ => rfl
  | 1, _ => rfl
  | 2, _ => rfl
  | 3, _ => rfl
  | 4, _ => rfl
  | 5, _ => rfl
  | 6, _ => rfl
  | 7, _ => rfl
  | 8, _ => rfl
  | 9, _ => rfl

theorem ret_string {a b : ByteArray} (h : a = b) : Ending.returned (.string a) = .returned (.string b) := by rw [h]

set_option maxRecDepth 100000 in
theorem small_dig (n : Nat) (w : World) (h : n < 10) :
    Calls Tryd.prog 86 #[.int .i64 (n : Nat)] w fun e w' => e = .returned (.string (digB n)) ∧ w = w' := by
  have hn : (n : Int) < 10 := by omega
  go_enter Tryd.func86, Tryd.ntmps86
  go_wp2
  go_ret
  exact ⟨ret_string (digs_ext n h), rfl⟩

set_option maxRecDepth 100000 in
theorem fmtU_dig (n : Nat) (w : World) (h : n < 10) :
    Calls Tryd.prog 80 #[.int .u64 (n : Nat), .int .i64 10] w fun e w' => e = .returned (.string (digB n)) ∧ w = w' := by
  have hn : (n : Int) < 100 := by omega
  have hi : Calls Tryd.prog 82 #[.int .u64 (n : Nat), .int .i64 10] w fun e w' => e = .returned (.string (digB n)) ∧ w = w' := by
    go_enter Tryd.func82, Tryd.ntmps82
    go_wp2_with (go_at_call 86; refine (small_dig n _ h).mono ?_; rintro e w' ⟨rfl, rfl⟩)
    go_ret
    exact ⟨rfl, rfl⟩
  have HI := Lib.hid hi; clear hi
  go_enter Tryd.func80, Tryd.ntmps80
  go_wp2_with (go_at_call 82; refine HI.out.mono ?_; rintro e w' ⟨rfl, rfl⟩)
  go_ret
  exact ⟨rfl, rfl⟩

/-- nat.size at one digit -/
theorem size_dig (v : Value) (n : Nat) (w : World) (hv : NatV w v n) (h : n < 10) :
    Calls Tryd.prog 72 #[v] w fun e w' => e = .returned (.int .i64 1) ∧ w = w' := by
  by_cases h0 : n = 0
  · subst h0
    obtain ⟨a, c, rfl⟩ := hv.cases
    have hl0 : (dig 0).length = 0 := by rw [dig_zero]; rfl
    rw [hl0]
    clear hv hl0
    go_enter Tryd.func72, Tryd.ntmps72
    go_wp2
    go_ret
    exact ⟨rfl, rfl⟩
  · obtain ⟨a, c, rfl, hc, _⟩ := hv
    rw [dig_one h0 (by simp only [B]; omega)] at hc ⊢
    obtain ⟨b, off, rfl⟩ := hc.addr (by simp [dgs])
    have c0 : w.cell? ⟨b, off, none⟩ = some (.int .u64 (n : Nat)) := hc.at (j := 0) rfl
    clear hc
    have hs : (digB n).size = 1 := rfl
    go_enter Tryd.func72, Tryd.ntmps72
    go_wp2_with (go_at_call 80; refine (fmtU_dig n _ h).mono ?_; rintro e w' ⟨rfl, rfl⟩)
    go_ret
    exact ⟨rfl, rfl⟩

/-- rational.big at one digit -/
theorem big_dig (v : Value) (s : Bool) (n d : Nat) (w : World) (hv : RatV w v s n d) (h : n < 10) (h2 : d < 10) :
    Calls Tryd.prog 67 #[v] w fun e w' => e = .returned (.bool false) ∧ Below w.heap.size w w' := by
  obtain ⟨vn, vd, rfl, hn, hd⟩ := hv
  have HN := Lib.hid hn; have HD := Lib.hid hd
  obtain ⟨an, cn, rfl⟩ := hn.cases
  obtain ⟨ad, cd, rfl⟩ := hd.cases
  clear hn hd
  go_enter Tryd.func67, Tryd.ntmps67
  go_wp2_with fail
  refine (size_dig _ n _ (HN.out.below ((Below.refl _ _).alloc (Nat.le_refl _) _) (Nat.le_refl _)) h).mono ?_
  rintro e w1 ⟨rfl, rfl⟩
  go_wp2_with fail
  refine (size_dig _ d _ (HD.out.below ((Below.refl _ _).alloc (Nat.le_refl _) _) (Nat.le_refl _)) h2).mono ?_
  rintro e w1 ⟨rfl, rfl⟩
  go_wp2
  go_ret
  exact ⟨rfl, (Below.refl _ _).alloc (Nat.le_refl _) _⟩
end Go.Proofs.YtoochleabcjljaaDoor

/- The texts of small numbers. -/
namespace Go.Proofs.YtoochleabcjljaaDoor
open Go.RowKit

set_option maxRecDepth 100000 in
set_option maxHeartbeats 1000000 in
theorem natText_dig (v : Value) (n : Nat) (w : World) (hv : NatV w v n) (h : n < 10) :
    Calls Tryd.prog 81 #[v] w fun e w' => e = .returned (.string (digB n)) ∧ Below w.heap.size w w' := by
  by_cases h0 : n = 0
  · subst h0
    obtain ⟨a, c, rfl⟩ := hv.cases
    have hl0 : (dig 0).length = 0 := by rw [dig_zero]; rfl
    rw [hl0]
    clear hv hl0
    go_enter Tryd.func81, Tryd.ntmps81
    go_wp2
    go_ret
    exact ⟨rfl, Below.refl _ _⟩
  · obtain ⟨a, c, rfl, hc, _⟩ := hv
    rw [dig_one h0 (by simp only [B]; omega)] at hc ⊢
    obtain ⟨b, off, rfl⟩ := hc.addr (by simp [dgs])
    have c0 : w.cell? ⟨b, off, none⟩ = some (.int .u64 (n : Nat)) := hc.at (j := 0) rfl
    clear hc
    have hbu : Lib.IsBuilder 136 5 w.heap.size w.heap.size [] (w.alloc (.cells #[.pointer none, .slice none 0 0] 136)) :=
      .inl ⟨Nat.le_refl _, .slice none 0 0, heap_alloc_new w _, World.ownsRow_nil _ _ _ _, by simp [Value.ownBlock]⟩
    have HBU := Lib.hid hbu; clear hbu
    have c1 := cell_keep c0 ((Below.refl _ _).alloc (Nat.le_refl _) (.cells #[.pointer none, .slice none 0 0] 136)) (Nat.le_refl _)
    go_enter Tryd.func81, Tryd.ntmps81
    go_wp2_with fail
    refine (fmtU_dig n _ h).mono ?_
    rintro e w1 ⟨rfl, rfl⟩
    go_wp2_with fail
    refine (writeString_any w.heap.size w.heap.size [] (digB n) _ HBU.out (by show (0 : Nat) + 1 ≤ _; omega) (by simp)).mono ?_
    rintro e w1 ⟨rfl, h1, hb1⟩
    have H1 := Lib.hid h1; clear h1
    go_wp2
    refine wp_loop_rounds 1 ?_
    rw [rounds_succ]
    go_wp2_with fail
    refine (Tryd.Builder_String w.heap.size w.heap.size (digB n).data.toList _ (.inr H1.out) (by simp [digB])).mono ?_
    rintro e w2 ⟨rfl, hb2⟩
    go_wp2
    go_ret
    exact ⟨rfl, (((Below.refl _ _).alloc (Nat.le_refl _) _).trans hb1).trans hb2⟩

/-- the text of a small rational number -/
def ratB (s : Bool) (n d : Nat) : ByteArray := (if s then ⟨#[45]⟩ else ⟨#[]⟩) ++ digB n ++ (if d = 1 then ⟨#[]⟩ else ⟨#[47]⟩ ++ digB d)

set_option maxRecDepth 100000 in
set_option maxHeartbeats 1000000 in
theorem ratText_dig (v : Value) (n d : Nat) (w : World) (hv : RatV w v false n d) (h : n < 10) (h2 : d < 10) (h3 : 2 ≤ d) :
    Calls Tryd.prog 74 #[v] w fun e w' => e = .returned (.string (digB n ++ (⟨#[47]⟩ ++ digB d))) ∧ Below w.heap.size w w' := by
  obtain ⟨vn, vd, rfl, hn, hd⟩ := hv
  have HN := Lib.hid hn; have HD := Lib.hid hd
  obtain ⟨an, cn, rfl⟩ := hn.cases
  obtain ⟨ad, cd, rfl, hdc, _⟩ := hd
  have hd1 := dig_one (show d ≠ 0 by omega) (show d < B by simp only [B]; omega)
  rw [hd1] at hdc HD ⊢
  obtain ⟨b, off, rfl⟩ := hdc.addr (by simp [dgs])
  have HDC := Lib.hid hdc
  have h3' : (1 : Int) < (d : Nat) := by omega
  have hs1 : (digB n).size = 1 := rfl
  have hs2 : (digB d).size = 1 := rfl
  clear hn hdc hd1
  go_enter Tryd.func74, Tryd.ntmps74
  go_wp2_with fail
  refine (natText_dig _ n _ (HN.out.below ((Below.refl _ _).alloc (Nat.le_refl _) _) (Nat.le_refl _)) h).mono ?_
  rintro e w1 ⟨rfl, hb1⟩
  have q0 : w1.cell? ⟨w.heap.size, 0, none⟩ = some (.bool false) := box_keep hb1 (by simp) 0
  have q1 : w1.cell? ⟨w.heap.size, 1, none⟩ = some (.slice an (dig n).length cn) := box_keep hb1 (by simp) 1
  have q2 : w1.cell? ⟨w.heap.size, 2, none⟩ = some (.slice (some ⟨b, off, none⟩) 1 cd) := box_keep hb1 (by simp) 2
  have hbw : Below w.heap.size w w1 := ((Below.refl _ _).alloc (Nat.le_refl _) _).trans (hb1.mono (by simp))
  have c0 : w1.cell? ⟨b, off, none⟩ = some (.int .u64 (d : Nat)) := (HDC.out.below hbw (Nat.le_refl _)).at (j := 0) rfl
  go_wp2_with fail
  refine (natText_dig _ d _ (HD.out.below hbw (Nat.le_refl _)) h2).mono ?_
  rintro e w2 ⟨rfl, hb2⟩
  go_wp2
  go_ret
  exact ⟨rfl, hbw.trans (hb2.mono hbw.size)⟩

theorem zero_any (v : Value) (s : Bool) (n d : Nat) (w : World) (hv : RatV w v s n d) :
    Calls Tryd.prog 75 #[v] w fun e w' => e = .returned (.bool (decide (n = 0))) ∧ Below w.heap.size w w' := by
  obtain ⟨vn, vd, rfl, hn, hd⟩ := hv
  obtain ⟨an, cn, rfl⟩ := hn.cases
  obtain ⟨ad, cd, rfl⟩ := hd.cases
  have hl : decide (n = 0) = (((dig n).length : Int) == 0) := by
    rw [Bool.eq_iff_iff, decide_eq_true_iff, beq_iff_eq, ← dig_len_pos]; omega
  have HL := Lib.hid hl; clear hl hn hd
  go_enter Tryd.func75, Tryd.ntmps75
  go_wp2
  go_ret
  exact ⟨ret_bool HL.out.symm, (Below.refl _ _).alloc (Nat.le_refl _) _⟩
end Go.Proofs.YtoochleabcjljaaDoor

/- num.Of of small positive numbers. -/
namespace Go.Proofs.YtoochleabcjljaaDoor
open Go.RowKit

theorem isReal_any (v : Value) (s1 s2 : Bool) (n1 d1 n2 d2 : Nat) (w : World) (hv : ValV w v s1 n1 d1 s2 n2 d2) :
    Calls Tryd.prog 73 #[v] w fun e w' => e = .returned (.bool (decide (n2 = 0))) ∧ Below w.heap.size w w' := by
  obtain ⟨va, vb, vc, vd, rfl, ha, hb, hc, hd⟩ := hv
  obtain ⟨aa, ca, rfl⟩ := ha.cases
  obtain ⟨ab, cb, rfl⟩ := hb.cases
  have HC := Lib.hid hc; have HD := Lib.hid hd
  obtain ⟨ac, cc, rfl⟩ := hc.cases
  obtain ⟨ad, cd, rfl⟩ := hd.cases
  clear ha hb hc hd
  go_enter Tryd.func73, Tryd.ntmps73
  go_wp2_with fail
  refine (zero_any _ s2 n2 d2 _ ⟨_, _, rfl, HC.out.below ((Below.refl _ _).alloc (Nat.le_refl _) _) (Nat.le_refl _), HD.out.below ((Below.refl _ _).alloc (Nat.le_refl _) _) (Nat.le_refl _)⟩).mono ?_
  rintro e w1 ⟨rfl, hb1⟩
  go_wp2
  go_ret
  exact ⟨rfl, ((Below.refl _ _).alloc (Nat.le_refl _) _).trans (hb1.mono (by simp))⟩

set_option maxRecDepth 100000 in
theorem valText_dig (v : Value) (n d : Nat) (s2 : Bool) (d2 : Nat) (w : World) (hv : ValV w v false n d s2 0 d2) (h : n < 10) (h2 : d < 10) (h3 : 2 ≤ d) :
    Calls Tryd.prog 68 #[v] w fun e w' => e = .returned (.string (digB n ++ (⟨#[47]⟩ ++ digB d))) ∧ Below w.heap.size w w' := by
  have HV := Lib.hid hv
  obtain ⟨va, vb, vc, vd, rfl, ha, hb, hc, hd⟩ := hv
  have HA := Lib.hid ha; have HB := Lib.hid hb
  obtain ⟨aa, ca, rfl⟩ := ha.cases
  obtain ⟨ab, cb, rfl⟩ := hb.cases
  obtain ⟨ac, cc, rfl⟩ := hc.cases
  obtain ⟨ad, cd, rfl⟩ := hd.cases
  clear ha hb hc hd
  go_enter Tryd.func68, Tryd.ntmps68
  go_wp2_with fail
  refine (isReal_any _ false s2 n d 0 d2 _ (HV.out.below ((Below.refl _ _).alloc (Nat.le_refl _) _) (Nat.le_refl _))).mono ?_
  rintro e w1 ⟨rfl, hb1⟩
  have hbw : Below w.heap.size w w1 := ((Below.refl _ _).alloc (Nat.le_refl _) _).trans (hb1.mono (by simp))
  have q0 : w1.cell? ⟨w.heap.size, 0, none⟩ = some (.bool false) := box_keep hb1 (by simp) 0
  have q1 : w1.cell? ⟨w.heap.size, 1, none⟩ = some (.slice aa (dig n).length ca) := box_keep hb1 (by simp) 1
  have q2 : w1.cell? ⟨w.heap.size, 2, none⟩ = some (.slice ab (dig d).length cb) := box_keep hb1 (by simp) 2
  go_wp2_with fail
  refine (ratText_dig _ n d _ ⟨_, _, rfl, HA.out.below hbw (Nat.le_refl _), HB.out.below hbw (Nat.le_refl _)⟩ h h2 h3).mono ?_
  rintro e w2 ⟨rfl, hb2⟩
  go_wp2
  go_ret
  exact ⟨rfl, hbw.trans (hb2.mono hbw.size)⟩

set_option maxRecDepth 100000 in
theorem put_dig (v : Value) (n d : Nat) (s2 : Bool) (d2 : Nat) (w : World) (hv : ValV w v false n d s2 0 d2) (h : n < 10) (h2 : d < 10) (h3 : 2 ≤ d) (h4 : d2 < 10) :
    Calls Tryd.prog 53 #[v] w fun e w' => e = .returned (.tuple #[.string (digB n ++ (⟨#[47]⟩ ++ digB d)), .int .i64 0]) ∧ Below w.heap.size w w' := by
  have HV := Lib.hid hv
  obtain ⟨va, vb, vc, vd, rfl, ha, hb, hc, hd⟩ := hv
  have HA := Lib.hid ha; have HB := Lib.hid hb; have HC := Lib.hid hc; have HD := Lib.hid hd
  obtain ⟨aa, ca, rfl⟩ := ha.cases
  obtain ⟨ab, cb, rfl⟩ := hb.cases
  obtain ⟨ac, cc, rfl⟩ := hc.cases
  obtain ⟨ad, cd, rfl⟩ := hd.cases
  clear ha hb hc hd
  go_enter Tryd.func53, Tryd.ntmps53
  go_wp2_with fail
  refine (big_dig _ false n d _ ⟨_, _, rfl, HA.out.below ((Below.refl _ _).alloc (Nat.le_refl _) _) (Nat.le_refl _), HB.out.below ((Below.refl _ _).alloc (Nat.le_refl _) _) (Nat.le_refl _)⟩ h h2).mono ?_
  rintro e w1 ⟨rfl, hb1⟩
  have hbw : Below w.heap.size w w1 := ((Below.refl _ _).alloc (Nat.le_refl _) _).trans (hb1.mono (by simp))
  have q3 : w1.cell? ⟨w.heap.size, 3, none⟩ = some (.bool s2) := box_keep hb1 (by simp) 3
  have q4 : w1.cell? ⟨w.heap.size, 4, none⟩ = some (.slice ac (dig 0).length cc) := box_keep hb1 (by simp) 4
  have q5 : w1.cell? ⟨w.heap.size, 5, none⟩ = some (.slice ad (dig d2).length cd) := box_keep hb1 (by simp) 5
  go_wp2_with fail
  refine (big_dig _ s2 0 d2 _ ⟨_, _, rfl, HC.out.below hbw (Nat.le_refl _), HD.out.below hbw (Nat.le_refl _)⟩ (by omega) h4).mono ?_
  rintro e w2 ⟨rfl, hb2⟩
  have hbx := hb1.trans (hb2.mono hb1.size)
  have hbw2 : Below w.heap.size w w2 := hbw.trans (hb2.mono hbw.size)
  clear q3 q4 q5
  have q0 : w2.cell? ⟨w.heap.size, 0, none⟩ = some (.bool false) := box_keep hbx (by simp) 0
  have q1 : w2.cell? ⟨w.heap.size, 1, none⟩ = some (.slice aa (dig n).length ca) := box_keep hbx (by simp) 1
  have q2 : w2.cell? ⟨w.heap.size, 2, none⟩ = some (.slice ab (dig d).length cb) := box_keep hbx (by simp) 2
  have q3 : w2.cell? ⟨w.heap.size, 3, none⟩ = some (.bool s2) := box_keep hbx (by simp) 3
  have q4 : w2.cell? ⟨w.heap.size, 4, none⟩ = some (.slice ac (dig 0).length cc) := box_keep hbx (by simp) 4
  have q5 : w2.cell? ⟨w.heap.size, 5, none⟩ = some (.slice ad (dig d2).length cd) := box_keep hbx (by simp) 5
  go_wp2_with fail
  refine (valText_dig _ n d s2 d2 _ (HV.out.below hbw2 (Nat.le_refl _)) h h2 h3).mono ?_
  rintro e w3 ⟨rfl, hb3⟩
  go_wp2
  go_ret2
  exact ⟨rfl, hbw2.trans (hb3.mono hbw2.size)⟩

set_option maxRecDepth 100000 in
theorem whole_pos (n : Nat) (w : World) (h : n < 9223372036854775808) :
    Calls Tryd.prog 52 #[.int .i64 (n : Nat)] w fun e w' => (∃ v, e = .returned v ∧ RatV w' v false n 1) ∧ Below w.heap.size w w' := by
  have h0 : (0 : Int) ≤ n := by omega
  have hn := fun wx => natural_any n wx (by omega)
  have HN := Lib.hid hn; clear hn
  have hle : (n : Int) ≤ 9223372036854775807 := by omega
  go_enter Tryd.func52, Tryd.ntmps52
  go_wp2_with fail
  refine (HN.out _).mono ?_
  rintro e w1 ⟨⟨a, c, rfl, hc, hc1, hc2⟩, hb1⟩
  have H1 : Hid (NatV w1 (.slice a (dig n).length c) n) := ⟨a, c, rfl, hc, hc1, hc2⟩
  clear hc
  have hbw : Below w.heap.size w w1 := ((Below.refl _ _).alloc (Nat.le_refl _) _).trans (hb1.mono (by simp))
  go_wp2_with fail
  refine (one_any _).mono ?_
  rintro e w2 ⟨⟨v1, rfl, h1⟩, hb2⟩
  have hbx := hb1.trans (hb2.mono hb1.size)
  have hbw2 : Below w.heap.size w w2 := hbw.trans (hb2.mono hbw.size)
  have H2 := Lib.hid (H1.out.below hb2 (Nat.le_refl _))
  have H3 := Lib.hid h1
  obtain ⟨a1, c1, hv1⟩ := h1.cases
  rw [dig_1] at hv1
  subst hv1
  clear h1
  have q0 : w2.cell? ⟨w.heap.size, 0, none⟩ = some (.bool false) := box_keep hbx (by simp) 0
  have q1 : w2.cell? ⟨w.heap.size, 1, none⟩ = some (.slice none 0 0) := box_keep hbx (by simp) 1
  have q2 : w2.cell? ⟨w.heap.size, 2, none⟩ = some (.slice none 0 0) := box_keep hbx (by simp) 2
  have f0 := box_free hbx (by simp) 0
  have f1 := box_free hbx (by simp) 1
  have f2 := box_free hbx (by simp) 2
  go_wp2
  refine bodyPost_ret (v := .agg #[.bool false, .slice a (dig n).length c, .slice a1 1 c1]) (by simp [results, Tryd.results52, go_sem, q0, q1, q2]) rfl ?_
  exact ⟨⟨_, rfl, _, _, rfl, H2.out.box3 q0 q1 q2 trivial trivial trivial, H3.out.box3 q0 q1 q2 trivial trivial trivial⟩, ((hbw2.setCell (Nat.le_refl _) _).setCell (Nat.le_refl _) _).setCell (Nat.le_refl _) _⟩

set_option maxRecDepth 100000 in
set_option maxHeartbeats 1000000 in
theorem of_dig (n d : Nat) (w : World) (hn : 0 < n) (hd0 : 0 < d) (hd : d < 1000000000) (hnn : n < 1000000000) (h : n / Nat.gcd n d < 10) (h2 : d / Nat.gcd n d < 10) (h3 : 2 ≤ d / Nat.gcd n d) :
    Calls Tryd.prog 41 #[.int .i64 (n : Nat), .int .i64 (d : Nat)] w fun e w' => e = .returned (.tuple #[.string (digB (n / Nat.gcd n d) ++ (⟨#[47]⟩ ++ digB (d / Nat.gcd n d))), .int .i64 0]) ∧ Below w.heap.size w w' := by
  have hl1 : (dig n).length ≤ 17592186044416 := by rw [dig_one (by omega) (by simp only [B]; omega)]; simp
  have hl2 : (dig d).length ≤ 17592186044416 := by rw [dig_one (by omega) (by simp only [B]; omega)]; simp
  have hne : ((d : Int) == 0) = false := by rw [beq_eq_false_iff_ne]; omega
  have hs : (false && decide (n ≠ 0)) = false := rfl
  have hred := fun va vb wx ha hb => reduced_any B overOK_small false va vb n d wx ha hb hl1 hl2 (by simp only [B]; omega) (by omega)
  have HR := Lib.hid hred; clear hred hs
  go_enter Tryd.func41, Tryd.ntmps41
  go_wp2_with fail
  refine (whole_pos n _ (by omega)).mono ?_
  rintro e w1 ⟨⟨v1, rfl, h1⟩, hb1⟩
  obtain ⟨v11, v12, rfl, h11, h12⟩ := h1
  go_wp2_with fail
  refine (whole_pos d _ (by omega)).mono ?_
  rintro e w2 ⟨⟨v2, rfl, hv2⟩, hb2⟩
  obtain ⟨v21, v22, rfl, h21, h22⟩ := hv2
  have hbw : Below w.heap.size w w2 := hb1.trans (hb2.mono hb1.size)
  have H11 := Lib.hid (h11.below hb2 (Nat.le_refl _))
  have H21 := Lib.hid h21
  obtain ⟨a11, c11, rfl⟩ := h11.cases
  obtain ⟨a12, c12, rfl⟩ := h12.cases
  obtain ⟨a21, c21, rfl⟩ := h21.cases
  obtain ⟨a22, c22, rfl⟩ := h22.cases
  clear h11 h12 h21 h22
  go_wp2_with fail
  refine (HR.out _ _ _ (H11.out.below (((Below.refl w2.heap.size _).alloc (Nat.le_refl _) _).alloc (by simp) _) (Nat.le_refl _)) (H21.out.below (((Below.refl w2.heap.size _).alloc (Nat.le_refl _) _).alloc (by simp) _) (Nat.le_refl _))).mono ?_
  rintro e w3 ⟨⟨v3, rfl, h3'⟩, hb3⟩
  have hbw3 : Below w.heap.size w w3 := ((hbw.alloc hbw.size _).alloc (by have := hbw.size; simp; omega) _).trans (hb3.mono (by have := hbw.size; simp; omega))
  have H3 := Lib.hid h3'
  obtain ⟨v31, v32, rfl, h31, h32⟩ := h3'
  clear h31 h32
  go_wp2_with fail
  refine (plain_any _ _ _ _ _ H3.out).mono ?_
  rintro e w4 ⟨⟨v4, rfl, h4⟩, hb4⟩
  have hbw4 : Below w.heap.size w w4 := hbw3.trans (hb4.mono hbw3.size)
  have H4 := Lib.hid h4; clear h4
  go_wp2_with fail
  refine (put_dig _ _ _ _ _ _ H4.out h h2 h3 (by omega)).mono ?_
  rintro e w5 ⟨rfl, hb5⟩
  go_wp2
  go_ret2
  exact ⟨rfl, hbw4.trans (hb5.mono hbw4.size)⟩
end Go.Proofs.YtoochleabcjljaaDoor

/- Lines: Track, where the amplitude is a small fraction. -/
namespace Go.Proofs.YtoochleabcjljaaDoor
open Go.RowKit

set_option maxRecDepth 100000 in
theorem track_dig (n d : Nat) (ao : Option Addr) (sh : List Int) (cap : Nat) (ax : Option Addr) (xs : List Int) (cx : Nat) (w : World) (hc : Cells w ao (sh.map (Value.int .i64))) (hx : Cells w ax (xs.map (Value.int .i64))) (he : linedErr sh xs = 0)
    (hn : ampN sh xs (whole sh xs) = (n : Nat)) (hd : ampD sh (whole sh xs) = (d : Nat)) (hn0 : 0 < n) (hd0 : 0 < d) (hd9 : d < 1000000000) (hn9 : n < 1000000000) (h : n / Nat.gcd n d < 10) (h2 : d / Nat.gcd n d < 10) (h3 : 2 ≤ d / Nat.gcd n d) :
    Calls Tryd.prog 28 #[.slice ao sh.length cap, .slice ax xs.length cx] w fun e w' => e = .returned (.tuple #[.string (digB (n / Nat.gcd n d) ++ (⟨#[47]⟩ ++ digB (d / Nat.gcd n d))), .int .i64 0]) ∧ Below w.heap.size w w' := by
  obtain ⟨l1, l2⟩ := linedErr_zero he
  have hsl := (lineErr_zero l1).2.1
  have hxl := (serErr_zero l2).1
  have hlin := fun wx h1 h2 => lined_any ao sh cap ax xs cx wx h1 (by omega) h2 (by omega)
  rw [he] at hlin
  have hamp := fun wx h1 h2 => amplitude_any ao sh cap ax xs cx wx h1 h2 he
  rw [hn, hd] at hamp
  have hof := fun wx => of_dig n d wx hn0 hd0 hd9 hn9 h h2 h3
  have hne : ((d : Int) == 0) = false := by rw [beq_eq_false_iff_ne]; omega
  have HC := Lib.hid hc; have HX := Lib.hid hx; have HL := Lib.hid hlin; have HA := Lib.hid hamp; have HO := Lib.hid hof
  clear hc hx he hn hd h h2 h3 hlin hamp hof l1 l2
  go_enter Tryd.func28, Tryd.ntmps28
  go_wp2_with fail
  refine (HL.out _ HC.out HX.out).mono ?_
  rintro e w1 ⟨rfl, hb1⟩
  go_wp2_with fail
  refine (HA.out _ (HC.out.below hb1 (Nat.le_refl _)) (HX.out.below hb1 (Nat.le_refl _))).mono ?_
  rintro e w2 ⟨rfl, rfl⟩
  go_wp2_with fail
  refine (HO.out _).mono ?_
  rintro e w2 ⟨rfl, hb2⟩
  go_wp2
  go_ret2
  exact ⟨rfl, hb1.trans (hb2.mono hb1.size)⟩
end Go.Proofs.YtoochleabcjljaaDoor

/- Examples: what works asks holds. -/
namespace Go.Proofs.YtoochleabcjljaaDoor
open Go.RowKit

theorem exCode : encRes bookX 1 [[0, 1, 1, 2], [-1]] = [165, 90, 0, 7, 0, 0, 0, 1, 64, 204, 2, 89, 2, 199] ∧ frmErr bookX 1 [[0, 1, 1, 2], [-1]] = 0 := by decide +kernel
theorem exStrain : strain [(3, 4), (-1, 1)] 1 [2, 5] = [(3, 4), (6, 11)] ∧ strErr [(3, 4), (-1, 1)] 1 [2, 5] = 0 := by decide +kernel
theorem exInject : injRes [1, -1] 3 [5, 1, 4, 2, 9] = [8, -2, 7, -1, 12] ∧ injErr [1, -1] 3 [5, 1, 4, 2, 9] = 0 := by decide +kernel
theorem exTrack : linedErr [1, -1] [5, 1, 4, 2, 9] = 0 ∧ ampN [1, -1] [5, 1, 4, 2, 9] (whole [1, -1] [5, 1, 4, 2, 9]) = (6 : Nat) ∧ ampD [1, -1] (whole [1, -1] [5, 1, 4, 2, 9]) = (4 : Nat) := by decide +kernel
theorem new_cells (w : World) (cs : List Value) (T : TypeId) : Cells (w.alloc (.cells cs.toArray T)) (some ⟨w.heap.size, 0, none⟩) cs := .inr ⟨_, _, rfl, fun j u hu => by rw [Nat.zero_add]; simpa using hu⟩

theorem one_row {w : World} {a : Option Addr} {xs : List Int} {c : Nat} (h : Cells w a (xs.map (Value.int .i64))) (hl : xs.length ≤ 9223372036854775807) : RowV w (.slice a xs.length c) xs := ⟨a, c, rfl, h, hl⟩
theorem two_rows {w : World} {v1 v2 : Value} {x1 x2 : List Int} (h1 : RowV w v1 x1) (h2 : RowV w v2 x2) : RowsV w [v1, v2] [x1, x2] := by
  refine ⟨rfl, fun i v xs hv hx => ?_⟩
  match i, hv, hx with
  | 0, hv, hx => simp at hv hx; subst hv hx; exact h1
  | 1, hv, hx => simp at hv hx; subst hv hx; exact h2
theorem conv_bytes {w : World} {b : Nat} {cap : Nat} (l : List UInt8) (h : Cells w (some ⟨b, 0, none⟩) (l.map fun d => Value.int .u8 (d.toNat : Int))) :
    (convert 64 9 (.slice (some ⟨b, 0, none⟩) l.length cap)).run Tryd.prog w = .ok (.string ⟨l.toArray⟩) w :=
  run_convert_bytes_back w _ _ 5 ⟨b, 0, none⟩ cap l Tryd.underlying64 Tryd.underlying5 Tryd.underlying9 (fun j hj => by
    have := h.at (j := j) (u := .int .u8 (l[j].toNat : Int)) (by simp [hj])
    rw [Addr.add_lit]; exact this)


theorem two_new (w : World) (c1 c2 : List Value) (T1 T2 : TypeId) : Cells ((w.alloc (.cells c1.toArray T1)).alloc (.cells c2.toArray T2)) (some ⟨w.heap.size, 0, none⟩) c1 ∧ Cells ((w.alloc (.cells c1.toArray T1)).alloc (.cells c2.toArray T2)) (some ⟨w.heap.size + 1, 0, none⟩) c2 := by
  constructor
  · exact (new_cells w c1 T1).below ((Below.refl _ _).alloc (Nat.le_refl _) _) (Nat.le_refl _)
  · have := new_cells (w.alloc (.cells c1.toArray T1)) c2 T2
    rwa [World.size_alloc] at this
theorem two_below (w : World) (o1 o2 : Obj) : Below w.heap.size w ((w.alloc o1).alloc o2) := ((Below.refl _ _).alloc (Nat.le_refl _) _).alloc (by simp) _

theorem ex_encode (w : World) :
    Calls Tryd.prog 26 #[.slice (some ⟨w.heap.size, 0, none⟩) 2 2, .agg #[.int .i64 1, .slice (some ⟨w.heap.size + 1 + 1 + 1, 0, none⟩) 2 2]]
      ((((w.alloc (.cells #[.string ⟨#[101, 114, 114]⟩, .int .i64 4, .int .i64 8, .string ⟨#[97, 117, 120]⟩, .int .i64 1, .int .i64 4] 57)).alloc (.cells #[.int .i64 0, .int .i64 1, .int .i64 1, .int .i64 2] 3)).alloc (.cells #[.int .i64 (-1)] 3)).alloc (.cells #[.slice (some ⟨w.heap.size + 1, 0, none⟩) 4 4, .slice (some ⟨w.heap.size + 1 + 1, 0, none⟩) 1 1] 25))
      fun e w' => (∃ b c, e = .returned (.tuple #[.slice (some ⟨b, 0, none⟩) 14 c, .int .i64 0]) ∧ Cells w' (some ⟨b, 0, none⟩) (bys [165, 90, 0, 7, 0, 0, 0, 1, 64, 204, 2, 89, 2, 199])) ∧ Below w.heap.size w w' := by
  obtain ⟨x1, x2⟩ := exCode
  have hb2 := two_below w (.cells #[.string ⟨#[101, 114, 114]⟩, .int .i64 4, .int .i64 8, .string ⟨#[97, 117, 120]⟩, .int .i64 1, .int .i64 4] 57) (.cells #[.int .i64 0, .int .i64 1, .int .i64 1, .int .i64 2] 3)
  obtain ⟨k1, k2⟩ := two_new w (chs bookX) ([0, 1, 1, 2].map (Value.int .i64)) 57 3
  have hs2 : ((w.alloc (.cells (chs bookX).toArray 57)).alloc (.cells ([0, 1, 1, 2].map (Value.int .i64)).toArray 3)).heap.size = w.heap.size + 1 + 1 := by simp
  change Below w.heap.size w ((w.alloc (.cells (chs bookX).toArray 57)).alloc (.cells ([0, 1, 1, 2].map (Value.int .i64)).toArray 3)) at hb2
  change Calls _ _ _ ((((w.alloc (.cells (chs bookX).toArray 57)).alloc (.cells ([0, 1, 1, 2].map (Value.int .i64)).toArray 3)).alloc (.cells ([-1].map (Value.int .i64)).toArray 3)).alloc (.cells [.slice (some ⟨w.heap.size + 1, 0, none⟩) 4 4, .slice (some ⟨w.heap.size + 1 + 1, 0, none⟩) 1 1].toArray 25)) _
  generalize ((w.alloc (.cells (chs bookX).toArray 57)).alloc (.cells ([0, 1, 1, 2].map (Value.int .i64)).toArray 3)) = W at *
  obtain ⟨k3, k4⟩ := two_new W ([-1].map (Value.int .i64)) [.slice (some ⟨w.heap.size + 1, 0, none⟩) 4 4, .slice (some ⟨w.heap.size + 1 + 1, 0, none⟩) 1 1] 3 25
  have hb4 := two_below W (.cells ([-1].map (Value.int .i64)).toArray 3) (.cells [.slice (some ⟨w.heap.size + 1, 0, none⟩) 4 4, .slice (some ⟨w.heap.size + 1 + 1, 0, none⟩) 1 1].toArray 25)
  generalize ((W.alloc (.cells ([-1].map (Value.int .i64)).toArray 3)).alloc (.cells [.slice (some ⟨w.heap.size + 1, 0, none⟩) 4 4, .slice (some ⟨w.heap.size + 1 + 1, 0, none⟩) 1 1].toArray 25)) = W2 at *
  rw [hs2] at k3 k4
  have q1 := k1.below hb4 (Nat.le_refl _)
  have q2 := k2.below hb4 (Nat.le_refl _)
  have h := Encode_any (some ⟨w.heap.size, 0, none⟩) bookX 2 1 (some ⟨w.heap.size + 1 + 1 + 1, 0, none⟩) [.slice (some ⟨w.heap.size + 1, 0, none⟩) 4 4, .slice (some ⟨w.heap.size + 1 + 1, 0, none⟩) 1 1] [[0, 1, 1, 2], [-1]] 2 W2 ⟨q1, by decide, by decide, by decide, by decide, by decide⟩ k4 (two_rows (one_row (xs := [0, 1, 1, 2]) q2 (by decide)) (one_row (xs := [-1]) k3 (by decide))) (by decide)
  rw [x1, x2] at h
  refine Calls.mono h ?_
  rintro e w' ⟨⟨v, rfl, hown⟩, hb⟩
  obtain ⟨g, c, rfl, _, _⟩ := hown.form (by decide)
  obtain ⟨a, c', h1, h2⟩ := own_cells hown
  simp only [Value.slice.injEq] at h1
  exact ⟨⟨g, c, rfl, by rw [h1.1]; exact h2⟩, hb2.trans ((hb4.mono hb2.size).trans (hb.mono (Nat.le_trans hb2.size hb4.size)))⟩

theorem ex_strain (w : World) :
    Calls Tryd.prog 6 #[.agg #[.slice (some ⟨w.heap.size, 0, none⟩) 2 2, .int .i64 1], .slice (some ⟨w.heap.size + 1, 0, none⟩) 2 2]
      ((w.alloc (.cells #[.int .i64 3, .int .i64 4, .int .i64 (-1), .int .i64 1] 37)).alloc (.cells #[.int .i64 2, .int .i64 5] 3))
      fun e w' => (∃ a c, e = .returned (.tuple #[.slice a 2 c, .int .i64 0]) ∧ Cells w' a (prs [(3, 4), (6, 11)])) ∧ Below w.heap.size w w' := by
  obtain ⟨x1, x2⟩ := exStrain
  obtain ⟨k1, k2⟩ := two_new w (prs [(3, 4), (-1, 1)]) ([2, 5].map (Value.int .i64)) 37 3
  have hb2 := two_below w (.cells (prs [(3, 4), (-1, 1)]).toArray 37) (.cells ([2, 5].map (Value.int .i64)).toArray 3)
  have h := strain_any (some ⟨w.heap.size, 0, none⟩) [(3, 4), (-1, 1)] 2 1 (some ⟨w.heap.size + 1, 0, none⟩) [2, 5] 2 _ k1 (by decide) k2 (by decide)
  rw [x1, x2] at h
  exact Calls.mono h fun e w' ⟨⟨a, c, h1, h2⟩, h3⟩ => ⟨⟨a, c, h1, h2⟩, hb2.trans (h3.mono hb2.size)⟩

theorem ex_track (w : World) :
    Calls Tryd.prog 28 #[.slice (some ⟨w.heap.size, 0, none⟩) 2 2, .slice (some ⟨w.heap.size + 1, 0, none⟩) 5 5]
      ((w.alloc (.cells #[.int .i64 1, .int .i64 (-1)] 3)).alloc (.cells #[.int .i64 5, .int .i64 1, .int .i64 4, .int .i64 2, .int .i64 9] 3))
      fun e w' => e = .returned (.tuple #[.string ⟨#[51, 47, 50]⟩, .int .i64 0]) ∧ Below w.heap.size w w' := by
  obtain ⟨x7, x8, x9⟩ := exTrack
  obtain ⟨k1, k2⟩ := two_new w ([1, -1].map (Value.int .i64)) ([5, 1, 4, 2, 9].map (Value.int .i64)) 3 3
  have hb2 := two_below w (.cells ([1, -1].map (Value.int .i64)).toArray 3) (.cells ([5, 1, 4, 2, 9].map (Value.int .i64)).toArray 3)
  have h := track_dig 6 4 (some ⟨w.heap.size, 0, none⟩) [1, -1] 2 (some ⟨w.heap.size + 1, 0, none⟩) [5, 1, 4, 2, 9] 5 _ k1 k2 x7 x8 x9 (by decide) (by decide) (by decide) (by decide) (by decide) (by decide) (by decide)
  have e1 : digB (6 / Nat.gcd 6 4) ++ (⟨#[47]⟩ ++ digB (4 / Nat.gcd 6 4)) = ⟨#[51, 47, 50]⟩ := by decide +kernel
  rw [e1] at h
  exact Calls.mono h fun e w' ⟨h1, h3⟩ => ⟨h1, hb2.trans (h3.mono hb2.size)⟩

theorem ex_inject (w : World) :
    Calls Tryd.prog 29 #[.slice (some ⟨w.heap.size, 0, none⟩) 2 2, .int .i64 3, .slice (some ⟨w.heap.size + 1, 0, none⟩) 5 5]
      ((w.alloc (.cells #[.int .i64 1, .int .i64 (-1)] 3)).alloc (.cells #[.int .i64 5, .int .i64 1, .int .i64 4, .int .i64 2, .int .i64 9] 3))
      fun e w' => (∃ a c, e = .returned (.tuple #[.slice a 5 c, .int .i64 0]) ∧ Cells w' a ([8, -2, 7, -1, 12].map (Value.int .i64))) ∧ Below w.heap.size w w' := by
  obtain ⟨x1, x2⟩ := exInject
  obtain ⟨k1, k2⟩ := two_new w ([1, -1].map (Value.int .i64)) ([5, 1, 4, 2, 9].map (Value.int .i64)) 3 3
  have hb2 := two_below w (.cells ([1, -1].map (Value.int .i64)).toArray 3) (.cells ([5, 1, 4, 2, 9].map (Value.int .i64)).toArray 3)
  have h := inject_any (some ⟨w.heap.size, 0, none⟩) [1, -1] 2 3 (some ⟨w.heap.size + 1, 0, none⟩) [5, 1, 4, 2, 9] 5 _ k1 (by decide) k2 (by decide)
  rw [x1, x2] at h
  exact Calls.mono h fun e w' ⟨⟨a, c, h1, h2⟩, h3⟩ => ⟨⟨a, c, h1, h2⟩, hb2.trans (h3.mono hb2.size)⟩
end Go.Proofs.YtoochleabcjljaaDoor

/- Examples: works. -/
namespace Go.Proofs.YtoochleabcjljaaDoor
open Go.RowKit

theorem same_bands_eq (aa ab : Option Addr) (ca cb : Nat) (w : World) (xs : List (Int × Int)) (n : Nat) (hn : n = xs.length) (hl : xs.length ≤ 9223372036854775807) (ha : Cells w aa (prs xs)) (hb : Cells w ab (prs xs)) :
    Calls Tryd.prog 12 #[.slice aa n ca, .slice ab n cb] w fun e w' => e = .returned (.bool true) ∧ Below w.heap.size w w' := by
  subst hn
  have h := sameBands_any aa ab xs xs ca cb w ha hb hl hl
  simpa using h
theorem same_ints_eq (aa ab : Option Addr) (ca cb : Nat) (w : World) (xs : List Int) (n : Nat) (hn : n = xs.length) (hl : xs.length ≤ 9223372036854775807) (ha : Cells w aa (xs.map (Value.int .i64))) (hb : Cells w ab (xs.map (Value.int .i64))) :
    Calls Tryd.prog 20 #[.slice aa n ca, .slice ab n cb] w fun e w' => e = .returned (.bool true) ∧ Below w.heap.size w w' := by
  subst hn
  have h := sameInts_any aa ab xs xs ca cb w ha hb hl hl
  simpa using h
theorem one_new (w : World) (c1 : List Value) (T1 : TypeId) : Cells (w.alloc (.cells c1.toArray T1)) (some ⟨w.heap.size, 0, none⟩) c1 := new_cells w c1 T1

set_option maxRecDepth 100000 in
set_option maxHeartbeats 2000000 in
theorem works_any (w : World) : Calls Tryd.prog 13 #[] w fun e w' => e = .returned (.bool true) ∧ Below w.heap.size w w' := by
  go_enter Tryd.func13, Tryd.ntmps13
  go_wp2_with (go_at_call 27; refine (book_any _).mono ?_; rintro e w1 ⟨rfl, rfl⟩)
  refine (ex_encode _).mono ?_
  rintro e w1 ⟨⟨b1, c1, rfl, hc1⟩, hb1⟩
  have HC1 := Lib.hid hc1; clear hc1
  go_wp2_with fail
  refine (ex_strain _).mono ?_
  rintro e w2 ⟨⟨a2, c2, rfl, hc2⟩, hb2⟩
  have HC2 := Lib.hid hc2; clear hc2
  go_wp2_with fail
  refine (ex_track _).mono ?_
  rintro e w3 ⟨rfl, hb3⟩
  go_wp2_with fail
  refine (ex_inject _).mono ?_
  rintro e w4 ⟨⟨a4, c4, rfl, hc4⟩, hb4⟩
  have HC4 := Lib.hid hc4; clear hc4
  have n2 := hb1.trans (hb2.mono hb1.size)
  have n3 := n2.trans (hb3.mono n2.size)
  have n4 := n3.trans (hb4.mono n3.size)
  have k24 := (hb3.trans (hb4.mono hb3.size))
  have k14 := hb2.trans (k24.mono hb2.size)
  have q1 := HC1.out.below k14 (Nat.le_refl _)
  have q2 := HC2.out.below k24 (Nat.le_refl _)
  have hcv : (convert 64 9 (.slice (some ⟨b1, 0, none⟩) 14 c1)).run Tryd.prog w4 = .ok (.string ⟨#[165, 90, 0, 7, 0, 0, 0, 1, 64, 204, 2, 89, 2, 199]⟩) w4 := conv_bytes (w := w4) (cap := c1) [165, 90, 0, 7, 0, 0, 0, 1, 64, 204, 2, 89, 2, 199] q1
  have HQ2 := Lib.hid q2
  clear q1 q2 k14 k24 hb1 hb2 hb3 hb4 n2 n3
  go_wp2_with fail
  have hb5 := (Below.refl w4.heap.size w4).alloc (Nat.le_refl _) (.cells #[.int .i64 3, .int .i64 4, .int .i64 6, .int .i64 11] 39)
  refine (same_bands_eq _ _ _ _ _ [(3, 4), (6, 11)] 2 rfl (by decide) (HQ2.out.below hb5 (Nat.le_refl _)) (new_cells w4 (prs [(3, 4), (6, 11)]) 39)).mono ?_
  rintro e w5 ⟨rfl, hb6⟩
  have hb7 := hb5.trans (hb6.mono hb5.size)
  have n5 := n4.trans (hb7.mono n4.size)
  have q4 := HC4.out.below hb7 (Nat.le_refl _)
  have HQ4 := Lib.hid q4
  clear q4 hb5 hb6 hb7 n4 hcv
  go_wp2_with fail
  have hb5 := (Below.refl w5.heap.size w5).alloc (Nat.le_refl _) (.cells #[.int .i64 8, .int .i64 (-2), .int .i64 7, .int .i64 (-1), .int .i64 12] 3)
  refine (same_ints_eq _ _ _ _ _ [8, -2, 7, -1, 12] 5 rfl (by decide) (HQ4.out.below hb5 (Nat.le_refl _)) (new_cells w5 ([8, -2, 7, -1, 12].map (Value.int .i64)) 3)).mono ?_
  rintro e w6 ⟨rfl, hb6⟩
  have n6 := n5.trans ((hb5.trans (hb6.mono hb5.size)).mono n5.size)
  clear hb5 hb6 n5
  go_wp2
  go_ret
  exact ⟨rfl, n6⟩
end Go.Proofs.YtoochleabcjljaaDoor

/- RecordWithin: the walk. -/
namespace Go.Proofs.YtoochleabcjljaaDoor
open Go.RowKit

theorem strErr_zero {ts : List (Int × Int)} {sh : Int} {xs : List Int} (h : strErr ts sh xs = 0) : modErr ts sh = 0 ∧ serErr xs = 0 := by
  unfold strErr at h
  split at h
  · contradiction
  · rename_i h1
    exact ⟨by simpa using h1, h⟩
theorem strain_ok (ao : Option Addr) (ts : List (Int × Int)) (n : Nat) (cap : Nat) (sh : Int) (ax : Option Addr) (xs : List Int) (cx : Nat) (w : World) (hn : n = ts.length) (hc : Cells w ao (prs ts)) (hx : Cells w ax (xs.map (Value.int .i64))) (h1 : modErr ts sh = 0) (h2 : serErr xs = 0) :
    Calls Tryd.prog 6 #[.agg #[.slice ao n cap, .int .i64 sh], .slice ax xs.length cx] w fun e w' => (∃ a c, e = .returned (.tuple #[.slice a xs.length c, .int .i64 0]) ∧ Cells w' a (prs (bands ts sh.toNat xs xs.length))) ∧ Below w.heap.size w w' := by
  subst hn
  have hm := modErr_zero h1
  have hs := serErr_zero h2
  have h := strain_any ao ts cap sh ax xs cx w hc (by omega) hx (by omega)
  have e1 : strErr ts sh xs = 0 := by simp [strErr, h1, h2]
  have e2 : strain ts sh xs = bands ts sh.toNat xs xs.length := by simp [strain, e1]
  rw [e1, e2, bands_length] at h
  exact h
theorem strain_bad (ao : Option Addr) (ts : List (Int × Int)) (cap : Nat) (sh : Int) (ax : Option Addr) (xs : List Int) (cx : Nat) (w : World) (hc : Cells w ao (prs ts)) (hl : ts.length ≤ 9223372036854775807) (hx : Cells w ax (xs.map (Value.int .i64))) (hlx : xs.length ≤ 9223372036854775807) (h1 : strErr ts sh xs ≠ 0) :
    Calls Tryd.prog 6 #[.agg #[.slice ao ts.length cap, .int .i64 sh], .slice ax xs.length cx] w fun e w' => (∃ a c, e = .returned (.tuple #[.slice a 0 c, .int .i64 (strErr ts sh xs)])) ∧ Below w.heap.size w w' := by
  have h := strain_any ao ts cap sh ax xs cx w hc hl hx hlx
  have e2 : strain ts sh xs = [] := by simp [strain, h1]
  rw [e2] at h
  exact h.mono fun e w' ⟨⟨a, c, h1, _⟩, h3⟩ => ⟨⟨a, c, h1⟩, h3⟩

set_option maxRecDepth 100000 in
set_option maxHeartbeats 2000000 in
theorem within_bad (ao : Option Addr) (ts : List (Int × Int)) (cap : Nat) (sh : Int) (ax : Option Addr) (xs : List Int) (cx : Nat) (ab : Option Addr) (bits : List Int) (cb : Nat) (w : World) (hc : Cells w ao (prs ts)) (hl : ts.length ≤ 9223372036854775807) (hx : Cells w ax (xs.map (Value.int .i64))) (hlx : xs.length ≤ 9223372036854775807)
    (h1 : strErr ts sh xs ≠ 0) :
    Calls Tryd.prog 4 #[.agg #[.slice ao ts.length cap, .int .i64 sh], .slice ax xs.length cx, .slice ab bits.length cb] w fun e w' => e = .returned (.bool true) ∧ Below w.heap.size w w' := by
  have HC := Lib.hid hc; have HX := Lib.hid hx; clear hc hx
  have hb0 := (Below.refl w.heap.size w).alloc (Nat.le_refl _) (.cells #[.slice ao ts.length cap, .int .i64 sh] 24)
  have hs := fun wx h3 h4 => strain_bad ao ts cap sh ax xs cx wx h3 hl h4 hlx h1
  have h2 : (strErr ts sh xs != 0) = true := by simpa using h1
  generalize strErr ts sh xs = er at *
  have HS := Lib.hid hs; clear hs h1
  go_enter Tryd.func4, Tryd.ntmps4
  go_wp2_with fail
  refine (HS.out _ (HC.out.below hb0 (Nat.le_refl _)) (HX.out.below hb0 (Nat.le_refl _))).mono ?_
  rintro e w1 ⟨⟨a1, c1, rfl⟩, hb1⟩
  have n1 := hb0.trans (hb1.mono (by simp))
  clear hb0 hb1
  go_wp2_with fail
  refine (works_any _).mono ?_
  rintro e w2 ⟨rfl, hb2⟩
  have n2 := n1.trans (hb2.mono n1.size)
  clear n1 hb2
  go_wp2
  go_ret
  exact ⟨rfl, n2⟩

theorem quiet_left {P : Program} {f : FuncId} {args : Array Value} {w : World} {n : Nat} {v : Value}
    (h : Calls P f args (w.drewN n) fun e w' => e = .returned v ∧ w.drewN n = w') : Calls P f args (w.drewN n) fun e w'' => e = .returned v ∧ ∃ m, w'' = w.drewN m :=
  h.mono fun _ _ ⟨he, hm⟩ => ⟨he, n, hm.symm⟩
theorem cells_drewN {w : World} {ao : Option Addr} {cs : List Value} (h : Cells w ao cs) (n : Nat) : Cells (w.drewN n) ao cs := h

/-- the two models that are made, with so many taps -/
structure Two (base b9 b10 : Nat) (sh : Nat) (bits : List Int) (ts : List (Int × Int)) (ke kn : Nat) (ve vn : Value) (w : World) : Prop where
  e : Blk w b9 24 #[ve, .int .i64 sh]
  n : Blk w b10 24 #[vn, .int .i64 sh]
  oe : w.ownsRow base 37 2 ve ke (prs (exL bits ts ke))
  on : w.ownsRow base 37 2 vn kn (prs (naL bits ts kn))
  ne : ∀ g, ve.ownBlock = some g → vn.ownBlock ≠ some g
theorem blk_own_ne {w : World} {b base : Nat} {T e : TypeId} {cs : Array Value} {s n : Nat} {v : Value} {xs : List Value} (h : Blk w b T cs) (ho : w.ownsRow base e s v n xs) (hT : T ≠ e) : v.ownBlock ≠ some b := by
  intro hv
  rcases ho.2 with ⟨rfl, _⟩ | ⟨g, cap, cur, rfl, _, hg, _⟩
  · simp [Value.ownBlock] at hv
  · simp [Value.ownBlock] at hv
    subst hv
    rw [show w.heap[g]? = _ from h] at hg
    simp at hg
    exact hT hg.2

theorem Two.drewN {base b9 b10 sh : Nat} {bits : List Int} {ts : List (Int × Int)} {ke kn : Nat} {ve vn : Value} {w : World} (h : Two base b9 b10 sh bits ts ke kn ve vn w) (n : Nat) : Two base b9 b10 sh bits ts ke kn ve vn (w.drewN n) := ⟨h.e, h.n, h.oe, h.on, h.ne⟩
theorem Two.stepE {base b9 b10 sh : Nat} {bits : List Int} {ts : List (Int × Int)} {ke kn : Nat} {ve vn : Value} {w : World} (h : Two base b9 b10 sh bits ts ke kn ve vn w) (hne : b9 ≠ b10) {o : Obj} {gg cp : Nat} {wz : World} {q : Int} (hq : exAt bits ts ke = q)
    (hown : wz.ownsRow base 37 2 (.slice (some ⟨gg, 0, none⟩) (ke + 1) cp) (ke + 1) (prs (exL bits ts ke) ++ [.int .i64 q, .int .i64 q])) (hg : (w.alloc o).grownBy wz ve.ownBlock) (hat : ve.ownBlock = some gg ∨ gg = w.heap.size + 1) :
    Two base b9 b10 sh bits ts (ke + 1) kn (.slice (some ⟨gg, 0, none⟩) (ke + 1) cp) vn (wz.setCell ⟨b9, 0, none⟩ (.slice (some ⟨gg, 0, none⟩) (ke + 1) cp)) := by
  have t1 := blk_own_ne h.e h.oe (by decide)
  have t2 := blk_own_ne h.n h.oe (by decide)
  have k1 := (h.e.alloc o).kept hg (fun e => t1 e.symm)
  have k2 := (h.n.alloc o).kept hg (fun e => t2 e.symm)
  have k3 := (h.on.alloc o).kept hg (by
    rcases hv : vn.ownBlock with _ | g
    · exact .inl rfl
    · exact .inr fun e => h.ne g e.symm hv)
  have t3 := blk_own_ne k1 hown (by decide)
  have t4 := blk_own_ne k1 k3 (by decide)
  refine ⟨k1.set0 _, k2.other (Ne.symm hne) _ _, ?_, own_set_other k3 t4, fun g hg1 hg2 => ?_⟩
  · rw [exL_succ, prs_append, hq]
    exact own_set_other hown t3
  · simp [Value.ownBlock] at hg1
    subst hg1
    rcases hat with hat | rfl
    · exact h.ne gg hat hg2
    · have := (h.on.lt _ hg2).2
      omega
theorem Two.stepN {base b9 b10 sh : Nat} {bits : List Int} {ts : List (Int × Int)} {ke kn : Nat} {ve vn : Value} {w : World} (h : Two base b9 b10 sh bits ts ke kn ve vn w) (hne : b9 ≠ b10) {o : Obj} {gg cp : Nat} {wz : World} {p q : Int} (hp : naAt bits ts kn = p) (hq : exAt bits ts kn = q)
    (hown : wz.ownsRow base 37 2 (.slice (some ⟨gg, 0, none⟩) (kn + 1) cp) (kn + 1) (prs (naL bits ts kn) ++ [.int .i64 p, .int .i64 q])) (hg : (w.alloc o).grownBy wz vn.ownBlock) (hat : vn.ownBlock = some gg ∨ gg = w.heap.size + 1) :
    Two base b9 b10 sh bits ts ke (kn + 1) ve (.slice (some ⟨gg, 0, none⟩) (kn + 1) cp) (wz.setCell ⟨b10, 0, none⟩ (.slice (some ⟨gg, 0, none⟩) (kn + 1) cp)) := by
  have t1 := blk_own_ne h.e h.on (by decide)
  have t2 := blk_own_ne h.n h.on (by decide)
  have k1 := (h.e.alloc o).kept hg (fun e => t1 e.symm)
  have k2 := (h.n.alloc o).kept hg (fun e => t2 e.symm)
  have k3 := (h.oe.alloc o).kept hg (by
    rcases hv : ve.ownBlock with _ | g
    · exact .inl rfl
    · exact .inr fun e => h.ne g hv e.symm)
  have t3 := blk_own_ne k2 hown (by decide)
  have t4 := blk_own_ne k2 k3 (by decide)
  refine ⟨k1.other hne _ _, k2.set0 _, own_set_other k3 t4, ?_, fun g hg1 hg2 => ?_⟩
  · rw [naL_succ, prs_append, hp, hq]
    exact own_set_other hown t3
  · simp [Value.ownBlock] at hg2
    subst hg2
    rcases hat with hat | rfl
    · exact h.ne gg hg1 hat
    · have := (h.oe.lt _ hg1).2
      omega

theorem undrew {w wz : World} {row : Option Nat} (h : w.drew.grownBy wz row) : w.grownBy wz row := ⟨h.os, h.tape, h.output, h.size, h.block⟩

theorem Tryd.infoTap : (Tryd.prog.info? 37).map (fun i => (i.zero, i.size, i.bytes)) = some (some (.agg #[.int .i64 0, .int .i64 0]), 2, 16) := by kernel_rfl
end Go.Proofs.YtoochleabcjljaaDoor

/- RecordWithin: what stands behind the inner loop, a declaration of its own. -/
namespace Go.Proofs.YtoochleabcjljaaDoor
open Go.RowKit

/-- the bodies of the loops of a text, in order -/
def loopsOf : Code → List Code
  | .loop c => [c]
  | .seq a b => loopsOf a ++ loopsOf b
  | .block _ c => loopsOf c
  | .scope c => loopsOf c
  | .cond _ a b => loopsOf a ++ loopsOf b
  | _ => []
def codeFst : Code → Code | .seq a _ => a | c => c
def codeSnd : Code → Code | .seq _ b => b | c => c
def codeIn : Code → Code | .block _ c => c | .loop c => c | c => c
noncomputable def within2 : Code := (loopsOf (Tryd.f4.body.getD .skip)).getD 1 .skip
noncomputable def withinT : Code := codeSnd (codeSnd (codeIn (codeFst (codeSnd within2))))

set_option maxRecDepth 1000000 in
def TailX (ax : Option Addr) (xs : List Int) (cx : Nat) (bm : Nat) (a7 : Option Addr) (c7 b9 : Nat) (a13 : Option Addr) (c13 : Nat) (a14 : Option Addr) (c14 : Nat) (t : Nat) (S : Int) (s0 s2 s4 s5 s6 s8 s10 s11 s12 s15 s18 s21 s22 s23 s24 s25 s26 s27 s28 s29 s30 s31 s32 s33 s34 s35 s36 s37 s38 s39 s40 s41 s42 s43 s44 s45 s46 s47 s48 s49 s50 s51 s52 s53 s54 s55 s56 s57 s58 s59 s60 s61 s62 s63 s64 s65 s66 s67 s68 s69 s70 s71 s72 s73 s74 s75 s76 s77 s78 s79 s80 s81 s82 s83 s84 s85 s86 s87 s88 s89 s90 s91 s92 s93 s94 s95 s96 s97 s98 s99 s100 s101 s102 s103 s104 s105 s106 s107 s108 s109 s110 s111 s112 s113 s114 s115 s116 s117 s118 s119 s120 s121 s122 s123 s124 s125 s126 s127 s128 s129 s130 s131 s132 s133 s134 s135 s136 s137 s138 s139 s140 s141 s142 s143 s144 s145 s146 s147 s148 s149 s253 : Value) (a : Act) : Prop :=
  ∃ v19 v20 v150 v151 v152 v153 v154 v155 v156 v157 v158 v159 v160 v161 v162 v163 v164 v165 v166 v167 v168 v169 v170 v171 v172 v173 v174 v175 v176 v177 v178 v179 v180 v181 v182 v183 v184 v185 v186 v187 v188 v189 v190 v191 v192 v193 v194 v195 v196 v197 v198 v199 v200 v201 v202 v203 v204 v205 v206 v207 v208 v209 v210 v211 v212 v213 v214 v215 v216 v217 v218 v219 v220 v221 v222 v223 v224 v225 v226 v227 v228 v229 v230 v231 v232 v233 v234 v235 v236 v237 v238 v239 v240 v241 v242 v243 v244 v245 v246 v247 v248 v249 v250 v251 v252 : Value, a = ⟨#[s0, .slice ax xs.length cx, s2, .pointer (some ⟨bm, 0, none⟩), s4, s5, s6, .slice a7 xs.length c7, s8, .pointer (some ⟨b9, 0, none⟩), s10, s11, s12, .slice a13 xs.length c13, .slice a14 xs.length c14, s15, .int .i64 (t : Nat), .int .i64 S, s18, v19, v20, s21, s22, s23, s24, s25, s26, s27, s28, s29, s30, s31, s32, s33, s34, s35, s36, s37, s38, s39, s40, s41, s42, s43, s44, s45, s46, s47, s48, s49, s50, s51, s52, s53, s54, s55, s56, s57, s58, s59, s60, s61, s62, s63, s64, s65, s66, s67, s68, s69, s70, s71, s72, s73, s74, s75, s76, s77, s78, s79, s80, s81, s82, s83, s84, s85, s86, s87, s88, s89, s90, s91, s92, s93, s94, s95, s96, s97, s98, s99, s100, s101, s102, s103, s104, s105, s106, s107, s108, s109, s110, s111, s112, s113, s114, s115, s116, s117, s118, s119, s120, s121, s122, s123, s124, s125, s126, s127, s128, s129, s130, s131, s132, s133, s134, s135, s136, s137, s138, s139, s140, s141, s142, s143, s144, s145, s146, s147, s148, s149, v150, v151, v152, v153, v154, v155, v156, v157, v158, v159, v160, v161, v162, v163, v164, v165, v166, v167, v168, v169, v170, v171, v172, v173, v174, v175, v176, v177, v178, v179, v180, v181, v182, v183, v184, v185, v186, v187, v188, v189, v190, v191, v192, v193, v194, v195, v196, v197, v198, v199, v200, v201, v202, v203, v204, v205, v206, v207, v208, v209, v210, v211, v212, v213, v214, v215, v216, v217, v218, v219, v220, v221, v222, v223, v224, v225, v226, v227, v228, v229, v230, v231, v232, v233, v234, v235, v236, v237, v238, v239, v240, v241, v242, v243, v244, v245, v246, v247, v248, v249, v250, v251, v252, s253], []⟩

set_option maxRecDepth 1000000 in
set_option maxHeartbeats 20000000 in
theorem within_tail (sh : Nat) (ax : Option Addr) (xs : List Int) (cx : Nat) (w wi : World) (bm b9 : Nat) (a7 : Option Addr) (c7 : Nat) (a13 : Option Addr) (c13 : Nat) (a14 : Option Addr) (c14 : Nat) (Q0 : Exit → Act → World → Prop) (t : Nat) (S bl bh nl nh : Int) (b7 o7 b13 o13 b14 o14 : Nat)
    (s0 s2 s4 s5 s6 s8 s10 s11 s12 s15 s18 s19 s20 s21 s22 s23 s24 s25 s26 s27 s28 s29 s30 s31 s32 s33 s34 s35 s36 s37 s38 s39 s40 s41 s42 s43 s44 s45 s46 s47 s48 s49 s50 s51 s52 s53 s54 s55 s56 s57 s58 s59 s60 s61 s62 s63 s64 s65 s66 s67 s68 s69 s70 s71 s72 s73 s74 s75 s76 s77 s78 s79 s80 s81 s82 s83 s84 s85 s86 s87 s88 s89 s90 s91 s92 s93 s94 s95 s96 s97 s98 s99 s100 s101 s102 s103 s104 s105 s106 s107 s108 s109 s110 s111 s112 s113 s114 s115 s116 s117 s118 s119 s120 s121 s122 s123 s124 s125 s126 s127 s128 s129 s130 s131 s132 s133 s134 s135 s136 s137 s138 s139 s140 s141 s142 s143 s144 s145 s146 s147 s148 s149 s150 s151 s152 s153 s154 s155 s156 s157 s158 s159 s160 s161 s162 s163 s164 s165 s166 s167 s168 s169 s170 s171 s172 s173 s174 s175 s176 s177 s178 s179 s180 s181 s182 s183 s184 s185 s186 s187 s188 s189 s190 s191 s192 s193 s194 s195 s196 s197 s198 s199 s200 s201 s202 s203 s204 s205 s206 s207 s208 s209 s210 s211 s212 s213 s214 s215 s216 s217 s218 s219 s220 s221 s222 s223 s224 s225 s226 s227 s228 s229 s230 s231 s232 s233 s234 s235 s236 s237 s238 s239 s240 s241 s242 s243 s244 s245 s246 s247 s248 s249 s250 s251 s252 s253 : Value)
    (ht : t < xs.length) (hsh : sh ≤ 20) (hS : -140737488355328 ≤ S ∧ S ≤ 140737488355328) (hv : bl ≤ S / 2 ^ sh ∧ -(-S / 2 ^ sh) ≤ bh ∧ -(-S / 2 ^ sh) - S / 2 ^ sh ≤ 1 ∧ bl ≤ nl ∧ nh ≤ bh ∧ nl ≤ S / 2 ^ sh ∧ -(-S / 2 ^ sh) ≤ nh)
    (h7 : a7 = some ⟨b7, o7, none⟩) (h13 : a13 = some ⟨b13, o13, none⟩) (h14 : a14 = some ⟨b14, o14, none⟩)
    (y1 : wi.cell? ⟨bm, 1, none⟩ = some (.int .i64 sh))
    (c70 : wi.cell? ⟨b7, o7 + t * 2, none⟩ = some (.int .i64 bl)) (c71 : wi.cell? ⟨b7, o7 + t * 2 + 1, none⟩ = some (.int .i64 bh)) (c130 : wi.cell? ⟨b13, o13 + t * 2, none⟩ = some (.int .i64 (S / 2 ^ sh))) (c131 : wi.cell? ⟨b13, o13 + t * 2 + 1, none⟩ = some (.int .i64 (-(-S / 2 ^ sh))))
    (c140 : wi.cell? ⟨b14, o14 + t * 2, none⟩ = some (.int .i64 nl)) (c141 : wi.cell? ⟨b14, o14 + t * 2 + 1, none⟩ = some (.int .i64 nh)) (hbi : Below w.heap.size w wi)
    (hexit : ∀ a' w', TailX ax xs cx bm a7 c7 b9 a13 c13 a14 c14 t S s0 s2 s4 s5 s6 s8 s10 s11 s12 s15 s18 s21 s22 s23 s24 s25 s26 s27 s28 s29 s30 s31 s32 s33 s34 s35 s36 s37 s38 s39 s40 s41 s42 s43 s44 s45 s46 s47 s48 s49 s50 s51 s52 s53 s54 s55 s56 s57 s58 s59 s60 s61 s62 s63 s64 s65 s66 s67 s68 s69 s70 s71 s72 s73 s74 s75 s76 s77 s78 s79 s80 s81 s82 s83 s84 s85 s86 s87 s88 s89 s90 s91 s92 s93 s94 s95 s96 s97 s98 s99 s100 s101 s102 s103 s104 s105 s106 s107 s108 s109 s110 s111 s112 s113 s114 s115 s116 s117 s118 s119 s120 s121 s122 s123 s124 s125 s126 s127 s128 s129 s130 s131 s132 s133 s134 s135 s136 s137 s138 s139 s140 s141 s142 s143 s144 s145 s146 s147 s148 s149 s253 a' → Below w.heap.size w w' → Q0 .normal a' w') (K : Act → World → Prop) (hK : ∀ a w, Code.wp Tryd.prog (codeSnd withinT) Q0 a w → K a w) :
    Code.wp Tryd.prog (codeFst withinT) (Exit.then K Q0) ⟨#[s0, .slice ax xs.length cx, s2, .pointer (some ⟨bm, 0, none⟩), s4, s5, s6, .slice a7 xs.length c7, s8, .pointer (some ⟨b9, 0, none⟩), s10, s11, s12, .slice a13 xs.length c13, .slice a14 xs.length c14, s15, .int .i64 (t : Nat), .int .i64 S, s18, s19, s20, s21, s22, s23, s24, s25, s26, s27, s28, s29, s30, s31, s32, s33, s34, s35, s36, s37, s38, s39, s40, s41, s42, s43, s44, s45, s46, s47, s48, s49, s50, s51, s52, s53, s54, s55, s56, s57, s58, s59, s60, s61, s62, s63, s64, s65, s66, s67, s68, s69, s70, s71, s72, s73, s74, s75, s76, s77, s78, s79, s80, s81, s82, s83, s84, s85, s86, s87, s88, s89, s90, s91, s92, s93, s94, s95, s96, s97, s98, s99, s100, s101, s102, s103, s104, s105, s106, s107, s108, s109, s110, s111, s112, s113, s114, s115, s116, s117, s118, s119, s120, s121, s122, s123, s124, s125, s126, s127, s128, s129, s130, s131, s132, s133, s134, s135, s136, s137, s138, s139, s140, s141, s142, s143, s144, s145, s146, s147, s148, s149, s150, s151, s152, s153, s154, s155, s156, s157, s158, s159, s160, s161, s162, s163, s164, s165, s166, s167, s168, s169, s170, s171, s172, s173, s174, s175, s176, s177, s178, s179, s180, s181, s182, s183, s184, s185, s186, s187, s188, s189, s190, s191, s192, s193, s194, s195, s196, s197, s198, s199, s200, s201, s202, s203, s204, s205, s206, s207, s208, s209, s210, s211, s212, s213, s214, s215, s216, s217, s218, s219, s220, s221, s222, s223, s224, s225, s226, s227, s228, s229, s230, s231, s232, s233, s234, s235, s236, s237, s238, s239, s240, s241, s242, s243, s244, s245, s246, s247, s248, s249, s250, s251, s252, s253], []⟩ wi := by
  obtain ⟨v1, v2, v4, v5, v6, v7, v8⟩ := hv
  obtain ⟨l1, l2⟩ := hS
  subst h7 h13 h14
  have hdb := div_pow_bd (x := S) (M := 140737488355328) sh (by omega) (by omega) (by omega)
  have hub := div_pow_bd (x := -S) (M := 140737488355328) sh (by omega) (by omega) (by omega)
  obtain ⟨hdb1, hdb2⟩ := hdb
  obtain ⟨hub1, hub2⟩ := hub
  have hpw : (1 : Int) ≤ 2 ^ sh ∧ (2 : Int) ^ sh ≤ 1048576 := by
    have h1 : (2 : Nat) ^ sh ≤ 2 ^ 20 := Nat.pow_le_pow_right (by decide) (by omega)
    have h2 : 1 ≤ (2 : Nat) ^ sh := Nat.pow_pos (by decide)
    have h3 : ((2 ^ sh : Nat) : Int) = (2 : Int) ^ sh := by simp
    have h4 : (2 : Nat) ^ 20 = 1048576 := by decide
    omega
  obtain ⟨hpw1, hpw2⟩ := hpw
  have i3 : (t : Int) < xs.length := by omega
  have i4 : (0 : Int) ≤ t := by omega
  have g1 : min sh 64 = sh := by omega
  have g2 : IntKind.i64.wrap (2 ^ sh) = 2 ^ sh := IntWalk.i64_in _ (by omega)
  have g3 : IntKind.i64.wrap (-(-S / 2 ^ sh) - S / 2 ^ sh) = -(-S / 2 ^ sh) - S / 2 ^ sh := IntWalk.i64_in _ (by omega)
  have d1 : decide (S / 2 ^ sh < bl) = false := by simp; omega
  have d2 : decide (bh < -(-S / 2 ^ sh)) = false := by simp; omega
  have d3 : decide (1 < -(-S / 2 ^ sh) - S / 2 ^ sh) = false := by simp; omega
  have d4 : decide (nl < bl) = false := by simp; omega
  have d5 : decide (bh < nh) = false := by simp; omega
  have d6 : decide (S / 2 ^ sh < nl) = false := by simp; omega
  have d7 : decide (nh < -(-S / 2 ^ sh)) = false := by simp; omega
  have hdn := fun W => down_any S (2 ^ sh) W hpw1 (by omega) (by omega)
  have hup := fun W => up_any S (2 ^ sh) W hpw1 (by omega) (by omega)
  have HDN := Lib.hid hdn; have HUP := Lib.hid hup
  have HEX := Lib.hid hexit; have HK := Lib.hid hK
  clear hdn hup v1 v2 v4 v5 v6 v7 v8 hdb1 hdb2 hub1 hub2 l1 l2 hexit hK
  dsimp only
  have hwl : codeFst withinT = codeFst withinT := rfl
  conv at hwl => rhs; whnf
  rw [hwl]
  clear hwl
  as_aux_lemma =>
    go_wp2_with fail
    go_quiet ((first | (go_at_call 15; exact quiet_left (HDN.out _)) | (go_at_call 16; exact quiet_left (HUP.out _))))
    clear g1 g2
    refine HK.out _ _ ?_
    clear HK
    have hwl : codeSnd withinT = codeSnd withinT := rfl
    conv at hwl => rhs; whnf
    rw [hwl]
    clear hwl
    as_aux_lemma =>
      go_wp2_with fail
      go_quiet (fail)
      clear d1 d2 d3 d4 d5 d6 d7 g3
      as_aux_lemma =>
        go_wp2
        refine HEX.out _ _ ?_ (bel_drewN (bel_drewN hbi _) _)
        unfold TailX
        repeat apply Exists.intro
        rfl
end Go.Proofs.YtoochleabcjljaaDoor
