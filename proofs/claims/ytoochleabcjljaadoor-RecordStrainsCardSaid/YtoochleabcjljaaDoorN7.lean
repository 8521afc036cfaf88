/- The texts of small numbers. -/
import Derived.Test.YtoochleabcjljaaDoorN6
import Derived.Test.YtoochleabcjljaaDoorSb
namespace Go.Proofs.YtoochleabcjljaaDoor
open Go.RowKit

set_option maxRecDepth 100000 in
set_option maxHeartbeats 1000000 in
theorem natText_dig (v : Value) (n : Nat) (w : World) (hv : NatV w v n) (h : n < 10) :
    Calls Tryd.prog 81 #[v] w fun e w' => e = .returned (.string (digB n)) ∧ Below w.heap.size w w' := by
  by_cases h0 : n = 0
  · subst h0
    obtain ⟨a, c, rfl⟩ := hv.cases
    have hl0 : (dig 0).length = 0 := by rw [dig_zero]; rfl
    rw [hl0]
    clear hv hl0
    go_enter Tryd.func81, Tryd.ntmps81
    go_wp2
    go_ret
    exact ⟨rfl, Below.refl _ _⟩
  · obtain ⟨a, c, rfl, hc, _⟩ := hv
    rw [dig_one h0 (by simp only [B]; omega)] at hc ⊢
    obtain ⟨b, off, rfl⟩ := hc.addr (by simp [dgs])
    have c0 : w.cell? ⟨b, off, none⟩ = some (.int .u64 (n : Nat)) := hc.at (j := 0) rfl
    clear hc
    have hbu : Lib.IsBuilder 136 5 w.heap.size w.heap.size [] (w.alloc (.cells #[.pointer none, .slice none 0 0] 136)) :=
      .inl ⟨Nat.le_refl _, .slice none 0 0, heap_alloc_new w _, World.ownsRow_nil _ _ _ _, by simp [Value.ownBlock]⟩
    have HBU := Lib.hid hbu; clear hbu
    have c1 := cell_keep c0 ((Below.refl _ _).alloc (Nat.le_refl _) (.cells #[.pointer none, .slice none 0 0] 136)) (Nat.le_refl _)
    go_enter Tryd.func81, Tryd.ntmps81
    go_wp2_with fail
    refine (fmtU_dig n _ h).mono ?_
    rintro e w1 ⟨rfl, rfl⟩
    go_wp2_with fail
    refine (writeString_any w.heap.size w.heap.size [] (digB n) _ HBU.out (by show (0 : Nat) + 1 ≤ _; omega) (by simp)).mono ?_
    rintro e w1 ⟨rfl, h1, hb1⟩
    have H1 := Lib.hid h1; clear h1
    go_wp2
    refine wp_loop_rounds 1 ?_
    rw [rounds_succ]
    go_wp2_with fail
    refine (Tryd.Builder_String w.heap.size w.heap.size (digB n).data.toList _ (.inr H1.out) (by simp [digB])).mono ?_
    rintro e w2 ⟨rfl, hb2⟩
    go_wp2
    go_ret
    exact ⟨rfl, (((Below.refl _ _).alloc (Nat.le_refl _) _).trans hb1).trans hb2⟩

/-- the text of a small rational number -/
def ratB (s : Bool) (n d : Nat) : ByteArray := (if s then ⟨#[45]⟩ else ⟨#[]⟩) ++ digB n ++ (if d = 1 then ⟨#[]⟩ else ⟨#[47]⟩ ++ digB d)

set_option maxRecDepth 100000 in
set_option maxHeartbeats 1000000 in
theorem ratText_dig (v : Value) (n d : Nat) (w : World) (hv : RatV w v false n d) (h : n < 10) (h2 : d < 10) (h3 : 2 ≤ d) :
    Calls Tryd.prog 74 #[v] w fun e w' => e = .returned (.string (digB n ++ (⟨#[47]⟩ ++ digB d))) ∧ Below w.heap.size w w' := by
  obtain ⟨vn, vd, rfl, hn, hd⟩ := hv
  have HN := Lib.hid hn; have HD := Lib.hid hd
  obtain ⟨an, cn, rfl⟩ := hn.cases
  obtain ⟨ad, cd, rfl, hdc, _⟩ := hd
  have hd1 := dig_one (show d ≠ 0 by omega) (show d < B by simp only [B]; omega)
  rw [hd1] at hdc HD ⊢
  obtain ⟨b, off, rfl⟩ := hdc.addr (by simp [dgs])
  have HDC := Lib.hid hdc
  have h3' : (1 : Int) < (d : Nat) := by omega
  have hs1 : (digB n).size = 1 := rfl
  have hs2 : (digB d).size = 1 := rfl
  clear hn hdc hd1
  go_enter Tryd.func74, Tryd.ntmps74
  go_wp2_with fail
  refine (natText_dig _ n _ (HN.out.below ((Below.refl _ _).alloc (Nat.le_refl _) _) (Nat.le_refl _)) h).mono ?_
  rintro e w1 ⟨rfl, hb1⟩
  have q0 : w1.cell? ⟨w.heap.size, 0, none⟩ = some (.bool false) := box_keep hb1 (by simp) 0
  have q1 : w1.cell? ⟨w.heap.size, 1, none⟩ = some (.slice an (dig n).length cn) := box_keep hb1 (by simp) 1
  have q2 : w1.cell? ⟨w.heap.size, 2, none⟩ = some (.slice (some ⟨b, off, none⟩) 1 cd) := box_keep hb1 (by simp) 2
  have hbw : Below w.heap.size w w1 := ((Below.refl _ _).alloc (Nat.le_refl _) _).trans (hb1.mono (by simp))
  have c0 : w1.cell? ⟨b, off, none⟩ = some (.int .u64 (d : Nat)) := (HDC.out.below hbw (Nat.le_refl _)).at (j := 0) rfl
  go_wp2_with fail
  refine (natText_dig _ d _ (HD.out.below hbw (Nat.le_refl _)) h2).mono ?_
  rintro e w2 ⟨rfl, hb2⟩
  go_wp2
  go_ret
  exact ⟨rfl, hbw.trans (hb2.mono hbw.size)⟩

theorem zero_any (v : Value) (s : Bool) (n d : Nat) (w : World) (hv : RatV w v s n d) :
    Calls Tryd.prog 75 #[v] w fun e w' => e = .returned (.bool (decide (n = 0))) ∧ Below w.heap.size w w' := by
  obtain ⟨vn, vd, rfl, hn, hd⟩ := hv
  obtain ⟨an, cn, rfl⟩ := hn.cases
  obtain ⟨ad, cd, rfl⟩ := hd.cases
  have hl : decide (n = 0) = (((dig n).length : Int) == 0) := by
    rw [Bool.eq_iff_iff, decide_eq_true_iff, beq_iff_eq, ← dig_len_pos]; omega
  have HL := Lib.hid hl; clear hl hn hd
  go_enter Tryd.func75, Tryd.ntmps75
  go_wp2
  go_ret
  exact ⟨ret_bool HL.out.symm, (Below.refl _ _).alloc (Nat.le_refl _) _⟩
end Go.Proofs.YtoochleabcjljaaDoor
