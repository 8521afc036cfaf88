/- Lines: Track, where the amplitude is a small fraction. -/
import Derived.Test.YtoochleabcjljaaDoorB2
import Derived.Test.YtoochleabcjljaaDoorN8
namespace Go.Proofs.YtoochleabcjljaaDoor
open Go.RowKit

set_option maxRecDepth 100000 in
theorem track_dig (n d : Nat) (ao : Option Addr) (sh : List Int) (cap : Nat) (ax : Option Addr) (xs : List Int) (cx : Nat) (w : World) (hc : Cells w ao (sh.map (Value.int .i64))) (hx : Cells w ax (xs.map (Value.int .i64))) (he : linedErr sh xs = 0)
    (hn : ampN sh xs (whole sh xs) = (n : Nat)) (hd : ampD sh (whole sh xs) = (d : Nat)) (hn0 : 0 < n) (hd0 : 0 < d) (hd9 : d < 1000000000) (hn9 : n < 1000000000) (h : n / Nat.gcd n d < 10) (h2 : d / Nat.gcd n d < 10) (h3 : 2 ≤ d / Nat.gcd n d) :
    Calls Tryd.prog 28 #[.slice ao sh.length cap, .slice ax xs.length cx] w fun e w' => e = .returned (.tuple #[.string (digB (n / Nat.gcd n d) ++ (⟨#[47]⟩ ++ digB (d / Nat.gcd n d))), .int .i64 0]) ∧ Below w.heap.size w w' := by
  obtain ⟨l1, l2⟩ := linedErr_zero he
  have hsl := (lineErr_zero l1).2.1
  have hxl := (serErr_zero l2).1
  have hlin := fun wx h1 h2 => lined_any ao sh cap ax xs cx wx h1 (by omega) h2 (by omega)
  rw [he] at hlin
  have hamp := fun wx h1 h2 => amplitude_any ao sh cap ax xs cx wx h1 h2 he
  rw [hn, hd] at hamp
  have hof := fun wx => of_dig n d wx hn0 hd0 hd9 hn9 h h2 h3
  have hne : ((d : Int) == 0) = false := by rw [beq_eq_false_iff_ne]; omega
  have HC := Lib.hid hc; have HX := Lib.hid hx; have HL := Lib.hid hlin; have HA := Lib.hid hamp; have HO := Lib.hid hof
  clear hc hx he hn hd h h2 h3 hlin hamp hof l1 l2
  go_enter Tryd.func28, Tryd.ntmps28
  go_wp2_with fail
  refine (HL.out _ HC.out HX.out).mono ?_
  rintro e w1 ⟨rfl, hb1⟩
  go_wp2_with fail
  refine (HA.out _ (HC.out.below hb1 (Nat.le_refl _)) (HX.out.below hb1 (Nat.le_refl _))).mono ?_
  rintro e w2 ⟨rfl, rfl⟩
  go_wp2_with fail
  refine (HO.out _).mono ?_
  rintro e w2 ⟨rfl, hb2⟩
  go_wp2
  go_ret2
  exact ⟨rfl, hb1.trans (hb2.mono hb1.size)⟩
end Go.Proofs.YtoochleabcjljaaDoor
