/- strconv.FormatUint at one digit; size, big, text of small numbers. -/
import Derived.Test.YtoochleabcjljaaDoorN5
namespace Go.Proofs.YtoochleabcjljaaDoor
open Go.RowKit

/-- the text of a digit -/
def digB (n : Nat) : ByteArray := ⟨#[(48 + n).toUInt8]⟩
theorem digs_ext (n : Nat) (h : n < 10) : (⟨#[48, 49, 50, 51, 52, 53, 54, 55, 56, 57, 97, 98, 99, 100, 101, 102, 103, 104, 105, 106, 107, 108, 109, 110, 111, 112, 113, 114, 115, 116, 117, 118, 119, 120, 121, 122]⟩ : ByteArray).extract n (n + 1) = digB n := by
  match n, h with
  | 0, _ => rfl
  | 1, _ => rfl
  | 2, _ => rfl
  | 3, _ => rfl
  | 4, _ => rfl
  | 5, _ => rfl
  | 6, _ => rfl
  | 7, _ => rfl
  | 8, _ => rfl
  | 9, _ => rfl

theorem ret_string {a b : ByteArray} (h : a = b) : Ending.returned (.string a) = .returned (.string b) := by rw [h]

set_option maxRecDepth 100000 in
theorem small_dig (n : Nat) (w : World) (h : n < 10) :
    Calls Tryd.prog 86 #[.int .i64 (n : Nat)] w fun e w' => e = .returned (.string (digB n)) ∧ w = w' := by
  have hn : (n : Int) < 10 := by omega
  go_enter Tryd.func86, Tryd.ntmps86
  go_wp2
  go_ret
  exact ⟨ret_string (digs_ext n h), rfl⟩

set_option maxRecDepth 100000 in
theorem fmtU_dig (n : Nat) (w : World) (h : n < 10) :
    Calls Tryd.prog 80 #[.int .u64 (n : Nat), .int .i64 10] w fun e w' => e = .returned (.string (digB n)) ∧ w = w' := by
  have hn : (n : Int) < 100 := by omega
  have hi : Calls Tryd.prog 82 #[.int .u64 (n : Nat), .int .i64 10] w fun e w' => e = .returned (.string (digB n)) ∧ w = w' := by
    go_enter Tryd.func82, Tryd.ntmps82
    go_wp2_with (go_at_call 86; refine (small_dig n _ h).mono ?_; rintro e w' ⟨rfl, rfl⟩)
    go_ret
    exact ⟨rfl, rfl⟩
  have HI := Lib.hid hi; clear hi
  go_enter Tryd.func80, Tryd.ntmps80
  go_wp2_with (go_at_call 82; refine HI.out.mono ?_; rintro e w' ⟨rfl, rfl⟩)
  go_ret
  exact ⟨rfl, rfl⟩

/-- nat.size at one digit -/
theorem size_dig (v : Value) (n : Nat) (w : World) (hv : NatV w v n) (h : n < 10) :
    Calls Tryd.prog 72 #[v] w fun e w' => e = .returned (.int .i64 1) ∧ w = w' := by
  by_cases h0 : n = 0
  · subst h0
    obtain ⟨a, c, rfl⟩ := hv.cases
    have hl0 : (dig 0).length = 0 := by rw [dig_zero]; rfl
    rw [hl0]
    clear hv hl0
    go_enter Tryd.func72, Tryd.ntmps72
    go_wp2
    go_ret
    exact ⟨rfl, rfl⟩
  · obtain ⟨a, c, rfl, hc, _⟩ := hv
    rw [dig_one h0 (by simp only [B]; omega)] at hc ⊢
    obtain ⟨b, off, rfl⟩ := hc.addr (by simp [dgs])
    have c0 : w.cell? ⟨b, off, none⟩ = some (.int .u64 (n : Nat)) := hc.at (j := 0) rfl
    clear hc
    have hs : (digB n).size = 1 := rfl
    go_enter Tryd.func72, Tryd.ntmps72
    go_wp2_with (go_at_call 80; refine (fmtU_dig n _ h).mono ?_; rintro e w' ⟨rfl, rfl⟩)
    go_ret
    exact ⟨rfl, rfl⟩

/-- rational.big at one digit -/
theorem big_dig (v : Value) (s : Bool) (n d : Nat) (w : World) (hv : RatV w v s n d) (h : n < 10) (h2 : d < 10) :
    Calls Tryd.prog 67 #[v] w fun e w' => e = .returned (.bool false) ∧ Below w.heap.size w w' := by
  obtain ⟨vn, vd, rfl, hn, hd⟩ := hv
  have HN := Lib.hid hn; have HD := Lib.hid hd
  obtain ⟨an, cn, rfl⟩ := hn.cases
  obtain ⟨ad, cd, rfl⟩ := hd.cases
  clear hn hd
  go_enter Tryd.func67, Tryd.ntmps67
  go_wp2_with fail
  refine (size_dig _ n _ (HN.out.below ((Below.refl _ _).alloc (Nat.le_refl _) _) (Nat.le_refl _)) h).mono ?_
  rintro e w1 ⟨rfl, rfl⟩
  go_wp2_with fail
  refine (size_dig _ d _ (HD.out.below ((Below.refl _ _).alloc (Nat.le_refl _) _) (Nat.le_refl _)) h2).mono ?_
  rintro e w1 ⟨rfl, rfl⟩
  go_wp2
  go_ret
  exact ⟨rfl, (Below.refl _ _).alloc (Nat.le_refl _) _⟩
end Go.Proofs.YtoochleabcjljaaDoor
