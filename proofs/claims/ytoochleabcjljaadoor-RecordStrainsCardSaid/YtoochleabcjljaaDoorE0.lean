/- Codes: check, folded, residues. -/
import Derived.Test.YtoochleabcjljaaDoorA0
import Derived.Test.YtoochleabcjljaaDoorShelf
namespace Go.Proofs.YtoochleabcjljaaDoor
open Go.RowKit

/-- bytes, cell by cell -/
def bys (l : List Nat) : List Value := l.map fun d => Value.int .u8 (d : Nat)
theorem bys_length (l : List Nat) : (bys l).length = l.length := by simp [bys]
theorem bys_append (a b : List Nat) : bys (a ++ b) = bys a ++ bys b := by simp [bys]
theorem bys_get {l : List Nat} {i d : Nat} (h : l[i]? = some d) : (bys l)[i]? = some (.int .u8 (d : Nat)) := by simp [bys, h]
theorem bys_ne {l : List Nat} (h : 0 < l.length) : bys l ≠ [] := by
  intro e; have := bys_length l; rw [e] at this; simp at this; omega

def chkL (l : List Nat) : Nat := l.foldl (fun n b => (n * 257 + b + 1) % 16777213) 0
theorem chkL_snoc (l : List Nat) (b : Nat) : chkL (l ++ [b]) = (chkL l * 257 + b + 1) % 16777213 := by simp [chkL]
theorem chkL_lt (l : List Nat) : chkL l < 16777213 := by
  rcases List.eq_nil_or_concat l with rfl | ⟨l', b, rfl⟩
  · decide
  · rw [List.concat_eq_append, chkL_snoc]; exact Nat.mod_lt _ (by decide)

theorem check_any (ao : Option Addr) (l : List Nat) (cap : Nat) (w : World) (hc : Cells w ao (bys l)) (hb : ∀ d ∈ l, d < 256) (hl : l.length ≤ 9223372036854775807) :
    Calls Tryd.prog 50 #[.slice ao l.length cap] w fun e w' => e = .returned (.int .i64 (chkL l : Nat)) ∧ w = w' := by
  have HC := Lib.hid hc; have HB := Lib.hid hb; clear hc hb
  go_enter Tryd.func50, Tryd.ntmps50
  go_wp2
  go_loop [3, 8] (fun n i => ∃ k : Nat, k ≤ l.length ∧ i = .int .i64 k ∧ n = .int .i64 (chkL (l.take k) : Nat)) (fun _ i => l.length - (intOf i).toNat)
  case atStart => exact ⟨0, Nat.zero_le _, rfl, rfl⟩
  case round =>
    obtain ⟨k, hk, rfl, rfl⟩ := hrel
    have hlt1 := chkL_lt (l.take k)
    by_cases hlt : k < l.length
    · obtain ⟨x, hx⟩ := get_of_lt hlt
      obtain ⟨b, off, rfl⟩ := HC.out.addr (bys_ne (by omega))
      have hcell := HC.out.at (bys_get hx)
      have hx2 := HB.out x (List.mem_of_getElem? hx)
      have hs : chkL (l.take (k + 1)) = (chkL (l.take k) * 257 + x + 1) % 16777213 := by rw [take_get hx, chkL_snoc]
      have HS := Lib.hid hs; clear hs hx
      generalize chkL (l.take k) = n at *
      go_wp2
      go_round
      case rel => exact ⟨k + 1, by omega, by go_num, by rw [HS.out]; simp⟩
      case measure => simp [intOf]; omega
    · obtain rfl : k = l.length := by omega
      go_wp2
      go_ret
      exact ⟨ret_int (by simp), rfl⟩

def foldU (r : Int) : Int := if r < 0 then -2 * r - 1 else 2 * r
theorem folded_any (r : Int) (w : World) (h1 : -1099511627776 ≤ r) (h2 : r ≤ 1099511627776) :
    Calls Tryd.prog 63 #[.int .i64 r] w fun e w' => e = .returned (.int .i64 (foldU r)) ∧ w = w' := by
  by_cases h : r < 0
  · go_enter Tryd.func63, Tryd.ntmps63
    go_wp2
    go_ret
    exact ⟨ret_int (by rw [foldU, if_pos h]), rfl⟩
  · go_enter Tryd.func63, Tryd.ntmps63
    go_wp2
    go_ret
    exact ⟨ret_int (by rw [foldU, if_neg (by omega)]), rfl⟩

/-- the differences of neighbours -/
def diffs (xs : List Int) : List Int := (List.range xs.length).map fun i => if i = 0 then xs.getD 0 0 else xs.getD i 0 - xs.getD (i - 1) 0
def resid (xs : List Int) : Nat → List Int
  | 0 => xs
  | o + 1 => diffs (resid xs o)
theorem diffs_length (xs : List Int) : (diffs xs).length = xs.length := by simp [diffs]
theorem resid_length (xs : List Int) (o : Nat) : (resid xs o).length = xs.length := by
  induction o with
  | zero => rfl
  | succ o ih => simp [resid, diffs_length, ih]
theorem diffs_get {xs : List Int} {i : Nat} (h : i < xs.length) : (diffs xs)[i]? = some (if i = 0 then xs.getD 0 0 else xs.getD i 0 - xs.getD (i - 1) 0) := by
  simp [diffs, h]

/-- a round of the differences, from the end -/
theorem diff_step {xs : List Int} {k : Nat} (h0 : 0 < k) (hk : k < xs.length) :
    (xs.take (k + 1) ++ (diffs xs).drop (k + 1)).set k (xs.getD k 0 - xs.getD (k - 1) 0) = xs.take k ++ (diffs xs).drop k := by
  rw [List.take_add_one, List.getElem?_eq_getElem hk, Option.toList_some, List.append_assoc, List.set_append_right _ _ (by rw [List.length_take]; omega)]
  have hl : (xs.take k).length = k := by rw [List.length_take]; omega
  rw [hl, Nat.sub_self]
  have hd : k < (diffs xs).length := by rw [diffs_length]; exact hk
  have := diffs_get hk
  rw [if_neg (by omega)] at this
  rw [List.drop_eq_getElem_cons hd, (List.getElem?_eq_some_iff.1 this).2]
  simp
theorem diff_end {xs : List Int} (h : 0 < xs.length) : xs.take 1 ++ (diffs xs).drop 1 = diffs xs := by
  have hd : 0 < (diffs xs).length := by rw [diffs_length]; exact h
  have := diffs_get h
  rw [if_pos rfl] at this
  have e : (diffs xs) = (diffs xs)[0] :: (diffs xs).drop 1 := by
    have := List.drop_eq_getElem_cons hd
    rwa [List.drop_zero] at this
  have e2 : (diffs xs)[0] = xs.getD 0 0 := (List.getElem?_eq_some_iff.1 this).2
  rw [e2] at e
  conv => rhs; rw [e]
  rw [show xs.take 1 = [xs.getD 0 0] from by
    match xs, h with
    | x :: t, _ => simp]
  rfl

theorem diffs_bd {xs : List Int} {M : Int} (hM : 0 ≤ M) (h : ∀ x ∈ xs, -M ≤ x ∧ x ≤ M) : ∀ x ∈ diffs xs, -(2 * M) ≤ x ∧ x ≤ 2 * M := by
  have hg : ∀ i, -M ≤ xs.getD i 0 ∧ xs.getD i 0 ≤ M := by
    intro i
    rw [List.getD_eq_getElem?_getD]
    cases hx : xs[i]? with
    | none => simp; omega
    | some x => exact h x (List.mem_of_getElem? hx)
  intro x hx
  simp only [diffs, List.mem_map, List.mem_range] at hx
  obtain ⟨i, _, rfl⟩ := hx
  have h1 := hg 0; have h2 := hg i; have h3 := hg (i - 1)
  split <;> omega
theorem resid_bd {xs : List Int} (h : ∀ x ∈ xs, -8388608 ≤ x ∧ x ≤ 8388608) (o : Nat) (ho : o ≤ 3) : ∀ x ∈ resid xs o, -67108864 ≤ x ∧ x ≤ 67108864 := by
  match o, ho with
  | 0, _ => intro x hx; have := h x hx; omega
  | 1, _ => intro x hx; have := diffs_bd (M := 8388608) (by omega) h x hx; omega
  | 2, _ => intro x hx; have := diffs_bd (M := 16777216) (by omega) (diffs_bd (M := 8388608) (by omega) h) x hx; omega
  | 3, _ => intro x hx; have := diffs_bd (M := 33554432) (by omega) (diffs_bd (M := 16777216) (by omega) (diffs_bd (M := 8388608) (by omega) h)) x hx; omega

theorem clone_any (ao : Option Addr) (xs : List Int) (cap : Nat) (w : World) (hc : Cells w ao (xs.map (Value.int .i64))) (hl : xs.length * 8 ≤ 140737488355328) :
    Calls Tryd.prog 64 #[.slice ao xs.length cap] w fun e w' => (∃ v, e = .returned v ∧ w'.ownsRow w.heap.size 3 1 v xs.length (xs.map (Value.int .i64))) ∧ Below w.heap.size w w' := by
  by_cases h0 : xs = []
  · subst h0
    cases ao with
    | none =>
      refine (Tryd.slices_Clone_int_nil 0 cap w).mono ?_
      rintro e w' ⟨rfl, rfl⟩
      exact ⟨⟨_, rfl, World.ownsRow_nil _ _ _ _⟩, Below.refl _ _⟩
    | some a =>
      refine (Tryd.slices_Clone_int_zero a cap w).mono ?_
      rintro e w' ⟨v, rfl, ho, _, hb⟩
      exact ⟨⟨_, rfl, ho⟩, hb⟩
  · obtain ⟨b, off, rfl⟩ := hc.addr (by simpa using h0)
    refine (Tryd.slices_Clone_int b off xs.length cap xs w (Nat.le_refl _) hl (fun j hj => ?_)).mono ?_
    · obtain ⟨x, hx⟩ := get_of_lt hj
      rw [List.getD_eq_getElem?_getD, hx]
      exact hc.int hx
    · rintro e w' ⟨v, rfl, ho, _, hb⟩
      rw [List.take_length] at ho
      exact ⟨⟨_, rfl, ho⟩, hb⟩
end Go.Proofs.YtoochleabcjljaaDoor
