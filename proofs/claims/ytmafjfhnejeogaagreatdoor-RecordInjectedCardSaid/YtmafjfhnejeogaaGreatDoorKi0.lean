/- Parts of a proof, in build order: V0, Dig, Dig2, N0, N1, N2, K0, K1. -/
import Derived.Test.YtmafjfhnejeogaaGreatDoorProg
import Derived.WalkKit
import Derived.WalkSpells
import Derived.WalkLawsBesides
import Derived.Lib.Hide
import Derived.Outline
import Derived.Deep.LoopGhost
import Derived.Deep.DeepMust
import Derived.Deep.DeepFit
import Derived.Deep.QuietTactic
import Derived.BigQuiet
import Derived.StillTailTactics
import Derived.Deep.RegionHeld3
import Derived.Deep.AppendLies

/- Words of our own on cells, over any program: what a slice's cells hold, and how that stays. -/
namespace Go.Proofs.YtmafjfhnejeogaaGreatDoor
open Go.RowKit

theorem ret_bool {a b : Bool} (h : a = b) : Ending.returned (.bool a) = .returned (.bool b) := by rw [h]
theorem ret_int {k : IntKind} {a b : Int} (h : a = b) : Ending.returned (.int k a) = .returned (.int k b) := by rw [h]

/-- The cells 'cs' lie from the address on (of no cells nothing is said). -/
def Cells (w : World) (ao : Option Addr) (cs : List Value) : Prop :=
  cs = [] ∨ ∃ b off, ao = some ⟨b, off, none⟩ ∧ ∀ j u, cs[j]? = some u → w.cell? ⟨b, off + j, none⟩ = some u

theorem Cells.nil (w : World) (ao : Option Addr) : Cells w ao [] := .inl rfl

theorem Cells.below {w w' : World} {B : Nat} {ao : Option Addr} {cs : List Value} (h : Cells w ao cs) (hb : Below B w w') (hB : w.heap.size ≤ B) : Cells w' ao cs := by
  rcases h with h | ⟨b, off, h1, h2⟩
  · exact .inl h
  · refine .inr ⟨b, off, h1, fun j u hu => ?_⟩
    have h3 := h2 j u hu
    have h4 := World.block_lt_of_cell? w _ h3
    rw [hb.cell (p := ⟨b, off + j, none⟩) (by simp at h4 ⊢; omega)]
    exact h3

/-- below, cell by cell -/
theorem cell_keep {w w' : World} {B : Nat} {p : Addr} {v : Value} (h : w.cell? p = some v) (hb : Below B w w') (hB : w.heap.size ≤ B) : w'.cell? p = some v := by
  have h4 := World.block_lt_of_cell? w _ h
  rw [hb.cell (p := p) (by omega)]; exact h

theorem Cells.int {w : World} {b off : Nat} {k : IntKind} {xs : List Int} (h : Cells w (some ⟨b, off, none⟩) (xs.map (Value.int k))) {i : Nat} {x : Int} (hx : xs[i]? = some x) : w.cell? ⟨b, off + i, none⟩ = some (.int k x) := by
  rcases h with h | ⟨b', off', h1, h2⟩
  · have : xs = [] := by simpa using h
    rw [this] at hx; simp at hx
  · simp only [Option.some.injEq, Addr.mk.injEq] at h1
    obtain ⟨rfl, rfl, _⟩ := h1
    exact h2 i _ (by simp [hx])

/-- a slice of no elements, or one whose address is known -/
theorem Cells.cases {w : World} {ao : Option Addr} {cs : List Value} (h : Cells w ao cs) : cs = [] ∨ ∃ b off, ao = some ⟨b, off, none⟩ := by
  rcases h with h | ⟨b, off, h1, _⟩
  · exact .inl h
  · exact .inr ⟨b, off, h1⟩

theorem Cells.addr {w : World} {ao : Option Addr} {cs : List Value} (h : Cells w ao cs) (hne : cs ≠ []) : ∃ b off, ao = some ⟨b, off, none⟩ := by
  rcases h.cases with h | h
  · exact absurd h hne
  · exact h

theorem get_of_lt {α : Type} {xs : List α} {i : Nat} (h : i < xs.length) : ∃ x, xs[i]? = some x := ⟨xs[i], by simp [h]⟩
theorem take_get {α : Type} {xs : List α} {i : Nat} {x : α} (h : xs[i]? = some x) : xs.take (i + 1) = xs.take i ++ [x] := by
  rw [List.take_add_one, h]; rfl
/-- pairs of numbers, cell by cell -/
def prs (l : List (Int × Int)) : List Value := l.flatMap fun t => [.int .i64 t.1, .int .i64 t.2]
theorem prs_nil : prs [] = [] := rfl
theorem prs_cons (t : Int × Int) (l : List (Int × Int)) : prs (t :: l) = .int .i64 t.1 :: .int .i64 t.2 :: prs l := rfl
theorem prs_append (a b : List (Int × Int)) : prs (a ++ b) = prs a ++ prs b := by simp [prs]
theorem prs_length (l : List (Int × Int)) : (prs l).length = l.length * 2 := by
  induction l with
  | nil => rfl
  | cons t l ih => simp only [prs_cons, List.length_cons, ih]; omega
theorem prs_fst {l : List (Int × Int)} {i : Nat} {t : Int × Int} (h : l[i]? = some t) : (prs l)[i * 2]? = some (.int .i64 t.1) := by
  induction l generalizing i with
  | nil => simp at h
  | cons s l ih =>
    cases i with
    | zero => simp at h; subst h; simp [prs_cons]
    | succ i =>
      have e : (i + 1) * 2 = i * 2 + 1 + 1 := by omega
      rw [prs_cons, e, List.getElem?_cons_succ, List.getElem?_cons_succ]; exact ih (by simpa using h)
theorem prs_snd {l : List (Int × Int)} {i : Nat} {t : Int × Int} (h : l[i]? = some t) : (prs l)[i * 2 + 1]? = some (.int .i64 t.2) := by
  induction l generalizing i with
  | nil => simp at h
  | cons s l ih =>
    cases i with
    | zero => simp at h; subst h; simp [prs_cons]
    | succ i =>
      have e : (i + 1) * 2 + 1 = i * 2 + 1 + 1 + 1 := by omega
      rw [prs_cons, e, List.getElem?_cons_succ, List.getElem?_cons_succ]; exact ih (by simpa using h)
theorem prs_ne {l : List (Int × Int)} (h : 0 < l.length) : prs l ≠ [] := by
  intro e; have := prs_length l; rw [e] at this; simp at this; omega
theorem Cells.at {w : World} {b off : Nat} {cs : List Value} (h : Cells w (some ⟨b, off, none⟩) cs) {j : Nat} {u : Value} (hu : cs[j]? = some u) : w.cell? ⟨b, off + j, none⟩ = some u := by
  rcases h with h | ⟨b', off', h1, h2⟩
  · rw [h] at hu; simp at hu
  · simp only [Option.some.injEq, Addr.mk.injEq] at h1
    obtain ⟨rfl, rfl, _⟩ := h1
    exact h2 j u hu

/-- the cells of a new block, kept -/
theorem box_keep {w w1 : World} {cs : Array Value} {T : TypeId} {B : Nat} (hb : Below B (w.alloc (.cells cs T)) w1) (hB : w.heap.size < B) (i : Nat) : w1.cell? ⟨w.heap.size, i, none⟩ = cs[i]? := by
  rw [hb.cell (p := ⟨w.heap.size, i, none⟩) hB]; simp

/-- an owned row, as a slice -/
theorem own_cells {w : World} {b : Nat} {e : TypeId} {s : Nat} {v : Value} {n : Nat} {xs : List Value} (h : w.ownsRow b e s v n xs) : ∃ a c, v = .slice a n c ∧ Cells w a xs := by
  obtain ⟨h0, h1⟩ := h
  rcases h1 with ⟨rfl, rfl⟩ | ⟨g, cap, cur, rfl, hb, hg, hn, hm, hs, ht⟩
  · refine ⟨none, 0, rfl, .inl ?_⟩
    simpa using h0
  · refine ⟨_, _, rfl, .inr ⟨g, 0, rfl, fun j u hu => ?_⟩⟩
    have h2 := World.ownsRow.cells (w := w) (base := b) (e := e) (size := s) (v := .slice (some ⟨g, 0, none⟩) n cap) (n := n) (xs := xs) ⟨h0, .inr ⟨g, cap, cur, rfl, hb, hg, hn, hm, hs, ht⟩⟩ rfl j u hu
    rw [Addr.add_lit] at h2
    exact h2
/-- the one cell of a new block, to be appended -/
theorem news1 (w : World) (u : Value) (T : TypeId) : ∀ (j : Nat) (v : Value), [u][j]? = some v → (w.alloc (.cells #[u] T)).cell? ((⟨w.heap.size, 0, none⟩ : Addr).add j) = some v := by
  intro j v hj
  match j, hj with
  | 0, hj => simp at hj; subst hj; simp [Addr.add]
theorem own_drewN {w : World} {b : Nat} {e : TypeId} {s : Nat} {v : Value} {n : Nat} {xs : List Value} (h : w.ownsRow b e s v n xs) (k : Nat) : (w.drewN k).ownsRow b e s v n xs := h
theorem bel_drewN {B : Nat} {a w : World} (h : Below B a w) (k : Nat) : Below B a (w.drewN k) := ⟨h.os, h.tape, h.output, h.size, h.block⟩
theorem div_pow_bd {x M : Int} (s : Nat) (h1 : -M ≤ x) (h2 : x ≤ M) (hM : 0 ≤ M) : -M ≤ x / 2 ^ s ∧ x / 2 ^ s ≤ M := by
  have hp : (0 : Int) < 2 ^ s := Int.pow_pos (by decide)
  have h1p : (1 : Int) ≤ 2 ^ s := by omega
  constructor
  · rw [Int.le_ediv_iff_mul_le hp]
    have : M * 1 ≤ M * 2 ^ s := Int.mul_le_mul_of_nonneg_left h1p hM
    rw [Int.neg_mul]; omega
  · by_cases hx : 0 ≤ x
    · have := Int.ediv_le_self (2 ^ s) hx; omega
    · have := Int.ediv_neg_of_neg_of_pos (by omega : x < 0) hp; omega
theorem min_if (a b : Int) : (if b < a then b else a) = min a b := by rw [Int.min_def]; split <;> split <;> omega
theorem max_if (a b : Int) : (if a < b then b else a) = max a b := by rw [Int.max_def]; split <;> split <;> omega

end Go.Proofs.YtmafjfhnejeogaaGreatDoor

/- Digits of natural numbers to the base 10^9, the least one first: plain facts. -/
namespace Go.Proofs.YtmafjfhnejeogaaGreatDoor
def B : Nat := 1000000000

def val : List Nat → Nat
  | [] => 0
  | d :: ds => d + B * val ds

def dig (n : Nat) : List Nat := if n = 0 then [] else n % B :: dig (n / B)
termination_by n
decreasing_by exact Nat.div_lt_self (Nat.pos_of_ne_zero ‹_›) (by decide)

theorem B_pos : 0 < B := by decide
theorem dig_zero : dig 0 = [] := by rw [dig]; simp
theorem dig_pos {n : Nat} (h : n ≠ 0) : dig n = n % B :: dig (n / B) := by rw [dig]; simp [h]

theorem val_dig (n : Nat) : val (dig n) = n := by
  induction n using Nat.strongRecOn with
  | _ n ih =>
    by_cases h : n = 0
    · subst h; simp [dig_zero, val]
    · rw [dig_pos h, val, ih _ (Nat.div_lt_self (Nat.pos_of_ne_zero h) (by decide))]
      exact Nat.mod_add_div n B

def Sm (xs : List Nat) : Prop := ∀ d ∈ xs, d < B

theorem sm_dig (n : Nat) : Sm (dig n) := by
  induction n using Nat.strongRecOn with
  | _ n ih =>
    by_cases h : n = 0
    · subst h; simp [dig_zero, Sm]
    · rw [dig_pos h]
      intro d hd
      rcases List.mem_cons.1 hd with rfl | hd
      · exact Nat.mod_lt _ B_pos
      · exact ih _ (Nat.div_lt_self (Nat.pos_of_ne_zero h) (by decide)) d hd

theorem val_nil : val [] = 0 := rfl
theorem val_cons (d : Nat) (ds : List Nat) : val (d :: ds) = d + B * val ds := rfl

theorem val_append (xs ys : List Nat) : val (xs ++ ys) = val xs + B ^ xs.length * val ys := by
  induction xs with
  | nil => simp [val]
  | cons d ds ih => simp only [List.cons_append, val_cons, ih, List.length_cons, Nat.pow_succ]; rw [Nat.mul_add, Nat.add_assoc, Nat.mul_comm (B ^ ds.length) B, Nat.mul_assoc]

theorem val_snoc (xs : List Nat) (d : Nat) : val (xs ++ [d]) = val xs + B ^ xs.length * d := by
  rw [val_append]; simp [val]

theorem val_lt {xs : List Nat} (h : Sm xs) : val xs < B ^ xs.length := by
  induction xs with
  | nil => simp [val]
  | cons d ds ih =>
    have h1 : d < B := h d (by simp)
    have h2 := ih (fun x hx => h x (by simp [hx]))
    simp only [val_cons, List.length_cons, Nat.pow_succ]
    have : B * (val ds + 1) ≤ B * B ^ ds.length := Nat.mul_le_mul_left _ h2
    rw [Nat.mul_add, Nat.mul_one] at this
    rw [Nat.mul_comm (B ^ ds.length) B]; omega

/-- digits without zeros at the end -/
def Lean_ (xs : List Nat) : Prop := Sm xs ∧ xs.getLast? ≠ some 0

theorem val_eq_zero {xs : List Nat} : val xs = 0 ↔ ∀ d ∈ xs, d = 0 := by
  induction xs with
  | nil => simp [val]
  | cons d ds ih =>
    simp only [val_cons, List.mem_cons, forall_eq_or_imp, ← ih]
    constructor
    · intro h
      have h1 : d = 0 := by omega
      have h2 : B * val ds = 0 := by omega
      refine ⟨h1, ?_⟩
      rcases Nat.mul_eq_zero.1 h2 with h | h
      · exact absurd h (by decide)
      · exact h
    · rintro ⟨rfl, h⟩; simp [h]

theorem dig_val {xs : List Nat} (h : Sm xs) (hl : xs.getLast? ≠ some 0) : dig (val xs) = xs := by
  induction xs with
  | nil => simp [val, dig_zero]
  | cons d ds ih =>
    have h1 : d < B := h d (by simp)
    have hs : Sm ds := fun x hx => h x (by simp [hx])
    have hne : val (d :: ds) ≠ 0 := by
      intro h0
      have h0' := val_eq_zero.1 h0
      have : ((d :: ds).getLast (by simp)) = 0 := h0' _ (List.getLast_mem _)
      exact hl (by rw [List.getLast?_eq_some_getLast (by simp), this])
    rw [dig_pos hne, val_cons]
    have e1 : (d + B * val ds) % B = d := by rw [Nat.add_mul_mod_self_left, Nat.mod_eq_of_lt h1]
    have e2 : (d + B * val ds) / B = val ds := by rw [Nat.add_mul_div_left _ _ B_pos, Nat.div_eq_of_lt h1, Nat.zero_add]
    rw [e1, e2, ih hs]
    cases ds with
    | nil => simp
    | cons x xs => simpa [List.getLast?_cons_cons] using hl

theorem last_dig (n : Nat) : (dig n).getLast? ≠ some 0 := by
  induction n using Nat.strongRecOn with
  | _ n ih =>
    by_cases h : n = 0
    · subst h; simp [dig_zero]
    · rw [dig_pos h]
      have := ih (n / B) (Nat.div_lt_self (Nat.pos_of_ne_zero h) (by decide))
      by_cases h2 : n / B = 0
      · rw [h2, dig_zero]; simp
        have h3 : n < B := by
          rcases Nat.div_eq_zero_iff.1 h2 with h | h
          · exact absurd h (by decide)
          · exact h
        rw [Nat.mod_eq_of_lt h3]; exact h
      · rw [dig_pos h2] at this ⊢
        simpa [List.getLast?_cons_cons] using this

theorem dig_len_pos {n : Nat} : (dig n).length = 0 ↔ n = 0 := by
  by_cases h : n = 0
  · subst h; simp [dig_zero]
  · rw [dig_pos h]; simp [h]

theorem dig_small {n : Nat} (h : n < B) (h0 : n ≠ 0) : dig n = [n] := by
  rw [dig_pos h0, Nat.mod_eq_of_lt h, Nat.div_eq_of_lt h, dig_zero]

theorem lt_pow_len (n : Nat) : n < B ^ (dig n).length := by
  have := val_lt (sm_dig n); rwa [val_dig] at this

theorem pow_len_le {n : Nat} (h : n ≠ 0) : B ^ ((dig n).length - 1) ≤ n := by
  induction n using Nat.strongRecOn with
  | _ n ih =>
    rw [dig_pos h]
    by_cases h2 : n / B = 0
    · rw [h2, dig_zero]; simp; omega
    · have := ih _ (Nat.div_lt_self (Nat.pos_of_ne_zero h) (by decide)) h2
      have hl : (dig (n / B)).length ≠ 0 := by rw [Ne, dig_len_pos]; exact h2
      simp only [List.length_cons, Nat.add_sub_cancel]
      obtain ⟨k, hk⟩ : ∃ k, (dig (n / B)).length = k + 1 := ⟨(dig (n/B)).length - 1, by omega⟩
      rw [hk, Nat.add_sub_cancel] at this
      rw [hk, Nat.pow_succ]
      calc B ^ k * B ≤ n / B * B := Nat.mul_le_mul_right _ this
        _ ≤ n := Nat.div_mul_le_self n B

/-- lengths tell the order -/
theorem lt_of_len {m n : Nat} (h : (dig m).length < (dig n).length) : m < n := by
  have hn : n ≠ 0 := by rintro rfl; simp [dig_zero] at h
  have h1 := lt_pow_len m
  have h2 := pow_len_le hn
  have h3 : B ^ (dig m).length ≤ B ^ ((dig n).length - 1) := Nat.pow_le_pow_right B_pos (by omega)
  omega

theorem dig_len_mono {m n : Nat} (h : m ≤ n) : (dig m).length ≤ (dig n).length := by
  apply Nat.le_of_not_lt
  intro hc
  have := lt_of_len hc
  omega
end Go.Proofs.YtmafjfhnejeogaaGreatDoor

/- Digits: order, quotients. -/
namespace Go.Proofs.YtmafjfhnejeogaaGreatDoor

theorem val_split {l : List Nat} {j x : Nat} (hx : l[j]? = some x) : val l = val (l.take j) + B ^ j * (x + B * val (l.drop (j + 1))) := by
  have hj : j < l.length := (List.getElem?_eq_some_iff.1 hx).1
  have h1 : l = l.take j ++ (x :: l.drop (j + 1)) := by
    have := (List.take_append_drop j l).symm
    rw [List.drop_eq_getElem_cons hj, (List.getElem?_eq_some_iff.1 hx).2] at this
    exact this
  have h2 := congrArg val h1
  rw [val_append, val_cons, List.length_take, Nat.min_eq_left (by omega)] at h2
  exact h2

theorem cmp_digit {l1 l2 : List Nat} (h1 : Sm l1) {j x y : Nat} (hx : l1[j]? = some x) (hy : l2[j]? = some y) (hd : l1.drop (j + 1) = l2.drop (j + 1)) (hlt : x < y) : val l1 < val l2 := by
  rw [val_split hx, val_split hy, hd]
  have hj : j < l1.length := (List.getElem?_eq_some_iff.1 hx).1
  have h3 : val (l1.take j) < B ^ j := by
    have := val_lt (xs := l1.take j) (fun d hd => h1 d (List.mem_of_mem_take hd))
    rwa [List.length_take, Nat.min_eq_left (by omega)] at this
  have h4 : B ^ j * (x + 1 + B * val (l2.drop (j + 1))) ≤ B ^ j * (y + B * val (l2.drop (j + 1))) := Nat.mul_le_mul_left _ (by omega)
  have h5 : B ^ j * (x + 1 + B * val (l2.drop (j + 1))) = B ^ j * (x + B * val (l2.drop (j + 1))) + B ^ j := by
    rw [show x + 1 + B * val (l2.drop (j + 1)) = (x + B * val (l2.drop (j + 1))) + 1 from by omega, Nat.mul_add, Nat.mul_one]
  omega

/-- the order, as Go's compare says it -/
def cmpN (m n : Nat) : Int := if m < n then -1 else if n < m then 1 else 0
theorem cmpN_lt {m n : Nat} (h : m < n) : cmpN m n = -1 := by simp [cmpN, h]
theorem cmpN_gt {m n : Nat} (h : n < m) : cmpN m n = 1 := by simp [cmpN, h]; omega
theorem cmpN_eq (n : Nat) : cmpN n n = 0 := by simp [cmpN]

/-- a step of a division by one digit: r the rest of what lies above -/
theorem short_step {H d x : Nat} (hd : 0 < d) : ((H % d) * B + x) / d + B * (H / d) = (x + B * H) / d ∧ ((H % d) * B + x) % d = (x + B * H) % d := by
  have h : x + B * H = ((H % d) * B + x) + d * (B * (H / d)) := by
    have h1 : d * (H / d) + H % d = H := Nat.div_add_mod H d
    have h2 : B * H = B * (d * (H / d)) + B * (H % d) := by rw [← Nat.mul_add, h1]
    rw [h2, Nat.mul_comm (H % d) B, Nat.mul_left_comm d B]; omega
  rw [h, Nat.add_mul_div_left _ _ hd, Nat.add_mul_mod_self_left]
  exact ⟨rfl, rfl⟩

theorem short_dig {r d x : Nat} (hr : r < d) (hx : x < B) : (r * B + x) / d < B := by
  apply Nat.div_lt_of_lt_mul
  have : (r + 1) * B ≤ d * B := Nat.mul_le_mul_right _ hr
  rw [Nat.add_mul] at this; omega
theorem dig_len_val {l : List Nat} (h : Sm l) : (dig (val l)).length ≤ l.length := by
  have h1 := val_lt h
  apply Nat.le_of_not_lt
  intro hc
  have hne : val l ≠ 0 := by
    intro h0; rw [h0, dig_zero] at hc; simp at hc
  have h2 := pow_len_le hne
  have h3 : B ^ l.length ≤ B ^ ((dig (val l)).length - 1) := Nat.pow_le_pow_right B_pos (by omega)
  omega
end Go.Proofs.YtmafjfhnejeogaaGreatDoor

/- Natural numbers of package num: natural, lean, compare. -/
namespace Go.Proofs.YtmafjfhnejeogaaGreatDoor
open Go.RowKit

/-- digits, cell by cell -/
def dgs (l : List Nat) : List Value := l.map fun d => Value.int .u64 (d : Nat)
theorem dgs_length (l : List Nat) : (dgs l).length = l.length := by simp [dgs]
theorem dgs_append (a b : List Nat) : dgs (a ++ b) = dgs a ++ dgs b := by simp [dgs]
theorem dgs_ne {l : List Nat} (h : 0 < l.length) : dgs l ≠ [] := by
  intro e; have := dgs_length l; rw [e] at this; simp at this; omega
theorem Cells.dgs {w : World} {b off : Nat} {l : List Nat} (h : Cells w (some ⟨b, off, none⟩) (dgs l)) {i d : Nat} (hd : l[i]? = some d) : w.cell? ⟨b, off + i, none⟩ = some (.int .u64 (d : Nat)) :=
  h.at (by simp [Go.Proofs.YtmafjfhnejeogaaGreatDoor.dgs, hd])
theorem Cells.take {w : World} {ao : Option Addr} {cs : List Value} (h : Cells w ao cs) (n : Nat) : Cells w ao (cs.take n) := by
  rcases h with h | ⟨b, off, h1, h2⟩
  · exact .inl (by simp [h])
  · refine .inr ⟨b, off, h1, fun j u hu => h2 j u ?_⟩
    rw [List.getElem?_take] at hu
    split at hu
    · exact hu
    · simp at hu
theorem sm_get {l : List Nat} (h : Sm l) {i d : Nat} (hd : l[i]? = some d) : d ≤ 999999999 := by
  have := h d (List.mem_of_getElem? hd); simp only [B] at this; omega

theorem Tryz.infoU64 : (Tryz.prog.info? 196).map (fun i => (i.zero, i.size, i.bytes)) = some (some (.int .u64 0), 1, 8) := by kernel_rfl

/-- an owned row, as a slice, with its capacity -/
theorem own_cap {w : World} {b : Nat} {e : TypeId} {s : Nat} {v : Value} {n : Nat} {xs : List Value} (h : w.ownsRow b e s v n xs) : ∃ a c, v = .slice a n c ∧ Cells w a xs ∧ n ≤ c ∧ c ≤ maxLen := by
  obtain ⟨a, c, hv, hc⟩ := own_cells h
  obtain ⟨h0, h1⟩ := h
  rcases h1 with ⟨h2, h3⟩ | ⟨g, cap, cur, h2, hb, hg, hn, hm, hs, ht⟩
  · rw [h2] at hv; simp at hv
    obtain ⟨rfl, rfl, rfl⟩ := hv
    exact ⟨none, 0, h2, hc, by omega, by unfold maxLen; omega⟩
  · rw [h2] at hv; simp at hv
    obtain ⟨rfl, rfl⟩ := hv
    exact ⟨_, _, h2, hc, hn, hm⟩

theorem dig_len_u64 {n : Nat} (h : n < 18446744073709551616) : (dig n).length ≤ 3 := by
  apply Nat.le_of_not_lt
  intro hc
  have hn : n ≠ 0 := by rintro rfl; simp [dig_zero] at hc
  have h1 := pow_len_le hn
  have h2 : B ^ 3 ≤ B ^ ((dig n).length - 1) := Nat.pow_le_pow_right B_pos (by omega)
  have h3 : B ^ 3 = 1000000000000000000000000000 := by decide
  omega

set_option maxRecDepth 100000 in
theorem natural_any (n : Nat) (w : World) (hn : n < 18446744073709551616) :
    Calls Tryz.prog 144 #[.int .u64 (n : Nat)] w fun e w' => (∃ a c, e = .returned (.slice a (dig n).length c) ∧ Cells w' a (dgs (dig n)) ∧ (dig n).length ≤ c ∧ c ≤ 9223372036854775807) ∧ Below w.heap.size w w' := by
  obtain ⟨i0, hi, hz0, hz1, hz2⟩ := info_parts Tryz.infoU64
  have hlen := dig_len_u64 hn
  have hn1 : n ≤ 18446744073709551615 := by omega
  clear hn
  go_enter Tryz.func144, Tryz.ntmps144
  go_wp2
  go_loopw [3, 0] (fun v m wr => ∃ (ds : List Nat) (k : Nat), m = .int .u64 (k : Nat) ∧ k ≤ n ∧ dig n = ds ++ dig k ∧ wr.ownsRow w.heap.size 196 1 v ds.length (dgs ds) ∧ Below w.heap.size w wr) (fun _ m _ => (intOf m).toNat)
  case atStart => exact ⟨[], n, rfl, Nat.le_refl _, rfl, World.ownsRow_nil _ _ _ _, Below.refl _ _⟩
  case round =>
    obtain ⟨ds, k, rfl, hk, hds, hown, hb⟩ := hrel
    by_cases h0 : k = 0
    · subst h0
      rw [dig_zero, List.append_nil] at hds
      subst hds
      obtain ⟨g, c, rfl, hcs, hc1, hc2⟩ := own_cap hown
      unfold maxLen at hc2
      have HCS := Lib.hid hcs; clear hcs hown
      go_wp2
      go_ret
      exact ⟨⟨g, c, rfl, HCS.out, hc1, hc2⟩, hb⟩
    · have hkp : 0 < (k : Int) := by omega
      have hds2 : dig n = (ds ++ [k % B]) ++ dig (k / B) := by rw [hds, dig_pos h0]; simp
      have hle : ds.length ≤ 2 := by
        have := congrArg List.length hds2
        simp only [List.length_append, List.length_singleton] at this; omega
      have HDS := Lib.hid hds2; clear hds hds2 hlen
      have e1 : ((k : Int) % 1000000000) = ((k % B : Nat) : Int) := by simp [B]
      have e2 : ((k : Int) / 1000000000) = ((k / B : Nat) : Int) := by simp [B]
      have hlt : k / B < k := Nat.div_lt_self (by omega) (by decide)
      have HE1 := Lib.hid e1; have HE2 := Lib.hid e2; clear e1 e2
      have HOB : Hid (∀ j, u3.ownBlock = some j → w.heap.size ≤ j) := fun j e => (hown.lt j e).1
      have hsz := hb.size
      go_wp2_with (at_builtin; refine wpList_append_own _ rfl _ _ 126 rfl w.heap.size 196 i0 (.int .u64 0) 1 8 Tryz.underlying126 hi hz0 hz1 hz2 rfl (by decide) _ _ _ rfl (hown.alloc _) ⟨wr.heap.size, 0, none⟩ 1 1 [.int .u64 ((k : Int) % 1000000000)] rfl rfl (news1 _ _ _) (by simp [Value.oneCell']) (by unfold maxLen; omega) (by omega) (by simp; omega) ?_; intro v1 wz hown1 hgrow _)
      have hfin := hown1
      rw [show dgs ds ++ [.int .u64 ((k : Int) % 1000000000)] = dgs (ds ++ [k % B]) from by rw [dgs_append, HE1.out]; rfl] at hfin
      have hbz := (hb.alloc hsz (.cells #[.int .u64 ((k : Int) % 1000000000)] 196)).grown hgrow (by simp; omega) HOB.out
      clear hown1 hgrow hown
      have HFIN := Lib.hid hfin; clear hfin
      go_wp2
      go_roundw
      case rel => exact ⟨ds ++ [k % B], k / B, by rw [HE2.out], by omega, HDS.out, by simpa using HFIN.out, hbz⟩
      case measure => simp only [intOf]; rw [HE2.out]; simp; omega

/-- zeros at the end go -/
theorem val_take_zero {l : List Nat} {k : Nat} (h0 : l[k]? = some 0) : val (l.take (k + 1)) = val (l.take k) := by
  rw [take_get h0, val_snoc]; simp

/-- a slice's length: for a measure -/
def lenOf : Value → Nat | .slice _ n _ => n | _ => 0

theorem lean_any (ao : Option Addr) (l : List Nat) (c : Nat) (w : World) (hc : Cells w ao (dgs l)) (hs : Sm l) (hl : l.length ≤ 9223372036854775807) (hcap : l.length ≤ c) (hc2 : c ≤ 9223372036854775807) :
    Calls Tryz.prog 198 #[.slice ao l.length c] w fun e w' => (e = .returned (.slice ao (dig (val l)).length c) ∧ Cells w' ao (dgs (dig (val l)))) ∧ w = w' := by
  have HC := Lib.hid hc; clear hc
  have HS := Lib.hid hs; clear hs
  go_enter Tryz.func198, Tryz.ntmps198
  go_wp2
  go_loop [0] (fun v => ∃ k : Nat, k ≤ l.length ∧ v = .slice ao k c ∧ val (l.take k) = val l) (fun v => lenOf v)
  case atStart => exact ⟨l.length, Nat.le_refl _, rfl, by rw [List.take_length]⟩
  case round =>
    obtain ⟨k, hk, rfl, hv⟩ := hrel
    by_cases h0 : k = 0
    · subst h0
      rw [List.take_zero, val_nil] at hv
      have hv2 : dig (val l) = [] := by rw [← hv, dig_zero]
      have HV := Lib.hid hv2; clear hv hv2
      go_wp2
      go_ret
      exact ⟨⟨by rw [HV.out]; rfl, by rw [HV.out]; exact Cells.nil _ _⟩, rfl⟩
    · obtain ⟨j, rfl⟩ : ∃ j, k = j + 1 := ⟨k - 1, by omega⟩
      have hj : j < l.length := by omega
      obtain ⟨d, hd⟩ := get_of_lt hj
      obtain ⟨b, off, rfl⟩ := HC.out.addr (dgs_ne (by omega))
      have hcell := HC.out.dgs hd
      by_cases hd0 : d = 0
      · subst hd0
        have hv2 := val_take_zero hd
        rw [hv] at hv2
        have HV := Lib.hid hv2.symm; clear hv hv2 hd
        go_wp2
        go_round
        case rel => exact ⟨j, by omega, by go_num, HV.out⟩
        case measure => simp [lenOf]
      · have hdp : 0 < d := by omega
        have hne : ((d : Int) == 0) = false := by simp; omega
        have hlast : (l.take (j + 1)).getLast? ≠ some 0 := by rw [take_get hd]; simp; omega
        have hsm : Sm (l.take (j + 1)) := fun x hx => HS.out x (List.mem_of_mem_take hx)
        have hv2 : dig (val l) = l.take (j + 1) := by rw [← hv, dig_val hsm hlast]
        have hl2 : (dig (val l)).length = j + 1 := by rw [hv2, List.length_take]; omega
        have hcs : Cells w (some ⟨b, off, none⟩) (dgs (dig (val l))) := by
          rw [hv2, dgs, List.map_take]; exact HC.out.take _
        have HL := Lib.hid hl2; have HCS := Lib.hid hcs; clear hv hv2 hl2 hcs hd hsm hlast
        go_wp2
        go_ret
        exact ⟨⟨by rw [HL.out]; rfl, HCS.out⟩, rfl⟩

theorem drop_of_len {l1 l2 : List Nat} (h : l1.length = l2.length) : l1.drop l1.length = l2.drop l1.length := by
  rw [List.drop_length, h, List.drop_length]

set_option maxRecDepth 100000 in
theorem compare_any (aa ab : Option Addr) (m n : Nat) (ca cb : Nat) (w : World) (ha : Cells w aa (dgs (dig m))) (hb : Cells w ab (dgs (dig n))) (hm : (dig m).length ≤ 4611686018427387904) (hn : (dig n).length ≤ 4611686018427387904) :
    Calls Tryz.prog 196 #[.slice aa (dig m).length ca, .slice ab (dig n).length cb] w fun e w' => e = .returned (.int .i64 (cmpN m n)) ∧ Below w.heap.size w w' := by
  have HA := Lib.hid ha; clear ha
  have HB := Lib.hid hb; clear hb
  by_cases hlen : (dig m).length = (dig n).length
  · have h1 : (((dig m).length : Int) != (dig n).length) = false := by simp [hlen]
    have HL := Lib.hid hlen; clear hlen
    go_enter Tryz.func196, Tryz.ntmps196
    go_wp2
    go_loopw [5] (fun i wr => ∃ k : Nat, k ≤ (dig m).length ∧ i = .int .i64 ((k : Int) - 1) ∧ (dig m).drop k = (dig n).drop k ∧ Below w.heap.size w wr) (fun i _ => (intOf i + 1).toNat)
    case atStart => exact ⟨(dig m).length, Nat.le_refl _, rfl, drop_of_len HL.out, Below.refl _ _⟩
    case round =>
      obtain ⟨k, hk, rfl, hd, hbe⟩ := hrel
      have HD := Lib.hid hd; clear hd
      by_cases h0 : k = 0
      · subst h0
        have he : cmpN m n = 0 := by
          have := HD.out
          simp only [List.drop_zero] at this
          have h2 := congrArg val this
          rw [val_dig, val_dig] at h2
          rw [h2, cmpN_eq]
        have HE := Lib.hid he; clear he
        go_wp2
        go_ret
        exact ⟨ret_int HE.out.symm, hbe⟩
      · obtain ⟨j, rfl⟩ : ∃ j, k = j + 1 := ⟨k - 1, by omega⟩
        have hj2 : j < (dig n).length := by have := HL.out; omega
        obtain ⟨x, hx⟩ := get_of_lt (show j < (dig m).length by omega)
        obtain ⟨y, hy⟩ := get_of_lt hj2
        obtain ⟨b, off, rfl⟩ := HA.out.addr (dgs_ne (by omega))
        obtain ⟨b2, off2, rfl⟩ := HB.out.addr (dgs_ne (by omega))
        have c1 := cell_keep (HA.out.dgs hx) hbe (Nat.le_refl _)
        have c2 := cell_keep (HB.out.dgs hy) hbe (Nat.le_refl _)
        have e1 : (((j + 1 : Nat) : Int) - 1) = (j : Int) := by omega
        rw [e1]
        have i1 : (j : Int) < (dig m).length := by omega
        have i2 : (j : Int) < (dig n).length := by omega
        have i3 : (0 : Int) ≤ j := by omega
        have hxy : x < y ∨ y < x ∨ x = y := by omega
        rcases hxy with hlt | hgt | heq
        · have he : cmpN m n = -1 := cmpN_lt (by have := cmp_digit (sm_dig m) hx hy HD.out hlt; rwa [val_dig, val_dig] at this)
          have HE := Lib.hid he; clear he hx hy e1
          have hne : ((x : Int) != y) = true := by simp; omega
          have hl : decide ((x : Int) < y) = true := by simp; omega
          go_wp2
          go_quiet (fail)
          go_wp2
          go_quiet (fail)
          go_wp2
          go_ret
          exact ⟨ret_int HE.out.symm, bel_drewN (bel_drewN hbe _) _⟩
        · have he : cmpN m n = 1 := cmpN_gt (by have := cmp_digit (sm_dig n) hy hx HD.out.symm hgt; rwa [val_dig, val_dig] at this)
          have HE := Lib.hid he; clear he hx hy e1
          have hne : ((x : Int) != y) = true := by simp; omega
          have hl : decide ((x : Int) < y) = false := by simp; omega
          go_wp2
          go_quiet (fail)
          go_wp2
          go_quiet (fail)
          go_wp2
          go_ret
          exact ⟨ret_int HE.out.symm, bel_drewN (bel_drewN hbe _) _⟩
        · subst heq
          have he : (dig m).drop j = (dig n).drop j := by
            rw [List.drop_eq_getElem_cons (show j < (dig m).length by omega), List.drop_eq_getElem_cons hj2, HD.out, (List.getElem?_eq_some_iff.1 hx).2, (List.getElem?_eq_some_iff.1 hy).2]
          have HE := Lib.hid he; clear he hx hy e1
          have hne : ((x : Int) != x) = false := by simp
          go_wp2
          go_quiet (fail)
          go_wp2
          go_roundw
          case rel => exact ⟨j, by omega, by go_num, HE.out, bel_drewN hbe _⟩
          case measure => simp [intOf]
  · rcases Nat.lt_or_gt_of_ne hlen with hlt | hgt
    · have he : cmpN m n = -1 := cmpN_lt (lt_of_len hlt)
      have HE := Lib.hid he; clear he
      have h1 : (((dig m).length : Int) != (dig n).length) = true := by simp; omega
      go_enter Tryz.func196, Tryz.ntmps196
      go_wp2
      go_ret
      exact ⟨ret_int HE.out.symm, Below.refl _ _⟩
    · have he : cmpN m n = 1 := cmpN_gt (lt_of_len hgt)
      have HE := Lib.hid he; clear he
      have h1 : (((dig m).length : Int) != (dig n).length) = true := by simp; omega
      have h2 : (dig n).length ≤ (dig m).length := by omega
      go_enter Tryz.func196, Tryz.ntmps196
      go_wp2
      go_ret
      exact ⟨ret_int HE.out.symm, Below.refl _ _⟩

end Go.Proofs.YtmafjfhnejeogaaGreatDoor

/- Natural numbers of package num: short (division by one digit). -/
namespace Go.Proofs.YtmafjfhnejeogaaGreatDoor
open Go.RowKit

theorem zeros_dgs (n : Nat) : (madeCells (Value.int .u64 0).cells (n * 1)).toList = dgs (List.replicate n 0) := by
  rw [show (Value.int .u64 0).cells = #[Value.int .u64 0] from rfl, toList_madeCells_one]; simp [dgs]

theorem set_zeros (k q : Nat) (qs : List Nat) : (dgs (List.replicate (k + 1) 0 ++ qs)).set k (.int .u64 (q : Nat)) = dgs (List.replicate k 0 ++ (q :: qs)) := by
  rw [List.replicate_succ', List.append_assoc, dgs_append, dgs_append, List.set_append_right _ _ (by simp [dgs])]
  simp [dgs]

set_option maxRecDepth 100000 in
theorem short_any (aa : Option Addr) (l : List Nat) (ca d : Nat) (w : World) (ha : Cells w aa (dgs l)) (hs : Sm l) (hl : l.length ≤ 17592186044416) (hd : 1 ≤ d) (hd2 : d ≤ 1000000000) :
    Calls Tryz.prog 197 #[.slice aa l.length ca, .int .u64 (d : Nat)] w fun e w' => (∃ a c, e = .returned (.tuple #[.slice a (dig (val l / d)).length c, .int .u64 (val l % d : Nat)]) ∧ Cells w' a (dgs (dig (val l / d))) ∧ (dig (val l / d)).length ≤ c ∧ c ≤ 17592186044416) ∧ Below w.heap.size w w' := by
  obtain ⟨i0, hi, hz0, hz1, hz2⟩ := info_parts Tryz.infoU64
  have HA := Lib.hid ha; clear ha
  have HS := Lib.hid hs; clear hs
  have hne : ((d : Int) == 0) = false := by simp; omega
  go_enter Tryz.func197, Tryz.ntmps197
  go_wp2_with (at_make; refine wpList_make_full _ rfl _ _ 126 rfl w.heap.size 196 i0 (.int .u64 0) 1 Tryz.underlying126 hi hz0 hz1 .i64 .i64 _ _ l.length rfl rfl rfl rfl (by rw [hz2]; omega) (by unfold maxLen; omega) (Nat.le_refl _) ?_; intro w1 hown1 hgrow1)
  rw [zeros_dgs] at hown1
  have hb1 := (Below.refl w.heap.size w).grown hgrow1 (Nat.le_refl _) (fun _ h => by cases h)
  clear hgrow1
  have HO := Lib.hid hown1; clear hown1
  go_wp2
  go_loopw [7, 8] (fun r i wr => ∃ k : Nat, ∃ qs : List Nat, k ≤ l.length ∧ i = .int .i64 ((k : Int) - 1) ∧ r = .int .u64 (val (l.drop k) % d : Nat) ∧ qs.length = l.length - k ∧ val qs = val (l.drop k) / d ∧ Sm qs ∧ wr.ownsRow w.heap.size 196 1 (.slice (some ⟨w.heap.size, 0, none⟩) l.length l.length) l.length (dgs (List.replicate k 0 ++ qs)) ∧ Below w.heap.size w wr) (fun _ i _ => (intOf i + 1).toNat)
  case atStart => exact ⟨l.length, [], Nat.le_refl _, rfl, by rw [List.drop_length]; simp [val], by simp, by rw [List.drop_length]; simp [val], by simp [Sm], by simpa using HO.out, hb1⟩
  case round =>
    clear hb1
    obtain ⟨k, qs, hk, rfl, rfl, hql, hqv, hqs, hown, hb⟩ := hrel
    by_cases h0 : k = 0
    · subst h0
      rw [List.drop_zero] at hqv ⊢
      simp only [List.replicate_zero, List.nil_append, Nat.sub_zero] at hown hql
      obtain ⟨g, c, hv, hcs⟩ := own_cells hown
      simp only [Value.slice.injEq, true_and] at hv
      obtain ⟨rfl, rfl⟩ := hv
      have hle := lean_any (some ⟨w.heap.size, 0, none⟩) qs l.length wr hcs hqs (by omega) (by omega) (by omega)
      have hdl : (dig (val qs)).length ≤ qs.length := dig_len_val hqs
      rw [hqv] at hle hdl
      rw [hql] at hle hdl
      have HLE := Lib.hid hle; clear hle hcs hown hqv hqs
      have HQL := Lib.hid hql; clear hql
      go_wp2_with fail
      refine HLE.out.mono ?_
      rintro e w2 ⟨⟨rfl, hcs2⟩, rfl⟩
      have HCS := Lib.hid hcs2; clear hcs2
      go_wp2
      go_ret2
      exact ⟨⟨_, _, rfl, HCS.out, hdl, hl⟩, hb⟩
    · obtain ⟨j, rfl⟩ : ∃ j, k = j + 1 := ⟨k - 1, by omega⟩
      have hj : j < l.length := by omega
      obtain ⟨x, hx⟩ := get_of_lt hj
      have hxB := sm_get HS.out hx
      obtain ⟨b, off, rfl⟩ := HA.out.addr (dgs_ne (by omega))
      have c1 := cell_keep (HA.out.dgs hx) hb (Nat.le_refl _)
      have hdr : val (l.drop j) = x + B * val (l.drop (j + 1)) := by
        rw [List.drop_eq_getElem_cons hj, (List.getElem?_eq_some_iff.1 hx).2, val_cons]
      have hst := short_step (H := val (l.drop (j + 1))) (x := x) (show 0 < d by omega)
      rw [← hdr] at hst
      have hrd : val (l.drop (j + 1)) % d < d := Nat.mod_lt _ (by omega)
      have hq := short_dig hrd (show x < B by simp only [B]; omega)
      generalize hr : val (l.drop (j + 1)) % d = r at *
      have HR := Lib.hid hr; clear hr hdr hx
      have c2 := hown.cellAt j (by omega)
      rw [show (dgs (List.replicate (j + 1) 0 ++ qs))[j]? = some (.int .u64 (0 : Nat)) from by rw [dgs, List.map_append, List.getElem?_append_left (by simp)]; simp] at c2
      have c3 := hown.frozenAt j
      have hsto := hown.stored j (.int .u64 ((r * B + x) / d : Nat))
      rw [set_zeros] at hsto
      obtain ⟨hsto1, hsto2⟩ := hsto
      have e1 : ((((r : Int) * 1000000000) + x) / d) = (((r * B + x) / d : Nat) : Int) := by simp [B]
      have e2 : ((((r : Int) * 1000000000) + x) % d) = (((r * B + x) % d : Nat) : Int) := by simp [B]
      have q1 : 0 ≤ (((r : Int) * 1000000000) + x) / d := by rw [e1]; exact Int.natCast_nonneg _
      have q2 : (((r : Int) * 1000000000) + x) / d ≤ 999999999 := by rw [e1]; simp only [B] at hq ⊢; omega
      have hsz := hb.size
      have hszl : w.heap.size < wr.heap.size := by have := World.block_lt_of_cell? wr _ c2; simpa using this
      have hb2 : Below w.heap.size w (wr.setCell ⟨w.heap.size, j, none⟩ (.int .u64 ((r * B + x) / d : Nat))) := hb.setCell (Nat.le_refl _) _
      have HST := Lib.hid hst; clear hst
      have HQL := Lib.hid hql; clear hql
      have HQV := Lib.hid hqv; clear hqv
      have HQS := Lib.hid hqs; clear hqs
      have HO1 := Lib.hid hsto1; clear hsto1 hsto2 hown
      have HB2 := Lib.hid hb2; clear hb2
      have E1 := Lib.hid e1; have E2 := Lib.hid e2; clear e1 e2
      have e3 : (((j + 1 : Nat) : Int) - 1) = (j : Int) := by omega
      rw [e3]
      clear e3
      go_wp2
      go_roundw
      case rel =>
        refine ⟨j, (r * B + x) / d :: qs, by omega, rfl, by rw [E2.out, HST.out.2], by rw [List.length_cons, HQL.out]; omega, by rw [val_cons, HQV.out, HST.out.1], ?_, by rw [E1.out]; exact HO1.out, by rw [E1.out]; exact HB2.out⟩
        intro y hy
        rcases List.mem_cons.1 hy with rfl | hy
        · exact hq
        · exact HQS.out y hy
      case measure => simp [intOf]

end Go.Proofs.YtmafjfhnejeogaaGreatDoor

/- Natural numbers of package num: over at one digit, common, reduced. -/
namespace Go.Proofs.YtmafjfhnejeogaaGreatDoor
open Go.RowKit

/-- a slice that is a natural number -/
def NatV (w : World) (v : Value) (n : Nat) : Prop := ∃ a c, v = .slice a (dig n).length c ∧ Cells w a (dgs (dig n)) ∧ (dig n).length ≤ c ∧ c ≤ 9223372036854775807
theorem NatV.below {w w' : World} {B : Nat} {v : Value} {n : Nat} (h : NatV w v n) (hb : Below B w w') (hB : w.heap.size ≤ B) : NatV w' v n := by
  obtain ⟨a, c, h1, h2, h3⟩ := h
  exact ⟨a, c, h1, h2.below hb hB, h3⟩

theorem dig_one {n : Nat} (h0 : n ≠ 0) (h : n < B) : dig n = [n] := dig_small h h0

set_option maxRecDepth 100000 in
theorem over_small (va vb : Value) (m n : Nat) (w : World) (ha : NatV w va m) (hb : NatV w vb n) (hm : (dig m).length ≤ 17592186044416) (hn0 : n ≠ 0) (hn : n < B) :
    Calls Tryz.prog 149 #[va, vb] w fun e w' => (∃ q r, e = .returned (.tuple #[q, r]) ∧ NatV w' q (m / n) ∧ NatV w' r (m % n)) ∧ Below w.heap.size w w' := by
  have HVA := Lib.hid ha
  obtain ⟨aa, ca, rfl, ha, hac, hac2⟩ := ha
  obtain ⟨ab, cb, rfl, hb, hbc, hbc2⟩ := hb
  have hnl : (dig n).length ≤ 1 := by rw [dig_one hn0 hn]; simp
  by_cases hlt : m < n
  · have hq : m / n = 0 := Nat.div_eq_of_lt hlt
    have hr : m % n = m := Nat.mod_eq_of_lt hlt
    have hcmp := compare_any aa ab m n ca cb w ha hb (by omega) (by omega)
    rw [cmpN_lt hlt] at hcmp
    have HC := Lib.hid hcmp; clear hcmp
    have HQ := Lib.hid hq; have HR := Lib.hid hr; clear hq hr ha hb
    go_enter Tryz.func149, Tryz.ntmps149
    go_wp2_with fail
    refine HC.out.mono ?_
    rintro e w1 ⟨rfl, hb1⟩
    go_wp2
    go_ret2
    exact ⟨⟨_, _, rfl, by rw [HQ.out]; exact ⟨none, 0, by rw [dig_zero]; rfl, by rw [dig_zero]; exact Cells.nil _ _, by rw [dig_zero]; simp, by omega⟩, by rw [HR.out]; exact HVA.out.below hb1 (Nat.le_refl _)⟩, hb1⟩
  · have hcmp := compare_any aa ab m n ca cb w ha hb (by omega) (by omega)
    have hge : 0 ≤ cmpN m n := by unfold cmpN; rw [if_neg hlt]; split <;> omega
    have hdn := dig_one hn0 hn
    have hc0 : Cells w ab [.int .u64 (n : Nat)] := by rw [hdn] at hb; exact hb
    obtain ⟨b, off, rfl⟩ := hc0.addr (by simp)
    rw [hdn] at hcmp
    rw [hdn]
    simp only [B] at hn
    have hsh := fun (w1 : World) (h : Cells w1 aa (dgs (dig m))) => short_any aa (dig m) ca n w1 h (sm_dig m) (by omega) (by omega) (by omega)
    rw [val_dig] at hsh
    have hmod : m % n < n := Nat.mod_lt _ (by omega)
    have hnat := fun (w1 : World) => natural_any (m % n) w1 (by omega)
    generalize cmpN m n = cm at *
    have HC := Lib.hid hcmp; have HSH := Lib.hid hsh; have HN := Lib.hid hnat; have HA := Lib.hid ha; have HC0 := Lib.hid hc0
    clear hcmp hsh hnat ha hb hc0 hdn
    go_enter Tryz.func149, Tryz.ntmps149
    go_wp2_with fail
    refine HC.out.mono ?_
    rintro e w1 ⟨rfl, hb1⟩
    have hcell : w1.cell? ⟨b, off, none⟩ = some (.int .u64 (n : Nat)) := (HC0.out.below hb1 (Nat.le_refl _)).at (j := 0) rfl
    go_wp2_with fail
    refine (HSH.out w1 (HA.out.below hb1 (Nat.le_refl _))).mono ?_
    rintro e w2 ⟨⟨a, c, rfl, hq, hqc, hqc2⟩, hb2⟩
    have HQ := Lib.hid hq; clear hq
    go_wp2_with fail
    refine (HN.out w2).mono ?_
    rintro e w3 ⟨⟨a3, c3, rfl, hr, hrc, hrc2⟩, hb3⟩
    have HR := Lib.hid hr; clear hr
    go_wp2
    go_ret2
    exact ⟨⟨_, _, rfl, (NatV.below ⟨_, _, rfl, HQ.out, hqc, by omega⟩ hb3 (Nat.le_refl _)), ⟨_, _, rfl, HR.out, hrc, hrc2⟩⟩, (hb1.trans (hb2.mono hb1.size)).trans (hb3.mono (Nat.le_trans hb1.size hb2.size))⟩
end Go.Proofs.YtmafjfhnejeogaaGreatDoor

/- Digits: products and long division, plain facts. -/
namespace Go.Proofs.YtmafjfhnejeogaaGreatDoor

theorem val_zeros (n : Nat) : val (List.replicate n 0) = 0 := by
  rw [val_eq_zero]; intro d hd; exact (List.mem_replicate.1 hd).2
theorem sm_append {a b : List Nat} (ha : Sm a) (hb : Sm b) : Sm (a ++ b) := by
  intro d hd
  rcases List.mem_append.1 hd with h | h
  · exact ha d h
  · exact hb d h
theorem sm_take {a : List Nat} (ha : Sm a) (n : Nat) : Sm (a.take n) := fun d hd => ha d (List.mem_of_mem_take hd)
theorem sm_drop {a : List Nat} (ha : Sm a) (n : Nat) : Sm (a.drop n) := fun d hd => ha d (List.mem_of_mem_drop hd)
theorem sm_one {d : Nat} (h : d < B) : Sm [d] := by intro x hx; simp at hx; rw [hx]; exact h
theorem sm_zeros (n : Nat) : Sm (List.replicate n 0) := by intro d hd; rw [(List.mem_replicate.1 hd).2]; exact B_pos
theorem val_take_succ {l : List Nat} {k d : Nat} (h : l[k]? = some d) : val (l.take (k + 1)) = val (l.take k) + B ^ k * d := by
  have hk : k < l.length := (List.getElem?_eq_some_iff.1 h).1
  rw [List.take_add_one, h]
  show val (l.take k ++ [d]) = _
  rw [val_snoc, List.length_take, Nat.min_eq_left (by omega)]
theorem val_take_drop (l : List Nat) (k : Nat) (hk : k ≤ l.length) : val l = val (l.take k) + B ^ k * val (l.drop k) := by
  have h := val_append (l.take k) (l.drop k)
  rw [List.take_append_drop, List.length_take, Nat.min_eq_left hk] at h
  exact h

/-- a digit of a sum with carry -/
theorem carry_step {M C X k : Nat} (c z : Nat) (h : M + C * B ^ k = X) (hc : c = C + z) : (M + B ^ k * (c % B)) + (c / B) * B ^ (k + 1) = X + B ^ k * z := by
  have h1 := Nat.mod_add_div c B
  have h2 : B ^ k * (c % B) + (c / B) * B ^ (k + 1) = B ^ k * c := by
    conv => rhs; rw [← h1]
    rw [Nat.mul_add, Nat.pow_succ, Nat.mul_comm (B ^ k) B, Nat.mul_comm (c / B), Nat.mul_assoc B, ← Nat.mul_assoc (B ^ k) B, Nat.mul_comm (B ^ k) B, Nat.mul_assoc B]
  have h3 : B ^ k * c = C * B ^ k + B ^ k * z := by rw [hc, Nat.mul_add, Nat.mul_comm C]
  omega
/-- a digit of a difference with borrow -/
theorem borrow_step {M Y U C k : Nat} (t z u low c d C' : Nat) (h : M + Y = U + C * B ^ k) (ht : t = C + z) (hl : low = t % B) (hc : c = t / B) (hd : low + d = u ∧ C' = c ∨ low + d = u + B ∧ C' = c + 1) :
    (M + B ^ k * d) + (Y + B ^ k * z) = (U + B ^ k * u) + C' * B ^ (k + 1) := by
  have h1 := Nat.mod_add_div t B
  rw [← hl, ← hc] at h1
  have h2 : C + z + d = u + B * C' := by
    rcases hd with ⟨h3, h4⟩ | ⟨h3, h4⟩
    · rw [h4]; omega
    · rw [h4, Nat.mul_add]; omega
  have h3 : B ^ k * (C + z + d) = B ^ k * (u + B * C') := by rw [h2]
  have h4 : C' * B ^ (k + 1) = B ^ k * (B * C') := by rw [Nat.pow_succ, Nat.mul_comm C', Nat.mul_assoc]
  rw [Nat.mul_add, Nat.mul_add, Nat.mul_add] at h3
  rw [h4]
  have h5 : C * B ^ k = B ^ k * C := Nat.mul_comm _ _
  omega

/-- the first digit of the divisor, when scaled -/
theorem scale_half {t : Nat} (h1 : 1 ≤ t) (h2 : t < B) : 500000000 ≤ B / (t + 1) * t := by
  have hB : B = 1000000000 := rfl
  by_cases h : 500000000 ≤ t
  · have h3 : 1 ≤ B / (t + 1) := by rw [Nat.le_div_iff_mul_le (by omega)]; omega
    calc 500000000 ≤ t := h
      _ = 1 * t := (Nat.one_mul t).symm
      _ ≤ B / (t + 1) * t := Nat.mul_le_mul_right t h3
  · have hs : B < (B / (t + 1) + 1) * (t + 1) := by
      have := Nat.lt_div_mul_add (a := B) (b := t + 1) (by omega)
      rw [Nat.add_mul]; omega
    generalize B / (t + 1) = s at *
    -- B + 1 ≤ (s + 1) * (t + 1), so s * t ≥ B - s - t; and s * t grows
    have e : (s + 1) * (t + 1) = s * t + s + t + 1 := by rw [Nat.add_mul, Nat.mul_add, Nat.mul_add]; omega
    rw [e] at hs
    rcases Nat.eq_or_lt_of_le h1 with ht | ht
    · subst ht; rw [Nat.mul_one] at *; omega
    · apply Classical.byContradiction
      intro hlt
      have hst : s * t < 500000000 := by omega
      -- s ≤ s * t / 2
      have h5 : s * 2 ≤ s * t := Nat.mul_le_mul_left s ht
      have h6 : 2 * t ≤ s * t ∨ s ≤ 1 := by
        rcases Nat.lt_or_ge s 2 with h | h
        · exact .inr (by omega)
        · exact .inl (Nat.mul_le_mul_right t h)
      omega
end Go.Proofs.YtmafjfhnejeogaaGreatDoor

/- Long division: the guess of a digit, plain facts. -/
namespace Go.Proofs.YtmafjfhnejeogaaGreatDoor

/-- a guess that is too great: 'q' goes into U less than that -/
theorem guess_dec {v1 v2 u0 u1 u2 P V U q r : Nat} (hV1 : (v1 * B + v2) * P ≤ V) (hU2 : U < (u0 * B * B + u1 * B + u2 + 1) * P) (hUB : U < B * V) (hqr : q * v1 + r = u0 * B + u1)
    (ht : B ≤ q ∨ r * B + u2 < q * v2) : U < q * V := by
  rcases ht with h | h
  · exact Nat.lt_of_lt_of_le hUB (Nat.mul_le_mul_right V h)
  · have h1 : u0 * B * B + u1 * B + u2 + 1 ≤ q * (v1 * B + v2) := by
      have e1 : q * (v1 * B + v2) = (q * v1) * B + q * v2 := by rw [Nat.mul_add, Nat.mul_assoc]
      have e2 : (u0 * B + u1) * B = u0 * B * B + u1 * B := Nat.add_mul _ _ _
      have e3 : (q * v1 + r) * B = (q * v1) * B + r * B := Nat.add_mul _ _ _
      rw [hqr, e2] at e3
      omega
    calc U < (u0 * B * B + u1 * B + u2 + 1) * P := hU2
      _ ≤ (q * (v1 * B + v2)) * P := Nat.mul_le_mul_right P h1
      _ = q * ((v1 * B + v2) * P) := Nat.mul_assoc _ _ _
      _ ≤ q * V := Nat.mul_le_mul_left q hV1

/-- a guess that stands: at most one too great -/
theorem guess_end {v1 v2 u0 u1 u2 P V U q r : Nat} (hV1 : (v1 * B + v2) * P ≤ V) (hV2 : V < (v1 * B + v2 + 1) * P) (hU1 : (u0 * B * B + u1 * B + u2) * P ≤ U) (hv : 1 ≤ v1) (hqr : q * v1 + r = u0 * B + u1)
    (hq : q ≤ B) (ht : q * v2 ≤ r * B + u2) : q * V < U + V := by
  have hP : 0 < P := by
    rcases Nat.eq_zero_or_pos P with h | h
    · rw [h] at hV2; simp at hV2
    · exact h
  have hVpos : B * P ≤ V := by
    calc B * P ≤ (v1 * B + v2) * P := Nat.mul_le_mul_right P (by have := Nat.mul_le_mul_right B hv; omega)
      _ ≤ V := hV1
  have hBpos : 0 < B * P := Nat.mul_pos B_pos hP
  rcases Nat.eq_zero_or_pos q with h0 | h0
  · subst h0; omega
  · have h1 : q * (v1 * B + v2) ≤ u0 * B * B + u1 * B + u2 := by
      have e1 : q * (v1 * B + v2) = (q * v1) * B + q * v2 := by rw [Nat.mul_add, Nat.mul_assoc]
      have e2 : (u0 * B + u1) * B = u0 * B * B + u1 * B := Nat.add_mul _ _ _
      have e3 : (q * v1 + r) * B = (q * v1) * B + r * B := Nat.add_mul _ _ _
      rw [hqr, e2] at e3
      omega
    have h2 : q * V < q * ((v1 * B + v2 + 1) * P) := Nat.mul_lt_mul_of_pos_left hV2 h0
    have h3 : q * ((v1 * B + v2 + 1) * P) = (q * (v1 * B + v2)) * P + q * P := by
      rw [← Nat.mul_assoc, Nat.mul_add, Nat.mul_one, Nat.add_mul]
    have h4 : (q * (v1 * B + v2)) * P ≤ (u0 * B * B + u1 * B + u2) * P := Nat.mul_le_mul_right P h1
    have h5 : q * P ≤ B * P := Nat.mul_le_mul_right P hq
    omega

/-- when the guess breaks off -/
theorem break_end {v2 u2 q r : Nat} (hq : q ≤ B) (hv : v2 < B) (hr : B ≤ r) : q * v2 ≤ r * B + u2 := by
  have h1 : q * v2 ≤ B * B := Nat.mul_le_mul hq (Nat.le_of_lt hv)
  have h2 : B * B ≤ r * B := Nat.mul_le_mul_right B hr
  omega

/-- the first guess -/
theorem guess_first {v1 v2 u0 u1 P V H : Nat} (hV2 : V < (v1 * B + v2 + 1) * P) (hv1 : 500000000 ≤ v1) (hv2 : v2 < B) (hu1 : u1 < B)
    (hH : (u0 * B + u1) * P ≤ H) (hHV : H < V) : u0 ≤ v1 ∧ (u0 * B + u1) / v1 ≤ B + 1 := by
  have hP : 0 < P := by
    rcases Nat.eq_zero_or_pos P with h | h
    · rw [h] at hV2; simp at hV2
    · exact h
  have h1 : u0 * B + u1 < v1 * B + v2 + 1 := by
    have h2 : (u0 * B + u1) * P < (v1 * B + v2 + 1) * P := by omega
    exact Nat.lt_of_mul_lt_mul_right h2
  have hB : B = 1000000000 := rfl
  have h3 : u0 ≤ v1 := by
    apply Classical.byContradiction
    intro h
    have := Nat.mul_le_mul_right B (show v1 + 1 ≤ u0 by omega)
    rw [Nat.add_mul] at this; omega
  refine ⟨h3, ?_⟩
  have h4 : u0 * B + u1 < (B + 2) * v1 := by
    have := Nat.mul_le_mul_right B h3
    rw [Nat.add_mul, Nat.mul_comm B v1]; omega
  have := (Nat.div_lt_iff_lt_mul (show 0 < v1 by omega)).2 h4
  omega

/-- what is left, when nothing was taken too much -/
theorem take_ok {U V q R : Nat} (h : R + q * V = U) (hu : U < (q + 1) * V) : U / V = q ∧ U % V = R := by
  have h1 : R < V := by rw [Nat.add_mul] at hu; omega
  have h2 : U = R + V * q := by rw [← h, Nat.mul_comm]
  exact ⟨by rw [h2, Nat.add_mul_div_left _ _ (by omega), Nat.div_eq_of_lt h1, Nat.zero_add], by rw [h2, Nat.add_mul_mod_self_left, Nat.mod_eq_of_lt h1]⟩
/-- and when it was once too much -/
theorem take_over {U V q R : Nat} (h : R + q * V = U + V) (hlt : U < q * V) (hq : q * V < U + V) : 1 ≤ q ∧ U / V = q - 1 ∧ U % V = R := by
  have hq0 : 1 ≤ q := by
    rcases Nat.eq_zero_or_pos q with h0 | h0
    · subst h0; simp at hlt
    · exact h0
  obtain ⟨p, rfl⟩ : ∃ p, q = p + 1 := ⟨q - 1, by omega⟩
  have e : (p + 1) * V = p * V + V := by rw [Nat.add_mul, Nat.one_mul]
  rw [Nat.add_sub_cancel]
  exact ⟨by omega, take_ok (by omega) (by omega)⟩
end Go.Proofs.YtmafjfhnejeogaaGreatDoor
