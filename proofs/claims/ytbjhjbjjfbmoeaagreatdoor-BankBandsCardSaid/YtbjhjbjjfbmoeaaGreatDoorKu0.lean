/- Parts of a proof, in build order: U0, A5, Ra, U1, U2, U3. -/
import Derived.Test.YtbjhjbjjfbmoeaaGreatDoorKl11

/- BankBands: the plain law. -/
namespace Go.Proofs.YtbjhjbjjfbmoeaaGreatDoor
open Go.RowKit

theorem mid_mul2 {lo q hi x : Int} (h1 : lo ≤ q) (h2 : q ≤ hi) : min (lo * x) (hi * x) ≤ q * x ∧ q * x ≤ max (lo * x) (hi * x) := by
  rcases Int.le_total 0 x with hx | hx
  · have a := Int.mul_le_mul_of_nonneg_right h1 hx
    have b := Int.mul_le_mul_of_nonneg_right h2 hx
    omega
  · have a := Int.mul_le_mul_of_nonpos_right h1 hx
    have b := Int.mul_le_mul_of_nonpos_right h2 hx
    omega
/-- the exact taps -/
def mdL (ts : List (Int × Int)) : List (Int × Int) := ts.map fun t => ((t.1 + t.2) / 2, (t.1 + t.2) / 2)
theorem mdL_length (ts : List (Int × Int)) : (mdL ts).length = ts.length := by simp [mdL]
theorem mdL_get {ts : List (Int × Int)} {i : Nat} (h : i < ts.length) : (mdL ts).getD i (0, 0) = (((ts.getD i (0, 0)).1 + (ts.getD i (0, 0)).2) / 2, ((ts.getD i (0, 0)).1 + (ts.getD i (0, 0)).2) / 2) := by
  simp only [mdL, List.getD_eq_getElem?_getD, List.getElem?_map, List.getElem?_eq_getElem h]; rfl
theorem taps_at2 {ts : List (Int × Int)} (h : ∀ t ∈ ts, t.1 ≤ t.2 ∧ -1048576 ≤ t.1 ∧ t.2 ≤ 1048576) {i : Nat} (hi : i < ts.length) : (ts.getD i (0, 0)).1 ≤ (ts.getD i (0, 0)).2 ∧ -1048576 ≤ (ts.getD i (0, 0)).1 ∧ (ts.getD i (0, 0)).2 ≤ 1048576 :=
  h _ (by rw [List.getD_eq_getElem?_getD, List.getElem?_eq_getElem hi]; exact List.getElem_mem _)
theorem md_mod {ts : List (Int × Int)} {sh : Int} (h : modErr ts sh = 0) : modErr (mdL ts) sh = 0 := by
  obtain ⟨h1, h2, h3, h4, h5⟩ := modErr_zero h
  have : modOK (mdL ts) sh = true := by
    simp only [modOK, inB, Bool.and_eq_true, decide_eq_true_eq, Bool.not_eq_true', List.any_eq_false, tapBad]
    rw [mdL_length]
    refine ⟨by omega, fun t ht => ?_, by omega⟩
    obtain ⟨u, hu, rfl⟩ := List.mem_map.1 ht
    have := h5 u hu
    simp; omega
  simp [modErr, this]
theorem md_sums {ts : List (Int × Int)} (h : ∀ t ∈ ts, t.1 ≤ t.2 ∧ -1048576 ≤ t.1 ∧ t.2 ≤ 1048576) (xs : List Int) (t : Nat) (n : Nat) (hn : n ≤ ts.length) :
    loS ts xs t n ≤ loS (mdL ts) xs t n ∧ loS (mdL ts) xs t n ≤ hiS ts xs t n := by
  induction n with
  | zero => simp [loS, hiS]
  | succ n ih =>
    have ih := ih (by omega)
    obtain ⟨b1, b2, b3⟩ := taps_at2 h (show n < ts.length by omega)
    have m1 := mid_mul2 (x := xs.getD (t - n) 0) (show (ts.getD n (0, 0)).1 ≤ ((ts.getD n (0, 0)).1 + (ts.getD n (0, 0)).2) / 2 by omega) (show ((ts.getD n (0, 0)).1 + (ts.getD n (0, 0)).2) / 2 ≤ (ts.getD n (0, 0)).2 by omega)
    simp only [loS, hiS, mdL_get (show n < ts.length by omega)]
    omega
theorem band_mid {ts : List (Int × Int)} {sh : Int} (h : modErr ts sh = 0) (xs : List Int) (t s : Nat) :
    (bandAt ts s xs t).1 ≤ (bandAt (mdL ts) s xs t).1 ∧ (bandAt (mdL ts) s xs t).1 ≤ (bandAt ts s xs t).2 := by
  have hm : (0 : Int) < 2 ^ s := Int.pow_pos (by decide)
  obtain ⟨s1, s2⟩ := md_sums (modErr_zero h).2.2.2.2 xs t (min ts.length (t + 1)) (Nat.min_le_left _ _)
  simp only [bandAt, mdL_length]
  generalize loS ts xs t (min ts.length (t + 1)) = a at *
  generalize hiS ts xs t (min ts.length (t + 1)) = c at *
  generalize loS (mdL ts) xs t (min ts.length (t + 1)) = b at *
  generalize (2 : Int) ^ s = m at *
  refine ⟨Int.ediv_le_ediv hm s1, ?_⟩
  have h1 := Int.ediv_le_ediv hm (show -c ≤ -b by omega)
  have h2 : -b / m ≤ -(b / m) := by
    have := Int.ediv_mul_le b (show m ≠ 0 by omega)
    have h3 : -b ≤ -(b / m) * m := by rw [Int.neg_mul]; omega
    have h4 := Int.ediv_le_ediv hm h3
    rw [Int.mul_ediv_cancel _ (show m ≠ 0 by omega)] at h4
    exact h4
  omega
theorem strain_md {ts : List (Int × Int)} {sh : Int} {xs : List Int} (h : strErr ts sh xs = 0) : strErr (mdL ts) sh xs = 0 := by
  unfold strErr at *
  by_cases h1 : modErr ts sh = 0
  · rw [if_neg (by simp [h1])] at h
    rw [if_neg (by simp [md_mod h1])]; exact h
  · rw [if_pos h1] at h; exact absurd h h1
theorem strErr_zero2 {ts : List (Int × Int)} {sh : Int} {xs : List Int} (h : strErr ts sh xs = 0) : modErr ts sh = 0 ∧ serErr xs = 0 := by
  unfold strErr at h
  by_cases h1 : modErr ts sh = 0
  · rw [if_neg (by simp [h1])] at h; exact ⟨h1, h⟩
  · rw [if_pos h1] at h; exact absurd h h1
theorem strain_len {ts : List (Int × Int)} {sh : Int} {xs : List Int} (h : strErr ts sh xs = 0) : (strain ts sh xs).length = xs.length := by
  unfold strain; rw [if_pos h, bands_length]
theorem strain_get {ts : List (Int × Int)} {sh : Int} {xs : List Int} (h : strErr ts sh xs = 0) {t : Nat} (ht : t < xs.length) : (strain ts sh xs)[t]? = some (bandAt ts sh.toNat xs t) := by
  unfold strain; rw [if_pos h, bands, List.getElem?_map, List.getElem?_range ht]; rfl
/-- what bands are bounded by -/
theorem band_bd {ts : List (Int × Int)} {sh : Int} {xs : List Int} (h : strErr ts sh xs = 0) {t : Nat} (ht : t < xs.length) :
    -140737488355328 ≤ (bandAt ts sh.toNat xs t).1 ∧ (bandAt ts sh.toNat xs t).1 ≤ 140737488355328 ∧ -140737488355328 ≤ (bandAt ts sh.toNat xs t).2 ∧ (bandAt ts sh.toNat xs t).2 ≤ 140737488355328 := by
  obtain ⟨h1, h2⟩ := strErr_zero2 h
  have hb := lohi_bd h1 h2 t ht (min ts.length (t + 1)) (Nat.min_le_left _ _) (Nat.min_le_right _ _)
  have hl := (modErr_zero h1).2.1
  have hm : (1 : Int) ≤ 2 ^ sh.toNat := by have : (0 : Int) < 2 ^ sh.toNat := Int.pow_pos (by decide); omega
  have ed : ∀ a M : Int, 0 ≤ M → -M ≤ a → a ≤ M → -M ≤ a / 2 ^ sh.toNat ∧ a / 2 ^ sh.toNat ≤ M := by
    intro a M hM g1 g2
    generalize (2 : Int) ^ sh.toNat = b at *
    have hp : (0 : Int) < b := by omega
    constructor
    · rw [Int.le_ediv_iff_mul_le hp]
      have : M * 1 ≤ M * b := Int.mul_le_mul_of_nonneg_left hm hM
      rw [Int.neg_mul]; omega
    · by_cases hx : 0 ≤ a
      · have := Int.ediv_le_self b hx; omega
      · have := Int.ediv_neg_of_neg_of_pos (by omega : a < 0) hp; omega
  have e1 := ed (loS ts xs t (min ts.length (t + 1))) 140737488355328 (by omega) (by omega) (by omega)
  have e2 := ed (-hiS ts xs t (min ts.length (t + 1))) 140737488355328 (by omega) (by omega) (by omega)
  simp only [bandAt]
  omega

/-- the sums of the lesser, of the greater products -/
def bLo (hs : List Int) (bs : List (Int × Int)) (t : Nat) : Nat → Int
  | 0 => 0
  | n + 1 => bLo hs bs t n + min (hs.getD n 0 * (bs.getD (t + n) (0, 0)).1) (hs.getD n 0 * (bs.getD (t + n) (0, 0)).2)
def bHi (hs : List Int) (bs : List (Int × Int)) (t : Nat) : Nat → Int
  | 0 => 0
  | n + 1 => bHi hs bs t n + max (hs.getD n 0 * (bs.getD (t + n) (0, 0)).1) (hs.getD n 0 * (bs.getD (t + n) (0, 0)).2)
theorem bmul_bd {h b : Int} (h1 : -127 ≤ h) (h2 : h ≤ 127) (b1 : -140737488355328 ≤ b) (b2 : b ≤ 140737488355328) : -17873661021126656 ≤ h * b ∧ h * b ≤ 17873661021126656 := by
  have ha : h.natAbs ≤ 127 := by omega
  have hb : b.natAbs ≤ 140737488355328 := by omega
  have := Nat.mul_le_mul ha hb
  rw [← Int.natAbs_mul] at this
  omega
theorem bLo_bd {hs : List Int} {bs : List (Int × Int)} (h1 : ∀ x ∈ hs, -127 ≤ x ∧ x ≤ 127) (h2 : ∀ b ∈ bs, -140737488355328 ≤ b.1 ∧ b.1 ≤ 140737488355328 ∧ -140737488355328 ≤ b.2 ∧ b.2 ≤ 140737488355328) (t n : Nat) :
    -(17873661021126656 * (n : Int)) ≤ bLo hs bs t n ∧ bLo hs bs t n ≤ 17873661021126656 * (n : Int) ∧ -(17873661021126656 * (n : Int)) ≤ bHi hs bs t n ∧ bHi hs bs t n ≤ 17873661021126656 * (n : Int) := by
  induction n with
  | zero => simp [bLo, bHi]
  | succ n ih =>
    have g1 := getD_in (by omega) h1 n
    have g2 : -140737488355328 ≤ (bs.getD (t + n) (0, 0)).1 ∧ (bs.getD (t + n) (0, 0)).1 ≤ 140737488355328 ∧ -140737488355328 ≤ (bs.getD (t + n) (0, 0)).2 ∧ (bs.getD (t + n) (0, 0)).2 ≤ 140737488355328 := by
      rw [List.getD_eq_getElem?_getD]
      cases e : bs[t + n]? with
      | none => simp
      | some v => exact h2 v (List.mem_of_getElem? e)
    have p1 := bmul_bd g1.1 g1.2 g2.1 g2.2.1
    have p2 := bmul_bd g1.1 g1.2 g2.2.2.1 g2.2.2.2
    simp only [bLo, bHi]
    push_cast
    omega
/-- an output is between -/
theorem out_mid {hs ds : List Int} {bs : List (Int × Int)} {t : Nat} (n : Nat) (h : ∀ i, i < n → (bs.getD (t + i) (0, 0)).1 ≤ ds.getD (t + i) 0 ∧ ds.getD (t + i) 0 ≤ (bs.getD (t + i) (0, 0)).2) :
    bLo hs bs t n ≤ dotTo hs ds t 0 n ∧ dotTo hs ds t 0 n ≤ bHi hs bs t n := by
  induction n with
  | zero => simp [bLo, bHi, dotTo]
  | succ n ih =>
    have ih := ih fun i hi => h i (by omega)
    have hn := h n (by omega)
    have m := mid_mul2 (x := hs.getD n 0) hn.1 hn.2
    simp only [bLo, bHi, dotTo, Nat.zero_add]
    rw [Int.mul_comm (hs.getD n 0), Int.mul_comm (hs.getD n 0), Int.mul_comm (hs.getD n 0)]
    omega
end Go.Proofs.YtbjhjbjjfbmoeaaGreatDoor

/- Small functions of ringdownref00: Down, Up, Mod; sameBands. -/
namespace Go.Proofs.YtbjhjbjjfbmoeaaGreatDoor
open Go.RowKit

theorem tdiv_floor {a b : Int} (hb : 0 < b) : (a.tmod b < 0 → a.tdiv b - 1 = a / b) ∧ (¬ a.tmod b < 0 → a.tdiv b = a / b) := by
  have h1 := Int.mul_tdiv_add_tmod a b
  have h2 := Int.mul_ediv_add_emod a b
  have h3 := Int.emod_nonneg a (by omega : b ≠ 0)
  have h4 := Int.emod_lt_of_pos a hb
  have h5 : a.tmod b < b := Int.tmod_lt_of_pos a hb
  have h6 : -b < a.tmod b := by have := Int.lt_tmod_of_pos a hb; omega
  refine ⟨fun h => ?_, fun h => ?_⟩
  · have e : b * (a.tdiv b - 1 - a / b) = a % b - b - a.tmod b := by rw [Int.mul_sub, Int.mul_sub]; omega
    have : a.tdiv b - 1 - a / b = 0 := by
      rcases Int.lt_trichotomy (a.tdiv b - 1 - a / b) 0 with hl | hl | hl
      · have := Int.mul_le_mul_of_nonneg_left (show a.tdiv b - 1 - a / b ≤ -1 by omega) (Int.le_of_lt hb); omega
      · exact hl
      · have := Int.mul_le_mul_of_nonneg_left (show 1 ≤ a.tdiv b - 1 - a / b by omega) (Int.le_of_lt hb); omega
    omega
  · have e : b * (a.tdiv b - a / b) = a % b - a.tmod b := by rw [Int.mul_sub]; omega
    have : a.tdiv b - a / b = 0 := by
      rcases Int.lt_trichotomy (a.tdiv b - a / b) 0 with hl | hl | hl
      · have := Int.mul_le_mul_of_nonneg_left (show a.tdiv b - a / b ≤ -1 by omega) (Int.le_of_lt hb); omega
      · exact hl
      · have := Int.mul_le_mul_of_nonneg_left (show 1 ≤ a.tdiv b - a / b by omega) (Int.le_of_lt hb); omega
    omega

theorem down_any (a b : Int) (w : World) (hb : 1 ≤ b) (ha : -9223372036854775807 ≤ a) (ha' : a ≤ 9223372036854775807) :
    Calls Tryz.prog 40 #[.int .i64 a, .int .i64 b] w fun e w' => e = .returned (.int .i64 (a / b)) ∧ w = w' := by
  have hf := tdiv_floor (a := a) (b := b) (by omega)
  have h0 : (b == 0) = false := by simp; omega
  have hq : -9223372036854775807 ≤ a.tdiv b ∧ a.tdiv b ≤ 9223372036854775807 := by
    have h := Int.natAbs_tdiv_le_natAbs a b
    omega
  have hr : -9223372036854775807 ≤ a.tmod b ∧ a.tmod b ≤ 9223372036854775807 := by
    have h := Int.natAbs_tmod a b
    have h2 := Nat.mod_le a.natAbs b.natAbs
    omega
  obtain ⟨q1, q2⟩ := hq
  obtain ⟨r1, r2⟩ := hr
  have H1 := Lib.hid hf; clear hf
  by_cases hm : a.tmod b < 0
  · go_enter Tryz.func40, Tryz.ntmps40
    go_wp2
    go_ret
    exact ⟨ret_int (H1.out.1 hm), rfl⟩
  · go_enter Tryz.func40, Tryz.ntmps40
    go_wp2
    go_ret
    exact ⟨ret_int (H1.out.2 hm), rfl⟩

theorem ediv_bd {a b M : Int} (hb : 1 ≤ b) (h1 : -M ≤ a) (h2 : a ≤ M) (hM : 0 ≤ M) : -M ≤ a / b ∧ a / b ≤ M := by
  have hp : (0 : Int) < b := by omega
  constructor
  · rw [Int.le_ediv_iff_mul_le hp]
    have : M * 1 ≤ M * b := Int.mul_le_mul_of_nonneg_left hb hM
    rw [Int.neg_mul]; omega
  · by_cases hx : 0 ≤ a
    · have := Int.ediv_le_self b hx; omega
    · have := Int.ediv_neg_of_neg_of_pos (by omega : a < 0) hp; omega

end Go.Proofs.YtbjhjbjjfbmoeaaGreatDoor

/- Abs, of the statements' small functions. -/
namespace Go.Proofs.YtbjhjbjjfbmoeaaGreatDoor
open Go.RowKit

theorem refAbs2_any (n : Int) (w : World) (h1 : -9223372036854775807 ≤ n) (h2 : n ≤ 9223372036854775807) :
    Calls Tryz.prog 41 #[.int .i64 n] w fun e w' => e = .returned (.int .i64 n.natAbs) ∧ w = w' := by
  by_cases h : n < 0
  · have e1 : ((n.natAbs : Nat) : Int) = -n := by omega
    rw [e1]
    go_enter Tryz.func41, Tryz.ntmps41
    go_wp2
    go_ret
    exact ⟨rfl, rfl⟩
  · have e1 : ((n.natAbs : Nat) : Int) = n := by omega
    rw [e1]
    go_enter Tryz.func41, Tryz.ntmps41
    go_wp2
    go_ret
    exact ⟨rfl, rfl⟩

theorem rin2_any (n lo hi : Int) (w : World) :
    Calls Tryz.prog 42 #[.int .i64 n, .int .i64 lo, .int .i64 hi] w fun e w' => e = .returned (.bool (inB lo n hi)) ∧ w = w' := by
  by_cases h1 : lo ≤ n
  · go_enter Tryz.func42, Tryz.ntmps42
    go_wp2
    go_ret
    exact ⟨ret_bool (by simp [inB]; try omega), rfl⟩
  · go_enter Tryz.func42, Tryz.ntmps42
    go_wp2
    go_ret
    exact ⟨ret_bool (by simp [inB]; try omega), rfl⟩
end Go.Proofs.YtbjhjbjjfbmoeaaGreatDoor

/- BankBands: the walk. -/
namespace Go.Proofs.YtbjhjbjjfbmoeaaGreatDoor
open Go.RowKit

theorem grown_set2 (w : World) (p : Addr) (u : Value) : w.grownBy (w.setCell p u) (some p.block) :=
  ⟨rfl, rfl, rfl, by simp [World.setCell], fun k _ hk => Below.heap_setCell _ _ _ _ (fun e => hk (by rw [e]))⟩
theorem own_set_other2 {w : World} {B : Nat} {e : TypeId} {s : Nat} {v : Value} {n : Nat} {xs : List Value} (h : w.ownsRow B e s v n xs) {p : Addr} {u : Value} (hp : v.ownBlock ≠ some p.block) : (w.setCell p u).ownsRow B e s v n xs := h.kept (grown_set2 w p u) (.inr hp)
theorem blk_own_ne2 {w : World} {b base : Nat} {T e : TypeId} {cs : Array Value} {s n : Nat} {v : Value} {xs : List Value} (h : Blk w b T cs) (ho : w.ownsRow base e s v n xs) (hT : T ≠ e) : v.ownBlock ≠ some b := by
  intro hv
  rcases ho.2 with ⟨rfl, _⟩ | ⟨g, cap, cur, rfl, _, hg, _⟩
  · simp [Value.ownBlock] at hv
  · simp [Value.ownBlock] at hv
    subst hv
    rw [show w.heap[g]? = _ from h] at hg
    simp at hg
    exact hT hg.2
theorem quiet_left2 {P : Program} {f : FuncId} {args : Array Value} {w : World} {n : Nat} {v : Value}
    (h : Calls P f args (w.drewN n) fun e w' => e = .returned v ∧ w.drewN n = w') : Calls P f args (w.drewN n) fun e w'' => e = .returned v ∧ ∃ m, w'' = w.drewN m :=
  h.mono fun _ _ ⟨he, hm⟩ => ⟨he, n, hm.symm⟩
theorem Tryz.infoTapB : (Tryz.prog.info? 72).map (fun i => (i.zero, i.size, i.bytes)) = some (some (.agg #[.int .i64 0, .int .i64 0]), 2, 16) := by kernel_rfl

/-- a model that is made, with so many taps -/
structure Mdl (base b : Nat) (sh : Int) (ts : List (Int × Int)) (k : Nat) (v : Value) (w : World) : Prop where
  b : Blk w b 67 #[v, .int .i64 sh]
  o : w.ownsRow base 72 2 v k (prs ((mdL ts).take k))
theorem Mdl.step {base b : Nat} {sh : Int} {ts : List (Int × Int)} {k : Nat} {v : Value} {w : World} (h : Mdl base b sh ts k v w) {o : Obj} {gg cp : Nat} {wz : World} {q : Int} (hq : (mdL ts)[k]? = some (q, q))
    (hown : wz.ownsRow base 72 2 (.slice (some ⟨gg, 0, none⟩) (k + 1) cp) (k + 1) (prs ((mdL ts).take k) ++ [.int .i64 q, .int .i64 q])) (hg : (w.alloc o).grownBy wz v.ownBlock) :
    Mdl base b sh ts (k + 1) (.slice (some ⟨gg, 0, none⟩) (k + 1) cp) (wz.setCell ⟨b, 0, none⟩ (.slice (some ⟨gg, 0, none⟩) (k + 1) cp)) := by
  have t1 := blk_own_ne2 h.b h.o (by decide)
  have k1 := (h.b.alloc o).kept hg (fun e => t1 e.symm)
  have t3 := blk_own_ne2 k1 hown (by decide)
  refine ⟨k1.set0 _, ?_⟩
  rw [take_get hq, prs_append]
  exact own_set_other2 hown t3
theorem Mdl.drewN {base b : Nat} {sh : Int} {ts : List (Int × Int)} {k : Nat} {v : Value} {w : World} (h : Mdl base b sh ts k v w) (n : Nat) : Mdl base b sh ts k v (w.drewN n) := ⟨h.b, h.o⟩

/-- the boxes of the two structs -/
theorem bands_box (ao : Option Addr) (ts : List (Int × Int)) (cap : Nat) (sh : Int) (ax : Option Addr) (xs : List Int) (p q : Int) (w : World) (ht : Tab w) (hc : Cells w ao (prs ts)) (hx : Cells w ax (xs.map (Value.int .i64))) :
    ∃ W0, (w.alloc (.cells #[.slice ao ts.length cap, .int .i64 sh] 67)).alloc (.cells #[.int .i64 p, .int .i64 q] 23) = W0 ∧ ∀ wx, Below W0.heap.size W0 wx →
      (wx.cell? ⟨w.heap.size, 0, none⟩ = some (.slice ao ts.length cap) ∧ wx.cell? ⟨w.heap.size, 1, none⟩ = some (.int .i64 sh)) ∧ (wx.cell? ⟨w.heap.size + 1, 0, none⟩ = some (.int .i64 p) ∧ wx.cell? ⟨w.heap.size + 1, 1, none⟩ = some (.int .i64 q)) ∧ Tab wx ∧ Cells wx ao (prs ts) ∧ Cells wx ax (xs.map (Value.int .i64)) ∧ Below w.heap.size w wx := by
  refine ⟨_, rfl, ?_⟩
  generalize hW0 : (w.alloc (.cells #[.slice ao ts.length cap, .int .i64 sh] 67)).alloc (.cells #[.int .i64 p, .int .i64 q] 23) = W0
  have hB0 : Below w.heap.size w W0 := by rw [← hW0]; exact ((Below.refl _ w).alloc (Nat.le_refl _) _).alloc (by simp) _
  have hs0 : W0.heap.size = w.heap.size + 2 := by rw [← hW0]; simp
  have b0 : W0.heap[w.heap.size]? = some (.cells #[.slice ao ts.length cap, .int .i64 sh] 67 (0, 0)) := by rw [← hW0]; exact heap_alloc2_old w _ _
  have b1 : W0.heap[w.heap.size + 1]? = some (.cells #[.int .i64 p, .int .i64 q] 23 (0, 0)) := by rw [← hW0]; exact heap_alloc2_new w _ _
  intro wx hb
  have e0 := (hb.block _ (by omega)).trans b0
  have e1 := (hb.block _ (by omega)).trans b1
  have e3 : Below w.heap.size w wx := hB0.trans (hb.mono (by omega))
  exact ⟨⟨(cell_of_row wx _ 0 _ _ _ e0).trans rfl, (cell_of_row wx _ 1 _ _ _ e0).trans rfl⟩, ⟨(cell_of_row wx _ 0 _ _ _ e1).trans rfl, (cell_of_row wx _ 1 _ _ _ e1).trans rfl⟩, ht.below e3 (Nat.le_refl _), hc.below e3 (Nat.le_refl _), hx.below e3 (Nat.le_refl _), e3⟩

set_option maxRecDepth 100000 in
set_option maxHeartbeats 4000000 in
theorem bands_bad (ao : Option Addr) (ts : List (Int × Int)) (cap : Nat) (sh : Int) (ax : Option Addr) (xs : List Int) (cx : Nat) (p q : Int) (w : World) (ht : Tab w) (hc : Cells w ao (prs ts)) (hl : ts.length ≤ 9223372036854775807) (hx : Cells w ax (xs.map (Value.int .i64))) (hlx : xs.length ≤ 9223372036854775807)
    (hbad : ¬ (strErr ts sh xs = 0 ∧ wavE 8 p q = 0 ∧ 8 ≤ (strain ts sh xs).length ∧ (strain ts sh xs).length ≤ 512)) :
    Calls Tryz.prog 9 #[.agg #[.slice ao ts.length cap, .int .i64 sh], .slice ax xs.length cx, .agg #[.int .i64 p, .int .i64 q]] w fun e w' => e = .returned (.bool true) ∧ Below w.heap.size w w' := by
  have hs := fun W h3 h4 => strain_any ao ts cap sh ax xs cx W h3 hl h4 hlx
  have hw := fun W => Wave_any 8 p q W
  obtain ⟨W0, hW0, hFK⟩ := bands_box ao ts cap sh ax xs p q w ht hc hx
  have hor : (strErr ts sh xs != 0) = true ∨ ((strErr ts sh xs != 0) = false ∧ (wavE 8 p q != 0) = true) ∨ ((strErr ts sh xs != 0) = false ∧ (wavE 8 p q != 0) = false ∧ ((strain ts sh xs).length : Int) < 8) ∨ ((strErr ts sh xs != 0) = false ∧ (wavE 8 p q != 0) = false ∧ ¬ ((strain ts sh xs).length : Int) < 8 ∧ (512 : Int) < ((strain ts sh xs).length : Int)) := by
    by_cases h1 : strErr ts sh xs = 0
    · by_cases h2 : wavE 8 p q = 0
      · by_cases h3 : 8 ≤ (strain ts sh xs).length
        · right; right; right
          exact ⟨by simp [h1], by simp [h2], by omega, by have := fun h4 => hbad ⟨h1, h2, h3, h4⟩; omega⟩
        · right; right; left; exact ⟨by simp [h1], by simp [h2], by omega⟩
      · right; left; exact ⟨by simp [h1], by simp [h2]⟩
    · left; simp [h1]
  clear hbad
  generalize strErr ts sh xs = E at *
  generalize (strain ts sh xs).length = K at *
  generalize strain ts sh xs = bs at *
  generalize wavE 8 p q = WE at *
  generalize (wavR 8 p q).length = K2 at *
  generalize wavR 8 p q = hs2 at *
  have HS := Lib.hid hs; have HW := Lib.hid hw; have HFK := Lib.hid hFK; have HW0 := Lib.hid hW0
  clear hs hw hFK hW0 ht hc hx
  obtain ⟨⟨y0, y1⟩, ⟨z0, z1⟩, hT, hC, hX, g0⟩ := HFK.out W0 (Below.refl _ _)
  have HC := Lib.hid hC; have HX := Lib.hid hX
  clear hT hC hX g0
  rcases hor with h1 | ⟨h1, h2⟩ | ⟨h1, h2, h3⟩ | ⟨h1, h2, h3, h4⟩
  all_goals
    go_enter Tryz.func9, Tryz.ntmps9
    go_wp2_with fail
    rw [HW0.out]
    refine (HS.out _ HC.out HX.out).mono ?_
    rintro e w1 ⟨⟨a1, c1, rfl, hc1⟩, hb1⟩
    clear y0 y1 z0 z1 hc1
    obtain ⟨⟨y0, y1⟩, ⟨z0, z1⟩, -, -, -, -⟩ := HFK.out w1 hb1
    go_wp2_with fail
    refine (HW.out _).mono ?_
    rintro e w2 ⟨⟨a2, c2, rfl, hc2⟩, hb2⟩
    have hb2 := hb1.trans (hb2.mono hb1.size)
    clear y0 y1 z0 z1 hc2
    obtain ⟨-, -, hT, -, -, g2⟩ := HFK.out w2 hb2
    have HT := Lib.hid hT
    clear hT
    go_wp2_with (go_at_call 15; refine (bworks_any _ HT.out).mono ?_; rintro e w5 ⟨rfl, hb5⟩)
    go_ret
    exact ⟨rfl, g2.trans (hb5.mono g2.size)⟩
end Go.Proofs.YtbjhjbjjfbmoeaaGreatDoor

/- BankBands: the walk where all is in order. -/
namespace Go.Proofs.YtbjhjbjjfbmoeaaGreatDoor
open Go.RowKit

/-- what the outputs of the middle are -/
theorem bands_out {p q : Int} {ts : List (Int × Int)} {sh : Int} {xs : List Int} (hE : strErr ts sh xs = 0) (hW : waveOK 8 p q = true) (hl1 : 8 ≤ xs.length) (hl2 : xs.length ≤ 512)
    (hsm : ∀ j, j < xs.length → ((strain (mdL ts) sh xs).getD j (0, 0)).1.natAbs ≤ 32768) :
    filE 8 p q ((strain (mdL ts) sh xs).map (·.1)) = 0 ∧ filR 8 p q ((strain (mdL ts) sh xs).map (·.1)) = outs (wav 8 p q) ((strain (mdL ts) sh xs).map (·.1)) 8 (xs.length - 7) ∧
    ∀ t, t < xs.length - 7 → inB (bLo (wav 8 p q) (strain ts sh xs) t 8) (dotTo (wav 8 p q) ((strain (mdL ts) sh xs).map (·.1)) t 0 8) (bHi (wav 8 p q) (strain ts sh xs) t 8) = true := by
  have hE2 := strain_md hE
  have hlen := strain_len hE2
  have hmod := (strErr_zero2 hE).1
  have hgd : ∀ j, j < xs.length → (strain ts sh xs).getD j (0, 0) = bandAt ts sh.toNat xs j ∧ (strain (mdL ts) sh xs).getD j (0, 0) = bandAt (mdL ts) sh.toNat xs j ∧ ((strain (mdL ts) sh xs).map (·.1)).getD j 0 = (bandAt (mdL ts) sh.toNat xs j).1 := by
    intro j hj
    refine ⟨?_, ?_, ?_⟩
    · rw [List.getD_eq_getElem?_getD, strain_get hE hj]; rfl
    · rw [List.getD_eq_getElem?_getD, strain_get hE2 hj]; rfl
    · rw [List.getD_eq_getElem?_getD, List.getElem?_map, strain_get hE2 hj]; rfl
  have hok : dataOK ((strain (mdL ts) sh xs).map (·.1)) = true := by
    simp only [dataOK, Bool.and_eq_true, decide_eq_true_eq, List.all_eq_true, List.length_map]
    refine ⟨by omega, fun x hx => ?_⟩
    obtain ⟨i, hi, e⟩ := List.getElem_of_mem hx
    rw [List.length_map] at hi
    have h1 := (hgd i (by omega)).2.2
    have h2 := hsm i (by omega)
    rw [(hgd i (by omega)).2.1, ← h1, List.getD_eq_getElem?_getD, List.getElem?_eq_getElem (by rw [List.length_map]; exact hi), Option.getD_some, e] at h2
    simp only [inB, decide_eq_true_eq]
    omega
  have hfe : filE 8 p q ((strain (mdL ts) sh xs).map (·.1)) = 0 := by simp [filE, hW, hok]
  refine ⟨hfe, ?_, fun t ht => ?_⟩
  · unfold filR
    rw [if_pos hfe, List.length_map, hlen]
    show outs _ _ 8 (xs.length + 1 - 8) = outs _ _ 8 (xs.length - 7)
    rw [show xs.length + 1 - 8 = xs.length - 7 by omega]
  · have h := out_mid (hs := wav 8 p q) (ds := (strain (mdL ts) sh xs).map (·.1)) (bs := strain ts sh xs) (t := t) 8 (fun i hi => by
      obtain ⟨g1, g2, g3⟩ := hgd (t + i) (by omega)
      rw [g1, g3]
      exact band_mid hmod xs (t + i) sh.toNat)
    simp only [inB, decide_eq_true_eq]
    exact h

set_option maxRecDepth 100000 in
set_option maxHeartbeats 20000000 in
theorem bands_good (ao : Option Addr) (ts : List (Int × Int)) (cap : Nat) (sh : Int) (ax : Option Addr) (xs : List Int) (cx : Nat) (p q : Int) (w : World) (ht : Tab w) (hc : Cells w ao (prs ts)) (hl : ts.length ≤ 9223372036854775807) (hx : Cells w ax (xs.map (Value.int .i64))) (hlx : xs.length ≤ 9223372036854775807)
    (hE : strErr ts sh xs = 0) (hW : waveOK 8 p q = true) (hl1 : 8 ≤ xs.length) (hl2 : xs.length ≤ 512) :
    Calls Tryz.prog 9 #[.agg #[.slice ao ts.length cap, .int .i64 sh], .slice ax xs.length cx, .agg #[.int .i64 p, .int .i64 q]] w fun e w' => e = .returned (.bool true) ∧ Below w.heap.size w w' := by
  have hs := fun W h3 h4 => strain_any ao ts cap sh ax xs cx W h3 hl h4 hlx
  have hE2 := strain_md hE
  have hlen := strain_len hE
  have hlen2 := strain_len hE2
  rw [hE, hlen] at hs
  have hs2 := fun ag cg W h3 h4 => strain_any ag (mdL ts) cg sh ax xs cx W h3 (by rw [mdL_length]; exact hl) h4 hlx
  rw [hE2, hlen2, mdL_length] at hs2
  have hw := fun W => Wave_any 8 p q W
  have hwl : (wavR 8 p q).length = 8 := by rw [wavR_length, if_pos hW]; rfl
  have hwr : wavR 8 p q = (wav 8 p q).take 8 := by unfold wavR; rw [if_pos hW]; rfl
  have hwe : wavE 8 p q = 0 := by simp [wavE, hW]
  rw [hwl, hwr, hwe] at hw
  have hfl := fun a c W h => filter_any 8 p q a ((strain (mdL ts) sh xs).map (·.1)) c W h (by rw [List.length_map, hlen2]; exact hlx)
  rw [List.length_map, hlen2] at hfl
  have hbo := bands_out hE hW hl1 hl2
  have hm := (modErr_zero (strErr_zero2 hE).1)
  obtain ⟨m1, m2, m3, m4, m5⟩ := hm
  have hbb := fun j (hj : j < xs.length) => band_bd hE hj
  have hbg := fun j (hj : j < xs.length) => strain_get hE hj
  have hmb := fun j (hj : j < xs.length) => band_bd hE2 hj
  have hmg := fun j (hj : j < xs.length) => strain_get hE2 hj
  have hblo := bLo_bd (wav_bd 8 p q) (bs := strain ts sh xs) (fun b hb => by
    obtain ⟨i, hi, rfl⟩ := List.getElem_of_mem hb
    have h1 := hbg i (by omega)
    rw [List.getElem?_eq_getElem hi] at h1
    rw [Option.some.inj h1]
    exact hbb i (by omega))
  have hwb := wav_bd 8 p q
  have hwv := wav_length 8 p q
  have hmdg : ∀ (k : Nat) (x1 x2 : Int), ts[k]? = some (x1, x2) → (mdL ts)[k]? = some ((x1 + x2) / 2, (x1 + x2) / 2) := by
    intro k x1 x2 h
    unfold mdL
    rw [List.getElem?_map, h]; rfl
  obtain ⟨W0, hW0, hFK⟩ := bands_box ao ts cap sh ax xs p q w ht hc hx
  generalize wav 8 p q = hs0 at *
  generalize filE 8 p q ((strain (mdL ts) sh xs).map (·.1)) = FE at *
  generalize filR 8 p q ((strain (mdL ts) sh xs).map (·.1)) = FR at *
  generalize hbsd : strain ts sh xs = bs at *
  generalize hmsd : strain (mdL ts) sh xs = ms at *
  generalize hba : bandAt ts sh.toNat xs = BA at *
  generalize hma : bandAt (mdL ts) sh.toNat xs = MA at *
  have HS := Lib.hid hs; have HS2 := Lib.hid hs2; have HW := Lib.hid hw; have HFK := Lib.hid hFK; have HW0 := Lib.hid hW0
  have HFL := Lib.hid hfl; have HBO := Lib.hid hbo; have M5 := Lib.hid m5; have HBB := Lib.hid hbb; have HBG := Lib.hid hbg; have HMB := Lib.hid hmb; have HMG := Lib.hid hmg; have HBLO := Lib.hid hblo; have HWB := Lib.hid hwb; have HWV := Lib.hid hwv; have HMD := Lib.hid hmdg
  have HLB := Lib.hid hlen; have HLM := Lib.hid hlen2
  clear hs hs2 hw hFK hW0 ht hc hx hfl hbo m5 hbb hbg hmb hmg hblo hwb hwv hmdg hE hE2 hW hwl hwr hwe hbsd hmsd hba hma hlen hlen2
  obtain ⟨⟨y0, y1⟩, ⟨z0, z1⟩, hT, hC, hX, g0⟩ := HFK.out W0 (Below.refl _ _)
  have HC := Lib.hid hC; have HX := Lib.hid hX
  clear hT hC hX g0
  go_enter Tryz.func9, Tryz.ntmps9
  go_wp2_with fail
  rw [HW0.out]
  refine (HS.out _ HC.out HX.out).mono ?_
  rintro e w1 ⟨⟨a1, c1, rfl, hc1⟩, hb1⟩
  clear y0 y1 z0 z1 HC HX
  obtain ⟨⟨y0, y1⟩, ⟨z0, z1⟩, -, -, -, -⟩ := HFK.out w1 hb1
  go_wp2_with fail
  refine (HW.out _).mono ?_
  rintro e w2 ⟨⟨a2, c2, rfl, hc2⟩, hb2⟩
  have hc1 := hc1.below hb2 (Nat.le_refl _)
  have HC1 := Lib.hid hc1; have HC2 := Lib.hid hc2
  have hb2 := hb1.trans (hb2.mono hb1.size)
  clear y0 y1 z0 z1 hb1 hc1 hc2
  have HFK2 : Hid (∀ wx, Below w2.heap.size w2 wx → (wx.cell? ⟨w.heap.size, 0, none⟩ = some (.slice ao ts.length cap) ∧ wx.cell? ⟨w.heap.size, 1, none⟩ = some (.int .i64 sh)) ∧ (wx.cell? ⟨w.heap.size + 1, 0, none⟩ = some (.int .i64 p) ∧ wx.cell? ⟨w.heap.size + 1, 1, none⟩ = some (.int .i64 q)) ∧ Tab wx ∧ Cells wx ao (prs ts) ∧ Cells wx ax (xs.map (Value.int .i64)) ∧ Below w.heap.size w wx) := fun wx h => HFK.out wx (hb2.trans (h.mono hb2.size))
  clear HFK HW0 hb2
  generalize hK : xs.length = K at *
  have k1 : ¬ (K : Int) < 8 := by omega
  have k2 : ¬ (512 : Int) < (K : Int) := by omega
  obtain ⟨⟨y0, y1⟩, ⟨z0, z1⟩, -, -, -, -⟩ := HFK2.out w2 (Below.refl _ _)
  have hHK := Lib.hid hK
  clear hK
  obtain ⟨i0, hi, hz0, hz1, hz2⟩ := info_parts Tryz.infoTapB
  go_wp2_with fail
  have hm0 : Mdl w2.heap.size w2.heap.size sh ts 0 (.slice none 0 0) (w2.alloc (.cells #[.slice none 0 0, .int .i64 sh] 67)) := ⟨Blk.new _ _ _, World.ownsRow_nil _ _ _ _⟩
  have hb0 : Below w2.heap.size w2 (w2.alloc (.cells #[.slice none 0 0, .int .i64 sh] 67)) := (Below.refl _ _).alloc (Nat.le_refl _) _
  have HM0 := Lib.hid hm0
  clear hm0
  go_loopw [12] (fun i wr => ∃ k : Nat, k ≤ ts.length ∧ i = .int .i64 (k : Int) ∧ (∃ v, Mdl w2.heap.size w2.heap.size sh ts k v wr) ∧ Below w2.heap.size w2 wr) (fun i _ => ts.length - (intOf i).toNat)
  case atStart => exact ⟨0, Nat.zero_le _, rfl, ⟨_, HM0.out⟩, hb0⟩
  case round =>
    clear HM0 hb0 y0 y1 z0 z1
    obtain ⟨k, hk, rfl, ⟨v, hmd⟩, hb⟩ := hrel
    have hlr := hb.size
    obtain ⟨⟨y0, y1⟩, ⟨z0, z1⟩, -, hct, -, -⟩ := HFK2.out wr hb
    have HCT := Lib.hid hct
    clear hct
    by_cases hlt : k < ts.length
    · obtain ⟨⟨x1, x2⟩, hx⟩ := get_of_lt hlt
      obtain ⟨x3, x4, x5⟩ := M5.out _ (List.mem_of_getElem? hx)
      simp only at x3 x4 x5
      obtain ⟨bt, ot, rfl⟩ := HCT.out.addr (prs_ne (by omega))
      have hc1 := HCT.out.at (prs_fst hx)
      have hc2 := HCT.out.at (prs_snd hx)
      rw [← Nat.add_assoc] at hc2
      simp only at hc1 hc2
      have hq := HMD.out k x1 x2 hx
      have hdn := fun W => down_any (x1 + x2) 2 W (by omega) (by omega) (by omega)
      have hqb : -1048576 ≤ (x1 + x2) / 2 ∧ (x1 + x2) / 2 ≤ 1048576 := by omega
      have HDN := Lib.hid hdn
      have HQ := Lib.hid hq
      have HTW := Lib.hid hmd
      have w1' : IntKind.i64.wrap (x1 + x2) = x1 + x2 := IntWalk.i64_in _ (by omega)
      clear hdn hq hmd hx
      generalize (x1 + x2) / 2 = q at *
      have i1 : (k : Int) < ts.length := by omega
      have i2 : (0 : Int) ≤ k := by omega
      go_wp2_with fail
      go_quiet ((go_at_call 40; exact quiet_left2 (HDN.out _)))
      have hbd := bel_drewN hb nq
      have HTD := Lib.hid (HTW.out.drewN nq)
      clear HTW hc1 hc2 y0 y1 z0 z1 w1' HCT hb hlr
      generalize wr.drewN nq = wd at *
      have hlr := hbd.size
      have c90 := HTD.out.b.c0
      have f90 := HTD.out.b.free 0
      have HOE := Lib.hid HTD.out.o
      go_wp2_with (at_builtin; refine wpList_append_lies _ rfl _ _ _ rfl w2.heap.size 72 i0 (.agg #[.int .i64 0, .int .i64 0]) 2 16 Tryz.underlying65 hi hz0 hz1 hz2 rfl (by decide) v k (prs ((mdL ts).take k)) rfl (HOE.out.alloc _) ⟨wd.heap.size, 0, none⟩ 1 1 [.int .i64 q, .int .i64 q] rfl rfl (World.news_of_block (cs := #[.int .i64 q, .int .i64 q]) (t := 72) (fr := (0, 0)) (heap_alloc_new wd _)) (by simp [Value.oneCell']) (by omega) (by unfold maxLen; omega) (by omega) (by simp; omega) (wd.heap.size + 1) (by simp) ?_)
      intro gg cp wz hown1 hgrow hat hlt1
      have hl9 := HTD.out.b.lt
      have hz9 := (HTD.out.b.alloc (.cells #[.int .i64 q, .int .i64 q] 72)).kept hgrow (fun e => blk_own_ne2 HTD.out.b HTD.out.o (by decide) e.symm)
      have z90 := hz9.c0
      have g90 := hz9.free 0
      have hT2 := HTD.out.step HQ.out hown1 hgrow
      have hbz := (hbd.alloc hlr (.cells #[.int .i64 q, .int .i64 q] 72)).grown hgrow (by simp; omega) (fun j e => (HOE.out.lt j e).1)
      have hbz2 := hbz.setCell (p := ⟨w2.heap.size, 0, none⟩) (Nat.le_refl _) (.slice (some ⟨gg, 0, none⟩) (k + 1) cp)
      have HT2 := Lib.hid hT2; have HBZ := Lib.hid hbz2
      clear hown1 hgrow hat hlt1 hT2 hbz hbz2 hz9 c90 f90 HOE HTD hbd hlr
      go_wp2_with fail
      go_roundw
      case rel => exact ⟨k + 1, by omega, by go_num, ⟨_, HT2.out⟩, HBZ.out⟩
      case measure => simp [intOf]; omega
    · obtain rfl : k = ts.length := by omega
      have htk : (mdL ts).take ts.length = mdL ts := by rw [← mdL_length ts]; exact List.take_length
      have hbx0 := hmd.b.c0
      have hbx1 := hmd.b.c1
      have hown := hmd.o
      rw [htk] at hown
      obtain ⟨ag, cg, rfl, hcg⟩ := own_cells hown
      have HCG := Lib.hid hcg
      clear hown hcg hmd htk hlt hk
      obtain ⟨w3, rfl⟩ : ∃ w3, w3 = wr := ⟨_, rfl⟩
      obtain ⟨-, -, -, -, hxx, -⟩ := HFK2.out w3 hb
      have HXX := Lib.hid hxx
      clear hxx HCT
      go_wp2_with fail
      refine (HS2.out _ _ _ HCG.out HXX.out).mono ?_
      rintro e w4 ⟨⟨a3, c3, rfl, hc3⟩, hb4⟩
      have HC3 := Lib.hid hc3
      have hb24 : Below w2.heap.size w2 w4 := hb.trans (hb4.mono hlr)
      have HFK4 : Hid (∀ wx, Below w4.heap.size w4 wx → (wx.cell? ⟨w.heap.size + 1, 0, none⟩ = some (.int .i64 p) ∧ wx.cell? ⟨w.heap.size + 1, 1, none⟩ = some (.int .i64 q)) ∧ Tab wx ∧ Cells wx a1 (prs bs) ∧ Cells wx a2 ((hs0.take 8).map (Value.int .i64)) ∧ Below w.heap.size w wx) := fun wx h => by
        have h2 := hb24.trans (h.mono hb24.size)
        obtain ⟨-, t1, t2, -, -, t3⟩ := HFK2.out wx h2
        exact ⟨t1, t2, HC1.out.below h2 (Nat.le_refl _), HC2.out.below h2 (Nat.le_refl _), t3⟩
      clear hc3 hb24 hb4 hb hlr y0 y1 z0 z1 hbx0 hbx1 HCG HXX HFK2 HC1 HC2 HS HS2 HW
      have hKK : ((K : Int) != (K : Int)) = false := by simp
      have hmsl : (ms.map (·.1)).length = K := by rw [List.length_map]; exact HLM.out
      have HMSL := Lib.hid hmsl
      clear hmsl
      obtain ⟨j0, hji, hj0, hj1, hj2⟩ := info_parts Tryz.infoInt
      go_wp2_with fail
      clear hKK
      go_loopw [15, 16] (fun v i wr => ∃ k : Nat, k ≤ K ∧ i = .int .i64 (k : Int) ∧ wr.ownsRow w4.heap.size 3 1 v k (((ms.map (·.1)).take k).map (Value.int .i64)) ∧ (∀ j, j < k → (ms.getD j (0, 0)).1.natAbs ≤ 32768) ∧ Below w4.heap.size w4 wr) (fun _ i _ => K - (intOf i).toNat)
      case atStart => exact ⟨0, Nat.zero_le _, rfl, World.ownsRow_nil _ _ _ _, fun j hj => absurd hj (Nat.not_lt_zero _), Below.refl _ _⟩
      case round =>
        obtain ⟨k, hk, rfl, hown, hsm, hb⟩ := hrel
        have hsz := hb.size
        obtain ⟨⟨z0, z1⟩, hT, -, -, gr⟩ := HFK4.out wr hb
        have HTR := Lib.hid hT
        have HSM := Lib.hid hsm
        clear hT hsm
        by_cases hlt : k < K
        · have hmk := HMG.out k hlt
          have hmb := HMB.out k hlt
          have hgd : (ms.getD k (0, 0)).1 = (MA k).1 := by rw [List.getD_eq_getElem?_getD, hmk]; rfl
          have hdk : (ms.map (·.1))[k]? = some (MA k).1 := by rw [List.getElem?_map, hmk]; rfl
          obtain ⟨bm, om, rfl⟩ := HC3.out.addr (prs_ne (by rw [HLM.out]; omega))
          have hcm := cell_keep (HC3.out.at (prs_fst hmk)) hb (Nat.le_refl _)
          have e1 : (((ms.map (·.1)).take (k + 1)).map (Value.int .i64)) = (((ms.map (·.1)).take k).map (Value.int .i64)) ++ [.int .i64 (MA k).1] := by rw [take_get hdk, List.map_append]; rfl
          have hab := fun W => refAbs2_any (MA k).1 W (by omega) (by omega)
          have E1 := Lib.hid e1; have HAB := Lib.hid hab; have HGD := Lib.hid hgd
          clear e1 hab hgd hdk hmk
          generalize (MA k).1 = m at *
          obtain ⟨y, hy⟩ : ∃ y : Nat, y = m.natAbs := ⟨_, rfl⟩
          rw [← hy] at HAB
          have hyb : y ≤ 140737488355328 := by omega
          have i1 : (k : Int) < K := by omega
          have i2 : (0 : Int) ≤ k := by omega
          have HY := Lib.hid hy
          clear hy hmb
          by_cases hbig : (32768 : Int) < (y : Int)
          · go_wp2_with (first
              | (go_at_call 41; refine (HAB.out _).mono ?_; rintro e w' ⟨rfl, rfl⟩)
              | (go_at_call 15; refine (bworks_any _ HTR.out).mono ?_; rintro e w5 ⟨rfl, hb5⟩))
            go_ret
            exact ⟨rfl, gr.trans (hb5.mono gr.size)⟩
          · have HOB : Hid (∀ j, u15.ownBlock = some j → w4.heap.size ≤ j) := fun j e => (hown.lt j e).1
            go_wp2_with (first
              | (go_at_call 41; refine (HAB.out _).mono ?_; rintro e w' ⟨rfl, rfl⟩)
              | (at_builtin; refine wpList_append_own _ rfl _ _ 24 rfl w4.heap.size 3 j0 (.int .i64 0) 1 8 Tryz.underlying24 hji hj0 hj1 hj2 rfl (by decide) _ _ _ rfl (hown.alloc _) ⟨wr.heap.size, 0, none⟩ 1 1 [.int .i64 m] rfl rfl (news1 _ _ _) (by simp [Value.oneCell']) (by unfold maxLen; omega) (by omega) (by simp; omega) ?_; intro v1 wz hown1 hgrow _))
            have hfin := hown1
            rw [← E1.out] at hfin
            have hbz := (hb.alloc hsz (.cells #[.int .i64 m] 3)).grown hgrow (by simp; omega) HOB.out
            clear hown1 hgrow hown
            have HFIN := Lib.hid hfin; clear hfin
            have hsm2 : ∀ j, j < k + 1 → (ms.getD j (0, 0)).1.natAbs ≤ 32768 := by
              intro j hj
              by_cases e : j = k
              · rw [e, HGD.out]; have := HY.out; omega
              · exact HSM.out j (by omega)
            have HSM2 := Lib.hid hsm2
            clear hsm2
            go_roundw
            case rel => exact ⟨k + 1, by omega, by go_num, HFIN.out, HSM2.out, hbz⟩
            case measure => simp [intOf]; omega
        · obtain rfl : k = K := by omega
          rw [List.take_of_length_le (by rw [HMSL.out]; exact Nat.le_refl _)] at hown
          obtain ⟨gd, cd, rfl, hcd⟩ := own_cells hown
          obtain ⟨hfe, hfr, hin⟩ := HBO.out HSM.out
          have hfl := HFL.out gd cd wr hcd
          rw [hfe, hfr, outs_length] at hfl
          have HFLX := Lib.hid hfl; have HIN := Lib.hid hin
          clear hown hcd hfl hin hfe hfr HFL HBO HSM hlt hk
          obtain ⟨w5, rfl⟩ : ∃ w5, w5 = wr := ⟨_, rfl⟩
          go_wp2_with fail
          refine HFLX.out.mono ?_
          rintro e w6 ⟨⟨a4, c4, rfl, hc4⟩, hb6⟩
          have hb46 := hb.trans (hb6.mono hsz)
          have HC4 := Lib.hid hc4
          have HFK6 : Hid (∀ wx, Below w6.heap.size w6 wx → Tab wx ∧ Cells wx a1 (prs bs) ∧ Cells wx a2 ((hs0.take 8).map (Value.int .i64)) ∧ Below w.heap.size w wx) := fun wx h => by
            have h2 := hb46.trans (h.mono hb46.size)
            obtain ⟨-, t2, t3, t4, t5⟩ := HFK4.out wx h2
            exact ⟨t2, t3, t4, t5⟩
          clear hc4 hb6 hb46 hb hsz z0 z1 HTR gr HFLX HFK4 HC3
          generalize hN : k - 7 = N at *
          have hNi : (k : Int) - 7 = (N : Int) := by omega
          have hNN : ((N : Int) != (k : Int) - 7) = false := by rw [hNi]; simp
          have hNk : N + 7 = k := by omega
          have hNl : N ≤ 512 := by omega
          have HNK := Lib.hid hNk
          clear hNk
          clear hN
          go_wp2_with fail
          clear hNN hNi
          go_loopw [18] (fun i wr => ∃ j : Nat, j ≤ N ∧ i = .int .i64 (j : Int) ∧ Below w6.heap.size w6 wr) (fun i _ => N - (intOf i).toNat)
          case atStart => exact ⟨0, Nat.zero_le _, rfl, Below.refl _ _⟩
          case round =>
            obtain ⟨j, hj, rfl, hb⟩ := hrel
            obtain ⟨hT, hcb, hch, gr⟩ := HFK6.out wr hb
            have HTR := Lib.hid hT
            clear hT
            by_cases hlt : j < N
            · obtain ⟨bb, ob, rfl⟩ := hcb.addr (prs_ne (by rw [HLB.out]; omega))
              obtain ⟨bh, oh, rfl⟩ := hch.addr (by intro h; rw [List.map_eq_nil_iff] at h; have := congrArg List.length h; rw [List.length_take, HWV.out] at this; simp at this)
              have hok : (outs hs0 (ms.map (·.1)) 8 N)[j]? = some (dotTo hs0 (ms.map (·.1)) j 0 8) := by simp [outs, hlt]
              have hino := HIN.out j hlt
              obtain ⟨bo, oo, rfl⟩ := HC4.out.addr (by intro h; rw [List.map_eq_nil_iff] at h; rw [h] at hok; simp at hok)
              have hco := HC4.out.int hok
              generalize dotTo hs0 (ms.map (·.1)) j 0 8 = o at *
              have HINO := Lib.hid hino; have HCO := Lib.hid hco
              clear hok hino hco hcb hch
              obtain ⟨wq, rfl⟩ : ∃ wq, wq = wr := ⟨_, rfl⟩
              have hjN : (j : Int) < N := by omega
              go_wp2_with fail
              clear hjN
              go_loopw [19, 20, 21] (fun lo hi i wr => ∃ n : Nat, n ≤ 8 ∧ lo = .int .i64 (bLo hs0 bs j n) ∧ hi = .int .i64 (bHi hs0 bs j n) ∧ i = .int .i64 (n : Int) ∧ Below wq.heap.size wq wr) (fun _ _ i _ => 8 - (intOf i).toNat)
              case atStart => exact ⟨0, Nat.zero_le _, rfl, rfl, rfl, Below.refl _ _⟩
              case round =>
                obtain ⟨n, hn, rfl, rfl, rfl, hbi⟩ := hrel
                have hbw := hb.trans (hbi.mono hb.size)
                have hbn := HBLO.out j n
                by_cases hn8 : n < 8
                · obtain ⟨-, hcb, hch, -⟩ := HFK6.out wr hbw
                  obtain ⟨x, hx⟩ := get_of_lt (show n < hs0.length by rw [HWV.out]; omega)
                  have hxt : (hs0.take 8)[n]? = some x := by rw [List.getElem?_take, if_pos hn8]; exact hx
                  have hjk : j + n < k := by have := HNK.out; omega
                  have hbg := HBG.out (j + n) hjk
                  have hbd := HBB.out (j + n) hjk
                  obtain ⟨⟨lo, hi'⟩, hBA⟩ : ∃ u, u = BA (j + n) := ⟨_, rfl⟩
                  rw [← hBA] at hbg hbd
                  simp only at hbd
                  have m1 := HWB.out x (List.mem_of_getElem? hx)
                  have p1 := bmul_bd m1.1 m1.2 hbd.1 hbd.2.1
                  have p2 := bmul_bd m1.1 m1.2 hbd.2.2.1 hbd.2.2.2
                  have c0 := hch.int hxt
                  have c1' := hcb.at (prs_fst hbg)
                  have c2' := hcb.at (prs_snd hbg)
                  rw [← Nat.add_assoc] at c2'
                  simp only at c1' c2'
                  have e1 : bLo hs0 bs j (n + 1) = bLo hs0 bs j n + min (x * lo) (x * hi') := by simp [bLo, List.getD_eq_getElem?_getD, hx, hbg]
                  have e2 : bHi hs0 bs j (n + 1) = bHi hs0 bs j n + max (x * lo) (x * hi') := by simp [bHi, List.getD_eq_getElem?_getD, hx, hbg]
                  have E1 := Lib.hid e1; have E2 := Lib.hid e2
                  clear e1 e2 hx hxt hbg hBA hch hcb hbd m1
                  have i1 : (n : Int) < 8 := by omega
                  have i2 : (0 : Int) ≤ n := by omega
                  have i3 : (j : Int) + n < k := by omega
                  have i4 : (0 : Int) ≤ (j : Int) + n := by omega
                  have t1 : ((j : Int) + n).toNat = j + n := by omega
                  have w1' : IntKind.i64.wrap ((j : Int) + n) = (j : Int) + n := IntWalk.i64_in _ (by omega)
                  have w2' : IntKind.i64.wrap (x * lo) = x * lo := IntWalk.i64_in _ (by omega)
                  have w3' : IntKind.i64.wrap (x * hi') = x * hi' := IntWalk.i64_in _ (by omega)
                  have w4' : IntKind.i64.wrap (bLo hs0 bs j n + min (x * lo) (x * hi')) = bLo hs0 bs j n + min (x * lo) (x * hi') := IntWalk.i64_in _ (by omega)
                  have w5' : IntKind.i64.wrap (bHi hs0 bs j n + max (x * lo) (x * hi')) = bHi hs0 bs j n + max (x * lo) (x * hi') := IntWalk.i64_in _ (by omega)
                  have W4 := Lib.hid w4'; have W5 := Lib.hid w5'
                  clear w4' w5' p1 p2
                  go_wp2_with fail
                  go_quiet (fail)
                  have w4' := W4.out
                  have w5' := W5.out
                  clear w1' w2' w3' c0 c1' c2' i3 i4 t1
                  go_wp2
                  go_roundw
                  case rel => exact ⟨n + 1, by omega, by rw [E1.out], by rw [E2.out], by go_num, bel_drewN hbi _⟩
                  case measure => simp [intOf]; omega
                · have hn9 : n = 8 := by omega
                  have hnn : ¬ (n : Int) < 8 := by omega
                  rw [hn9] at *
                  have hri := fun W => rin2_any o (bLo hs0 bs j 8) (bHi hs0 bs j 8) W
                  rw [HINO.out] at hri
                  have HRI := Lib.hid hri
                  have hcw := cell_keep HCO.out hbw (Nat.le_refl _)
                  have hjN : (j : Int) < N := by omega
                  have hj0 : (0 : Int) ≤ j := by omega
                  clear hri hn8 hn9
                  generalize bLo hs0 bs j 8 = l8 at *
                  generalize bHi hs0 bs j 8 = h8 at *
                  go_wp2_with (go_at_call 42; refine (HRI.out _).mono ?_; rintro e w' ⟨rfl, rfl⟩)
                  go_roundw
                  case rel => exact ⟨j + 1, by omega, by go_num, hbw⟩
                  case measure => simp [intOf]; omega
            · obtain rfl : j = N := by omega
              go_wp2_with (go_at_call 15; refine (bworks_any _ HTR.out).mono ?_; rintro e w8 ⟨rfl, hb8⟩)
              go_ret
              exact ⟨rfl, gr.trans (hb8.mono gr.size)⟩
end Go.Proofs.YtbjhjbjjfbmoeaaGreatDoor

/- BankBands: for any model, series and chirp. -/
namespace Go.Proofs.YtbjhjbjjfbmoeaaGreatDoor
open Go.RowKit

theorem bands_law (ao : Option Addr) (ts : List (Int × Int)) (cap : Nat) (sh : Int) (ax : Option Addr) (xs : List Int) (cx : Nat) (p q : Int) (w : World) (ht : Tab w) (hc : Cells w ao (prs ts)) (hl : ts.length ≤ 9223372036854775807) (hx : Cells w ax (xs.map (Value.int .i64))) (hlx : xs.length ≤ 9223372036854775807) :
    Calls Tryz.prog 9 #[.agg #[.slice ao ts.length cap, .int .i64 sh], .slice ax xs.length cx, .agg #[.int .i64 p, .int .i64 q]] w fun e w' => e = .returned (.bool true) ∧ Below w.heap.size w w' := by
  by_cases h : strErr ts sh xs = 0 ∧ wavE 8 p q = 0 ∧ 8 ≤ (strain ts sh xs).length ∧ (strain ts sh xs).length ≤ 512
  · obtain ⟨h1, h2, h3, h4⟩ := h
    rw [strain_len h1] at h3 h4
    have hW : waveOK 8 p q = true := by
      cases e : waveOK 8 p q
      · simp [wavE, e] at h2
      · rfl
    exact bands_good ao ts cap sh ax xs cx p q w ht hc hl hx hlx h1 hW h3 h4
  · exact bands_bad ao ts cap sh ax xs cx p q w ht hc hl hx hlx h
end Go.Proofs.YtbjhjbjjfbmoeaaGreatDoor
