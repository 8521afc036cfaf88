/- Parts of a proof, in build order: Dig, Dig2, N0, N1, N2, N3, N4, N5. -/
import Derived.Test.YtoochleabcjljaaDoorKw3
import Derived.Deep.RegionWith

/- Digits of natural numbers to the base 10^9, the least one first: plain facts. -/
namespace Go.Proofs.YtoochleabcjljaaDoor
def B : Nat := 1000000000

def val : List Nat → Nat
  | [] => 0
  | d :: ds => d + B * val ds

def dig (n : Nat) : List Nat := if n = 0 then [] else n % B :: dig (n / B)
termination_by n
decreasing_by exact Nat.div_lt_self (Nat.pos_of_ne_zero ‹_›) (by decide)

theorem B_pos : 0 < B := by decide
theorem dig_zero : dig 0 = [] := by rw [dig]; simp
theorem dig_pos {n : Nat} (h : n ≠ 0) : dig n = n % B :: dig (n / B) := by rw [dig]; simp [h]

theorem val_dig (n : Nat) : val (dig n) = n := by
  induction n using Nat.strongRecOn with
  | _ n ih =>
    by_cases h : n = 0
    · subst h; simp [dig_zero, val]
    · rw [dig_pos h, val, ih _ (Nat.div_lt_self (Nat.pos_of_ne_zero h) (by decide))]
      exact Nat.mod_add_div n B

def Sm (xs : List Nat) : Prop := ∀ d ∈ xs, d < B

theorem sm_dig (n : Nat) : Sm (dig n) := by
  induction n using Nat.strongRecOn with
  | _ n ih =>
    by_cases h : n = 0
    · subst h; simp [dig_zero, Sm]
    · rw [dig_pos h]
      intro d hd
      rcases List.mem_cons.1 hd with rfl | hd
      · exact Nat.mod_lt _ B_pos
      · exact ih _ (Nat.div_lt_self (Nat.pos_of_ne_zero h) (by decide)) d hd

theorem val_nil : val [] = 0 := rfl
theorem val_cons (d : Nat) (ds : List Nat) : val (d :: ds) = d + B * val ds := rfl

theorem val_append (xs ys : List Nat) : val (xs ++ ys) = val xs + B ^ xs.length * val ys := by
  induction xs with
  | nil => simp [val]
  | cons d ds ih => simp only [List.cons_append, val_cons, ih, List.length_cons, Nat.pow_succ]; rw [Nat.mul_add, Nat.add_assoc, Nat.mul_comm (B ^ ds.length) B, Nat.mul_assoc]

theorem val_snoc (xs : List Nat) (d : Nat) : val (xs ++ [d]) = val xs + B ^ xs.length * d := by
  rw [val_append]; simp [val]

theorem val_lt {xs : List Nat} (h : Sm xs) : val xs < B ^ xs.length := by
  induction xs with
  | nil => simp [val]
  | cons d ds ih =>
    have h1 : d < B := h d (by simp)
    have h2 := ih (fun x hx => h x (by simp [hx]))
    simp only [val_cons, List.length_cons, Nat.pow_succ]
    have : B * (val ds + 1) ≤ B * B ^ ds.length := Nat.mul_le_mul_left _ h2
    rw [Nat.mul_add, Nat.mul_one] at this
    rw [Nat.mul_comm (B ^ ds.length) B]; omega

/-- digits without zeros at the end -/
def Lean_ (xs : List Nat) : Prop := Sm xs ∧ xs.getLast? ≠ some 0

theorem val_eq_zero {xs : List Nat} : val xs = 0 ↔ ∀ d ∈ xs, d = 0 := by
  induction xs with
  | nil => simp [val]
  | cons d ds ih =>
    simp only [val_cons, List.mem_cons, forall_eq_or_imp, ← ih]
    constructor
    · intro h
      have h1 : d = 0 := by omega
      have h2 : B * val ds = 0 := by omega
      refine ⟨h1, ?_⟩
      rcases Nat.mul_eq_zero.1 h2 with h | h
      · exact absurd h (by decide)
      · exact h
    · rintro ⟨rfl, h⟩; simp [h]

theorem dig_val {xs : List Nat} (h : Sm xs) (hl : xs.getLast? ≠ some 0) : dig (val xs) = xs := by
  induction xs with
  | nil => simp [val, dig_zero]
  | cons d ds ih =>
    have h1 : d < B := h d (by simp)
    have hs : Sm ds := fun x hx => h x (by simp [hx])
    have hne : val (d :: ds) ≠ 0 := by
      intro h0
      have h0' := val_eq_zero.1 h0
      have : ((d :: ds).getLast (by simp)) = 0 := h0' _ (List.getLast_mem _)
      exact hl (by rw [List.getLast?_eq_some_getLast (by simp), this])
    rw [dig_pos hne, val_cons]
    have e1 : (d + B * val ds) % B = d := by rw [Nat.add_mul_mod_self_left, Nat.mod_eq_of_lt h1]
    have e2 : (d + B * val ds) / B = val ds := by rw [Nat.add_mul_div_left _ _ B_pos, Nat.div_eq_of_lt h1, Nat.zero_add]
    rw [e1, e2, ih hs]
    cases ds with
    | nil => simp
    | cons x xs => simpa [List.getLast?_cons_cons] using hl

theorem last_dig (n : Nat) : (dig n).getLast? ≠ some 0 := by
  induction n using Nat.strongRecOn with
  | _ n ih =>
    by_cases h : n = 0
    · subst h; simp [dig_zero]
    · rw [dig_pos h]
      have := ih (n / B) (Nat.div_lt_self (Nat.pos_of_ne_zero h) (by decide))
      by_cases h2 : n / B = 0
      · rw [h2, dig_zero]; simp
        have h3 : n < B := by
          rcases Nat.div_eq_zero_iff.1 h2 with h | h
          · exact absurd h (by decide)
          · exact h
        rw [Nat.mod_eq_of_lt h3]; exact h
      · rw [dig_pos h2] at this ⊢
        simpa [List.getLast?_cons_cons] using this

theorem dig_len_pos {n : Nat} : (dig n).length = 0 ↔ n = 0 := by
  by_cases h : n = 0
  · subst h; simp [dig_zero]
  · rw [dig_pos h]; simp [h]

theorem dig_small {n : Nat} (h : n < B) (h0 : n ≠ 0) : dig n = [n] := by
  rw [dig_pos h0, Nat.mod_eq_of_lt h, Nat.div_eq_of_lt h, dig_zero]

theorem lt_pow_len (n : Nat) : n < B ^ (dig n).length := by
  have := val_lt (sm_dig n); rwa [val_dig] at this

theorem pow_len_le {n : Nat} (h : n ≠ 0) : B ^ ((dig n).length - 1) ≤ n := by
  induction n using Nat.strongRecOn with
  | _ n ih =>
    rw [dig_pos h]
    by_cases h2 : n / B = 0
    · rw [h2, dig_zero]; simp; omega
    · have := ih _ (Nat.div_lt_self (Nat.pos_of_ne_zero h) (by decide)) h2
      have hl : (dig (n / B)).length ≠ 0 := by rw [Ne, dig_len_pos]; exact h2
      simp only [List.length_cons, Nat.add_sub_cancel]
      obtain ⟨k, hk⟩ : ∃ k, (dig (n / B)).length = k + 1 := ⟨(dig (n/B)).length - 1, by omega⟩
      rw [hk, Nat.add_sub_cancel] at this
      rw [hk, Nat.pow_succ]
      calc B ^ k * B ≤ n / B * B := Nat.mul_le_mul_right _ this
        _ ≤ n := Nat.div_mul_le_self n B

/-- lengths tell the order -/
theorem lt_of_len {m n : Nat} (h : (dig m).length < (dig n).length) : m < n := by
  have hn : n ≠ 0 := by rintro rfl; simp [dig_zero] at h
  have h1 := lt_pow_len m
  have h2 := pow_len_le hn
  have h3 : B ^ (dig m).length ≤ B ^ ((dig n).length - 1) := Nat.pow_le_pow_right B_pos (by omega)
  omega

theorem dig_len_mono {m n : Nat} (h : m ≤ n) : (dig m).length ≤ (dig n).length := by
  apply Nat.le_of_not_lt
  intro hc
  have := lt_of_len hc
  omega
end Go.Proofs.YtoochleabcjljaaDoor

/- Digits: order, quotients. -/
namespace Go.Proofs.YtoochleabcjljaaDoor

theorem val_split {l : List Nat} {j x : Nat} (hx : l[j]? = some x) : val l = val (l.take j) + B ^ j * (x + B * val (l.drop (j + 1))) := by
  have hj : j < l.length := (List.getElem?_eq_some_iff.1 hx).1
  have h1 : l = l.take j ++ (x :: l.drop (j + 1)) := by
    have := (List.take_append_drop j l).symm
    rw [List.drop_eq_getElem_cons hj, (List.getElem?_eq_some_iff.1 hx).2] at this
    exact this
  have h2 := congrArg val h1
  rw [val_append, val_cons, List.length_take, Nat.min_eq_left (by omega)] at h2
  exact h2

theorem cmp_digit {l1 l2 : List Nat} (h1 : Sm l1) {j x y : Nat} (hx : l1[j]? = some x) (hy : l2[j]? = some y) (hd : l1.drop (j + 1) = l2.drop (j + 1)) (hlt : x < y) : val l1 < val l2 := by
  rw [val_split hx, val_split hy, hd]
  have hj : j < l1.length := (List.getElem?_eq_some_iff.1 hx).1
  have h3 : val (l1.take j) < B ^ j := by
    have := val_lt (xs := l1.take j) (fun d hd => h1 d (List.mem_of_mem_take hd))
    rwa [List.length_take, Nat.min_eq_left (by omega)] at this
  have h4 : B ^ j * (x + 1 + B * val (l2.drop (j + 1))) ≤ B ^ j * (y + B * val (l2.drop (j + 1))) := Nat.mul_le_mul_left _ (by omega)
  have h5 : B ^ j * (x + 1 + B * val (l2.drop (j + 1))) = B ^ j * (x + B * val (l2.drop (j + 1))) + B ^ j := by
    rw [show x + 1 + B * val (l2.drop (j + 1)) = (x + B * val (l2.drop (j + 1))) + 1 from by omega, Nat.mul_add, Nat.mul_one]
  omega

/-- the order, as Go's compare says it -/
def cmpN (m n : Nat) : Int := if m < n then -1 else if n < m then 1 else 0
theorem cmpN_lt {m n : Nat} (h : m < n) : cmpN m n = -1 := by simp [cmpN, h]
theorem cmpN_gt {m n : Nat} (h : n < m) : cmpN m n = 1 := by simp [cmpN, h]; omega
theorem cmpN_eq (n : Nat) : cmpN n n = 0 := by simp [cmpN]

/-- a step of a division by one digit: r the rest of what lies above -/
theorem short_step {H d x : Nat} (hd : 0 < d) : ((H % d) * B + x) / d + B * (H / d) = (x + B * H) / d ∧ ((H % d) * B + x) % d = (x + B * H) % d := by
  have h : x + B * H = ((H % d) * B + x) + d * (B * (H / d)) := by
    have h1 : d * (H / d) + H % d = H := Nat.div_add_mod H d
    have h2 : B * H = B * (d * (H / d)) + B * (H % d) := by rw [← Nat.mul_add, h1]
    rw [h2, Nat.mul_comm (H % d) B, Nat.mul_left_comm d B]; omega
  rw [h, Nat.add_mul_div_left _ _ hd, Nat.add_mul_mod_self_left]
  exact ⟨rfl, rfl⟩

theorem short_dig {r d x : Nat} (hr : r < d) (hx : x < B) : (r * B + x) / d < B := by
  apply Nat.div_lt_of_lt_mul
  have : (r + 1) * B ≤ d * B := Nat.mul_le_mul_right _ hr
  rw [Nat.add_mul] at this; omega
theorem dig_len_val {l : List Nat} (h : Sm l) : (dig (val l)).length ≤ l.length := by
  have h1 := val_lt h
  apply Nat.le_of_not_lt
  intro hc
  have hne : val l ≠ 0 := by
    intro h0; rw [h0, dig_zero] at hc; simp at hc
  have h2 := pow_len_le hne
  have h3 : B ^ l.length ≤ B ^ ((dig (val l)).length - 1) := Nat.pow_le_pow_right B_pos (by omega)
  omega
end Go.Proofs.YtoochleabcjljaaDoor

/- Natural numbers of package num: natural, lean, compare. -/
namespace Go.Proofs.YtoochleabcjljaaDoor
open Go.RowKit

/-- digits, cell by cell -/
def dgs (l : List Nat) : List Value := l.map fun d => Value.int .u64 (d : Nat)
theorem dgs_length (l : List Nat) : (dgs l).length = l.length := by simp [dgs]
theorem dgs_append (a b : List Nat) : dgs (a ++ b) = dgs a ++ dgs b := by simp [dgs]
theorem dgs_ne {l : List Nat} (h : 0 < l.length) : dgs l ≠ [] := by
  intro e; have := dgs_length l; rw [e] at this; simp at this; omega
theorem Cells.dgs {w : World} {b off : Nat} {l : List Nat} (h : Cells w (some ⟨b, off, none⟩) (dgs l)) {i d : Nat} (hd : l[i]? = some d) : w.cell? ⟨b, off + i, none⟩ = some (.int .u64 (d : Nat)) :=
  h.at (by simp [Go.Proofs.YtoochleabcjljaaDoor.dgs, hd])
theorem Cells.take {w : World} {ao : Option Addr} {cs : List Value} (h : Cells w ao cs) (n : Nat) : Cells w ao (cs.take n) := by
  rcases h with h | ⟨b, off, h1, h2⟩
  · exact .inl (by simp [h])
  · refine .inr ⟨b, off, h1, fun j u hu => h2 j u ?_⟩
    rw [List.getElem?_take] at hu
    split at hu
    · exact hu
    · simp at hu
theorem sm_get {l : List Nat} (h : Sm l) {i d : Nat} (hd : l[i]? = some d) : d ≤ 999999999 := by
  have := h d (List.mem_of_getElem? hd); simp only [B] at this; omega

theorem Tryd.infoU64 : (Tryd.prog.info? 121).map (fun i => (i.zero, i.size, i.bytes)) = some (some (.int .u64 0), 1, 8) := by kernel_rfl

/-- an owned row, as a slice, with its capacity -/
theorem own_cap {w : World} {b : Nat} {e : TypeId} {s : Nat} {v : Value} {n : Nat} {xs : List Value} (h : w.ownsRow b e s v n xs) : ∃ a c, v = .slice a n c ∧ Cells w a xs ∧ n ≤ c ∧ c ≤ maxLen := by
  obtain ⟨a, c, hv, hc⟩ := own_cells h
  obtain ⟨h0, h1⟩ := h
  rcases h1 with ⟨h2, h3⟩ | ⟨g, cap, cur, h2, hb, hg, hn, hm, hs, ht⟩
  · rw [h2] at hv; simp at hv
    obtain ⟨rfl, rfl, rfl⟩ := hv
    exact ⟨none, 0, h2, hc, by omega, by unfold maxLen; omega⟩
  · rw [h2] at hv; simp at hv
    obtain ⟨rfl, rfl⟩ := hv
    exact ⟨_, _, h2, hc, hn, hm⟩

theorem dig_len_u64 {n : Nat} (h : n < 18446744073709551616) : (dig n).length ≤ 3 := by
  apply Nat.le_of_not_lt
  intro hc
  have hn : n ≠ 0 := by rintro rfl; simp [dig_zero] at hc
  have h1 := pow_len_le hn
  have h2 : B ^ 3 ≤ B ^ ((dig n).length - 1) := Nat.pow_le_pow_right B_pos (by omega)
  have h3 : B ^ 3 = 1000000000000000000000000000 := by decide
  omega

set_option maxRecDepth 100000 in
theorem natural_any (n : Nat) (w : World) (hn : n < 18446744073709551616) :
    Calls Tryd.prog 65 #[.int .u64 (n : Nat)] w fun e w' => (∃ a c, e = .returned (.slice a (dig n).length c) ∧ Cells w' a (dgs (dig n)) ∧ (dig n).length ≤ c ∧ c ≤ 9223372036854775807) ∧ Below w.heap.size w w' := by
  obtain ⟨i0, hi, hz0, hz1, hz2⟩ := info_parts Tryd.infoU64
  have hlen := dig_len_u64 hn
  have hn1 : n ≤ 18446744073709551615 := by omega
  clear hn
  go_enter Tryd.func65, Tryd.ntmps65
  go_wp2
  go_loopw [3, 0] (fun v m wr => ∃ (ds : List Nat) (k : Nat), m = .int .u64 (k : Nat) ∧ k ≤ n ∧ dig n = ds ++ dig k ∧ wr.ownsRow w.heap.size 121 1 v ds.length (dgs ds) ∧ Below w.heap.size w wr) (fun _ m _ => (intOf m).toNat)
  case atStart => exact ⟨[], n, rfl, Nat.le_refl _, rfl, World.ownsRow_nil _ _ _ _, Below.refl _ _⟩
  case round =>
    obtain ⟨ds, k, rfl, hk, hds, hown, hb⟩ := hrel
    by_cases h0 : k = 0
    · subst h0
      rw [dig_zero, List.append_nil] at hds
      subst hds
      obtain ⟨g, c, rfl, hcs, hc1, hc2⟩ := own_cap hown
      unfold maxLen at hc2
      have HCS := Lib.hid hcs; clear hcs hown
      go_wp2
      go_ret
      exact ⟨⟨g, c, rfl, HCS.out, hc1, hc2⟩, hb⟩
    · have hkp : 0 < (k : Int) := by omega
      have hds2 : dig n = (ds ++ [k % B]) ++ dig (k / B) := by rw [hds, dig_pos h0]; simp
      have hle : ds.length ≤ 2 := by
        have := congrArg List.length hds2
        simp only [List.length_append, List.length_singleton] at this; omega
      have HDS := Lib.hid hds2; clear hds hds2 hlen
      have e1 : ((k : Int) % 1000000000) = ((k % B : Nat) : Int) := by simp [B]
      have e2 : ((k : Int) / 1000000000) = ((k / B : Nat) : Int) := by simp [B]
      have hlt : k / B < k := Nat.div_lt_self (by omega) (by decide)
      have HE1 := Lib.hid e1; have HE2 := Lib.hid e2; clear e1 e2
      have HOB : Hid (∀ j, u3.ownBlock = some j → w.heap.size ≤ j) := fun j e => (hown.lt j e).1
      have hsz := hb.size
      go_wp2_with (at_builtin; refine wpList_append_own _ rfl _ _ 100 rfl w.heap.size 121 i0 (.int .u64 0) 1 8 Tryd.underlying100 hi hz0 hz1 hz2 rfl (by decide) _ _ _ rfl (hown.alloc _) ⟨wr.heap.size, 0, none⟩ 1 1 [.int .u64 ((k : Int) % 1000000000)] rfl rfl (news1 _ _ _) (by simp [Value.oneCell']) (by unfold maxLen; omega) (by omega) (by simp; omega) ?_; intro v1 wz hown1 hgrow _)
      have hfin := hown1
      rw [show dgs ds ++ [.int .u64 ((k : Int) % 1000000000)] = dgs (ds ++ [k % B]) from by rw [dgs_append, HE1.out]; rfl] at hfin
      have hbz := (hb.alloc hsz (.cells #[.int .u64 ((k : Int) % 1000000000)] 121)).grown hgrow (by simp; omega) HOB.out
      clear hown1 hgrow hown
      have HFIN := Lib.hid hfin; clear hfin
      go_wp2
      go_roundw
      case rel => exact ⟨ds ++ [k % B], k / B, by rw [HE2.out], by omega, HDS.out, by simpa using HFIN.out, hbz⟩
      case measure => simp only [intOf]; rw [HE2.out]; simp; omega

/-- zeros at the end go -/
theorem val_take_zero {l : List Nat} {k : Nat} (h0 : l[k]? = some 0) : val (l.take (k + 1)) = val (l.take k) := by
  rw [take_get h0, val_snoc]; simp

/-- a slice's length: for a measure -/
def lenOf : Value → Nat | .slice _ n _ => n | _ => 0

theorem lean_any (ao : Option Addr) (l : List Nat) (c : Nat) (w : World) (hc : Cells w ao (dgs l)) (hs : Sm l) (hl : l.length ≤ 9223372036854775807) (hcap : l.length ≤ c) (hc2 : c ≤ 9223372036854775807) :
    Calls Tryd.prog 79 #[.slice ao l.length c] w fun e w' => (e = .returned (.slice ao (dig (val l)).length c) ∧ Cells w' ao (dgs (dig (val l)))) ∧ w = w' := by
  have HC := Lib.hid hc; clear hc
  have HS := Lib.hid hs; clear hs
  go_enter Tryd.func79, Tryd.ntmps79
  go_wp2
  go_loop [0] (fun v => ∃ k : Nat, k ≤ l.length ∧ v = .slice ao k c ∧ val (l.take k) = val l) (fun v => lenOf v)
  case atStart => exact ⟨l.length, Nat.le_refl _, rfl, by rw [List.take_length]⟩
  case round =>
    obtain ⟨k, hk, rfl, hv⟩ := hrel
    by_cases h0 : k = 0
    · subst h0
      rw [List.take_zero, val_nil] at hv
      have hv2 : dig (val l) = [] := by rw [← hv, dig_zero]
      have HV := Lib.hid hv2; clear hv hv2
      go_wp2
      go_ret
      exact ⟨⟨by rw [HV.out]; rfl, by rw [HV.out]; exact Cells.nil _ _⟩, rfl⟩
    · obtain ⟨j, rfl⟩ : ∃ j, k = j + 1 := ⟨k - 1, by omega⟩
      have hj : j < l.length := by omega
      obtain ⟨d, hd⟩ := get_of_lt hj
      obtain ⟨b, off, rfl⟩ := HC.out.addr (dgs_ne (by omega))
      have hcell := HC.out.dgs hd
      by_cases hd0 : d = 0
      · subst hd0
        have hv2 := val_take_zero hd
        rw [hv] at hv2
        have HV := Lib.hid hv2.symm; clear hv hv2 hd
        go_wp2
        go_round
        case rel => exact ⟨j, by omega, by go_num, HV.out⟩
        case measure => simp [lenOf]
      · have hdp : 0 < d := by omega
        have hne : ((d : Int) == 0) = false := by simp; omega
        have hlast : (l.take (j + 1)).getLast? ≠ some 0 := by rw [take_get hd]; simp; omega
        have hsm : Sm (l.take (j + 1)) := fun x hx => HS.out x (List.mem_of_mem_take hx)
        have hv2 : dig (val l) = l.take (j + 1) := by rw [← hv, dig_val hsm hlast]
        have hl2 : (dig (val l)).length = j + 1 := by rw [hv2, List.length_take]; omega
        have hcs : Cells w (some ⟨b, off, none⟩) (dgs (dig (val l))) := by
          rw [hv2, dgs, List.map_take]; exact HC.out.take _
        have HL := Lib.hid hl2; have HCS := Lib.hid hcs; clear hv hv2 hl2 hcs hd hsm hlast
        go_wp2
        go_ret
        exact ⟨⟨by rw [HL.out]; rfl, HCS.out⟩, rfl⟩

theorem drop_of_len {l1 l2 : List Nat} (h : l1.length = l2.length) : l1.drop l1.length = l2.drop l1.length := by
  rw [List.drop_length, h, List.drop_length]

set_option maxRecDepth 100000 in
theorem compare_any (aa ab : Option Addr) (m n : Nat) (ca cb : Nat) (w : World) (ha : Cells w aa (dgs (dig m))) (hb : Cells w ab (dgs (dig n))) (hm : (dig m).length ≤ 4611686018427387904) (hn : (dig n).length ≤ 4611686018427387904) :
    Calls Tryd.prog 76 #[.slice aa (dig m).length ca, .slice ab (dig n).length cb] w fun e w' => e = .returned (.int .i64 (cmpN m n)) ∧ Below w.heap.size w w' := by
  have HA := Lib.hid ha; clear ha
  have HB := Lib.hid hb; clear hb
  by_cases hlen : (dig m).length = (dig n).length
  · have h1 : (((dig m).length : Int) != (dig n).length) = false := by simp [hlen]
    have HL := Lib.hid hlen; clear hlen
    go_enter Tryd.func76, Tryd.ntmps76
    go_wp2
    go_loopw [5] (fun i wr => ∃ k : Nat, k ≤ (dig m).length ∧ i = .int .i64 ((k : Int) - 1) ∧ (dig m).drop k = (dig n).drop k ∧ Below w.heap.size w wr) (fun i _ => (intOf i + 1).toNat)
    case atStart => exact ⟨(dig m).length, Nat.le_refl _, rfl, drop_of_len HL.out, Below.refl _ _⟩
    case round =>
      obtain ⟨k, hk, rfl, hd, hbe⟩ := hrel
      have HD := Lib.hid hd; clear hd
      by_cases h0 : k = 0
      · subst h0
        have he : cmpN m n = 0 := by
          have := HD.out
          simp only [List.drop_zero] at this
          have h2 := congrArg val this
          rw [val_dig, val_dig] at h2
          rw [h2, cmpN_eq]
        have HE := Lib.hid he; clear he
        go_wp2
        go_ret
        exact ⟨ret_int HE.out.symm, hbe⟩
      · obtain ⟨j, rfl⟩ : ∃ j, k = j + 1 := ⟨k - 1, by omega⟩
        have hj2 : j < (dig n).length := by have := HL.out; omega
        obtain ⟨x, hx⟩ := get_of_lt (show j < (dig m).length by omega)
        obtain ⟨y, hy⟩ := get_of_lt hj2
        obtain ⟨b, off, rfl⟩ := HA.out.addr (dgs_ne (by omega))
        obtain ⟨b2, off2, rfl⟩ := HB.out.addr (dgs_ne (by omega))
        have c1 := cell_keep (HA.out.dgs hx) hbe (Nat.le_refl _)
        have c2 := cell_keep (HB.out.dgs hy) hbe (Nat.le_refl _)
        have e1 : (((j + 1 : Nat) : Int) - 1) = (j : Int) := by omega
        rw [e1]
        have i1 : (j : Int) < (dig m).length := by omega
        have i2 : (j : Int) < (dig n).length := by omega
        have i3 : (0 : Int) ≤ j := by omega
        have hxy : x < y ∨ y < x ∨ x = y := by omega
        rcases hxy with hlt | hgt | heq
        · have he : cmpN m n = -1 := cmpN_lt (by have := cmp_digit (sm_dig m) hx hy HD.out hlt; rwa [val_dig, val_dig] at this)
          have HE := Lib.hid he; clear he hx hy e1
          have hne : ((x : Int) != y) = true := by simp; omega
          have hl : decide ((x : Int) < y) = true := by simp; omega
          go_wp2
          go_quiet (fail)
          go_wp2
          go_quiet (fail)
          go_wp2
          go_ret
          exact ⟨ret_int HE.out.symm, bel_drewN (bel_drewN hbe _) _⟩
        · have he : cmpN m n = 1 := cmpN_gt (by have := cmp_digit (sm_dig n) hy hx HD.out.symm hgt; rwa [val_dig, val_dig] at this)
          have HE := Lib.hid he; clear he hx hy e1
          have hne : ((x : Int) != y) = true := by simp; omega
          have hl : decide ((x : Int) < y) = false := by simp; omega
          go_wp2
          go_quiet (fail)
          go_wp2
          go_quiet (fail)
          go_wp2
          go_ret
          exact ⟨ret_int HE.out.symm, bel_drewN (bel_drewN hbe _) _⟩
        · subst heq
          have he : (dig m).drop j = (dig n).drop j := by
            rw [List.drop_eq_getElem_cons (show j < (dig m).length by omega), List.drop_eq_getElem_cons hj2, HD.out, (List.getElem?_eq_some_iff.1 hx).2, (List.getElem?_eq_some_iff.1 hy).2]
          have HE := Lib.hid he; clear he hx hy e1
          have hne : ((x : Int) != x) = false := by simp
          go_wp2
          go_quiet (fail)
          go_wp2
          go_roundw
          case rel => exact ⟨j, by omega, by go_num, HE.out, bel_drewN hbe _⟩
          case measure => simp [intOf]
  · rcases Nat.lt_or_gt_of_ne hlen with hlt | hgt
    · have he : cmpN m n = -1 := cmpN_lt (lt_of_len hlt)
      have HE := Lib.hid he; clear he
      have h1 : (((dig m).length : Int) != (dig n).length) = true := by simp; omega
      go_enter Tryd.func76, Tryd.ntmps76
      go_wp2
      go_ret
      exact ⟨ret_int HE.out.symm, Below.refl _ _⟩
    · have he : cmpN m n = 1 := cmpN_gt (lt_of_len hgt)
      have HE := Lib.hid he; clear he
      have h1 : (((dig m).length : Int) != (dig n).length) = true := by simp; omega
      have h2 : (dig n).length ≤ (dig m).length := by omega
      go_enter Tryd.func76, Tryd.ntmps76
      go_wp2
      go_ret
      exact ⟨ret_int HE.out.symm, Below.refl _ _⟩

end Go.Proofs.YtoochleabcjljaaDoor

/- Natural numbers of package num: short (division by one digit). -/
namespace Go.Proofs.YtoochleabcjljaaDoor
open Go.RowKit

theorem zeros_dgs (n : Nat) : (madeCells (Value.int .u64 0).cells (n * 1)).toList = dgs (List.replicate n 0) := by
  rw [show (Value.int .u64 0).cells = #[Value.int .u64 0] from rfl, toList_madeCells_one]; simp [dgs]

theorem set_zeros (k q : Nat) (qs : List Nat) : (dgs (List.replicate (k + 1) 0 ++ qs)).set k (.int .u64 (q : Nat)) = dgs (List.replicate k 0 ++ (q :: qs)) := by
  rw [List.replicate_succ', List.append_assoc, dgs_append, dgs_append, List.set_append_right _ _ (by simp [dgs])]
  simp [dgs]

set_option maxRecDepth 100000 in
theorem short_any (aa : Option Addr) (l : List Nat) (ca d : Nat) (w : World) (ha : Cells w aa (dgs l)) (hs : Sm l) (hl : l.length ≤ 17592186044416) (hd : 1 ≤ d) (hd2 : d ≤ 1000000000) :
    Calls Tryd.prog 77 #[.slice aa l.length ca, .int .u64 (d : Nat)] w fun e w' => (∃ a c, e = .returned (.tuple #[.slice a (dig (val l / d)).length c, .int .u64 (val l % d : Nat)]) ∧ Cells w' a (dgs (dig (val l / d))) ∧ (dig (val l / d)).length ≤ c ∧ c ≤ 17592186044416) ∧ Below w.heap.size w w' := by
  obtain ⟨i0, hi, hz0, hz1, hz2⟩ := info_parts Tryd.infoU64
  have HA := Lib.hid ha; clear ha
  have HS := Lib.hid hs; clear hs
  have hne : ((d : Int) == 0) = false := by simp; omega
  go_enter Tryd.func77, Tryd.ntmps77
  go_wp2_with (at_make; refine wpList_make_full _ rfl _ _ 100 rfl w.heap.size 121 i0 (.int .u64 0) 1 Tryd.underlying100 hi hz0 hz1 .i64 .i64 _ _ l.length rfl rfl rfl rfl (by rw [hz2]; omega) (by unfold maxLen; omega) (Nat.le_refl _) ?_; intro w1 hown1 hgrow1)
  rw [zeros_dgs] at hown1
  have hb1 := (Below.refl w.heap.size w).grown hgrow1 (Nat.le_refl _) (fun _ h => by cases h)
  clear hgrow1
  have HO := Lib.hid hown1; clear hown1
  go_wp2
  go_loopw [7, 8] (fun r i wr => ∃ k : Nat, ∃ qs : List Nat, k ≤ l.length ∧ i = .int .i64 ((k : Int) - 1) ∧ r = .int .u64 (val (l.drop k) % d : Nat) ∧ qs.length = l.length - k ∧ val qs = val (l.drop k) / d ∧ Sm qs ∧ wr.ownsRow w.heap.size 121 1 (.slice (some ⟨w.heap.size, 0, none⟩) l.length l.length) l.length (dgs (List.replicate k 0 ++ qs)) ∧ Below w.heap.size w wr) (fun _ i _ => (intOf i + 1).toNat)
  case atStart => exact ⟨l.length, [], Nat.le_refl _, rfl, by rw [List.drop_length]; simp [val], by simp, by rw [List.drop_length]; simp [val], by simp [Sm], by simpa using HO.out, hb1⟩
  case round =>
    clear hb1
    obtain ⟨k, qs, hk, rfl, rfl, hql, hqv, hqs, hown, hb⟩ := hrel
    by_cases h0 : k = 0
    · subst h0
      rw [List.drop_zero] at hqv ⊢
      simp only [List.replicate_zero, List.nil_append, Nat.sub_zero] at hown hql
      obtain ⟨g, c, hv, hcs⟩ := own_cells hown
      simp only [Value.slice.injEq, true_and] at hv
      obtain ⟨rfl, rfl⟩ := hv
      have hle := lean_any (some ⟨w.heap.size, 0, none⟩) qs l.length wr hcs hqs (by omega) (by omega) (by omega)
      have hdl : (dig (val qs)).length ≤ qs.length := dig_len_val hqs
      rw [hqv] at hle hdl
      rw [hql] at hle hdl
      have HLE := Lib.hid hle; clear hle hcs hown hqv hqs
      have HQL := Lib.hid hql; clear hql
      go_wp2_with fail
      refine HLE.out.mono ?_
      rintro e w2 ⟨⟨rfl, hcs2⟩, rfl⟩
      have HCS := Lib.hid hcs2; clear hcs2
      go_wp2
      go_ret2
      exact ⟨⟨_, _, rfl, HCS.out, hdl, hl⟩, hb⟩
    · obtain ⟨j, rfl⟩ : ∃ j, k = j + 1 := ⟨k - 1, by omega⟩
      have hj : j < l.length := by omega
      obtain ⟨x, hx⟩ := get_of_lt hj
      have hxB := sm_get HS.out hx
      obtain ⟨b, off, rfl⟩ := HA.out.addr (dgs_ne (by omega))
      have c1 := cell_keep (HA.out.dgs hx) hb (Nat.le_refl _)
      have hdr : val (l.drop j) = x + B * val (l.drop (j + 1)) := by
        rw [List.drop_eq_getElem_cons hj, (List.getElem?_eq_some_iff.1 hx).2, val_cons]
      have hst := short_step (H := val (l.drop (j + 1))) (x := x) (show 0 < d by omega)
      rw [← hdr] at hst
      have hrd : val (l.drop (j + 1)) % d < d := Nat.mod_lt _ (by omega)
      have hq := short_dig hrd (show x < B by simp only [B]; omega)
      generalize hr : val (l.drop (j + 1)) % d = r at *
      have HR := Lib.hid hr; clear hr hdr hx
      have c2 := hown.cellAt j (by omega)
      rw [show (dgs (List.replicate (j + 1) 0 ++ qs))[j]? = some (.int .u64 (0 : Nat)) from by rw [dgs, List.map_append, List.getElem?_append_left (by simp)]; simp] at c2
      have c3 := hown.frozenAt j
      have hsto := hown.stored j (.int .u64 ((r * B + x) / d : Nat))
      rw [set_zeros] at hsto
      obtain ⟨hsto1, hsto2⟩ := hsto
      have e1 : ((((r : Int) * 1000000000) + x) / d) = (((r * B + x) / d : Nat) : Int) := by simp [B]
      have e2 : ((((r : Int) * 1000000000) + x) % d) = (((r * B + x) % d : Nat) : Int) := by simp [B]
      have q1 : 0 ≤ (((r : Int) * 1000000000) + x) / d := by rw [e1]; exact Int.natCast_nonneg _
      have q2 : (((r : Int) * 1000000000) + x) / d ≤ 999999999 := by rw [e1]; simp only [B] at hq ⊢; omega
      have hsz := hb.size
      have hszl : w.heap.size < wr.heap.size := by have := World.block_lt_of_cell? wr _ c2; simpa using this
      have hb2 : Below w.heap.size w (wr.setCell ⟨w.heap.size, j, none⟩ (.int .u64 ((r * B + x) / d : Nat))) := hb.setCell (Nat.le_refl _) _
      have HST := Lib.hid hst; clear hst
      have HQL := Lib.hid hql; clear hql
      have HQV := Lib.hid hqv; clear hqv
      have HQS := Lib.hid hqs; clear hqs
      have HO1 := Lib.hid hsto1; clear hsto1 hsto2 hown
      have HB2 := Lib.hid hb2; clear hb2
      have E1 := Lib.hid e1; have E2 := Lib.hid e2; clear e1 e2
      have e3 : (((j + 1 : Nat) : Int) - 1) = (j : Int) := by omega
      rw [e3]
      clear e3
      go_wp2
      go_roundw
      case rel =>
        refine ⟨j, (r * B + x) / d :: qs, by omega, rfl, by rw [E2.out, HST.out.2], by rw [List.length_cons, HQL.out]; omega, by rw [val_cons, HQV.out, HST.out.1], ?_, by rw [E1.out]; exact HO1.out, by rw [E1.out]; exact HB2.out⟩
        intro y hy
        rcases List.mem_cons.1 hy with rfl | hy
        · exact hq
        · exact HQS.out y hy
      case measure => simp [intOf]

end Go.Proofs.YtoochleabcjljaaDoor

/- Natural numbers of package num: over at one digit, common, reduced. -/
namespace Go.Proofs.YtoochleabcjljaaDoor
open Go.RowKit

/-- a slice that is a natural number -/
def NatV (w : World) (v : Value) (n : Nat) : Prop := ∃ a c, v = .slice a (dig n).length c ∧ Cells w a (dgs (dig n)) ∧ (dig n).length ≤ c ∧ c ≤ 9223372036854775807
theorem NatV.below {w w' : World} {B : Nat} {v : Value} {n : Nat} (h : NatV w v n) (hb : Below B w w') (hB : w.heap.size ≤ B) : NatV w' v n := by
  obtain ⟨a, c, h1, h2, h3⟩ := h
  exact ⟨a, c, h1, h2.below hb hB, h3⟩

theorem dig_one {n : Nat} (h0 : n ≠ 0) (h : n < B) : dig n = [n] := dig_small h h0

set_option maxRecDepth 100000 in
theorem over_small (va vb : Value) (m n : Nat) (w : World) (ha : NatV w va m) (hb : NatV w vb n) (hm : (dig m).length ≤ 17592186044416) (hn0 : n ≠ 0) (hn : n < B) :
    Calls Tryd.prog 70 #[va, vb] w fun e w' => (∃ q r, e = .returned (.tuple #[q, r]) ∧ NatV w' q (m / n) ∧ NatV w' r (m % n)) ∧ Below w.heap.size w w' := by
  have HVA := Lib.hid ha
  obtain ⟨aa, ca, rfl, ha, hac, hac2⟩ := ha
  obtain ⟨ab, cb, rfl, hb, hbc, hbc2⟩ := hb
  have hnl : (dig n).length ≤ 1 := by rw [dig_one hn0 hn]; simp
  by_cases hlt : m < n
  · have hq : m / n = 0 := Nat.div_eq_of_lt hlt
    have hr : m % n = m := Nat.mod_eq_of_lt hlt
    have hcmp := compare_any aa ab m n ca cb w ha hb (by omega) (by omega)
    rw [cmpN_lt hlt] at hcmp
    have HC := Lib.hid hcmp; clear hcmp
    have HQ := Lib.hid hq; have HR := Lib.hid hr; clear hq hr ha hb
    go_enter Tryd.func70, Tryd.ntmps70
    go_wp2_with fail
    refine HC.out.mono ?_
    rintro e w1 ⟨rfl, hb1⟩
    go_wp2
    go_ret2
    exact ⟨⟨_, _, rfl, by rw [HQ.out]; exact ⟨none, 0, by rw [dig_zero]; rfl, by rw [dig_zero]; exact Cells.nil _ _, by rw [dig_zero]; simp, by omega⟩, by rw [HR.out]; exact HVA.out.below hb1 (Nat.le_refl _)⟩, hb1⟩
  · have hcmp := compare_any aa ab m n ca cb w ha hb (by omega) (by omega)
    have hge : 0 ≤ cmpN m n := by unfold cmpN; rw [if_neg hlt]; split <;> omega
    have hdn := dig_one hn0 hn
    have hc0 : Cells w ab [.int .u64 (n : Nat)] := by rw [hdn] at hb; exact hb
    obtain ⟨b, off, rfl⟩ := hc0.addr (by simp)
    rw [hdn] at hcmp
    rw [hdn]
    simp only [B] at hn
    have hsh := fun (w1 : World) (h : Cells w1 aa (dgs (dig m))) => short_any aa (dig m) ca n w1 h (sm_dig m) (by omega) (by omega) (by omega)
    rw [val_dig] at hsh
    have hmod : m % n < n := Nat.mod_lt _ (by omega)
    have hnat := fun (w1 : World) => natural_any (m % n) w1 (by omega)
    generalize cmpN m n = cm at *
    have HC := Lib.hid hcmp; have HSH := Lib.hid hsh; have HN := Lib.hid hnat; have HA := Lib.hid ha; have HC0 := Lib.hid hc0
    clear hcmp hsh hnat ha hb hc0 hdn
    go_enter Tryd.func70, Tryd.ntmps70
    go_wp2_with fail
    refine HC.out.mono ?_
    rintro e w1 ⟨rfl, hb1⟩
    have hcell : w1.cell? ⟨b, off, none⟩ = some (.int .u64 (n : Nat)) := (HC0.out.below hb1 (Nat.le_refl _)).at (j := 0) rfl
    go_wp2_with fail
    refine (HSH.out w1 (HA.out.below hb1 (Nat.le_refl _))).mono ?_
    rintro e w2 ⟨⟨a, c, rfl, hq, hqc, hqc2⟩, hb2⟩
    have HQ := Lib.hid hq; clear hq
    go_wp2_with fail
    refine (HN.out w2).mono ?_
    rintro e w3 ⟨⟨a3, c3, rfl, hr, hrc, hrc2⟩, hb3⟩
    have HR := Lib.hid hr; clear hr
    go_wp2
    go_ret2
    exact ⟨⟨_, _, rfl, (NatV.below ⟨_, _, rfl, HQ.out, hqc, by omega⟩ hb3 (Nat.le_refl _)), ⟨_, _, rfl, HR.out, hrc, hrc2⟩⟩, (hb1.trans (hb2.mono hb1.size)).trans (hb3.mono (Nat.le_trans hb1.size hb2.size))⟩
end Go.Proofs.YtoochleabcjljaaDoor

/- Rational numbers of package num: common, reduced, whole, plain, over whatever contract of 'over' serves below a bound. -/
namespace Go.Proofs.YtoochleabcjljaaDoor
open Go.RowKit

/-- the contract of 'over' for divisors below K -/
def OverOK (K : Nat) : Prop := ∀ (va vb : Value) (m n : Nat) (w : World), NatV w va m → NatV w vb n → (dig m).length ≤ 17592186044416 → n ≠ 0 → n < K →
  Calls Tryd.prog 70 #[va, vb] w fun e w' => (∃ q r, e = .returned (.tuple #[q, r]) ∧ NatV w' q (m / n) ∧ NatV w' r (m % n)) ∧ Below w.heap.size w w'
theorem overOK_small : OverOK B := fun va vb m n w ha hb hm h0 hn => over_small va vb m n w ha hb hm h0 hn

theorem common_any (K : Nat) (hov : OverOK K) (va vb : Value) (m n : Nat) (w : World) (ha : NatV w va m) (hb : NatV w vb n) (hm : (dig m).length ≤ 17592186044416) (hn : (dig n).length ≤ 17592186044416) (hK : n < K) :
    Calls Tryd.prog 69 #[va, vb] w fun e w' => (∃ v, e = .returned v ∧ NatV w' v (Nat.gcd m n)) ∧ Below w.heap.size w w' := by
  have HA := Lib.hid ha; have HB := Lib.hid hb; have HOV := Lib.hid hov; have HK := Lib.hid hK; have HM := Lib.hid hm; have HN := Lib.hid hn
  clear ha hb hov hK hm hn
  go_enter Tryd.func69, Tryd.ntmps69
  go_wp2
  go_loopg [0, 1] n (fun b x y wr => ∃ p q : Nat, q ≤ b ∧ NatV wr x p ∧ NatV wr y q ∧ Nat.gcd p q = Nat.gcd m n ∧ q < K ∧ (dig p).length ≤ 17592186044416 ∧ (dig q).length ≤ 17592186044416 ∧ Below w.heap.size w wr)
  case atStart => exact ⟨m, n, Nat.le_refl _, HA.out, HB.out, rfl, HK.out, HM.out, HN.out, Below.refl _ _⟩
  case round =>
    obtain ⟨p, q, hqb, hp, hq, hg, hqK, hpl, hql, hbe⟩ := hrel
    have HP := Lib.hid hp; have HQ := Lib.hid hq
    have hq2 := hq
    obtain ⟨aq, cq, rfl, hqc, hqc2⟩ := hq
    by_cases h0 : q = 0
    · subst h0
      have he : p = Nat.gcd m n := by rw [← hg, Nat.gcd_zero_right]
      have hl0 : (dig 0).length = 0 := by rw [dig_zero]; rfl
      rw [hl0]
      have HE := Lib.hid he; clear he hg hq2 hp hqc hqc2 hl0
      go_wp2
      go_ret
      exact ⟨⟨_, rfl, by rw [← HE.out]; exact HP.out⟩, hbe⟩
    · have hlp : 0 < ((dig q).length : Int) := by
        have : (dig q).length ≠ 0 := by rw [Ne, dig_len_pos]; exact h0
        omega
      have hov := HOV.out _ _ p q wr hp hq2 hpl h0 hqK
      have hlt : p % q < q := Nat.mod_lt _ (by omega)
      have hg2 : Nat.gcd q (p % q) = Nat.gcd m n := by rw [← hg, Nat.gcd_comm q, ← Nat.gcd_rec, Nat.gcd_comm]
      have hml : (dig (p % q)).length ≤ 17592186044416 := Nat.le_trans (dig_len_mono (Nat.le_of_lt hlt)) hql
      have HO := Lib.hid hov; have HG := Lib.hid hg2
      clear hov hg hg2 hp hq2 hqc hqc2
      go_wp2_with fail
      refine HO.out.mono ?_
      rintro e w1 ⟨⟨vq, vr, rfl, _, hr⟩, hb1⟩
      have HR := Lib.hid hr; clear hr
      go_wp2
      go_roundg (p % q)
      case measure => omega
      case rel => exact ⟨q, p % q, Nat.le_refl _, HQ.out.below hb1 (Nat.le_refl _), HR.out, HG.out, by omega, hql, hml, hbe.trans (hb1.mono hbe.size)⟩
end Go.Proofs.YtoochleabcjljaaDoor

/- Rational numbers of package num: one, reduced. -/
namespace Go.Proofs.YtoochleabcjljaaDoor
open Go.RowKit

theorem box_free {w w1 : World} {cs : Array Value} {T : TypeId} {B : Nat} (hb : Below B (w.alloc (.cells cs T)) w1) (hB : w.heap.size < B) (i : Nat) : w1.frozen? ⟨w.heap.size, i, none⟩ = false := by
  rw [hb.frozen (p := ⟨w.heap.size, i, none⟩) hB]; simp

/-- cells that hold no such value as is overwritten stay -/
theorem Cells.set {w : World} {ao : Option Addr} {cs : List Value} {p : Addr} {v0 u : Value} (h : Cells w ao cs) (hp : w.cell? p = some v0) (hn : ∀ x ∈ cs, x ≠ v0) : Cells (w.setCell p u) ao cs := by
  rcases h with h | ⟨b, off, h1, h2⟩
  · exact .inl h
  · refine .inr ⟨b, off, h1, fun j x hx => ?_⟩
    have h3 := h2 j x hx
    rw [World.cell?_setCell_other]
    · exact h3
    · rintro rfl
      rw [hp] at h3
      exact hn x (List.mem_of_getElem? hx) (Option.some.inj h3).symm

/-- a value that is no number -/
def NoNum : Value → Prop | .int _ _ => False | _ => True
theorem NatV.set {w : World} {v : Value} {n : Nat} {p : Addr} {v0 u : Value} (h : NatV w v n) (hp : w.cell? p = some v0) (hn : NoNum v0) : NatV (w.setCell p u) v n := by
  obtain ⟨a, c, h1, h2, h3⟩ := h
  refine ⟨a, c, h1, h2.set hp ?_, h3⟩
  intro x hx e
  simp only [dgs, List.mem_map] at hx
  obtain ⟨d, _, rfl⟩ := hx
  subst e; exact hn

theorem NatV.box3 {w : World} {v : Value} {n b : Nat} {x0 x1 x2 u0 u1 u2 : Value} (h : NatV w v n) (q0 : w.cell? ⟨b, 0, none⟩ = some x0) (q1 : w.cell? ⟨b, 1, none⟩ = some x1) (q2 : w.cell? ⟨b, 2, none⟩ = some x2)
    (n0 : NoNum x0) (n1 : NoNum x1) (n2 : NoNum x2) : NatV (((w.setCell ⟨b, 0, none⟩ u0).setCell ⟨b, 1, none⟩ u1).setCell ⟨b, 2, none⟩ u2) v n := by
  refine ((h.set q0 n0).set (v0 := x1) ?_ n1).set (v0 := x2) ?_ n2
  · rw [World.cell?_setCell_other _ _ _ _ (by simp)]; exact q1
  · rw [World.cell?_setCell_other _ _ _ _ (by simp), World.cell?_setCell_other _ _ _ _ (by simp)]; exact q2

theorem natV_nil (w : World) : NatV w (.slice none 0 0) 0 := ⟨none, 0, by rw [dig_zero]; rfl, by rw [dig_zero]; exact Cells.nil _ _, by rw [dig_zero]; simp, by omega⟩

theorem dig_1 : dig 1 = [1] := dig_small (by decide) (by decide)

theorem one_any (w : World) :
    Calls Tryd.prog 66 #[] w fun e w' => (∃ v, e = .returned v ∧ NatV w' v 1) ∧ Below w.heap.size w w' := by
  go_enter Tryd.func66, Tryd.ntmps66
  go_wp2
  go_ret
  refine ⟨⟨_, rfl, ⟨some ⟨w.heap.size, 0, none⟩, 1, by rw [dig_1]; rfl, ?_, by rw [dig_1]; simp, by omega⟩⟩, (Below.refl _ _).alloc (Nat.le_refl _) _⟩
  rw [dig_1]
  refine .inr ⟨w.heap.size, 0, rfl, fun j u hu => ?_⟩
  match j, hu with
  | 0, hu => simp [dgs] at hu; subst hu; simp

/-- a struct that is a rational number -/
def RatV (w : World) (v : Value) (s : Bool) (n d : Nat) : Prop := ∃ vn vd, v = .agg #[.bool s, vn, vd] ∧ NatV w vn n ∧ NatV w vd d
theorem RatV.below {w w' : World} {B : Nat} {v : Value} {s : Bool} {n d : Nat} (h : RatV w v s n d) (hb : Below B w w') (hB : w.heap.size ≤ B) : RatV w' v s n d := by
  obtain ⟨vn, vd, h1, h2, h3⟩ := h
  exact ⟨vn, vd, h1, h2.below hb hB, h3.below hb hB⟩

theorem NatV.cases {w : World} {v : Value} {n : Nat} (h : NatV w v n) : ∃ a c, v = .slice a (dig n).length c := by
  obtain ⟨a, c, h1, _⟩ := h; exact ⟨a, c, h1⟩

set_option maxRecDepth 100000 in
theorem reduced_any (K : Nat) (hov : OverOK K) (s : Bool) (va vb : Value) (m n : Nat) (w : World) (ha : NatV w va m) (hb : NatV w vb n) (hm : (dig m).length ≤ 17592186044416) (hn : (dig n).length ≤ 17592186044416) (hK : n < K) (hn0 : n ≠ 0) :
    Calls Tryd.prog 55 #[.bool s, va, vb] w fun e w' => (∃ v, e = .returned v ∧ RatV w' v (s && decide (m ≠ 0)) (m / Nat.gcd m n) (n / Nat.gcd m n)) ∧ Below w.heap.size w w' := by
  by_cases h0 : m = 0
  · subst h0
    have e1 : 0 / Nat.gcd 0 n = 0 := Nat.zero_div _
    have e2 : n / Nat.gcd 0 n = 1 := by rw [Nat.gcd_zero_left]; exact Nat.div_self (by omega)
    obtain ⟨a, c, rfl⟩ := ha.cases
    have hl0 : (dig 0).length = 0 := by rw [dig_zero]; rfl
    rw [hl0]
    have HE1 := Lib.hid e1; have HE2 := Lib.hid e2; clear e1 e2 ha hb hl0
    go_enter Tryd.func55, Tryd.ntmps55
    go_wp2_with fail
    refine (one_any _).mono ?_
    rintro e w1 ⟨⟨v1, rfl, h1⟩, hb1⟩
    have H1 := Lib.hid h1; clear h1
    have q0 : w1.cell? ⟨w.heap.size, 0, none⟩ = some (.bool false) := box_keep hb1 (by simp) 0
    have q1 : w1.cell? ⟨w.heap.size, 1, none⟩ = some (.slice none 0 0) := box_keep hb1 (by simp) 1
    have q2 : w1.cell? ⟨w.heap.size, 2, none⟩ = some (.slice none 0 0) := box_keep hb1 (by simp) 2
    have f0 := box_free hb1 (by simp) 0
    have f1 := box_free hb1 (by simp) 1
    have f2 := box_free hb1 (by simp) 2
    have hz : w.heap.size + 1 ≤ w1.heap.size := by have := hb1.size; simpa using this
    obtain ⟨a1, c1, hv1⟩ := H1.out.cases
    rw [dig_1] at hv1
    subst hv1
    go_wp2
    refine bodyPost_ret (v := .agg #[.bool false, .slice none 0 0, .slice a1 1 c1]) (by simp [results, Tryd.results55, go_sem, q0, q1, q2]) rfl ?_
    refine ⟨⟨_, rfl, ?_⟩, ((((Below.refl _ _).alloc (Nat.le_refl _) _).trans (hb1.mono (by simp))).setCell (Nat.le_refl _) _).setCell (Nat.le_refl _) _ |>.setCell (Nat.le_refl _) _⟩
    rw [HE1.out, HE2.out]
    exact ⟨.slice none 0 0, .slice a1 1 c1, by simp, (natV_nil w1).box3 q0 q1 q2 trivial trivial trivial, H1.out.box3 q0 q1 q2 trivial trivial trivial⟩
  · have hs : (s && decide (m ≠ 0)) = s := by simp [h0]
    have hgp : 0 < Nat.gcd m n := Nat.gcd_pos_of_pos_right _ (by omega)
    have hgn : Nat.gcd m n ≤ n := Nat.gcd_le_right _ (by omega)
    have hgl : (dig (Nat.gcd m n)).length ≤ 17592186044416 := Nat.le_trans (dig_len_mono hgn) hn
    have hcom := common_any K hov va vb m n
    have hov1 := hov
    obtain ⟨a, c, rfl⟩ := ha.cases
    have hml : (((dig m).length : Int) == 0) = false := by
      have : (dig m).length ≠ 0 := by rw [Ne, dig_len_pos]; exact h0
      rw [beq_eq_false_iff_ne]; omega
    have HS := Lib.hid hs; have HCOM := Lib.hid hcom; have HOV := Lib.hid hov1; have HA := Lib.hid ha; have HB := Lib.hid hb
    have HN := Lib.hid hn0; have HM := Lib.hid h0
    clear hs hcom hov hov1 ha hb hn0 h0
    generalize hg : Nat.gcd m n = g at *
    have hg1 := (show g ≠ 0 by omega)
    have hgK : g < K := by omega
    have HG := Lib.hid hg; clear hg
    by_cases hg2 : g = 1
    · subst hg2
      have e1 : m / 1 = m := Nat.div_one _
      have e2 : n / 1 = n := Nat.div_one _
      have HE1 := Lib.hid e1; have HE2 := Lib.hid e2; clear e1 e2 hg1 hgp
      go_enter Tryd.func55, Tryd.ntmps55
      go_wp2_with fail
      refine (HCOM.out _ (HA.out.below ((Below.refl _ _).alloc (Nat.le_refl _) _) (Nat.le_refl _)) (HB.out.below ((Below.refl _ _).alloc (Nat.le_refl _) _) (Nat.le_refl _)) hm hn hK).mono ?_
      rintro e w1 ⟨⟨v1, rfl, h1⟩, hb1⟩
      obtain ⟨a1, c1, hv1⟩ := h1.cases
      have hc1 : Cells w1 a1 (dgs (dig 1)) := by
        obtain ⟨a2, c2, hv2, h2, _⟩ := h1
        rw [hv1] at hv2; simp at hv2; rw [hv2.1]; exact h2
      rw [dig_1] at hv1 hc1
      subst hv1
      obtain ⟨b, off, rfl⟩ := hc1.addr (by simp [dgs])
      have c0 : w1.cell? ⟨b, off, none⟩ = some (.int .u64 1) := hc1.at (j := 0) rfl
      clear h1 hc1
      have q0 : w1.cell? ⟨w.heap.size, 0, none⟩ = some (.bool false) := box_keep hb1 (by simp) 0
      have q1 : w1.cell? ⟨w.heap.size, 1, none⟩ = some (.slice none 0 0) := box_keep hb1 (by simp) 1
      have q2 : w1.cell? ⟨w.heap.size, 2, none⟩ = some (.slice none 0 0) := box_keep hb1 (by simp) 2
      have f0 := box_free hb1 (by simp) 0
      have f1 := box_free hb1 (by simp) 1
      have f2 := box_free hb1 (by simp) 2
      obtain ⟨ab, cb, hvb⟩ := HB.out.cases
      subst hvb
      go_wp2
      refine bodyPost_ret (v := .agg #[.bool s, .slice a (dig m).length c, .slice ab (dig n).length cb]) (by simp [results, Tryd.results55, go_sem, q0, q1, q2]) rfl ?_
      have hbw : Below w.heap.size w w1 := ((Below.refl _ _).alloc (Nat.le_refl _) _).trans (hb1.mono (by simp))
      refine ⟨⟨_, rfl, ?_⟩, ((hbw.setCell (Nat.le_refl _) _).setCell (Nat.le_refl _) _).setCell (Nat.le_refl _) _⟩
      rw [HS.out, HE1.out, HE2.out]
      exact ⟨_, _, rfl, (HA.out.below hbw (Nat.le_refl _)).box3 q0 q1 q2 trivial trivial trivial, (HB.out.below hbw (Nat.le_refl _)).box3 q0 q1 q2 trivial trivial trivial⟩
    · have hg3 : 2 ≤ g := by omega
      go_enter Tryd.func55, Tryd.ntmps55
      go_wp2_with fail
      refine (HCOM.out _ (HA.out.below ((Below.refl _ _).alloc (Nat.le_refl _) _) (Nat.le_refl _)) (HB.out.below ((Below.refl _ _).alloc (Nat.le_refl _) _) (Nat.le_refl _)) hm hn hK).mono ?_
      rintro e w1 ⟨⟨v1, rfl, h1⟩, hb1⟩
      have H1 := Lib.hid h1
      obtain ⟨a1, c1, hv1, hc1, _⟩ := h1
      subst hv1
      have hlp : (dig g).length ≠ 0 := by rw [Ne, dig_len_pos]; exact hg1
      obtain ⟨b, off, rfl⟩ := hc1.addr (dgs_ne (by omega))
      obtain ⟨x, hx⟩ := get_of_lt (show 0 < (dig g).length by omega)
      have c0 : w1.cell? ⟨b, off, none⟩ = some (.int .u64 (x : Nat)) := hc1.dgs hx
      have hx1 : (dig g).length = 1 → 1 < x := by
        intro hl
        have hgs := val_dig g
        obtain ⟨y, hy⟩ : ∃ y, dig g = [y] := by
          match h : dig g, hl with
          | [y], _ => exact ⟨y, rfl⟩
        rw [hy] at hx hgs; simp at hx; subst hx; simp [val] at hgs; omega
      have hbw : Below w.heap.size w w1 := ((Below.refl _ _).alloc (Nat.le_refl _) _).trans (hb1.mono (by simp))
      have hbx := hb1
      have HC1 := Lib.hid hc1; clear hc1 hx
      have HB1 := Lib.hid hb1; clear hb1
      by_cases hl1 : 1 < (dig g).length
      · have hlI : (1 : Int) < (dig g).length := by omega
        clear hx1
        go_wp2_with fail
        refine (HOV.out _ _ m g w1 (HA.out.below hbw (Nat.le_refl _)) H1.out hm hg1 hgK).mono ?_
        rintro e w2 ⟨⟨vq, vr, rfl, hq, _⟩, hb2⟩
        have HQ := Lib.hid hq; clear hq
        have hbw2 : Below w.heap.size w w2 := hbw.trans (hb2.mono hbw.size)
        have hbx2 := hbx.trans (hb2.mono hbx.size)
        have H12 := Lib.hid (H1.out.below hb2 (Nat.le_refl _))
        clear hb2
        go_wp2_with fail
        refine (HOV.out _ _ n g w2 (HB.out.below hbw2 (Nat.le_refl _)) H12.out hn hg1 hgK).mono ?_
        rintro e w3 ⟨⟨vq2, vr2, rfl, hq2, _⟩, hb3⟩
        have HQ1 := Lib.hid (HQ.out.below hb3 (Nat.le_refl _))
        have HQ2 := Lib.hid hq2; clear hq2
        have hbw3 : Below w.heap.size w w3 := hbw2.trans (hb3.mono hbw2.size)
        have hbx3 := hbx2.trans (hb3.mono hbx2.size)
        clear hb3
        have q0 : w3.cell? ⟨w.heap.size, 0, none⟩ = some (.bool false) := box_keep hbx3 (by simp) 0
        have q1 : w3.cell? ⟨w.heap.size, 1, none⟩ = some (.slice none 0 0) := box_keep hbx3 (by simp) 1
        have q2 : w3.cell? ⟨w.heap.size, 2, none⟩ = some (.slice none 0 0) := box_keep hbx3 (by simp) 2
        have f0 := box_free hbx3 (by simp) 0
        have f1 := box_free hbx3 (by simp) 1
        have f2 := box_free hbx3 (by simp) 2
        obtain ⟨aq, cq, hvq⟩ := HQ1.out.cases
        obtain ⟨aq2, cq2, hvq2⟩ := HQ2.out.cases
        subst hvq hvq2
        clear hbx hbx2 hbx3
        go_wp2
        refine bodyPost_ret (v := .agg #[.bool s, .slice aq (dig (m / g)).length cq, .slice aq2 (dig (n / g)).length cq2]) (by simp [results, Tryd.results55, go_sem, q0, q1, q2]) rfl ?_
        refine ⟨⟨_, rfl, ?_⟩, ((hbw3.setCell (Nat.le_refl _) _).setCell (Nat.le_refl _) _).setCell (Nat.le_refl _) _⟩
        rw [HS.out]
        exact ⟨_, _, rfl, HQ1.out.box3 q0 q1 q2 trivial trivial trivial, HQ2.out.box3 q0 q1 q2 trivial trivial trivial⟩
      · have hlI : ¬ (1 : Int) < (dig g).length := by omega
        have hx2 : 1 < x := hx1 (by omega)
        have hlp2 : (0 : Int) < (dig g).length := by omega
        clear hx1
        go_wp2_with fail
        refine (HOV.out _ _ m g w1 (HA.out.below hbw (Nat.le_refl _)) H1.out hm hg1 hgK).mono ?_
        rintro e w2 ⟨⟨vq, vr, rfl, hq, _⟩, hb2⟩
        have HQ := Lib.hid hq; clear hq
        have hbw2 : Below w.heap.size w w2 := hbw.trans (hb2.mono hbw.size)
        have hbx2 := hbx.trans (hb2.mono hbx.size)
        have H12 := Lib.hid (H1.out.below hb2 (Nat.le_refl _))
        clear hb2
        go_wp2_with fail
        refine (HOV.out _ _ n g w2 (HB.out.below hbw2 (Nat.le_refl _)) H12.out hn hg1 hgK).mono ?_
        rintro e w3 ⟨⟨vq2, vr2, rfl, hq2, _⟩, hb3⟩
        have HQ1 := Lib.hid (HQ.out.below hb3 (Nat.le_refl _))
        have HQ2 := Lib.hid hq2; clear hq2
        have hbw3 : Below w.heap.size w w3 := hbw2.trans (hb3.mono hbw2.size)
        have hbx3 := hbx2.trans (hb3.mono hbx2.size)
        clear hb3
        have q0 : w3.cell? ⟨w.heap.size, 0, none⟩ = some (.bool false) := box_keep hbx3 (by simp) 0
        have q1 : w3.cell? ⟨w.heap.size, 1, none⟩ = some (.slice none 0 0) := box_keep hbx3 (by simp) 1
        have q2 : w3.cell? ⟨w.heap.size, 2, none⟩ = some (.slice none 0 0) := box_keep hbx3 (by simp) 2
        have f0 := box_free hbx3 (by simp) 0
        have f1 := box_free hbx3 (by simp) 1
        have f2 := box_free hbx3 (by simp) 2
        obtain ⟨aq, cq, hvq⟩ := HQ1.out.cases
        obtain ⟨aq2, cq2, hvq2⟩ := HQ2.out.cases
        subst hvq hvq2
        clear hbx hbx2 hbx3
        go_wp2
        refine bodyPost_ret (v := .agg #[.bool s, .slice aq (dig (m / g)).length cq, .slice aq2 (dig (n / g)).length cq2]) (by simp [results, Tryd.results55, go_sem, q0, q1, q2]) rfl ?_
        refine ⟨⟨_, rfl, ?_⟩, ((hbw3.setCell (Nat.le_refl _) _).setCell (Nat.le_refl _) _).setCell (Nat.le_refl _) _⟩
        rw [HS.out]
        exact ⟨_, _, rfl, HQ1.out.box3 q0 q1 q2 trivial trivial trivial, HQ2.out.box3 q0 q1 q2 trivial trivial trivial⟩
end Go.Proofs.YtoochleabcjljaaDoor

/- Numbers of package num: whole, plain. -/
namespace Go.Proofs.YtoochleabcjljaaDoor
open Go.RowKit

/-- a struct that is a complex number -/
def ValV (w : World) (v : Value) (s1 : Bool) (n1 d1 : Nat) (s2 : Bool) (n2 d2 : Nat) : Prop := ∃ a b c d, v = .agg #[.bool s1, a, b, .bool s2, c, d] ∧ NatV w a n1 ∧ NatV w b d1 ∧ NatV w c n2 ∧ NatV w d d2
theorem ValV.below {w w' : World} {B : Nat} {v : Value} {s1 s2 : Bool} {n1 d1 n2 d2 : Nat} (h : ValV w v s1 n1 d1 s2 n2 d2) (hb : Below B w w') (hB : w.heap.size ≤ B) : ValV w' v s1 n1 d1 s2 n2 d2 := by
  obtain ⟨a, b, c, d, h1, h2, h3, h4, h5⟩ := h
  exact ⟨a, b, c, d, h1, h2.below hb hB, h3.below hb hB, h4.below hb hB, h5.below hb hB⟩

theorem box_keep2 {w w1 : World} {o : Obj} {cs : Array Value} {T : TypeId} {B : Nat} (hb : Below B ((w.alloc (.cells cs T)).alloc o) w1) (hB : w.heap.size < B) (i : Nat) : w1.cell? ⟨w.heap.size, i, none⟩ = cs[i]? := by
  rw [hb.cell (p := ⟨w.heap.size, i, none⟩) hB]; simp
theorem box_keep1 {w w1 : World} {o : Obj} {cs : Array Value} {T : TypeId} {B : Nat} (hb : Below B ((w.alloc o).alloc (.cells cs T)) w1) (hB : w.heap.size + 1 < B) (i : Nat) : w1.cell? ⟨w.heap.size + 1, i, none⟩ = cs[i]? := by
  have := box_keep (w := w.alloc o) hb (by simpa using hB) i
  simpa using this
theorem box_free1 {w w1 : World} {o : Obj} {cs : Array Value} {T : TypeId} {B : Nat} (hb : Below B ((w.alloc o).alloc (.cells cs T)) w1) (hB : w.heap.size + 1 < B) (i : Nat) : w1.frozen? ⟨w.heap.size + 1, i, none⟩ = false := by
  have := box_free (w := w.alloc o) hb (by simpa using hB) i
  simpa using this

theorem bel_undrew {B : Nat} {a w : World} (h : Below B a.drew w) : Below B a w := ⟨h.os, h.tape, h.output, h.size, h.block⟩

theorem NatV.box6 {w : World} {v : Value} {n b : Nat} {x0 x1 x2 x3 x4 x5 u0 u1 u2 u3 u4 u5 : Value} (h : NatV w v n) (q0 : w.cell? ⟨b, 0, none⟩ = some x0) (q1 : w.cell? ⟨b, 1, none⟩ = some x1) (q2 : w.cell? ⟨b, 2, none⟩ = some x2)
    (q3 : w.cell? ⟨b, 3, none⟩ = some x3) (q4 : w.cell? ⟨b, 4, none⟩ = some x4) (q5 : w.cell? ⟨b, 5, none⟩ = some x5)
    (n0 : NoNum x0) (n1 : NoNum x1) (n2 : NoNum x2) (n3 : NoNum x3) (n4 : NoNum x4) (n5 : NoNum x5) :
    NatV ((((((w.setCell ⟨b, 0, none⟩ u0).setCell ⟨b, 1, none⟩ u1).setCell ⟨b, 2, none⟩ u2).setCell ⟨b, 3, none⟩ u3).setCell ⟨b, 4, none⟩ u4).setCell ⟨b, 5, none⟩ u5) v n := by
  refine (((h.box3 q0 q1 q2 n0 n1 n2).set (v0 := x3) ?_ n3).set (v0 := x4) ?_ n4).set (v0 := x5) ?_ n5
  all_goals
    repeat (rw [World.cell?_setCell_other _ _ _ _ (by simp)])
    assumption

set_option maxRecDepth 100000 in
theorem plain_any (s : Bool) (n d : Nat) (vx : Value) (w : World) (hx : RatV w vx s n d) :
    Calls Tryd.prog 54 #[vx] w fun e w' => (∃ v, e = .returned v ∧ ValV w' v s n d false 0 1) ∧ Below w.heap.size w w' := by
  obtain ⟨vn, vd, rfl, hn, hd⟩ := hx
  have HN := Lib.hid hn; have HD := Lib.hid hd
  obtain ⟨an, cn, rfl⟩ := hn.cases
  obtain ⟨ad, cd, rfl⟩ := hd.cases
  clear hn hd
  go_enter Tryd.func54, Tryd.ntmps54
  go_wp2_with fail
  go_region_with (go_at_call 66; refine (one_any _).mono ?_; rintro e w1 ⟨⟨v1, rfl, h1⟩, hb1⟩; have hb2 := bel_undrew hb1; have p0 : w1.cell? ⟨w.heap.size, 0, none⟩ = some (.bool s) := box_keep2 hb2 (by simp; omega) 0; have p1 : w1.cell? ⟨w.heap.size, 1, none⟩ = some (.slice an (dig n).length cn) := box_keep2 hb2 (by simp; omega) 1; have p2 : w1.cell? ⟨w.heap.size, 2, none⟩ = some (.slice ad (dig d).length cd) := box_keep2 hb2 (by simp; omega) 2; have q0 : w1.cell? ⟨w.heap.size + 1, 0, none⟩ = some (.bool false) := box_keep1 hb2 (by simp) 0; have q1 : w1.cell? ⟨w.heap.size + 1, 1, none⟩ = some (.slice none 0 0) := box_keep1 hb2 (by simp) 1; have q2 : w1.cell? ⟨w.heap.size + 1, 2, none⟩ = some (.slice none 0 0) := box_keep1 hb2 (by simp) 2; have q3 : w1.cell? ⟨w.heap.size + 1, 3, none⟩ = some (.bool false) := box_keep1 hb2 (by simp) 3; have q4 : w1.cell? ⟨w.heap.size + 1, 4, none⟩ = some (.slice none 0 0) := box_keep1 hb2 (by simp) 4; have q5 : w1.cell? ⟨w.heap.size + 1, 5, none⟩ = some (.slice none 0 0) := box_keep1 hb2 (by simp) 5; have f0 := box_free1 hb2 (by simp) 0; have f1 := box_free1 hb2 (by simp) 1; have f2 := box_free1 hb2 (by simp) 2; have f3 := box_free1 hb2 (by simp) 3; have f4 := box_free1 hb2 (by simp) 4; have f5 := box_free1 hb2 (by simp) 5; obtain ⟨a1, c1, hv1⟩ := h1.cases; rw [dig_1] at hv1; subst hv1)
  all_goals
    have H1 := Lib.hid h1; clear h1
    have hbw : Below w.heap.size w w1 := (((Below.refl _ _).alloc (Nat.le_refl _) _).alloc (by simp) _).trans (hb2.mono (by simp; omega))
    clear hb1 hb2
    go_wp2
    refine bodyPost_ret (v := .agg #[.bool s, .slice an (dig n).length cn, .slice ad (dig d).length cd, .bool false, .slice none 0 0, .slice a1 1 c1]) (by simp [results, Tryd.results54, go_sem, q0, q1, q2, q3, q4, q5]) rfl ?_
    refine ⟨⟨_, rfl, ?_⟩, ?_⟩
    · exact ⟨_, _, _, _, rfl, (HN.out.below hbw (Nat.le_refl _)).box6 q0 q1 q2 q3 q4 q5 trivial trivial trivial trivial trivial trivial, (HD.out.below hbw (Nat.le_refl _)).box6 q0 q1 q2 q3 q4 q5 trivial trivial trivial trivial trivial trivial, (natV_nil w1).box6 q0 q1 q2 q3 q4 q5 trivial trivial trivial trivial trivial trivial, H1.out.box6 q0 q1 q2 q3 q4 q5 trivial trivial trivial trivial trivial trivial⟩
    · exact (((((hbw.setCell (p := ⟨w.heap.size + 1, 0, none⟩) (by simp) _).setCell (p := ⟨w.heap.size + 1, 1, none⟩) (by simp) _).setCell (p := ⟨w.heap.size + 1, 2, none⟩) (by simp) _).setCell (p := ⟨w.heap.size + 1, 3, none⟩) (by simp) _).setCell (p := ⟨w.heap.size + 1, 4, none⟩) (by simp) _).setCell (p := ⟨w.heap.size + 1, 5, none⟩) (by simp) _
end Go.Proofs.YtoochleabcjljaaDoor
