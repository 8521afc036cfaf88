/- Natural numbers of package num: natural, lean, compare. -/
import Derived.Test.YtoochleabcjljaaDoorV0
import Derived.Test.YtoochleabcjljaaDoorDig2
namespace Go.Proofs.YtoochleabcjljaaDoor
open Go.RowKit

/-- digits, cell by cell -/
def dgs (l : List Nat) : List Value := l.map fun d => Value.int .u64 (d : Nat)
theorem dgs_length (l : List Nat) : (dgs l).length = l.length := by simp [dgs]
theorem dgs_append (a b : List Nat) : dgs (a ++ b) = dgs a ++ dgs b := by simp [dgs]
theorem dgs_ne {l : List Nat} (h : 0 < l.length) : dgs l ≠ [] := by
  intro e; have := dgs_length l; rw [e] at this; simp at this; omega
theorem Cells.dgs {w : World} {b off : Nat} {l : List Nat} (h : Cells w (some ⟨b, off, none⟩) (dgs l)) {i d : Nat} (hd : l[i]? = some d) : w.cell? ⟨b, off + i, none⟩ = some (.int .u64 (d : Nat)) :=
  h.at (by simp [Go.Proofs.YtoochleabcjljaaDoor.dgs, hd])
theorem Cells.take {w : World} {ao : Option Addr} {cs : List Value} (h : Cells w ao cs) (n : Nat) : Cells w ao (cs.take n) := by
  rcases h with h | ⟨b, off, h1, h2⟩
  · exact .inl (by simp [h])
  · refine .inr ⟨b, off, h1, fun j u hu => h2 j u ?_⟩
    rw [List.getElem?_take] at hu
    split at hu
    · exact hu
    · simp at hu
theorem sm_get {l : List Nat} (h : Sm l) {i d : Nat} (hd : l[i]? = some d) : d ≤ 999999999 := by
  have := h d (List.mem_of_getElem? hd); simp only [B] at this; omega

theorem Tryd.infoU64 : (Tryd.prog.info? 121).map (fun i => (i.zero, i.size, i.bytes)) = some (some (.int .u64 0), 1, 8) := by kernel_rfl

/-- an owned row, as a slice, with its capacity -/
theorem own_cap {w : World} {b : Nat} {e : TypeId} {s : Nat} {v : Value} {n : Nat} {xs : List Value} (h : w.ownsRow b e s v n xs) : ∃ a c, v = .slice a n c ∧ Cells w a xs ∧ n ≤ c ∧ c ≤ maxLen := by
  obtain ⟨a, c, hv, hc⟩ := own_cells h
  obtain ⟨h0, h1⟩ := h
  rcases h1 with ⟨h2, h3⟩ | ⟨g, cap, cur, h2, hb, hg, hn, hm, hs, ht⟩
  · rw [h2] at hv; simp at hv
    obtain ⟨rfl, rfl, rfl⟩ := hv
    exact ⟨none, 0, h2, hc, by omega, by unfold maxLen; omega⟩
  · rw [h2] at hv; simp at hv
    obtain ⟨rfl, rfl⟩ := hv
    exact ⟨_, _, h2, hc, hn, hm⟩

theorem dig_len_u64 {n : Nat} (h : n < 18446744073709551616) : (dig n).length ≤ 3 := by
  apply Nat.le_of_not_lt
  intro hc
  have hn : n ≠ 0 := by rintro rfl; simp [dig_zero] at hc
  have h1 := pow_len_le hn
  have h2 : B ^ 3 ≤ B ^ ((dig n).length - 1) := Nat.pow_le_pow_right B_pos (by omega)
  have h3 : B ^ 3 = 1000000000000000000000000000 := by decide
  omega

set_option maxRecDepth 100000 in
theorem natural_any (n : Nat) (w : World) (hn : n < 18446744073709551616) :
    Calls Tryd.prog 65 #[.int .u64 (n : Nat)] w fun e w' => (∃ a c, e = .returned (.slice a (dig n).length c) ∧ Cells w' a (dgs (dig n)) ∧ (dig n).length ≤ c ∧ c ≤ 9223372036854775807) ∧ Below w.heap.size w w' := by
  obtain ⟨i0, hi, hz0, hz1, hz2⟩ := info_parts Tryd.infoU64
  have hlen := dig_len_u64 hn
  have hn1 : n ≤ 18446744073709551615 := by omega
  clear hn
  go_enter Tryd.func65, Tryd.ntmps65
  go_wp2
  go_loopw [3, 0] (fun v m wr => ∃ (ds : List Nat) (k : Nat), m = .int .u64 (k : Nat) ∧ k ≤ n ∧ dig n = ds ++ dig k ∧ wr.ownsRow w.heap.size 121 1 v ds.length (dgs ds) ∧ Below w.heap.size w wr) (fun _ m _ => (intOf m).toNat)
  case atStart => exact ⟨[], n, rfl, Nat.le_refl _, rfl, World.ownsRow_nil _ _ _ _, Below.refl _ _⟩
  case round =>
    obtain ⟨ds, k, rfl, hk, hds, hown, hb⟩ := hrel
    by_cases h0 : k = 0
    · subst h0
      rw [dig_zero, List.append_nil] at hds
      subst hds
      obtain ⟨g, c, rfl, hcs, hc1, hc2⟩ := own_cap hown
      unfold maxLen at hc2
      have HCS := Lib.hid hcs; clear hcs hown
      go_wp2
      go_ret
      exact ⟨⟨g, c, rfl, HCS.out, hc1, hc2⟩, hb⟩
    · have hkp : 0 < (k : Int) := by omega
      have hds2 : dig n = (ds ++ [k % B]) ++ dig (k / B) := by rw [hds, dig_pos h0]; simp
      have hle : ds.length ≤ 2 := by
        have := congrArg List.length hds2
        simp only [List.length_append, List.length_singleton] at this; omega
      have HDS := Lib.hid hds2; clear hds hds2 hlen
      have e1 : ((k : Int) % 1000000000) = ((k % B : Nat) : Int) := by simp [B]
      have e2 : ((k : Int) / 1000000000) = ((k / B : Nat) : Int) := by simp [B]
      have hlt : k / B < k := Nat.div_lt_self (by omega) (by decide)
      have HE1 := Lib.hid e1; have HE2 := Lib.hid e2; clear e1 e2
      have HOB : Hid (∀ j, u3.ownBlock = some j → w.heap.size ≤ j) := fun j e => (hown.lt j e).1
      have hsz := hb.size
      go_wp2_with (at_builtin; refine wpList_append_own _ rfl _ _ 100 rfl w.heap.size 121 i0 (.int .u64 0) 1 8 Tryd.underlying100 hi hz0 hz1 hz2 rfl (by decide) _ _ _ rfl (hown.alloc _) ⟨wr.heap.size, 0, none⟩ 1 1 [.int .u64 ((k : Int) % 1000000000)] rfl rfl (news1 _ _ _) (by simp [Value.oneCell']) (by unfold maxLen; omega) (by omega) (by simp; omega) ?_; intro v1 wz hown1 hgrow _)
      have hfin := hown1
      rw [show dgs ds ++ [.int .u64 ((k : Int) % 1000000000)] = dgs (ds ++ [k % B]) from by rw [dgs_append, HE1.out]; rfl] at hfin
      have hbz := (hb.alloc hsz (.cells #[.int .u64 ((k : Int) % 1000000000)] 121)).grown hgrow (by simp; omega) HOB.out
      clear hown1 hgrow hown
      have HFIN := Lib.hid hfin; clear hfin
      go_wp2
      go_roundw
      case rel => exact ⟨ds ++ [k % B], k / B, by rw [HE2.out], by omega, HDS.out, by simpa using HFIN.out, hbz⟩
      case measure => simp only [intOf]; rw [HE2.out]; simp; omega

/-- zeros at the end go -/
theorem val_take_zero {l : List Nat} {k : Nat} (h0 : l[k]? = some 0) : val (l.take (k + 1)) = val (l.take k) := by
  rw [take_get h0, val_snoc]; simp

/-- a slice's length: for a measure -/
def lenOf : Value → Nat | .slice _ n _ => n | _ => 0

theorem lean_any (ao : Option Addr) (l : List Nat) (c : Nat) (w : World) (hc : Cells w ao (dgs l)) (hs : Sm l) (hl : l.length ≤ 9223372036854775807) (hcap : l.length ≤ c) (hc2 : c ≤ 9223372036854775807) :
    Calls Tryd.prog 79 #[.slice ao l.length c] w fun e w' => (e = .returned (.slice ao (dig (val l)).length c) ∧ Cells w' ao (dgs (dig (val l)))) ∧ w = w' := by
  have HC := Lib.hid hc; clear hc
  have HS := Lib.hid hs; clear hs
  go_enter Tryd.func79, Tryd.ntmps79
  go_wp2
  go_loop [0] (fun v => ∃ k : Nat, k ≤ l.length ∧ v = .slice ao k c ∧ val (l.take k) = val l) (fun v => lenOf v)
  case atStart => exact ⟨l.length, Nat.le_refl _, rfl, by rw [List.take_length]⟩
  case round =>
    obtain ⟨k, hk, rfl, hv⟩ := hrel
    by_cases h0 : k = 0
    · subst h0
      rw [List.take_zero, val_nil] at hv
      have hv2 : dig (val l) = [] := by rw [← hv, dig_zero]
      have HV := Lib.hid hv2; clear hv hv2
      go_wp2
      go_ret
      exact ⟨⟨by rw [HV.out]; rfl, by rw [HV.out]; exact Cells.nil _ _⟩, rfl⟩
    · obtain ⟨j, rfl⟩ : ∃ j, k = j + 1 := ⟨k - 1, by omega⟩
      have hj : j < l.length := by omega
      obtain ⟨d, hd⟩ := get_of_lt hj
      obtain ⟨b, off, rfl⟩ := HC.out.addr (dgs_ne (by omega))
      have hcell := HC.out.dgs hd
      by_cases hd0 : d = 0
      · subst hd0
        have hv2 := val_take_zero hd
        rw [hv] at hv2
        have HV := Lib.hid hv2.symm; clear hv hv2 hd
        go_wp2
        go_round
        case rel => exact ⟨j, by omega, by go_num, HV.out⟩
        case measure => simp [lenOf]
      · have hdp : 0 < d := by omega
        have hne : ((d : Int) == 0) = false := by simp; omega
        have hlast : (l.take (j + 1)).getLast? ≠ some 0 := by rw [take_get hd]; simp; omega
        have hsm : Sm (l.take (j + 1)) := fun x hx => HS.out x (List.mem_of_mem_take hx)
        have hv2 : dig (val l) = l.take (j + 1) := by rw [← hv, dig_val hsm hlast]
        have hl2 : (dig (val l)).length = j + 1 := by rw [hv2, List.length_take]; omega
        have hcs : Cells w (some ⟨b, off, none⟩) (dgs (dig (val l))) := by
          rw [hv2, dgs, List.map_take]; exact HC.out.take _
        have HL := Lib.hid hl2; have HCS := Lib.hid hcs; clear hv hv2 hl2 hcs hd hsm hlast
        go_wp2
        go_ret
        exact ⟨⟨by rw [HL.out]; rfl, HCS.out⟩, rfl⟩

theorem drop_of_len {l1 l2 : List Nat} (h : l1.length = l2.length) : l1.drop l1.length = l2.drop l1.length := by
  rw [List.drop_length, h, List.drop_length]

set_option maxRecDepth 100000 in
theorem compare_any (aa ab : Option Addr) (m n : Nat) (ca cb : Nat) (w : World) (ha : Cells w aa (dgs (dig m))) (hb : Cells w ab (dgs (dig n))) (hm : (dig m).length ≤ 4611686018427387904) (hn : (dig n).length ≤ 4611686018427387904) :
    Calls Tryd.prog 76 #[.slice aa (dig m).length ca, .slice ab (dig n).length cb] w fun e w' => e = .returned (.int .i64 (cmpN m n)) ∧ Below w.heap.size w w' := by
  have HA := Lib.hid ha; clear ha
  have HB := Lib.hid hb; clear hb
  by_cases hlen : (dig m).length = (dig n).length
  · have h1 : (((dig m).length : Int) != (dig n).length) = false := by simp [hlen]
    have HL := Lib.hid hlen; clear hlen
    go_enter Tryd.func76, Tryd.ntmps76
    go_wp2
    go_loopw [5] (fun i wr => ∃ k : Nat, k ≤ (dig m).length ∧ i = .int .i64 ((k : Int) - 1) ∧ (dig m).drop k = (dig n).drop k ∧ Below w.heap.size w wr) (fun i _ => (intOf i + 1).toNat)
    case atStart => exact ⟨(dig m).length, Nat.le_refl _, rfl, drop_of_len HL.out, Below.refl _ _⟩
    case round =>
      obtain ⟨k, hk, rfl, hd, hbe⟩ := hrel
      have HD := Lib.hid hd; clear hd
      by_cases h0 : k = 0
      · subst h0
        have he : cmpN m n = 0 := by
          have := HD.out
          simp only [List.drop_zero] at this
          have h2 := congrArg val this
          rw [val_dig, val_dig] at h2
          rw [h2, cmpN_eq]
        have HE := Lib.hid he; clear he
        go_wp2
        go_ret
        exact ⟨ret_int HE.out.symm, hbe⟩
      · obtain ⟨j, rfl⟩ : ∃ j, k = j + 1 := ⟨k - 1, by omega⟩
        have hj2 : j < (dig n).length := by have := HL.out; omega
        obtain ⟨x, hx⟩ := get_of_lt (show j < (dig m).length by omega)
        obtain ⟨y, hy⟩ := get_of_lt hj2
        obtain ⟨b, off, rfl⟩ := HA.out.addr (dgs_ne (by omega))
        obtain ⟨b2, off2, rfl⟩ := HB.out.addr (dgs_ne (by omega))
        have c1 := cell_keep (HA.out.dgs hx) hbe (Nat.le_refl _)
        have c2 := cell_keep (HB.out.dgs hy) hbe (Nat.le_refl _)
        have e1 : (((j + 1 : Nat) : Int) - 1) = (j : Int) := by omega
        rw [e1]
        have i1 : (j : Int) < (dig m).length := by omega
        have i2 : (j : Int) < (dig n).length := by omega
        have i3 : (0 : Int) ≤ j := by omega
        have hxy : x < y ∨ y < x ∨ x = y := by omega
        rcases hxy with hlt | hgt | heq
        · have he : cmpN m n = -1 := cmpN_lt (by have := cmp_digit (sm_dig m) hx hy HD.out hlt; rwa [val_dig, val_dig] at this)
          have HE := Lib.hid he; clear he hx hy e1
          have hne : ((x : Int) != y) = true := by simp; omega
          have hl : decide ((x : Int) < y) = true := by simp; omega
          go_wp2
          go_quiet (fail)
          go_wp2
          go_quiet (fail)
          go_wp2
          go_ret
          exact ⟨ret_int HE.out.symm, bel_drewN (bel_drewN hbe _) _⟩
        · have he : cmpN m n = 1 := cmpN_gt (by have := cmp_digit (sm_dig n) hy hx HD.out.symm hgt; rwa [val_dig, val_dig] at this)
          have HE := Lib.hid he; clear he hx hy e1
          have hne : ((x : Int) != y) = true := by simp; omega
          have hl : decide ((x : Int) < y) = false := by simp; omega
          go_wp2
          go_quiet (fail)
          go_wp2
          go_quiet (fail)
          go_wp2
          go_ret
          exact ⟨ret_int HE.out.symm, bel_drewN (bel_drewN hbe _) _⟩
        · subst heq
          have he : (dig m).drop j = (dig n).drop j := by
            rw [List.drop_eq_getElem_cons (show j < (dig m).length by omega), List.drop_eq_getElem_cons hj2, HD.out, (List.getElem?_eq_some_iff.1 hx).2, (List.getElem?_eq_some_iff.1 hy).2]
          have HE := Lib.hid he; clear he hx hy e1
          have hne : ((x : Int) != x) = false := by simp
          go_wp2
          go_quiet (fail)
          go_wp2
          go_roundw
          case rel => exact ⟨j, by omega, by go_num, HE.out, bel_drewN hbe _⟩
          case measure => simp [intOf]
  · rcases Nat.lt_or_gt_of_ne hlen with hlt | hgt
    · have he : cmpN m n = -1 := cmpN_lt (lt_of_len hlt)
      have HE := Lib.hid he; clear he
      have h1 : (((dig m).length : Int) != (dig n).length) = true := by simp; omega
      go_enter Tryd.func76, Tryd.ntmps76
      go_wp2
      go_ret
      exact ⟨ret_int HE.out.symm, Below.refl _ _⟩
    · have he : cmpN m n = 1 := cmpN_gt (lt_of_len hgt)
      have HE := Lib.hid he; clear he
      have h1 : (((dig m).length : Int) != (dig n).length) = true := by simp; omega
      have h2 : (dig n).length ≤ (dig m).length := by omega
      go_enter Tryd.func76, Tryd.ntmps76
      go_wp2
      go_ret
      exact ⟨ret_int HE.out.symm, Below.refl _ _⟩

end Go.Proofs.YtoochleabcjljaaDoor
